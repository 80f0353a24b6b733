/- Texts laid together. -/
import Derived.Test.YtbkajnjboipbhaaGreatDoorNP5
import Derived.Test.YtbkajnjboipbhaaGreatDoorNP2
import Derived.DeepKeys
import Derived.Laws.StructEq
import Derived.Deep.Slices
import Derived.ChangeSlices
import Derived.Lib.SmallJoins
import Derived.Test.YtbkajnjboipbhaaGreatDoorNP3
import Derived.Deep.AppendLies
import Derived.Test.YtbkajnjboipbhaaGreatDoorNP1
import Derived.LoopTactic
/- The law's own: equality of ids, Id, a store of its own. -/
namespace Go.Proofs.YtbkajnjboipbhaaGreatDoor.W
open Go.RowKit
set_option linter.unusedVariables false
set_option linter.unusedSimpArgs false

theorem lits_id3 (m : Nat) (x : Id) : Tryz.prog.keyLits (m + 3) 25 (idC x).toList = litD (idC x).toList := by
  unfold Program.keyLits
  simp only [Tryz.underlying25, cells_id]
  rw [if_pos ⟨rfl, by kernel_rfl⟩]
  simp only [List.mapM_cons, List.mapM_nil, cells_intD, cells_stripe, List.drop_zero, List.drop_succ_cons, List.take_succ_cons, List.take_zero, lits_int, lits_stripe, litD]
  generalize litI (.int .i64 x.c) = a
  generalize litI (.int .i64 x.l) = b
  generalize litI (.int .i64 x.n) = c
  generalize litI (.int .i64 x.i) = d
  cases a <;> cases b <;> cases c <;> cases d <;> simp
theorem litD_ok {x : Id} (h : okD x) : litD (idC x).toList = some [.int .i64 x.c, .int .i64 x.l, .int .i64 x.n, .int .i64 x.i] := by
  obtain ⟨h1, h2, h3, h4⟩ := h
  simp [litD, litI_ok h1, litI_ok h2, litI_ok h3, litI_ok h4]
theorem eq_id (x y : Id) (hx : okD x) (hy : okD y) (w : World) : (binOp .eql 25 (idV x) (idV y)).run Tryz.prog w = .ok (.bool (decide (x = y))) w := by
  rw [run_eql_struct]
  obtain ⟨r, h1, h2⟩ := run_equalIn_deep (P := Tryz.prog) 9997 3 25 (by kernel_rfl) w 3 3 (idV x) (idV y) _ _
    (by simp [Value.formed, Tryz.underlying25, cells_id]) (by simp [Value.formed, Tryz.underlying25, cells_id])
    (by simpa [Value.cells] using (lits_id3 0 x).trans (litD_ok hx)) (by simpa [Value.cells] using (lits_id3 0 y).trans (litD_ok hy))
  have hr : r = decide (x = y) := by
    by_cases e : x = y
    · rw [decide_eq_true e]; exact h2.2 (by rw [e])
    · rw [decide_eq_false e]
      cases r with
      | false => rfl
      | true =>
        refine absurd ?_ e
        have := h2.1 rfl
        obtain ⟨a, b, c, d⟩ := x
        obtain ⟨a', b', c', d'⟩ := y
        simpa using this
  rw [← hr]
  have h3 : (Op.equalIn 10000 25 (idV x) (idV y)).run Tryz.prog w = .ok r w := h1
  rw [h3]
  rfl
theorem ret_id1 {fn : Func} {p : Tmp} (h : fn.results = #[.cell p 25]) (tmps : Array Value) {w : World} {b t : Nat} {x : Id} (hp : tmps.getD p undef = .pointer (some ⟨b, 0, none⟩)) (hb : w.heap[b]? = some (.cells (idC x) t (0, 0))) :
    (results fn tmps).run Tryz.prog w = .ok (idV x) w := by
  have hl := run_loadVar_row (P := Tryz.prog) w b t 25 (idC x) (0, 0) _ hb Tryz.underlying25 rfl (by rw [idSize]; rfl)
  have e : (results fn tmps).run Tryz.prog w = ((asAddr (tmps.getD p undef)).run Tryz.prog w).andThen fun a w₁ => (loadVar 25 a).run Tryz.prog w₁ := by
    simp only [results, h]
    simp [Sem.run_bind, Result.andThen]
  rw [e, hp]
  simp only [asAddr, Sem.run_pure, Result.andThen_ok, hl]
set_option maxHeartbeats 2000000 in
set_option maxRecDepth 100000 in
theorem lawid_any (c l n i : Int) (w : World) : Calls Tryz.prog 31 #[.int .i64 c, .int .i64 l, .int .i64 n, .int .i64 i] w fun e w' => e = .returned (.agg #[.int .i64 c, .int .i64 l, .int .i64 n, .int .i64 i]) ∧ Chg [] w w' := by
  go_enter Tryz.func31, Tryz.ntmps31
  go_wp2_with fail
  have HW := Lib.hid (show (w.alloc (.cells (idC ⟨c, l, n, i⟩) 25)).heap[w.heap.size]? = some (.cells (idC ⟨c, l, n, i⟩) 25 (0, 0)) from heap_alloc_new w _)
  refine bodyPost_ret (ret_id1 rfl _ rfl HW.out) rfl ?_
  exact ⟨rfl, (Chg.refl [] w).alloc _⟩

/-! ### A store of the law's own -/
def Kp (X : List Nat) (w w' : World) : Prop := ∀ k ∈ X, w'.heap[k]? = w.heap[k]?
theorem Kp.refl (X : List Nat) (w : World) : Kp X w w := fun _ _ => rfl
theorem Kp.trans {X : List Nat} {a b c : World} (h : Kp X a b) (k : Kp X b c) : Kp X a c := fun x hx => (k x hx).trans (h x hx)
theorem Kp.bytes {X : List Nat} {w w' : World} {v : Value} {l : List UInt8} (h : BytesAt w v l) (hk : Kp X w w') (hX : ∀ g, v.ownBlock = some g → g ∈ X) : BytesAt w' v l := h.keep fun g hg => hk g (hX g hg)
/-- All its blocks are new since w0, and none of them is in X. -/
def Own6 (X : List Nat) (w0 w : World) (q p : Nat) (t : Sto) : Prop := ∃ U, StAt [] w q p U t ∧ (∀ x ∈ U, w0.heap.size ≤ x) ∧ Chg [] w0 w ∧ ∀ x ∈ X, x ∉ U ∧ x < w.heap.size
variable {X : List Nat} {w0 w : World} {q p : Nat} {t : Sto}
theorem Own6.chg (h : Own6 X w0 w q p t) : Chg [] w0 w := by obtain ⟨U, h1, h2, h3, h4⟩ := h; exact h3
theorem Own6.keep0 {w' : World} (h : Own6 X w0 w q p t) (hc : Chg [] w w') : Own6 X w0 w' q p t := by
  obtain ⟨U, h1, h2, h3, h4⟩ := h
  exact ⟨U, h1.keep0 hc, h2, h3.trans hc (by simp), fun x hx => ⟨(h4 x hx).1, Nat.lt_of_lt_of_le (h4 x hx).2 hc.size⟩⟩
theorem Own6.kp {w' : World} (h : Own6 X w0 w q p t) (hc : Chg [] w w') : Kp X w w' := by
  obtain ⟨U, h1, h2, h3, h4⟩ := h
  exact fun x hx => hc.block x (h4 x hx).2 (by simp)
theorem Own6.add {Y : List Nat} {w' : World} (h : Own6 X w0 w q p t) (hc : Chg [] w w') (hY : ∀ k ∈ Y, k ∈ X ∨ w.heap.size ≤ k ∧ k < w'.heap.size) : Own6 Y w0 w' q p t := by
  obtain ⟨U, h1, h2, h3, h4⟩ := h
  refine ⟨U, h1.keep0 hc, h2, h3.trans hc (by simp), fun x hx => ?_⟩
  rcases hY x hx with h5 | ⟨h5, h6⟩
  · exact ⟨(h4 x h5).1, Nat.lt_of_lt_of_le (h4 x h5).2 hc.size⟩
  · exact ⟨fun hm => by have := h1.lim x hm; omega, h6⟩
theorem Own6.mono {Y : List Nat} (h : Own6 X w0 w q p t) (hY : ∀ x ∈ Y, x ∈ X) : Own6 Y w0 w q p t := by
  obtain ⟨U, h1, h2, h3, h4⟩ := h
  exact ⟨U, h1, h2, h3, fun x hx => h4 x (hY x hx)⟩
theorem Own6.did {w' : World} {t' : Sto} {U : List Nat} (h2 : ∀ x ∈ U, w0.heap.size ≤ x) (h3 : Chg [] w0 w) (h4 : ∀ x ∈ X, x ∉ U ∧ x < w.heap.size) (hd : Std [] w w' q p U t') : Own6 X w0 w' q p t' ∧ Kp X w w' := by
  obtain ⟨U', d1, d2, d3⟩ := hd
  have hs := h3.size
  refine ⟨⟨U', d1, fun x hx => ?_, h3.trans d3 (fun x hx => .inr (h2 x hx)), fun x hx => ⟨fun hm => ?_, Nat.lt_of_lt_of_le (h4 x hx).2 d3.size⟩⟩, fun x hx => d3.block x (h4 x hx).2 (h4 x hx).1⟩
  · rcases d2 x hx with h | h
    · exact h2 x h
    · omega
  · rcases d2 x hm with h | h
    · exact (h4 x hx).1 h
    · have := (h4 x hx).2; omega
theorem own_put (h : Own6 X w0 w q p t) (x : Id) (hx : okD x) (v : Value) (b : List UInt8) (hb : BytesAt w v b) (hv : b ≠ [] → ∀ k, v.ownBlock = some k → k < w0.heap.size ∨ k ∈ X) (hl : b.length ≤ 1000000) (ho : t.s.d.ops ≤ 900000000) (hw : t.s.d.since.length ≤ 900000) :
    Calls Tryz.prog 19 #[.pointer (some ⟨q, 0, none⟩), idV x, v] w fun e w' => e = .returned (.int .i64 (t.put x b).1) ∧ Own6 X w0 w' q p (t.put x b).2 ∧ Kp X w w' := by
  obtain ⟨U, h1, h2, h3, h4⟩ := h
  refine (stput_any q p U t x v b w h1 hx hb (fun hn k hk hm => ?_) hl ho hw).mono ?_
  · rcases hv hn k hk with h | h
    · have := h2 k hm; omega
    · exact (h4 k h).1 hm
  · rintro e w' ⟨rfl, hd⟩
    exact ⟨rfl, Own6.did h2 h3 h4 hd⟩
theorem own_get (h : Own6 X w0 w q p t) (x : Id) (hx : okD x) : Calls Tryz.prog 23 #[.pointer (some ⟨q, 0, none⟩), idV x] w fun e w' => (∃ v, e = .returned (.tuple #[v, .int .i64 (t.get x).2]) ∧ BytesAt w' v (t.get x).1 ∧ ∀ k, v.ownBlock = some k → w.heap.size ≤ k) ∧ Own6 X w0 w' q p t ∧ Kp X w w' ∧ Chg [] w w' := by
  have h' := h
  obtain ⟨U, h1, h2, h3, h4⟩ := h
  refine (stget_any q p U t x w h1 hx).mono ?_
  rintro e w' ⟨h5, hc⟩
  exact ⟨h5, h'.keep0 hc, h'.kp hc, hc⟩
theorem own_list (h : Own6 X w0 w q p t) : Calls Tryz.prog 20 #[.pointer (some ⟨q, 0, none⟩)] w fun e w' => (∃ v, e = .returned v ∧ w'.ownsRow w.heap.size 25 4 v t.ids.length (t.ids.flatMap idE)) ∧ Own6 X w0 w' q p t ∧ Kp X w w' ∧ Chg [] w w' := by
  have h' := h
  obtain ⟨U, h1, h2, h3, h4⟩ := h
  refine (stlist_any q p U t w h1).mono ?_
  rintro e w' ⟨v, rfl, hr, hc⟩
  exact ⟨⟨v, rfl, hr⟩, h'.keep0 hc, h'.kp hc, hc⟩
theorem own_room (h : Own6 X w0 w q p t) : Calls Tryz.prog 32 #[.pointer (some ⟨q, 0, none⟩)] w fun e w' => e = .returned (.int .i64 (t.room : Int)) ∧ w = w' := by
  obtain ⟨U, h1, h2, h3, h4⟩ := h
  exact stroom_any q p U t w h1
/-- A new disk. -/
theorem own_disk (n : Nat) (w : World) (h2 : 2 ≤ n) (hm : n ≤ 4160) : Calls Tryz.prog 17 #[.int .i64 (n : Int)] w fun e w' => ∃ p S, e = .returned (.tuple #[.pointer (some ⟨p, 0, none⟩), .int .i64 0]) ∧ DiskAt w' p S (DS.new n) ∧ (∀ x ∈ S, w.heap.size ≤ x) ∧ Chg [] w w' :=
  (dnew_any n w h2 hm).mono fun e w' ⟨p, S, h1, h3, h4, h5⟩ => ⟨p, S, h1, h3, h4, h5⟩
/-- A new store. -/
theorem own_format {S : List Nat} {w1 : World} {n : Nat} {t : Sto} {d : DS} (hd : DiskAt w1 p S (DS.new n)) (hS : ∀ x ∈ S, w0.heap.size ≤ x) (hc : Chg [] w0 w1) (hf : (DS.new n).format = ((0, some t), d)) : Calls Tryz.prog 18 #[.pointer (some ⟨p, 0, none⟩)] w1 fun e w' => ∃ q, e = .returned (.tuple #[.pointer (some ⟨q, 0, none⟩), .int .i64 0]) ∧ Own6 [] w0 w' q p t := by
  have h := format_any p S (DS.new n) w1 hd (by show 0 ≤ _; omega) (by show 0 ≤ _; omega)
  rw [hf] at h
  refine h.mono ?_
  rintro e w' ⟨q, U, rfl, h1, h2, h3⟩
  have hs := hc.size
  refine ⟨q, rfl, U, h1, fun x hx => ?_, hc.trans h3 (fun x hx => .inr (hS x hx)), by simp⟩
  rcases h2 x hx with h | h
  · exact hS x h
  · omega
theorem one_byte6 (w : World) (a : UInt8) : BytesAt (w.alloc (.cells #[bv a] 5)) (.slice (some ⟨w.heap.size, 0, none⟩) 1 1) [a] :=
  (row_of_block (l := [a]) (heap_alloc_new w _) (by unfold maxLen; simp)).bytes
theorem ids_one {t : Sto} (hk : keysOk t.s.rows) {x : Id} (h : ∀ y, y ∈ t.ids ↔ y = x) : t.ids = [x] := by
  have hr := t.ids_rise hk
  cases hl : t.ids with
  | nil => rw [hl] at h; exact absurd ((h x).2 rfl) (by simp)
  | cons a r =>
    rw [hl] at h hr
    have ha := (h a).1 (by simp)
    subst ha
    cases r with
    | nil => rfl
    | cons b r =>
      have hb := (h b).1 (by simp)
      subst hb
      exact absurd ((List.pairwise_cons.1 hr).1 b (by simp)) (idLt_irrefl _)
end Go.Proofs.YtbkajnjboipbhaaGreatDoor.W

/- The law's awake. -/
namespace Go.Proofs.YtbkajnjboipbhaaGreatDoor.W
open Go.RowKit
set_option linter.unusedVariables false
set_option linter.unusedSimpArgs false

structure Wake where
  t0 : Sto
  t1 : Sto
  d : DS
  fmt : (DS.new 25).format = ((0, some t0), d)
  small : t0.s.d.ops ≤ 25 ∧ t0.s.d.since.length = 0
  put : (t0.put ⟨1, 0, 5, 2⟩ [9]).1 = 0
  t1_eq : t1 = (t0.put ⟨1, 0, 5, 2⟩ [9]).2
  get : t1.get ⟨1, 0, 5, 2⟩ = ([9], 0)
  ids : t1.ids = [⟨1, 0, 5, 2⟩]
  room : t1.room = 2
theorem wake_is : Nonempty Wake := by
  obtain ⟨t, d, h1, h2, h3, h4, h5, h6, _⟩ := Kept.new 25 (by omega)
  have hm : mayId ⟨1, 0, 5, 2⟩ = true := by decide
  have hr : t.room = 3 := by unfold Sto.room; rw [h4]; rfl
  obtain ⟨p1, p2, p3⟩ := h2.put_new hm rfl (b := [9]) (by simp) (by omega)
  refine ⟨⟨t, _, d, h1, ⟨by rw [h3]; exact h6, by rw [h2.since]; rfl⟩, p1, rfl, ?_, ?_, by omega⟩⟩
  · rw [p2.get, if_neg (by rw [hm]; simp), setF_self]
  · refine ids_one p2.keys (fun y => ?_)
    rw [p2.mem_ids]
    by_cases e : y = ⟨1, 0, 5, 2⟩
    · rw [e, setF_self]; simp
    · rw [setF_other _ _ e]; simp [e]
theorem okD_c : okD ⟨1, 0, 5, 2⟩ := by decide

set_option maxHeartbeats 8000000 in
set_option maxRecDepth 100000 in
theorem awake6_any (w : World) : Calls Tryz.prog 11 #[] w fun e w' => e = .returned (.bool true) ∧ Chg [] w w' := by
  obtain ⟨⟨t0, t1, d, hf, hsm, hp, ht1, hg, hi, hrm⟩⟩ := wake_is
  have CN := Lib.hid (own_disk 25 w (by omega) (by omega))
  have HI := Lib.hid hi
  clear hi
  go_enter Tryz.func11, Tryz.ntmps11
  go_wp2_with fail
  refine CN.out.mono ?_
  rintro e w1 ⟨p, S, rfl, hd1, hS1, hc1⟩
  have CF := Lib.hid (own_format (w0 := w) hd1 hS1 hc1 hf)
  clear hd1 hS1 hc1 CN hf
  go_wp2_with fail
  refine CF.out.mono ?_
  rintro e w2 ⟨q, rfl, ho2⟩
  have CI := Lib.hid (lawid_any 1 0 5 2 w2)
  have HO2 := Lib.hid ho2
  clear ho2 CF
  go_wp2_with fail
  refine CI.out.mono ?_
  rintro e w3 ⟨rfl, hc3⟩
  have hcA : Chg [] w3 (w3.alloc (.cells #[bv 9] 5)) := (Chg.refl _ _).alloc _
  have HO3 := Lib.hid ((HO2.out.keep0 hc3).add hcA (Y := [w3.heap.size]) (fun k hk => .inr (by
    rw [List.mem_singleton.1 hk]
    exact ⟨Nat.le_refl _, by simp⟩)))
  have CP := Lib.hid (own_put HO3.out ⟨1, 0, 5, 2⟩ okD_c _ [9] (one_byte6 w3 9) (fun _ k hk => .inr (by
    obtain rfl : w3.heap.size = k := by simpa [Value.ownBlock] using hk
    simp)) (by simp) (by omega) (by omega))
  rw [hp, ← ht1, show bv 9 = .int .u8 9 from rfl] at CP
  clear hc3 hcA CI HO2
  go_wp2_with fail
  refine CP.out.mono ?_
  rintro e w4 ⟨rfl, ho4, _⟩
  have CI := Lib.hid (lawid_any 1 0 5 2 w4)
  have HO4 := Lib.hid ho4
  clear ho4 CP
  go_wp2_with fail
  refine CI.out.mono ?_
  rintro e w5 ⟨rfl, hc5⟩
  have CG := Lib.hid (own_get (HO4.out.keep0 hc5) ⟨1, 0, 5, 2⟩ okD_c)
  rw [hg] at CG
  clear hc5 CI
  go_wp2_with fail
  refine CG.out.mono ?_
  rintro e w6 ⟨⟨v6, rfl, hb6, _⟩, ho6, _, _⟩
  have CL := Lib.hid (own_list ho6)
  have HB6 := Lib.hid hb6
  obtain ⟨a6, c6, rfl⟩ := hb6.slice
  rw [HI.out] at CL
  clear hb6 ho6 CG
  go_wp2_with fail
  refine CL.out.mono ?_
  rintro e w7 ⟨⟨v7, rfl, hr7⟩, ho7, _, hc7⟩
  have hform : ∃ g cap, v7 = .slice (some ⟨g, 0, none⟩) 1 cap := by
    rcases hr7.2 with ⟨h1, h2⟩ | ⟨g, cap, cur, h1, _⟩
    · simp at h2
    · exact ⟨g, cap, h1⟩
  obtain ⟨g, cap, rfl⟩ := hform
  obtain ⟨m0, m1, m2, m3⟩ := id_row (l := [⟨1, 0, 5, 2⟩]) hr7 0 (by simp) ⟨1, 0, 5, 2⟩ rfl
  have hcap : 1 ≤ cap := by
    rcases hr7.2 with ⟨h1, h2⟩ | ⟨g, cap', cur, h1, _, _, h3, _⟩
    · simp at h2
    · obtain ⟨_, _, rfl⟩ := Value.slice.inj h1
      exact h3
  have HB7 := Lib.hid (HB6.out.chg hc7 (by simp))
  have HO7 := Lib.hid ho7
  have heq : ∀ w, (binOp .eql 25 (.agg #[.int .i64 1, .int .i64 0, .int .i64 5, .int .i64 2]) (.agg #[.int .i64 1, .int .i64 0, .int .i64 5, .int .i64 2])).run Tryz.prog w = .ok (.bool true) w := fun w => by
    have := eq_id ⟨1, 0, 5, 2⟩ ⟨1, 0, 5, 2⟩ okD_c okD_c w
    simpa using this
  simp only [Nat.zero_mul] at m0 m1 m2 m3
  clear hr7 ho7 hc7 CL HB6
  go_wp2_with fail
  refine wp_region_L [(17, fun w' => (w'.cell? ⟨g, 0, none⟩ = some (.int .i64 1) ∧ w'.cell? ⟨g, 1, none⟩ = some (.int .i64 0) ∧ w'.cell? ⟨g, 2, none⟩ = some (.int .i64 5) ∧ w'.cell? ⟨g, 3, none⟩ = some (.int .i64 2)))] (by kernel_rfl) ?_ (fun hHeld => ?_)
  · exact (HoldC.cons (⟨m0, m1, m2, m3⟩) HoldC.nil)
  refine wpAnyL_take (i := 0) (oi := _) (v := ?_) rfl (by kernel_rfl) (by kernel_rfl) (by kernel_rfl) (by kernel_rfl) (by kernel_rfl) (fun _ _ _ h => h) (Or.inl ⟨by rfl, ?_⟩) (by assumption) (fun hNew => ?_)
  rotate_left
  · intro w _
    go_simp
    try with_reducible rfl
  clear hHeld
  have hHeld := hNew
  clear hNew
  try simp only [List.getElem_toArray, List.getElem_cons_succ, List.getElem_cons_zero, Act.put, List.setIfInBounds_toArray, List.set_cons_zero, List.set_cons_succ]
  refine wpAnyL_take (i := 1) (oi := _) (v := ?_) rfl (by kernel_rfl) (by kernel_rfl) (by kernel_rfl) (by kernel_rfl) (by kernel_rfl) (fun _ _ _ h => h) (Or.inl ⟨by rfl, ?_⟩) (by assumption) (fun hNew => ?_)
  rotate_left
  · intro w _
    go_simp
    try with_reducible rfl
  clear hHeld
  have hHeld := hNew
  clear hNew
  try simp only [List.getElem_toArray, List.getElem_cons_succ, List.getElem_cons_zero, Act.put, List.setIfInBounds_toArray, List.set_cons_zero, List.set_cons_succ]
  refine wpAnyL_take (i := 2) (oi := _) (v := ?_) rfl (by kernel_rfl) (by kernel_rfl) (by kernel_rfl) (by kernel_rfl) (by kernel_rfl) (fun _ _ _ h => h) (Or.inl ⟨by rfl, ?_⟩) (by assumption) (fun hNew => ?_)
  rotate_left
  · intro w _
    go_simp
    try with_reducible rfl
  clear hHeld
  have hHeld := hNew
  clear hNew
  try simp only [List.getElem_toArray, List.getElem_cons_succ, List.getElem_cons_zero, Act.put, List.setIfInBounds_toArray, List.set_cons_zero, List.set_cons_succ]
  refine wpAnyL_take (i := 3) (oi := _) (v := ?_) rfl (by kernel_rfl) (by kernel_rfl) (by kernel_rfl) (by kernel_rfl) (by kernel_rfl) (fun _ _ _ h => h) (Or.inl ⟨by rfl, ?_⟩) (by assumption) (fun hNew => ?_)
  rotate_left
  · intro w _
    go_simp
    try with_reducible rfl
  clear hHeld
  have hHeld := hNew
  clear hNew
  try simp only [List.getElem_toArray, List.getElem_cons_succ, List.getElem_cons_zero, Act.put, List.setIfInBounds_toArray, List.set_cons_zero, List.set_cons_succ]
  refine wpAnyL_ready (rs := [4]) (by kernel_rfl) (by simp) ?_
  refine AllReadyL.cons (o := _) rfl (fun K hK => ?_) AllReadyL.nil
  try simp only [List.getElem_toArray, List.getElem_cons_succ, List.getElem_cons_zero]
  go_simp
  have hcW : Chg [] w7 (w7.alloc (.cells #[bv 9] 5)).drew := ((Chg.refl _ _).alloc _).drew
  have hbW : BytesAt (w7.alloc (.cells #[bv 9] 5)).drew (.slice (some ⟨w7.heap.size, 0, none⟩) 1 1) [9] := (one_byte6 w7 9).chg (Chg.drew (Chg.refl [] _)) (by simp)
  rw [show bv 9 = .int .u8 9 from rfl] at hcW hbW
  generalize (w7.alloc (.cells #[.int .u8 9] 5)).drew = W at *
  have CS := Lib.hid (same_any _ _ [9] [9] W (HB7.out.chg hcW (by simp)) hbW (by simp) (by simp))
  rw [decide_eq_true rfl] at CS
  have HOW := Lib.hid (HO7.out.keep0 hcW)
  have n0 := hcW.cell m0 (by simp)
  have n1 := hcW.cell m1 (by simp)
  have n2 := hcW.cell m2 (by simp)
  have n3 := hcW.cell m3 (by simp)
  clear hcW hbW
  clear hHeld
  refine hK.out _ _ ?_ (fun hHeld => ?_)
  · exact (HoldC.cons (⟨n0, n1, n2, n3⟩) HoldC.nil)
  clear hK K
  try simp only [List.getElem_toArray, List.getElem_cons_succ, List.getElem_cons_zero, Act.put, List.setIfInBounds_toArray, List.set_cons_zero, List.set_cons_succ]
  refine wpAnyL_ready (rs := [5]) (by kernel_rfl) (by simp) ?_
  refine AllReadyL.cons (o := _) rfl (fun K hK => ?_) AllReadyL.nil
  try simp only [List.getElem_toArray, List.getElem_cons_succ, List.getElem_cons_zero]
  go_simp
  refine CS.out.mono ?_
  rintro e w8 ⟨rfl, n, rfl⟩
  have CI := Lib.hid (lawid_any 1 0 5 2 (W.drewN n))
  have HO8 := Lib.hid (HOW.out.keep0 ((Chg.refl [] W).drewN n))
  have n0 : (W.drewN n).cell? ⟨g, 0, none⟩ = some (.int .i64 1) := n0
  have n1 : (W.drewN n).cell? ⟨g, 1, none⟩ = some (.int .i64 0) := n1
  have n2 : (W.drewN n).cell? ⟨g, 2, none⟩ = some (.int .i64 5) := n2
  have n3 : (W.drewN n).cell? ⟨g, 3, none⟩ = some (.int .i64 2) := n3
  clear hHeld
  refine hK.out _ _ ?_ (fun hHeld => ?_)
  · exact (HoldC.cons (⟨n0, n1, n2, n3⟩) HoldC.nil)
  clear hK K
  try simp only [List.getElem_toArray, List.getElem_cons_succ, List.getElem_cons_zero, Act.put, List.setIfInBounds_toArray, List.set_cons_zero, List.set_cons_succ]
  refine wpAnyL_take (i := 6) (oi := _) (v := ?_) rfl (by kernel_rfl) (by kernel_rfl) (by kernel_rfl) (by kernel_rfl) (by kernel_rfl) (fun _ _ _ h => h) (Or.inl ⟨by rfl, ?_⟩) (by assumption) (fun hNew => ?_)
  rotate_left
  · intro w _
    go_simp
    try with_reducible rfl
  clear hHeld
  have hHeld := hNew
  clear hNew
  try simp only [List.getElem_toArray, List.getElem_cons_succ, List.getElem_cons_zero, Act.put, List.setIfInBounds_toArray, List.set_cons_zero, List.set_cons_succ]
  refine wpAnyL_take (i := 7) (oi := _) (v := ?_) rfl (by kernel_rfl) (by kernel_rfl) (by kernel_rfl) (by kernel_rfl) (by kernel_rfl) (fun _ _ _ h => h) (Or.inl ⟨by rfl, ?_⟩) (by assumption) (fun hNew => ?_)
  rotate_left
  · intro w _
    go_simp
    try with_reducible rfl
  clear hHeld
  have hHeld := hNew
  clear hNew
  try simp only [List.getElem_toArray, List.getElem_cons_succ, List.getElem_cons_zero, Act.put, List.setIfInBounds_toArray, List.set_cons_zero, List.set_cons_succ]
  refine wpAnyL_take (i := 8) (oi := _) (v := ?_) rfl (by kernel_rfl) (by kernel_rfl) (by kernel_rfl) (by kernel_rfl) (by kernel_rfl) (fun _ _ _ h => h) (Or.inl ⟨by rfl, ?_⟩) (by assumption) (fun hNew => ?_)
  rotate_left
  · intro w _
    go_simp
    try with_reducible rfl
  clear hHeld
  have hHeld := hNew
  clear hNew
  try simp only [List.getElem_toArray, List.getElem_cons_succ, List.getElem_cons_zero, Act.put, List.setIfInBounds_toArray, List.set_cons_zero, List.set_cons_succ]
  refine wpAnyL_take (i := 9) (oi := _) (v := ?_) rfl (by kernel_rfl) (by kernel_rfl) (by kernel_rfl) (by kernel_rfl) (by kernel_rfl) (fun _ _ _ h => h) (Or.inl ⟨by rfl, ?_⟩) (by assumption) (fun hNew => ?_)
  rotate_left
  · intro w _
    go_simp
    try with_reducible rfl
  clear hHeld
  have hHeld := hNew
  clear hNew
  try simp only [List.getElem_toArray, List.getElem_cons_succ, List.getElem_cons_zero, Act.put, List.setIfInBounds_toArray, List.set_cons_zero, List.set_cons_succ]
  refine wpAnyL_take (i := 10) (oi := _) (v := ?_) rfl (by kernel_rfl) (by kernel_rfl) (by kernel_rfl) (by kernel_rfl) (by kernel_rfl) (fun _ _ _ h => h) (Or.inl ⟨by rfl, ?_⟩) (by assumption) (fun hNew => ?_)
  rotate_left
  · intro w _
    go_simp
    try with_reducible rfl
  clear hHeld
  have hHeld := hNew
  clear hNew
  try simp only [List.getElem_toArray, List.getElem_cons_succ, List.getElem_cons_zero, Act.put, List.setIfInBounds_toArray, List.set_cons_zero, List.set_cons_succ]
  refine wpAnyL_take (i := 11) (oi := _) (v := ?_) rfl (by kernel_rfl) (by kernel_rfl) (by kernel_rfl) (by kernel_rfl) (by kernel_rfl) (fun _ _ _ h => h) (Or.inl ⟨by rfl, ?_⟩) (by assumption) (fun hNew => ?_)
  rotate_left
  · intro w _
    go_simp
    try with_reducible rfl
  clear hHeld
  have hHeld := hNew
  clear hNew
  try simp only [List.getElem_toArray, List.getElem_cons_succ, List.getElem_cons_zero, Act.put, List.setIfInBounds_toArray, List.set_cons_zero, List.set_cons_succ]
  refine wpAnyL_take (i := 12) (oi := _) (v := ?_) rfl (by kernel_rfl) (by kernel_rfl) (by kernel_rfl) (by kernel_rfl) (by kernel_rfl) (fun _ _ _ h => h) (Or.inl ⟨by rfl, ?_⟩) (by assumption) (fun hNew => ?_)
  rotate_left
  · intro w _
    go_simp
    try with_reducible rfl
  clear hHeld
  have hHeld := hNew
  clear hNew
  try simp only [List.getElem_toArray, List.getElem_cons_succ, List.getElem_cons_zero, Act.put, List.setIfInBounds_toArray, List.set_cons_zero, List.set_cons_succ]
  refine wpAnyL_take (i := 13) (oi := _) (v := ?_) rfl (by kernel_rfl) (by kernel_rfl) (by kernel_rfl) (by kernel_rfl) (by kernel_rfl) (fun _ _ _ h => h) (Or.inl ⟨by rfl, ?_⟩) (by assumption) (fun hNew => ?_)
  rotate_left
  · intro w _
    go_simp
    try with_reducible rfl
  clear hHeld
  have hHeld := hNew
  clear hNew
  try simp only [List.getElem_toArray, List.getElem_cons_succ, List.getElem_cons_zero, Act.put, List.setIfInBounds_toArray, List.set_cons_zero, List.set_cons_succ]
  refine wpAnyL_take (i := 14) (oi := _) (v := ?_) rfl (by kernel_rfl) (by kernel_rfl) (by kernel_rfl) (by kernel_rfl) (by kernel_rfl) (fun _ _ _ h => h) (Or.inl ⟨by rfl, ?_⟩) (by assumption) (fun hNew => ?_)
  rotate_left
  · intro w _
    go_simp
    try with_reducible rfl
  clear hHeld
  have hHeld := hNew
  clear hNew
  try simp only [List.getElem_toArray, List.getElem_cons_succ, List.getElem_cons_zero, Act.put, List.setIfInBounds_toArray, List.set_cons_zero, List.set_cons_succ]
  refine wpAnyL_load 0 (i := 15) (oi := _) (v := ?_) rfl rfl (by kernel_rfl) (by kernel_rfl) (by kernel_rfl) (by kernel_rfl) (by kernel_rfl) (by kernel_rfl) (fun _ _ _ h => h) (Or.inl ⟨by rfl, ?_⟩) (by assumption) (fun hNew => ?_)
  rotate_left
  · intro w hSw
    (try dsimp only at hSw)
    go_simp
    try with_reducible rfl
  clear hHeld
  have hHeld := hNew
  clear hNew
  try simp only [List.getElem_toArray, List.getElem_cons_succ, List.getElem_cons_zero, Act.put, List.setIfInBounds_toArray, List.set_cons_zero, List.set_cons_succ]
  refine wpAnyL_ready (rs := [16]) (by kernel_rfl) (by simp) ?_
  refine AllReadyL.cons (o := _) rfl (fun K hK => ?_) AllReadyL.nil
  try simp only [List.getElem_toArray, List.getElem_cons_succ, List.getElem_cons_zero]
  go_simp
  refine CI.out.mono ?_
  rintro e w9 ⟨rfl, hc9⟩
  have HO9 := Lib.hid (HO8.out.keep0 hc9)
  have CR := Lib.hid (own_room HO9.out)
  rw [hrm] at CR
  have n0 := hc9.cell n0 (by simp)
  have n1 := hc9.cell n1 (by simp)
  have n2 := hc9.cell n2 (by simp)
  have n3 := hc9.cell n3 (by simp)
  clear hc9
  clear hHeld
  refine hK.out _ _ ?_ (fun hHeld => ?_)
  · exact (HoldC.cons (⟨n0, n1, n2, n3⟩) HoldC.nil)
  clear hK K
  try simp only [List.getElem_toArray, List.getElem_cons_succ, List.getElem_cons_zero, Act.put, List.setIfInBounds_toArray, List.set_cons_zero, List.set_cons_succ]
  refine wpAnyL_ready (rs := [17]) (by kernel_rfl) (by simp) ?_
  refine AllReadyL.cons (o := _) rfl (fun K hK => ?_) AllReadyL.nil
  try simp only [List.getElem_toArray, List.getElem_cons_succ, List.getElem_cons_zero]
  go_simp
  clear hHeld
  refine hK.out _ _ ?_ (fun hHeld => ?_)
  · exact (HoldC.past (by kernel_rfl) HoldC.nil)
  clear hK K
  try simp only [List.getElem_toArray, List.getElem_cons_succ, List.getElem_cons_zero, Act.put, List.setIfInBounds_toArray, List.set_cons_zero, List.set_cons_succ]
  refine wpAnyL_take (i := 18) (oi := _) (v := ?_) rfl (by kernel_rfl) (by kernel_rfl) (by kernel_rfl) (by kernel_rfl) (by kernel_rfl) (fun _ _ _ h => h) (Or.inl ⟨by rfl, ?_⟩) (by assumption) (fun hNew => ?_)
  rotate_left
  · intro w _
    go_simp
    try with_reducible rfl
  clear hHeld
  have hHeld := hNew
  clear hNew
  try simp only [List.getElem_toArray, List.getElem_cons_succ, List.getElem_cons_zero, Act.put, List.setIfInBounds_toArray, List.set_cons_zero, List.set_cons_succ]
  refine wpAnyL_take (i := 19) (oi := _) (v := ?_) rfl (by kernel_rfl) (by kernel_rfl) (by kernel_rfl) (by kernel_rfl) (by kernel_rfl) (fun _ _ _ h => h) (Or.inl ⟨by rfl, ?_⟩) (by assumption) (fun hNew => ?_)
  rotate_left
  · intro w _
    go_simp
    try with_reducible rfl
  clear hHeld
  have hHeld := hNew
  clear hNew
  try simp only [List.getElem_toArray, List.getElem_cons_succ, List.getElem_cons_zero, Act.put, List.setIfInBounds_toArray, List.set_cons_zero, List.set_cons_succ]
  refine wpAnyL_take (i := 20) (oi := _) (v := ?_) rfl (by kernel_rfl) (by kernel_rfl) (by kernel_rfl) (by kernel_rfl) (by kernel_rfl) (fun _ _ _ h => h) (Or.inl ⟨by rfl, ?_⟩) (by assumption) (fun hNew => ?_)
  rotate_left
  · intro w _
    go_simp
    try with_reducible rfl
  clear hHeld
  have hHeld := hNew
  clear hNew
  try simp only [List.getElem_toArray, List.getElem_cons_succ, List.getElem_cons_zero, Act.put, List.setIfInBounds_toArray, List.set_cons_zero, List.set_cons_succ]
  refine wpAnyL_ready (rs := [21]) (by kernel_rfl) (by simp) ?_
  refine AllReadyL.cons (o := _) rfl (fun K hK => ?_) AllReadyL.nil
  try simp only [List.getElem_toArray, List.getElem_cons_succ, List.getElem_cons_zero]
  go_simp
  refine CR.out.mono ?_
  rintro e w10 ⟨rfl, hq⟩
  subst hq
  clear hHeld
  refine hK.out _ _ ?_ (fun hHeld => ?_)
  · exact (HoldC.past (by kernel_rfl) HoldC.nil)
  clear hK K
  try simp only [List.getElem_toArray, List.getElem_cons_succ, List.getElem_cons_zero, Act.put, List.setIfInBounds_toArray, List.set_cons_zero, List.set_cons_succ]
  refine wpAnyL_take (i := 22) (oi := _) (v := ?_) rfl (by kernel_rfl) (by kernel_rfl) (by kernel_rfl) (by kernel_rfl) (by kernel_rfl) (fun _ _ _ h => h) (Or.inl ⟨by rfl, ?_⟩) (by assumption) (fun hNew => ?_)
  rotate_left
  · intro w _
    go_simp
    try with_reducible rfl
  clear hHeld
  have hHeld := hNew
  clear hNew
  try simp only [List.getElem_toArray, List.getElem_cons_succ, List.getElem_cons_zero, Act.put, List.setIfInBounds_toArray, List.set_cons_zero, List.set_cons_succ]
  refine wpAnyL_take (i := 23) (oi := _) (v := ?_) rfl (by kernel_rfl) (by kernel_rfl) (by kernel_rfl) (by kernel_rfl) (by kernel_rfl) (fun _ _ _ h => h) (Or.inl ⟨by rfl, ?_⟩) (by assumption) (fun hNew => ?_)
  rotate_left
  · intro w _
    go_simp
    try with_reducible rfl
  clear hHeld
  have hHeld := hNew
  clear hNew
  try simp only [List.getElem_toArray, List.getElem_cons_succ, List.getElem_cons_zero, Act.put, List.setIfInBounds_toArray, List.set_cons_zero, List.set_cons_succ]
  refine wpAnyL_ready (rs := [24]) (by kernel_rfl) (by simp) ?_
  refine AllReadyL.cons (o := _) rfl (fun K hK => ?_) AllReadyL.nil
  try simp only [List.getElem_toArray, List.getElem_cons_succ, List.getElem_cons_zero]
  go_simp
  clear hHeld
  refine hK.out _ _ ?_ (fun hHeld => ?_)
  · exact (HoldC.past (by kernel_rfl) HoldC.nil)
  clear hK K
  try simp only [List.getElem_toArray, List.getElem_cons_succ, List.getElem_cons_zero, Act.put, List.setIfInBounds_toArray, List.set_cons_zero, List.set_cons_succ]
  refine wpAnyL_done (by kernel_rfl) ?_ _
  clear hHeld
  go_wp2_with fail
  go_ret
  exact ⟨rfl, HO9.out.chg⟩
end Go.Proofs.YtbkajnjboipbhaaGreatDoor.W

/- Ids that came in: as an argument, in a slice. -/
namespace Go.Proofs.YtbkajnjboipbhaaGreatDoor.W
open Go.RowKit Go.ChangeShapes Go.WideShapes
set_option linter.unusedVariables false
set_option linter.unusedSimpArgs false

theorem fieldsI : ∃ f0 f1 : Field, Tryz.prog.underlying 25 = some (.struct #[f0, f1]) ∧ f0.offset = 0 ∧ f1.offset = 3 ∧ f0.type = 23 ∧ Tryz.prog.underlying f1.type = some (.int .i64) ∧ Tryz.prog.cellsOf f1.type = 1 :=
  ⟨_, _, Tryz.underlying25, rfl, rfl, rfl, by kernel_rfl, by kernel_rfl⟩
theorem fieldsT : ∃ f0 f1 f2 : Field, Tryz.prog.underlying 23 = some (.struct #[f0, f1, f2]) ∧ f0.offset = 0 ∧ f1.offset = 1 ∧ f2.offset = 2 ∧ Tryz.prog.underlying f0.type = some (.int .i64) ∧ Tryz.prog.underlying f1.type = some (.int .i64) ∧ Tryz.prog.underlying f2.type = some (.int .i64) ∧
    Tryz.prog.cellsOf f0.type = 1 ∧ Tryz.prog.cellsOf f1.type = 1 ∧ Tryz.prog.cellsOf f2.type = 1 :=
  ⟨_, _, _, Tryz.underlying23, rfl, rfl, rfl, by kernel_rfl, by kernel_rfl, by kernel_rfl, by kernel_rfl, by kernel_rfl, by kernel_rfl⟩
section
variable {H : Type} {enc : TypeId × Value → H} {w : World} {base : Nat} {held : Bool} {spare : Nat → Bool}
theorem open_idc {fuel : Nat} {v0 v1 v2 v3 : Value} {x : DataW H × List MemPlace} (h : DataW.trod enc Tryz.prog w base spare held fuel 25 [v0, v1, v2, v3] = some x) : ∃ y : Id, okD y ∧ v0 = .int .i64 y.c ∧ v1 = .int .i64 y.l ∧ v2 = .int .i64 y.n ∧ v3 = .int .i64 y.i := by
  obtain ⟨f0, f1, hs, o0, o1, t0, t1, c1⟩ := fieldsI
  obtain ⟨g0, g1, g2, hs2, p0, p1, p2, u0, u1, u2, d0, d1, d2⟩ := fieldsT
  obtain ⟨xs, k, hk, hxy, _, hxl, hf⟩ := DataW.trod_struct hs h
  match xs, hxl with
  | [y0, y1], _ =>
    have e0 := hf 0 f0 rfl
    have e1 := hf 1 f1 rfl
    rw [t0] at e0
    simp [o0, o1, c1, cells_stripe] at e0 e1
    obtain ⟨xs2, k2, hk2, hxy2, _, hxl2, hf2⟩ := DataW.trod_struct hs2 e0
    match xs2, hxl2 with
    | [z0, z1, z2], _ =>
      have r0 := hf2 0 g0 rfl
      have r1 := hf2 1 g1 rfl
      have r2 := hf2 2 g2 rfl
      simp [p0, p1, p2, d0, d1, d2] at r0 r1 r2
      obtain ⟨a0, q0, _, w0⟩ := DataW.trod_int u0 r0
      obtain ⟨a1, q1, _, w1⟩ := DataW.trod_int u1 r1
      obtain ⟨a2, q2, _, w2⟩ := DataW.trod_int u2 r2
      obtain ⟨a3, q3, _, w3⟩ := DataW.trod_int t1 e1
      simp at q0 q1 q2 q3
      refine ⟨⟨a0, a1, a2, a3⟩, ⟨?_, ?_, ?_, ?_⟩, q0, q1, q2, q3⟩
      · first | exact w0 | exact w0.1
      · first | exact w1 | exact w1.1
      · first | exact w2 | exact w2.1
      · first | exact w3 | exact w3.1

end
end Go.Proofs.YtbkajnjboipbhaaGreatDoor.W

/- The reference's Key, MayId. -/
namespace Go.Proofs.YtbkajnjboipbhaaGreatDoor.W
open Go.RowKit
set_option linter.unusedVariables false
set_option linter.unusedSimpArgs false

def mayStripe (c l n : Int) : Bool := withinB6 c 4 && withinB6 l 1048576 && withinB6 n 1073741824
set_option maxHeartbeats 2000000 in
theorem rmaystripe_any (c l n : Int) (w : World) : Calls Tryz.prog 51 #[.agg #[.int .i64 c, .int .i64 l, .int .i64 n]] w fun e w' => e = .returned (.bool (mayStripe c l n)) ∧ Chg [] w w' := by
  unfold mayStripe withinB6
  go_enter Tryz.func51, Tryz.ntmps51
  go_wp2
  all_goals
    go_ret
    refine ⟨?_, (Chg.refl [] w).alloc _⟩
    first
      | (simp_all; done)
      | (simp; omega)
set_option maxHeartbeats 2000000 in
set_option maxRecDepth 100000 in
theorem rmayid_any (x : Id) (w : World) : Calls Tryz.prog 16 #[idV x] w fun e w' => e = .returned (.bool (mayId x)) ∧ Chg [] w w' := by
  obtain ⟨c, l, n, i⟩ := x
  have he : mayId ⟨c, l, n, i⟩ = (mayStripe c l n && withinB6 i 15) := rfl
  rw [he]
  obtain ⟨w1, hw1⟩ : ∃ w1, w1 = w.alloc (.cells (idC ⟨c, l, n, i⟩) 25) := ⟨_, rfl⟩
  have hc1 : Chg [] w w1 := by rw [hw1]; exact (Chg.refl [] w).alloc _
  have hb1 : w1.heap[w.heap.size]? = some (.cells (idC ⟨c, l, n, i⟩) 25 (0, 0)) := by rw [hw1]; exact heap_alloc_new w _
  have CM := Lib.hid (rmaystripe_any c l n w1)
  obtain ⟨m0, m1, m2, m3⟩ := id_cells hb1
  have HB := Lib.hid hb1
  have HC1 := Lib.hid hc1
  have HW1 := Lib.hid hw1
  rw [hw1] at m0 m1 m2 m3
  generalize mayStripe c l n = b at *
  clear hw1 hb1 hc1 he
  unfold withinB6
  go_enter Tryz.func16, Tryz.ntmps16
  go_wp2_with fail
  rw [← HW1.out]
  refine CM.out.mono ?_
  rintro e w2 ⟨rfl, hc2⟩
  obtain ⟨m0, m1, m2, m3⟩ := id_cells (hc2.keep HB.out (by simp))
  have HC2 := Lib.hid (HC1.out.trans hc2 (by simp))
  clear hc2
  cases b with
  | false =>
    go_wp2
    go_ret
    exact ⟨rfl, HC2.out⟩
  | true =>
    by_cases h0 : 0 ≤ i
    · by_cases h1 : i ≤ 15
      · have h2 : i < 16 := by omega
        go_wp2
        go_ret
        exact ⟨by first | (simp [h0, h1, h2]; done) | (simp [h0]; omega), HC2.out⟩
      · have h2 : ¬ i < 16 := by omega
        go_wp2
        go_ret
        exact ⟨by first | (simp [h0, h1, h2]; done) | (simp [h0]; omega), HC2.out⟩
    · have h2 : ¬ i ≥ 0 := by omega
      go_wp2
      go_ret
      exact ⟨by first | (simp [h0]; done) | (simp; omega), HC2.out⟩
structure RPenNew (w0 w : World) (b : Nat) (g : Option Nat) (l : List UInt8) : Prop where
  pen : PenAt 88 w b g l 0
  chg : Chg [] w0 w
  own : w0.heap.size ≤ b
  ownG : ∀ k, g = some k → w0.heap.size ≤ k
theorem RPenNew.num {w0 w : World} {b : Nat} {g : Option Nat} {l : List UInt8} (h : RPenNew w0 w b g l) (x : Int) (n : Nat) (h1 : 1 ≤ n) (h7 : n ≤ 7) (hx0 : 0 ≤ x) (hx : x < ((256 ^ n : Nat) : Int)) (hl : l.length ≤ 1000) :
    Calls Tryz.prog 49 #[.pointer (some ⟨b, 0, none⟩), .int .i64 x, .int .i64 n] w fun e w' => e = .returned (.tuple #[]) ∧ ∃ g', RPenNew w0 w' b g' (l ++ beBytes n x.toNat) := by
  refine (rpnum_any b g l 0 x n w h.pen (by omega) (by omega)).mono ?_
  rintro e w' ⟨rfl, g', k1, k2, k3⟩
  have e1 : penNum l 0 x n = (l ++ beBytes n x.toNat, 0) := by
    unfold penNum penAdd
    rw [if_neg (by simp), if_neg (by omega), if_neg (by simp), if_neg (by rw [beBytes_len]; omega)]
  rw [Int.toNat_natCast, e1] at k1
  refine ⟨rfl, g', k1, h.chg.trans k3 (fun x hx => .inr ?_), h.own, fun k hk => ?_⟩
  · rcases List.mem_cons.1 hx with rfl | hx
    · exact h.own
    · exact h.ownG x (by simpa using hx)
  · rcases k2 with rfl | ⟨k', rfl, h4⟩
    · exact h.ownG k hk
    · obtain rfl : k' = k := by simpa using hk
      exact Nat.le_trans h.chg.size h4
theorem RPenNew.fresh {w0 w : World} (hc : Chg [] w0 w) : RPenNew w0 (w.alloc (.cells #[.slice none 0 0, .int .i64 0] 88)) w.heap.size none [] :=
  ⟨⟨.slice none 0 0, heap_alloc_new w _, BRow.nil _, rfl, by simp, by simp⟩, hc.alloc _, hc.size, fun k hk => by cases hk⟩
set_option maxHeartbeats 2000000 in
set_option maxRecDepth 100000 in
theorem rkey_any (x : Id) (w : World) : Calls Tryz.prog 13 #[idV x] w (KeyPost x w) := by
  obtain ⟨w1, hw1⟩ : ∃ w1, w1 = w.alloc (.cells (idC x) 25) := ⟨_, rfl⟩
  have CM := Lib.hid (rmayid_any x w1)
  have hc1 : Chg [] w w1 := by rw [hw1]; exact (Chg.refl [] w).alloc _
  have hb1 : w1.heap[w.heap.size]? = some (.cells (idC x) 25 (0, 0)) := by rw [hw1]; exact heap_alloc_new w _
  have HB := Lib.hid hb1
  have HC1 := Lib.hid hc1
  have HW1 := Lib.hid hw1
  unfold KeyPost
  by_cases hm : mayId x = true
  · rw [hm] at CM
    simp only [hm, if_true]
    obtain ⟨⟨a0, a1⟩, ⟨b0, b1⟩, ⟨c0, c1⟩, d0, d1⟩ := may_bounds hm
    obtain ⟨xc, xl, xn, xi⟩ := x
    dsimp only at *
    clear hm hw1 hb1 hc1
    go_enter Tryz.func13, Tryz.ntmps13
    go_wp2_with fail
    rw [← HW1.out]
    refine CM.out.mono ?_
    rintro e w2 ⟨rfl, hc2⟩
    have HC2 := Lib.hid hc2
    clear hc2 CM
    have hp := RPenNew.fresh HC2.out
    obtain ⟨w3, hw3⟩ : ∃ w3, w3 = w2.alloc (.cells #[.slice none 0 0, .int .i64 0] 88) := ⟨_, rfl⟩
    rw [← hw3] at hp
    have HW3 := Lib.hid hw3
    have hl2 : w.heap.size < w2.heap.size := Nat.lt_of_lt_of_le (blk_lt HB.out) HC2.out.size
    have hC3 : Chg [] w1 w3 := by rw [hw3]; exact HC2.out.alloc _
    have k0 := (id_cells (hC3.keep HB.out (by simp))).1
    rw [hw3] at k0
    have CN := Lib.hid (hp.num xc 1 (by omega) (by omega) a0 (by omega) (by simp))
    have HP := Lib.hid hp
    clear hw3 hp hC3
    go_wp2_with fail
    rw [← HW3.out]
    refine CN.out.mono ?_
    rintro e w4 ⟨rfl, g4, hp4⟩
    obtain ⟨k0, k1, k2, k3⟩ := id_cells (hp4.chg.keep HB.out (by simp))
    have CN4 := Lib.hid (hp4.num xl 3 (by omega) (by omega) b0 (by omega) (by simp [beBytes_len]))
    clear hp4 CN
    go_wp2_with fail
    refine CN4.out.mono ?_
    rintro e w5 ⟨rfl, g5, hp5⟩
    obtain ⟨k0, k1, k2, k3⟩ := id_cells (hp5.chg.keep HB.out (by simp))
    have CN5 := Lib.hid (hp5.num xn 4 (by omega) (by omega) c0 (by omega) (by simp [beBytes_len]))
    clear hp5 CN4
    go_wp2_with fail
    refine CN5.out.mono ?_
    rintro e w6 ⟨rfl, g6, hp6⟩
    obtain ⟨k0, k1, k2, k3⟩ := id_cells (hp6.chg.keep HB.out (by simp))
    have CN6 := Lib.hid (hp6.num xi 1 (by omega) (by omega) d0 (by omega) (by simp [beBytes_len]))
    clear hp6 CN5
    go_wp2_with fail
    refine CN6.out.mono ?_
    rintro e w7 ⟨rfl, g7, hp7⟩
    have e9 : [] ++ beBytes 1 xc.toNat ++ beBytes 3 xl.toNat ++ beBytes 4 xn.toNat ++ beBytes 1 xi.toNat = idKey ⟨xc, xl, xn, xi⟩ := by simp [idKey]
    rw [e9] at hp7
    obtain ⟨v, hb, hr, hg, _, _⟩ := hp7.pen
    have p0 := blk_cell hb 0 _ rfl
    have hbl := blk_lt hb
    have HP7 := Lib.hid (And.intro hr (And.intro hg (And.intro hp7.chg hp7.ownG)))
    obtain ⟨av, cv, rfl⟩ := hr.slice
    clear hp7 CN6 hb hr hg
    go_wp2
    go_ret2
    refine ⟨HC1.out.trans HP7.out.2.2.1 (by simp), _, rfl, HP7.out.1, fun k hk => ?_⟩
    have := HP7.out.2.2.2 k (by rw [← HP7.out.2.1]; exact hk)
    have := HC1.out.size
    omega
  · have hm' : mayId x = false := by simpa using hm
    rw [hm'] at CM
    simp only [hm]
    obtain ⟨xc, xl, xn, xi⟩ := x
    clear hm hm' hw1 hb1 hc1
    go_enter Tryz.func13, Tryz.ntmps13
    go_wp2_with fail
    rw [← HW1.out]
    refine CM.out.mono ?_
    rintro e w2 ⟨rfl, hc2⟩
    have HC2 := Lib.hid (HC1.out.trans hc2 (by simp))
    clear hc2 CM
    go_wp2
    go_ret2
    exact ⟨HC2.out, rfl⟩
end Go.Proofs.YtbkajnjboipbhaaGreatDoor.W

/- Blocks that hold no bytes; append that says what the row's block holds. -/
namespace Go.Proofs.YtbkajnjboipbhaaGreatDoor.W
open Go.RowKit
set_option linter.unusedVariables false
set_option linter.unusedSimpArgs false

def No8 (c : Value) : Prop := ∀ z : Int, c ≠ .int .u8 z
/-- No cell of the block is a byte. -/
def NoU8 (w : World) (x : Nat) : Prop := ∀ cs t fr, w.heap[x]? = some (.cells cs t fr) → ∀ (j : Nat) (c : Value), cs[j]? = some c → No8 c
theorem NoU8.keep {w w' : World} {x : Nat} (h : NoU8 w x) (hb : w'.heap[x]? = w.heap[x]?) : NoU8 w' x := fun cs t fr hc => h cs t fr (hb.symm.trans hc)
theorem NoU8.mk {w : World} {x t : Nat} {cs : Array Value} {fr : Nat × Nat} (h : w.heap[x]? = some (.cells cs t fr)) (hc : ∀ (j : Nat) (c : Value), cs[j]? = some c → No8 c) : NoU8 w x := fun cs' t' fr' h' => by
  rw [h] at h'
  cases h'
  exact hc
theorem NoU8.set {w : World} {x j : Nat} {u : Value} (h : NoU8 w x) (hx : x < w.heap.size) (hu : No8 u) : NoU8 (w.setCell ⟨x, j, none⟩ u) x := fun cs t fr hc k c hk => by
  have hx' := Array.getElem?_eq_getElem hx
  unfold World.setCell at hc
  rw [Array.getElem?_modify, if_pos rfl, hx'] at hc
  cases ho : w.heap[x] with
  | cells cs0 t0 fr0 =>
    rw [ho] at hc hx'
    simp at hc
    obtain ⟨rfl, rfl, rfl⟩ := hc
    rw [Array.getElem?_setIfInBounds] at hk
    by_cases hjk : j = k
    · rw [if_pos hjk] at hk
      split at hk
      · rw [← Option.some.inj hk]; exact hu
      · cases hk
    · rw [if_neg hjk] at hk
      exact h cs0 _ _ hx' k c hk
  | _ => rw [ho] at hc; simp at hc
theorem NoU8.not_bytes {w : World} {x : Nat} (h : NoU8 w x) (v : Value) (l : List UInt8) (hb : BytesAt w v l) (hl : l ≠ []) : v.ownBlock ≠ some x := fun e => by
  obtain ⟨a, cap, rfl, h1, h2, h3⟩ := hb
  have hpos : 0 < l.length := by cases l; exact absurd rfl hl; simp
  rcases h3 with ⟨h3, _⟩ | ⟨g', o, rfl, hc⟩
  · exact hl h3
  · obtain rfl : g' = x := by simpa [Value.ownBlock] using e
    have h5 := hc 0 hpos
    rw [Nat.add_zero] at h5
    unfold World.cell? at h5
    cases hx : w.heap[g']? with
    | none => simp [hx] at h5
    | some o' =>
      cases o' with
      | cells cs t fr =>
        simp [hx] at h5
        exact h cs t fr hx o _ h5 _ rfl
      | _ => simp [hx] at h5
theorem no8_slice {a : Option Addr} {n c : Nat} : No8 (.slice a n c) := fun z => by simp
theorem no8_i64 {x : Int} : No8 (.int .i64 x) := fun z => by simp
theorem no8_bool {x : Bool} : No8 (.bool x) := fun z => by simp
theorem no8_ptr {a : Option Addr} : No8 (.pointer a) := fun z => by simp
theorem no8_list {l : List Value} (h : ∀ c ∈ l, No8 c) : ∀ (j : Nat) (c : Value), l.toArray[j]? = some c → No8 c := fun j c hj => by
  rw [List.getElem?_toArray] at hj
  exact h c (List.mem_of_getElem? hj)
theorem BytesAt.no8 {w : World} {v : Value} {l : List UInt8} (h : BytesAt w v l) : No8 v := by
  obtain ⟨a, cap, rfl, _⟩ := h
  exact no8_slice
theorem zero_cells_no8 (z : Array Value) (n : Nat) (hz : ∀ (j : Nat) (c : Value), z[j]? = some c → No8 c) (hz0 : 0 < z.size) : ∀ (j : Nat) (c : Value), (Builtin.zeroCells z n)[j]? = some c → No8 c := fun j c hj => by
  unfold Builtin.zeroCells at hj
  rw [Array.getElem?_map] at hj
  obtain ⟨i, _, rfl⟩ := Option.map_eq_some_iff.1 hj
  have hlt : i % z.size < z.size := Nat.mod_lt _ hz0
  rw [getElem!_pos z _ hlt]
  exact hz _ _ (Array.getElem?_eq_getElem hlt)
theorem app_no8 {a b : Array Value} (ha : ∀ (j : Nat) (c : Value), a[j]? = some c → No8 c) (hb : ∀ (j : Nat) (c : Value), b[j]? = some c → No8 c) : ∀ (j : Nat) (c : Value), (a ++ b)[j]? = some c → No8 c := fun j c hj => by
  rw [Array.getElem?_append] at hj
  split at hj
  · exact ha _ _ hj
  · exact hb _ _ hj
/-- append to a row of the call's own: what it gives, and that no byte has come into it. -/
theorem run_append_no8 {P : Program} (w : World) (t ty e : TypeId) (i : TypeInfo) (z : Value) (size bytes : Nat) (ht : P.underlying t = some (.slice e)) (hi : P.info? e = some i) (hz : i.zero = some z)
    (hsize : i.size = size) (hby : i.bytes = bytes) (hzs : z.cells.size = size) (hsz : 0 < size) (hz8 : ∀ (j : Nat) (c : Value), z.cells[j]? = some c → No8 c)
    (v : Value) (n : Nat) (xs : List Value) (hown : w.ownsRow 0 e size v n xs) (hx8 : ∀ c ∈ xs, No8 c) (hv8 : ∀ x, v.ownBlock = some x → NoU8 w x)
    (ad : Addr) (c : Nat) (news : List Value) (hl : news.length = size) (hnews : ∀ j u, news[j]? = some u → w.cell? (ad.add j) = some u) (h1 : ∀ u ∈ news, u.oneCell' = true) (hn8 : ∀ c ∈ news, No8 c)
    (h63 : n + 1 ≤ maxLen) (hbytes : (n + 1) * bytes ≤ 140737488355328) :
    ∃ g cap w', (Builtin.append_ #[t, t] ty #[v, .slice (some ad) 1 c]).run P w = .ok (.slice (some ⟨g, 0, none⟩) (n + 1) cap) w' ∧
      w'.ownsRow 0 e size (.slice (some ⟨g, 0, none⟩) (n + 1) cap) (n + 1) (xs ++ news) ∧ w.grownBy w' v.ownBlock ∧ (v.ownBlock = some g ∨ g = w.heap.size) ∧ g < w'.heap.size ∧ NoU8 w' g := by
  subst hsize
  subst hby
  obtain ⟨v', w', hr, h2, h3, _, h5⟩ := run_append_own_at (P := P) w 0 t ty e i z i.size i.bytes ht hi hz rfl rfl hzs hsz v n xs hown ad 1 c news (by rw [hl, Nat.one_mul]) hnews h1 h63 hbytes (Nat.zero_le _)
  obtain ⟨g, cap, rfl, _, hlt⟩ := h2.form (by omega)
  have hat : v.ownBlock = some g ∨ g = w.heap.size := by
    rcases h5 with h5 | h5
    · exact .inl (by rw [← h5]; rfl)
    · exact .inr (by simpa [Value.ownBlock] using h5)
  refine ⟨g, cap, w', hr, h2, h3, hat, hlt, ?_⟩
  have hsmall : n + 1 ≤ 9223372036854775807 := by simp only [maxLen] at h63; omega
  have hfit0 : Builtin.nextslicecap (n + 1) 0 * i.bytes ≤ 281474976710656 := by rw [nextslicecap_zero (by omega)]; omega
  have hall : ∀ k, (∀ (j : Nat) (c : Value), (xs.toArray ++ news.toArray ++ Builtin.zeroCells z.cells k)[j]? = some c → No8 c) := fun k =>
    app_no8 (app_no8 (no8_list hx8) (no8_list hn8)) (zero_cells_no8 _ _ hz8 (by omega))
  rcases hown.2 with ⟨rfl, h0⟩ | ⟨g0, cap0, cur, rfl, _, hg0, hnc, hcm, hcs, htake⟩
  · subst h0
    have hxs : xs = [] := List.eq_nil_of_length_eq_zero (by rw [hown.1, Nat.zero_mul])
    subst hxs
    have h := run_append_nil (P := P) (w := w) t ty e i z ht hi hz ad 1 c news (by rw [hl, Nat.one_mul]) hnews (by omega) (by omega) (by omega)
    rw [h] at hr
    simp only [Result.ok.injEq, Value.slice.injEq, Option.some.injEq, Addr.mk.injEq] at hr
    obtain ⟨⟨⟨rfl, -⟩, -⟩, rfl⟩ := hr
    exact NoU8.mk (heap_alloc_new w.drew _) (app_no8 (no8_list hn8) (zero_cells_no8 _ _ hz8 (by omega)))
  · have hg8 := hv8 g0 rfl
    by_cases hroom : n + 1 ≤ cap0
    · have hsz2 : (n + 1) * i.size ≤ cap0 * i.size := Nat.mul_le_mul_right _ hroom
      rw [Nat.add_mul, Nat.one_mul] at hsz2
      have h := run_append_room (P := P) (w := w) t ty e i ht hi g0 n cap0 cur hg0 ad 1 c news (by rw [hl, Nat.one_mul]) hnews h1 hroom (by rw [hl, hcs]; omega)
      rw [h] at hr
      simp only [Result.ok.injEq, Value.slice.injEq, Option.some.injEq, Addr.mk.injEq] at hr
      obtain ⟨⟨⟨rfl, -⟩, -⟩, rfl⟩ := hr
      refine NoU8.mk (setRow_heap w g0 cur _ e _ hg0) (no8_list (fun c hc => ?_))
      have hcur : ∀ c ∈ cur.toList, No8 c := fun c hc => by
        obtain ⟨j, hj⟩ := List.getElem?_of_mem hc
        exact hg8 cur e _ hg0 j c (by simpa using hj)
      rcases List.mem_append.1 hc with hc | hc
      · rcases List.mem_append.1 hc with hc | hc
        · exact hcur c (List.mem_of_mem_take hc)
        · exact hn8 c hc
      · exact hcur c (List.mem_of_mem_drop hc)
    · have holds : ∀ j v, xs[j]? = some v → w.cell? ((⟨g0, 0, none⟩ : Addr).add j) = some v := fun j v hj => hown.cells (g := g0) rfl j v hj
      have h := run_append_grow (P := P) (w := w) t ty e i z ht hi hz ⟨g0, 0, none⟩ n cap0 xs hown.1 holds ad 1 c news (by rw [hl, Nat.one_mul]) hnews (by omega) (by omega) (growslice_fits (by omega) hbytes)
      rw [h] at hr
      simp only [Result.ok.injEq, Value.slice.injEq, Option.some.injEq, Addr.mk.injEq] at hr
      obtain ⟨⟨⟨rfl, -⟩, -⟩, rfl⟩ := hr
      exact NoU8.mk (heap_alloc_new w.drew _) (hall _)
/-- At the operation; the element lies in a block just made. -/
theorem wp_append_no8 {P : Program} {o : Oper} {a : Act} {w : World} {K : Act → World → Prop} {Q : Exit → Act → World → Prop} (s x : Operand) (t : TypeId) (ho : o.op = .call { callee := .builtin .append, args := #[s, x], argTypes := #[t, t] })
    (e : TypeId) (i : TypeInfo) (z : Value) (size bytes : Nat) (ht : P.underlying t = some (.slice e)) (hi : P.info? e = some i) (hz : i.zero = some z)
    (hsize : i.size = size) (hby : i.bytes = bytes) (hzs : z.cells.size = size) (hsz : 0 < size) (hz8 : ∀ (j : Nat) (c : Value), z.cells[j]? = some c → No8 c)
    (v : Value) (n : Nat) (xs : List Value) (hs : a.eval s = v) (hown : w.ownsRow 0 e size v n xs) (hx8 : ∀ c ∈ xs, No8 c) (hv8 : ∀ x, v.ownBlock = some x → NoU8 w x)
    (ad : Addr) (c : Nat) (hx : a.eval x = .slice (some ad) 1 c) (news : List Value) (hl : news.length = size) (hnews : ∀ j u, news[j]? = some u → w.cell? (ad.add j) = some u) (h1 : ∀ u ∈ news, u.oneCell' = true) (hn8 : ∀ c ∈ news, No8 c)
    (h63 : n + 1 ≤ maxLen) (hbytes : (n + 1) * bytes ≤ 140737488355328)
    (h : ∀ g cap w', w'.ownsRow 0 e size (.slice (some ⟨g, 0, none⟩) (n + 1) cap) (n + 1) (xs ++ news) → w.grownBy w' v.ownBlock → (v.ownBlock = some g ∨ g = w.heap.size) → g < w'.heap.size → NoU8 w' g → K (a.put o.dst (.slice (some ⟨g, 0, none⟩) (n + 1) cap)) w') : o.wp P a w K Q := by
  obtain ⟨g, cap, w', hr, h2, h3, h4, h5, h6⟩ := run_append_no8 (P := P) w t o.type e i z size bytes ht hi hz hsize hby hzs hsz hz8 v n xs hown hx8 hv8 ad c news hl hnews h1 hn8 h63 hbytes
  unfold Oper.wp execOp
  simp only [ho, resolve, invoke, builtin, Sem.run_bind, Sem.run_pure, Result.andThen_ok, List.map_toArray, List.map_cons, List.map_nil, hs, hx, hr]
  exact h g cap w' h2 h3 h4 h5 h6
theorem wpList_append_no8 {P : Program} {ops : Array Oper} {rest : List Oper} {o : Oper} {a : Act} {w : World} {Q : Exit → Act → World → Prop} (hgd : o.guard = none) (s x : Operand) (t : TypeId) (ho : o.op = .call { callee := .builtin .append, args := #[s, x], argTypes := #[t, t] })
    (e : TypeId) (i : TypeInfo) (z : Value) (size bytes : Nat) (ht : P.underlying t = some (.slice e)) (hi : P.info? e = some i) (hz : i.zero = some z)
    (hsize : i.size = size) (hby : i.bytes = bytes) (hzs : z.cells.size = size) (hsz : 0 < size) (hz8 : ∀ (j : Nat) (c : Value), z.cells[j]? = some c → No8 c)
    (v : Value) (n : Nat) (xs : List Value) (hs : a.eval s = v) (hown : w.ownsRow 0 e size v n xs) (hx8 : ∀ c ∈ xs, No8 c) (hv8 : ∀ x, v.ownBlock = some x → NoU8 w x)
    (ad : Addr) (c : Nat) (hx : a.eval x = .slice (some ad) 1 c) (news : List Value) (hl : news.length = size) (hnews : ∀ j u, news[j]? = some u → w.cell? (ad.add j) = some u) (h1 : ∀ u ∈ news, u.oneCell' = true) (hn8 : ∀ c ∈ news, No8 c)
    (h63 : n + 1 ≤ maxLen) (hbytes : (n + 1) * bytes ≤ 140737488355328)
    (h : ∀ g cap w', w'.ownsRow 0 e size (.slice (some ⟨g, 0, none⟩) (n + 1) cap) (n + 1) (xs ++ news) → w.grownBy w' v.ownBlock → (v.ownBlock = some g ∨ g = w.heap.size) → g < w'.heap.size → NoU8 w' g → wpList P ops Q rest (a.put o.dst (.slice (some ⟨g, 0, none⟩) (n + 1) cap)) w') : wpList P ops Q (o :: rest) a w :=
  wpList_plain hgd fun K hK => wp_append_no8 s x t ho e i z size bytes ht hi hz hsize hby hzs hsz hz8 v n xs hs hown hx8 hv8 ad c hx news hl hnews h1 hn8 h63 hbytes (fun g cap w' h1 h2 h3 h4 h5 => hK _ _ (h g cap w' h1 h2 h3 h4 h5))
/-- Where the walk is to stand still. -/
def Stay (p : Prop) : Prop := p
theorem stay_of {p : Prop} (h : Stay p) : p := h
theorem news_one {w : World} {e : TypeId} {u : Value} {N : Nat} (hN : N = w.heap.size) : ∀ j x, [u][j]? = some x → (w.alloc (.cells #[u] e)).cell? ((⟨N, 0, none⟩ : Addr).add j) = some x := fun j x hj => by
  subst hN
  cases j with
  | zero => simp at hj; subst hj; rw [add_none]; exact blk_cell (heap_alloc_new w _) 0 _ rfl
  | succ j => simp at hj
theorem one_z8 {z : Value} (h : z.cells = #[z]) (h8 : No8 z) : ∀ (j : Nat) (c : Value), z.cells[j]? = some c → No8 c := fun j c hj => by
  rw [h] at hj
  cases j with
  | zero => simp at hj; subst hj; exact h8
  | succ j => simp at hj
end Go.Proofs.YtbkajnjboipbhaaGreatDoor.W

/- The reference's disk in memory; op. -/
namespace Go.Proofs.YtbkajnjboipbhaaGreatDoor.W
open Go.RowKit
set_option linter.unusedVariables false
set_option linter.unusedSimpArgs false

def rrows (n : Nat) (nv lv av wv : Value) (NV LV AV WV : List Value) : List RowD := [⟨27, 1, nv, n, NV⟩, ⟨27, 1, lv, n, LV⟩, ⟨3, 1, av, AV.length, AV⟩, ⟨27, 1, wv, WV.length, WV⟩]
def rcs (d : DS) (nv lv av wv : Value) : Array Value := #[nv, lv, av, wv, .int .i64 (d.ops : Int), .int .i64 d.fuse, .bool d.dead]
/-- The reference's disk in block m; V: what may be written; F: all its blocks. -/
structure RDiskOk (w : World) (m : Nat) (V F : List Nat) (d : DS) (nv lv av wv : Value) (NV LV AV WV : List Value) : Prop where
  obj : ObjAt w m 78 (rcs d nv lv av wv) (rrows d.n nv lv av wv NV LV AV WV)
  now : ∀ k, k < d.n → (d.now k).length = 64 ∧ BytesAt w (NV.getD k undef) (d.now k) ∧ ∀ g, (NV.getD k undef).ownBlock = some g → g ∈ F ∧ g ∉ V
  lasts : ∀ c ∈ LV, No8 c
  ats : (∀ c ∈ AV, No8 c) ∧ AV.length ≤ d.since.length
  wrote : (∀ c ∈ WV, No8 c) ∧ WV.length ≤ d.since.length
  few : d.n ≤ 4160
  fuse : -1 ≤ d.fuse ∧ d.fuse ≤ 9223372036854775807
  mem : V = blks m (rrows d.n nv lv av wv NV LV AV WV)
  no8 : ∀ x ∈ V, NoU8 w x
  sub : ∀ x ∈ V, x ∈ F
  lim : ∀ x ∈ F, x < w.heap.size
def RDiskAt (w : World) (m : Nat) (V F : List Nat) (d : DS) : Prop := ∃ nv lv av wv NV LV AV WV, RDiskOk w m V F d nv lv av wv NV LV AV WV
theorem RDiskAt.keep {w w' : World} {m : Nat} {V F T : List Nat} {d : DS} (h : RDiskAt w m V F d) (hc : Chg T w w') (ha : ∀ x ∈ F, x ∉ T) : RDiskAt w' m V F d := by
  obtain ⟨nv, lv, av, wv, NV, LV, AV, WV, h⟩ := h
  refine ⟨nv, lv, av, wv, NV, LV, AV, WV, h.obj.keep hc (fun x hx => ha x (h.sub x (by rw [h.mem]; exact hx))), fun k hk => ?_, h.lasts, h.ats, h.wrote, h.few, h.fuse, h.mem, fun x hx => (h.no8 x hx).keep (hc.block x (h.lim x (h.sub x hx)) (ha x (h.sub x hx))), h.sub, fun x hx => Nat.lt_of_lt_of_le (h.lim x hx) hc.size⟩
  obtain ⟨h1, h2, h3⟩ := h.now k hk
  exact ⟨h1, h2.chg hc (fun g hg => ha g (h3 g hg).1), h3⟩
theorem RDiskOk.keep0 {w w' : World} {m : Nat} {V F : List Nat} {d : DS} {nv lv av wv : Value} {NV LV AV WV : List Value} (h : RDiskOk w m V F d nv lv av wv NV LV AV WV) (hc : Chg [] w w') : RDiskOk w' m V F d nv lv av wv NV LV AV WV := by
  refine ⟨h.obj.keep hc (by simp), fun k hk => ?_, h.lasts, h.ats, h.wrote, h.few, h.fuse, h.mem, fun x hx => (h.no8 x hx).keep (hc.block x (h.lim x (h.sub x hx)) (by simp)), h.sub, fun x hx => Nat.lt_of_lt_of_le (h.lim x hx) hc.size⟩
  obtain ⟨h1, h2, h3⟩ := h.now k hk
  exact ⟨h1, h2.chg hc (by simp), h3⟩
theorem RDiskAt.lim {w : World} {m : Nat} {V F : List Nat} {d : DS} (h : RDiskAt w m V F d) : (∀ x ∈ F, x < w.heap.size) ∧ (∀ x ∈ V, x ∈ F) ∧ ∀ x ∈ V, NoU8 w x := by
  obtain ⟨nv, lv, av, wv, NV, LV, AV, WV, h⟩ := h
  exact ⟨h.lim, h.sub, h.no8⟩
/-- What doing with it leaves. -/
def RDid (w w' : World) (m : Nat) (V F : List Nat) (d : DS) : Prop := ∃ V' F', RDiskAt w' m V' F' d ∧ (∀ x ∈ V', x ∈ V ∨ w.heap.size ≤ x) ∧ (∀ x ∈ F', x ∈ F ∨ w.heap.size ≤ x) ∧ Chg V w w'
theorem RDid.same {w : World} {m : Nat} {V F : List Nat} {d : DS} (h : RDiskAt w m V F d) : RDid w w m V F d := ⟨V, F, h, fun x hx => .inl hx, fun x hx => .inl hx, Chg.refl _ _⟩
theorem RDid.glue {w w1 w2 : World} {m : Nat} {V F V1 F1 : List Nat} {d : DS} (hv : ∀ x ∈ V1, x ∈ V ∨ w.heap.size ≤ x) (hf : ∀ x ∈ F1, x ∈ F ∨ w.heap.size ≤ x) (hc : Chg V w w1) (h : RDid w1 w2 m V1 F1 d) : RDid w w2 m V F d := by
  obtain ⟨V2, F2, b1, b2, b3, b4⟩ := h
  refine ⟨V2, F2, b1, fun x hx => ?_, fun x hx => ?_, hc.trans b4 hv⟩
  · rcases b2 x hx with h | h
    · exact hv x h
    · exact .inr (Nat.le_trans hc.size h)
  · rcases b3 x hx with h | h
    · exact hf x h
    · exact .inr (Nat.le_trans hc.size h)
theorem RDid.pre {w0 w w' : World} {m : Nat} {V F : List Nat} {d : DS} (hc : Chg [] w0 w) (h : RDid w w' m V F d) : RDid w0 w' m V F d := RDid.glue (fun x hx => .inl hx) (fun x hx => .inl hx) (hc.mono (by simp)) h
theorem RDid.trans {w w1 w2 : World} {m : Nat} {V F : List Nat} {d1 d2 : DS} (h1 : RDid w w1 m V F d1) (h2 : ∀ V1 F1, RDiskAt w1 m V1 F1 d1 → RDid w1 w2 m V1 F1 d2) : RDid w w2 m V F d2 := by
  obtain ⟨V1, F1, a1, a2, a3, a4⟩ := h1
  exact RDid.glue a2 a3 a4 (h2 V1 F1 a1)
theorem RDiskOk.head {w : World} {m : Nat} {V F : List Nat} {d : DS} {nv lv av wv : Value} {NV LV AV WV : List Value} (h : RDiskOk w m V F d nv lv av wv NV LV AV WV) : w.heap[m]? = some (.cells #[nv, lv, av, wv, .int .i64 (d.ops : Int), .int .i64 d.fuse, .bool d.dead] 78 (0, 0)) := h.obj.head
/-- A store into a counter. -/
theorem RDiskOk.put {w w' : World} {m : Nat} {V F : List Nat} {d d' : DS} {nv lv av wv : Value} {NV LV AV WV : List Value} (h : RDiskOk w m V F d nv lv av wv NV LV AV WV) (hc : Chg [m] w w') (hn : NoU8 w' m)
    (hh : w'.heap[m]? = some (.cells (rcs d' nv lv av wv) 78 (0, 0))) (e1 : d'.n = d.n) (e2 : d'.now = d.now) (e3 : d'.since = d.since) (e5 : -1 ≤ d'.fuse ∧ d'.fuse ≤ 9223372036854775807) : RDid w w' m V F d' := by
  have hmV : m ∈ V := by rw [h.mem]; exact blks_head
  have hNV : ∀ k, k < d.n → ∀ g, (NV.getD k undef).ownBlock = some g → g ∉ [m] := fun k hk g hg hm => (h.now k hk).2.2 g hg |>.2 (by rw [List.mem_singleton.1 hm]; exact hmV)
  refine ⟨V, F, ⟨nv, lv, av, wv, NV, LV, AV, WV, ⟨hh, fun r hr => ?_, by rw [e1]; exact h.obj.apart⟩, fun k hk => ?_, h.lasts, by rw [e3]; exact h.ats, by rw [e3]; exact h.wrote, by rw [e1]; exact h.few, e5, by rw [e1]; exact h.mem, fun x hx => ?_, h.sub, fun x hx => Nat.lt_of_lt_of_le (h.lim x hx) hc.size⟩, fun x hx => .inl hx, fun x hx => .inl hx, hc.mono (fun x hx => .inl (by rw [List.mem_singleton.1 hx]; exact hmV))⟩
  · rw [e1] at hr
    exact row_keep (h.obj.rows r hr) (fun g hg => hc.block g (World.ownsRow.lt (h.obj.rows r hr) g hg).2 (by
      intro hm
      exact h.obj.row_ne hr hg (List.mem_singleton.1 hm)))
  · rw [e1] at hk
    rw [e2]
    obtain ⟨h1, h2, h3⟩ := h.now k hk
    exact ⟨h1, h2.chg hc (hNV k hk), h3⟩
  · by_cases hxm : x = m
    · rw [hxm]; exact hn
    · exact (h.no8 x hx).keep (hc.block x (h.lim x (h.sub x hx)) (by simp; exact hxm))

set_option maxHeartbeats 2000000 in
set_option maxRecDepth 100000 in
theorem rop_any (m : Nat) (V F : List Nat) (d : DS) (w : World) (h : RDiskAt w m V F d) (ho : d.ops ≤ 1000000000) :
    Calls Tryz.prog 122 #[.pointer (some ⟨m, 0, none⟩)] w fun e w' => e = .returned (.bool (!d.op.1)) ∧ RDid w w' m V F d.op.2 := by
  obtain ⟨nv, lv, av, wv, NV, LV, AV, WV, H⟩ := h
  have HH := Lib.hid H
  have c4 := blk_cell H.head 4 _ rfl
  have c5 := blk_cell H.head 5 _ rfl
  have c6 := blk_cell H.head 6 _ rfl
  have f4 := blk_frozen H.head 4
  have f5 := blk_frozen H.head 5
  have f6 := blk_frozen H.head 6
  have hb := H.fuse
  have hlt := blk_lt H.head
  have n0 : NoU8 w m := H.no8 m (by rw [H.mem]; exact blks_head)
  clear H
  by_cases h0 : d.fuse = 0
  · have ho : Hid (d.op = (false, { d with dead := true })) := Lib.hid (by unfold DS.op; rw [if_pos h0])
    have HF : Hid (RDid w (w.setCell ⟨m, 6, none⟩ (.bool true)) m V F { d with dead := true }) := Lib.hid (HH.out.put ((Chg.refl _ _).setCell (.inl (by simp)) _) (n0.set hlt no8_bool) (set_blk HH.out.head) rfl rfl rfl HH.out.fuse)
    rw [ho.out]
    rw [h0] at c5
    clear h0 hb n0
    go_enter Tryz.func122, Tryz.ntmps122
    go_wp2
    go_ret
    exact ⟨rfl, HF.out⟩
  · have he : (d.fuse == 0) = false := by simp [h0]
    by_cases hp : 0 < d.fuse
    · have ho2 : Hid (d.op = (true, { d with fuse := d.fuse - 1, ops := d.ops + 1 })) := Lib.hid (by unfold DS.op; rw [if_neg h0, if_pos hp])
      have HF : Hid (RDid w ((w.setCell ⟨m, 5, none⟩ (.int .i64 (d.fuse - 1))).setCell ⟨m, 4, none⟩ (.int .i64 ((d.ops : Int) + 1))) m V F { d with fuse := d.fuse - 1, ops := d.ops + 1 }) :=
        Lib.hid (HH.out.put (((Chg.refl _ _).setCell (.inl (by simp)) _).setCell (.inl (by simp)) _) ((n0.set hlt no8_i64).set (by simpa [World.setCell] using hlt) no8_i64) (set_blk (set_blk HH.out.head)) rfl rfl rfl (by show -1 ≤ d.fuse - 1 ∧ d.fuse - 1 ≤ 9223372036854775807; omega))
      have d1 : decide (d.fuse > 0) = true := decide_eq_true hp
      have w1 : IntKind.i64.wrap (d.fuse - 1) = d.fuse - 1 := by rw [IntKind.wrap_i64]; omega
      have w2 : IntKind.i64.wrap ((d.ops : Int) + 1) = (d.ops : Int) + 1 := by rw [IntKind.wrap_i64]; omega
      rw [ho2.out]
      clear ho2 n0
      generalize d.fuse = fu at *
      generalize d.ops = op at *
      go_enter Tryz.func122, Tryz.ntmps122
      go_wp2
      go_ret
      exact ⟨rfl, HF.out⟩
    · have ho2 : Hid (d.op = (true, { d with fuse := d.fuse, ops := d.ops + 1 })) := Lib.hid (by unfold DS.op; rw [if_neg h0, if_neg hp])
      have HF : Hid (RDid w (w.setCell ⟨m, 4, none⟩ (.int .i64 ((d.ops : Int) + 1))) m V F { d with fuse := d.fuse, ops := d.ops + 1 }) :=
        Lib.hid (HH.out.put ((Chg.refl _ _).setCell (.inl (by simp)) _) (n0.set hlt no8_i64) (set_blk HH.out.head) rfl rfl rfl HH.out.fuse)
      have d1 : decide (d.fuse > 0) = false := decide_eq_false hp
      have w2 : IntKind.i64.wrap ((d.ops : Int) + 1) = (d.ops : Int) + 1 := by rw [IntKind.wrap_i64]; omega
      rw [ho2.out]
      clear ho2 n0
      generalize d.fuse = fu at *
      generalize d.ops = op at *
      go_enter Tryz.func122, Tryz.ntmps122
      go_wp2
      go_ret
      exact ⟨rfl, HF.out⟩
end Go.Proofs.YtbkajnjboipbhaaGreatDoor.W

/- The reference's disk: its fields are set. -/
namespace Go.Proofs.YtbkajnjboipbhaaGreatDoor.W
open Go.RowKit
set_option linter.unusedVariables false
set_option linter.unusedSimpArgs false

/-- A field that is a row is another row: grown, or new. -/
theorem ObjAt.field {w w2 : World} {p t : Nat} {cs : Array Value} {a b : List RowD} {r r' : RowD} (h : ObjAt w p t cs (a ++ r :: b)) (j : Nat) (hg : w.grownBy w2 r.v.ownBlock) (hrow : r'.At w2)
    (hat : ∀ k, r'.v.ownBlock = some k → r.v.ownBlock = some k ∨ w.heap.size ≤ k) : ObjAt (w2.setCell ⟨p, j, none⟩ r'.v) p t (cs.setIfInBounds j r'.v) (a ++ r' :: b) ∧ (∀ x ∈ blks p (a ++ r' :: b), x ∈ blks p (a ++ r :: b) ∨ w.heap.size ≤ x) ∧ Chg (blks p (a ++ r :: b)) w (w2.setCell ⟨p, j, none⟩ r'.v) := by
  obtain ⟨g1, g2, g3⟩ := h.grow hg hrow hat
  exact ⟨g1.setHead j r'.v, g2, g3.setCell (p := ⟨p, j, none⟩) (.inl blks_head) _⟩
theorem RDiskOk.turn {w w3 : World} {m : Nat} {V F : List Nat} {d d' : DS} {nv lv av wv av' wv' : Value} {NV LV AV WV AV' WV' : List Value} (h : RDiskOk w m V F d nv lv av wv NV LV AV WV)
    (hobj : ObjAt w3 m 78 (rcs d' nv lv av' wv') (rrows d'.n nv lv av' wv' NV LV AV' WV')) (hb : ∀ x ∈ blks m (rrows d'.n nv lv av' wv' NV LV AV' WV'), x ∈ V ∨ w.heap.size ≤ x) (hc : Chg V w w3)
    (h8 : ∀ x ∈ blks m (rrows d'.n nv lv av' wv' NV LV AV' WV'), NoU8 w3 x) (en : d'.n = d.n) (enow : d'.now = d.now) (ef : d'.fuse = d.fuse) (hA : (∀ c ∈ AV', No8 c) ∧ AV'.length ≤ d'.since.length) (hW : (∀ c ∈ WV', No8 c) ∧ WV'.length ≤ d'.since.length) :
    RDiskOk w3 m (blks m (rrows d'.n nv lv av' wv' NV LV AV' WV')) (F ++ blks m (rrows d'.n nv lv av' wv' NV LV AV' WV')) d' nv lv av' wv' NV LV AV' WV' := by
  refine ⟨hobj, fun k hk => ?_, h.lasts, hA, hW, by rw [en]; exact h.few, by rw [ef]; exact h.fuse, rfl, h8, fun x hx => List.mem_append_right _ hx, fun x hx => ?_⟩
  · rw [en] at hk
    rw [enow]
    obtain ⟨h1, h2, h3⟩ := h.now k hk
    refine ⟨h1, h2.chg hc (fun g hg => (h3 g hg).2), fun g hg => ⟨List.mem_append_left _ (h3 g hg).1, fun hm => ?_⟩⟩
    rcases hb g hm with h4 | h4
    · exact (h3 g hg).2 h4
    · have := h.lim g (h3 g hg).1; omega
  · rcases List.mem_append.1 hx with hx | hx
    · exact Nat.lt_of_lt_of_le (h.lim x hx) hc.size
    · exact hobj.lim x hx
theorem RDiskOk.row {w : World} {m : Nat} {V F : List Nat} {d : DS} {nv lv av wv : Value} {NV LV AV WV : List Value} (h : RDiskOk w m V F d nv lv av wv NV LV AV WV) : w.ownsRow 0 27 1 nv d.n NV ∧ w.ownsRow 0 27 1 lv d.n LV ∧ w.ownsRow 0 3 1 av AV.length AV ∧ w.ownsRow 0 27 1 wv WV.length WV :=
  ⟨h.obj.rows _ (by simp [rrows] : (⟨27, 1, nv, d.n, NV⟩ : RowD) ∈ _), h.obj.rows _ (by simp [rrows] : (⟨27, 1, lv, d.n, LV⟩ : RowD) ∈ _), h.obj.rows _ (by simp [rrows] : (⟨3, 1, av, AV.length, AV⟩ : RowD) ∈ _), h.obj.rows _ (by simp [rrows] : (⟨27, 1, wv, WV.length, WV⟩ : RowD) ∈ _)⟩
theorem RDiskOk.in {w : World} {m : Nat} {V F : List Nat} {d : DS} {nv lv av wv : Value} {NV LV AV WV : List Value} (h : RDiskOk w m V F d nv lv av wv NV LV AV WV) : m ∈ V ∧ (∀ x, nv.ownBlock = some x → x ∈ V) ∧ (∀ x, lv.ownBlock = some x → x ∈ V) ∧ (∀ x, av.ownBlock = some x → x ∈ V) ∧ ∀ x, wv.ownBlock = some x → x ∈ V := by
  rw [h.mem]
  refine ⟨blks_head, fun x hx => ?_, fun x hx => ?_, fun x hx => ?_, fun x hx => ?_⟩
  · exact blks_row (r := ⟨27, 1, nv, d.n, NV⟩) (by simp [rrows]) hx
  · exact blks_row (r := ⟨27, 1, lv, d.n, LV⟩) (by simp [rrows]) hx
  · exact blks_row (r := ⟨3, 1, av, AV.length, AV⟩) (by simp [rrows]) hx
  · exact blks_row (r := ⟨27, 1, wv, WV.length, WV⟩) (by simp [rrows]) hx
theorem ObjAt.other_ne {w : World} {p t : Nat} {cs : Array Value} {a b : List RowD} {r q : RowD} (h : ObjAt w p t cs (a ++ r :: b)) (hq : q ∈ a ∨ q ∈ b) {x : Nat} (hx : q.v.ownBlock = some x) : r.v.ownBlock ≠ some x := fun hr => by
  have hnd := (List.nodup_cons.1 h.apart).2
  rw [List.filterMap_append, List.filterMap_cons, hr] at hnd
  simp only at hnd
  have hd := List.nodup_append.1 hnd
  rcases hq with hq | hq
  · exact hd.2.2 x (List.mem_filterMap.2 ⟨q, hq, hx⟩) x (List.mem_cons_self ..) rfl
  · exact (List.nodup_cons.1 hd.2.1).1 (List.mem_filterMap.2 ⟨q, hq, hx⟩)
/-- No byte comes into an object's blocks. -/
theorem ObjAt.field8 {w w2 : World} {p t : Nat} {cs : Array Value} {a b : List RowD} {r r' : RowD} (h : ObjAt w p t cs (a ++ r :: b)) (h8 : ∀ x ∈ blks p (a ++ r :: b), NoU8 w x) (j : Nat) (hg : w.grownBy w2 r.v.ownBlock)
    (hat : ∀ k, r'.v.ownBlock = some k → r.v.ownBlock = some k ∨ w.heap.size ≤ k) (h8' : ∀ x, r'.v.ownBlock = some x → NoU8 w2 x) (hu : No8 r'.v) : ∀ x ∈ blks p (a ++ r' :: b), NoU8 (w2.setCell ⟨p, j, none⟩ r'.v) x := fun x hx => by
  have hmr : r ∈ a ++ r :: b := List.mem_append_right _ (List.mem_cons_self ..)
  have hpl := blk_lt h.head
  have hp2 : w2.heap[p]? = w.heap[p]? := hg.block p hpl (fun e => h.row_ne hmr e.symm rfl)
  have hset : ∀ x, x ≠ p → (w2.setCell ⟨p, j, none⟩ r'.v).heap[x]? = w2.heap[x]? := fun x hx => Below.heap_setCell w2 ⟨p, j, none⟩ _ x hx
  have hother : ∀ q, q ∈ a ∨ q ∈ b → q ∈ a ++ r :: b → q.v.ownBlock = some x → NoU8 (w2.setCell ⟨p, j, none⟩ r'.v) x := fun q hq hm he => by
    have h1 := h.row_ne hm he
    have h2 := h.other_ne hq he
    have h3 := h.lim x (blks_row hm he)
    exact (h8 x (blks_row hm he)).keep ((hset x h1).trans (hg.block x h3 (fun e => h2 e.symm)))
  rcases mem_blks hx with rfl | ⟨q, hq, he⟩
  · exact ((h8 x blks_head).keep hp2).set (Nat.lt_of_lt_of_le hpl hg.size) hu
  · rcases List.mem_append.1 hq with hq | hq
    · exact hother q (.inl hq) (List.mem_append_left _ hq) he
    · rcases List.mem_cons.1 hq with rfl | hq
      · have hxp : x ≠ p := fun e => by
          rcases hat x he with h1 | h1
          · exact h.row_ne hmr h1 e
          · omega
        exact (h8' x he).keep (hset x hxp)
      · exact hother q (.inr hq) (List.mem_append_right _ (List.mem_cons_of_mem _ hq)) he
/-- At grows. -/
theorem RDiskOk.at {w w2 : World} {m : Nat} {V F : List Nat} {d : DS} {nv lv av wv : Value} {NV LV AV WV : List Value} (h : RDiskOk w m V F d nv lv av wv NV LV AV WV) (x : Nat × List UInt8) (u : Value) (g cap : Nat) (hg : w.grownBy w2 av.ownBlock)
    (hrow : w2.ownsRow 0 3 1 (.slice (some ⟨g, 0, none⟩) (AV.length + 1) cap) (AV.length + 1) (AV ++ [u])) (hat : av.ownBlock = some g ∨ g = w.heap.size) (h8 : NoU8 w2 g) (hu : No8 u) :
    ∃ V' F', RDiskOk (w2.setCell ⟨m, 2, none⟩ (.slice (some ⟨g, 0, none⟩) (AV.length + 1) cap)) m V' F' { d with since := d.since ++ [x] } nv lv (.slice (some ⟨g, 0, none⟩) (AV.length + 1) cap) wv NV LV (AV ++ [u]) WV ∧
      (∀ x ∈ V', x ∈ V ∨ w.heap.size ≤ x) ∧ (∀ x ∈ F', x ∈ F ∨ w.heap.size ≤ x) ∧ Chg V w (w2.setCell ⟨m, 2, none⟩ (.slice (some ⟨g, 0, none⟩) (AV.length + 1) cap)) := by
  have hloc : ∀ k, (Value.slice (some ⟨g, 0, none⟩) (AV.length + 1) cap).ownBlock = some k → av.ownBlock = some k ∨ w.heap.size ≤ k := fun k hk => by
    obtain rfl : g = k := by simpa [Value.ownBlock] using hk
    rcases hat with h4 | h4
    · exact .inl h4
    · exact .inr (by omega)
  have hobj : ObjAt w m 78 (rcs d nv lv av wv) ([⟨27, 1, nv, d.n, NV⟩, ⟨27, 1, lv, d.n, LV⟩] ++ (⟨3, 1, av, AV.length, AV⟩ : RowD) :: [⟨27, 1, wv, WV.length, WV⟩]) := h.obj
  obtain ⟨o1, o2, o3⟩ := hobj.field (r' := ⟨3, 1, .slice (some ⟨g, 0, none⟩) (AV.length + 1) cap, (AV ++ [u]).length, AV ++ [u]⟩) 2 hg (by
    show w2.ownsRow 0 3 1 (.slice (some ⟨g, 0, none⟩) (AV.length + 1) cap) (AV ++ [u]).length (AV ++ [u])
    rw [List.length_append]
    exact hrow) hloc
  have hV : V = blks m (rrows d.n nv lv av wv NV LV AV WV) := h.mem
  have hV' : ∀ x ∈ blks m (rrows d.n nv lv (.slice (some ⟨g, 0, none⟩) (AV.length + 1) cap) wv NV LV (AV ++ [u]) WV), x ∈ V ∨ w.heap.size ≤ x := fun x hx => by rw [hV]; exact o2 x hx
  have hc : Chg V w (w2.setCell ⟨m, 2, none⟩ (.slice (some ⟨g, 0, none⟩) (AV.length + 1) cap)) := by rw [hV]; exact o3
  refine ⟨_, _, h.turn (d' := { d with since := d.since ++ [x] }) o1 hV' hc (hobj.field8 (fun y hy => h.no8 y (by rw [h.mem]; exact hy)) 2 hg (r' := ⟨3, 1, .slice (some ⟨g, 0, none⟩) (AV.length + 1) cap, (AV ++ [u]).length, AV ++ [u]⟩) hloc (fun y hy => by
    obtain rfl : g = y := by simpa [Value.ownBlock] using hy
    exact h8) no8_slice) rfl rfl rfl ⟨fun c hc => ?_, by simp; exact h.ats.2⟩ ⟨h.wrote.1, by simp; exact Nat.le_succ_of_le h.wrote.2⟩, hV', fun y hy => ?_, hc⟩
  · rcases List.mem_append.1 hc with hc | hc
    · exact h.ats.1 c hc
    · rw [List.mem_singleton.1 hc]; exact hu
  · rcases List.mem_append.1 hy with hy | hy
    · exact .inl hy
    · rcases hV' y hy with h4 | h4
      · exact .inl (h.sub y h4)
      · exact .inr h4
/-- Wrote grows, behind At. -/
theorem RDiskOk.more {w w2 : World} {m : Nat} {V F : List Nat} {d : DS} {nv lv av wv : Value} {NV LV AV WV : List Value} (h : RDiskOk w m V F d nv lv av wv NV LV AV WV) (u : Value) (g cap : Nat) (hg : w.grownBy w2 wv.ownBlock)
    (hrow : w2.ownsRow 0 27 1 (.slice (some ⟨g, 0, none⟩) (WV.length + 1) cap) (WV.length + 1) (WV ++ [u])) (hat : wv.ownBlock = some g ∨ g = w.heap.size) (h8 : NoU8 w2 g) (hu : No8 u) (hl : WV.length + 1 ≤ d.since.length) :
    RDid w (w2.setCell ⟨m, 3, none⟩ (.slice (some ⟨g, 0, none⟩) (WV.length + 1) cap)) m V F d := by
  have hloc : ∀ k, (Value.slice (some ⟨g, 0, none⟩) (WV.length + 1) cap).ownBlock = some k → wv.ownBlock = some k ∨ w.heap.size ≤ k := fun k hk => by
    obtain rfl : g = k := by simpa [Value.ownBlock] using hk
    rcases hat with h4 | h4
    · exact .inl h4
    · exact .inr (by omega)
  have hobj : ObjAt w m 78 (rcs d nv lv av wv) ([⟨27, 1, nv, d.n, NV⟩, ⟨27, 1, lv, d.n, LV⟩, ⟨3, 1, av, AV.length, AV⟩] ++ (⟨27, 1, wv, WV.length, WV⟩ : RowD) :: []) := h.obj
  obtain ⟨o1, o2, o3⟩ := hobj.field (r' := ⟨27, 1, .slice (some ⟨g, 0, none⟩) (WV.length + 1) cap, (WV ++ [u]).length, WV ++ [u]⟩) 3 hg (by
    show w2.ownsRow 0 27 1 (.slice (some ⟨g, 0, none⟩) (WV.length + 1) cap) (WV ++ [u]).length (WV ++ [u])
    rw [List.length_append]
    exact hrow) hloc
  have hV : V = blks m (rrows d.n nv lv av wv NV LV AV WV) := h.mem
  have hV' : ∀ x ∈ blks m (rrows d.n nv lv av (.slice (some ⟨g, 0, none⟩) (WV.length + 1) cap) NV LV AV (WV ++ [u])), x ∈ V ∨ w.heap.size ≤ x := fun x hx => by rw [hV]; exact o2 x hx
  have hc : Chg V w (w2.setCell ⟨m, 3, none⟩ (.slice (some ⟨g, 0, none⟩) (WV.length + 1) cap)) := by rw [hV]; exact o3
  refine ⟨_, _, ⟨_, _, _, _, _, _, _, _, h.turn (d' := d) o1 hV' hc (hobj.field8 (fun y hy => h.no8 y (by rw [h.mem]; exact hy)) 3 hg (r' := ⟨27, 1, .slice (some ⟨g, 0, none⟩) (WV.length + 1) cap, (WV ++ [u]).length, WV ++ [u]⟩) hloc (fun y hy => by
    obtain rfl : g = y := by simpa [Value.ownBlock] using hy
    exact h8) no8_slice) rfl rfl rfl h.ats ⟨fun c hc => ?_, by simp; exact hl⟩⟩, hV', fun y hy => ?_, hc⟩
  · rcases List.mem_append.1 hc with hc | hc
    · exact h.wrote.1 c hc
    · rw [List.mem_singleton.1 hc]; exact hu
  · rcases List.mem_append.1 hy with hy | hy
    · exact .inl hy
    · rcases hV' y hy with h4 | h4
      · exact .inl (h.sub y h4)
      · exact .inr h4
/-- A sector is another. -/
theorem RDiskOk.sec {w : World} {m : Nat} {V F : List Nat} {d : DS} {nv lv av wv : Value} {NV LV AV WV : List Value} (h : RDiskOk w m V F d nv lv av wv NV LV AV WV) (k g cap : Nat) (b : List UInt8) (u : Value) (hk : k < d.n) (hnv : nv = .slice (some ⟨g, 0, none⟩) d.n cap) (hb : b.length = 64) (hu : BytesAt w u b)
    (hown : ∀ x, u.ownBlock = some x → x < w.heap.size ∧ x ∉ V) : RDid w (w.setCell ⟨g, k, none⟩ u) m V (F ++ u.ownBlock.toList) { d with now := upd d.now k b } := by
  have hgV : g ∈ V := h.in.2.1 g (by rw [hnv]; rfl)
  have hc : Chg [g] w (w.setCell ⟨g, k, none⟩ u) := (Chg.refl _ w).setCell (p := ⟨g, k, none⟩) (.inl (by simp)) _
  have hcV : Chg V w (w.setCell ⟨g, k, none⟩ u) := hc.mono (fun x hx => .inl (by rw [List.mem_singleton.1 hx]; exact hgV))
  have hrows := h.row
  have hne : ∀ (r : RowD), r ∈ [(⟨27, 1, lv, d.n, LV⟩ : RowD), ⟨3, 1, av, AV.length, AV⟩, ⟨27, 1, wv, WV.length, WV⟩] → r.v.ownBlock ≠ some g := fun r hr he => by
    have hobj : ObjAt w m 78 (rcs d nv lv av wv) ([] ++ (⟨27, 1, nv, d.n, NV⟩ : RowD) :: [⟨27, 1, lv, d.n, LV⟩, ⟨3, 1, av, AV.length, AV⟩, ⟨27, 1, wv, WV.length, WV⟩]) := h.obj
    exact hobj.other_ne (.inr hr) he (by rw [hnv]; rfl)
  have hmg : m ≠ g := fun e => h.obj.row_ne (r := ⟨27, 1, nv, d.n, NV⟩) (by simp [rrows]) (k := g) (by rw [hnv]; rfl) e.symm
  have hlen : NV.length = d.n := by have := hrows.1.1; omega
  refine ⟨V, _, ⟨nv, lv, av, wv, NV.set k u, LV, AV, WV, ⟨hc.keep h.obj.head (by simp; exact hmg), fun r hr => ?_, h.obj.apart⟩, fun j hj => ?_, h.lasts, h.ats, h.wrote, h.few, h.fuse, h.mem, fun x hx => ?_, fun x hx => List.mem_append_left _ (h.sub x hx), fun x hx => ?_⟩, fun x hx => .inl hx, fun x hx => .inl hx, hcV⟩
  · simp only [rrows, List.mem_cons, List.mem_nil_iff, or_false] at hr
    rcases hr with rfl | hr
    · show (w.setCell ⟨g, k, none⟩ u).ownsRow 0 27 1 nv d.n (NV.set k u)
      have h1 := hrows.1
      rw [hnv] at h1 ⊢
      exact row_set h1 k u (by omega)
    · have hmem : r ∈ rrows d.n nv lv av wv NV LV AV WV := by rcases hr with rfl | rfl | rfl <;> simp [rrows]
      have hr' : r ∈ [(⟨27, 1, lv, d.n, LV⟩ : RowD), ⟨3, 1, av, AV.length, AV⟩, ⟨27, 1, wv, WV.length, WV⟩] := by rcases hr with rfl | rfl | rfl <;> simp
      exact row_keep (h.obj.rows r hmem) (fun y hy => hc.block y (World.ownsRow.lt (h.obj.rows r hmem) y hy).2 (by
        intro hm
        rw [List.mem_singleton.1 hm] at hy
        exact hne r hr' hy))
  · show (upd d.now k b j).length = 64 ∧ BytesAt _ ((NV.set k u).getD j undef) (upd d.now k b j) ∧ _
    have hset : (NV.set k u).getD j undef = if j = k then u else NV.getD j undef := by
      rw [List.getD_eq_getElem?_getD, List.getElem?_set, List.getD_eq_getElem?_getD]
      by_cases hjk : k = j
      · subst hjk; simp [hlen, hk]
      · rw [if_neg hjk, if_neg (fun e => hjk e.symm)]
    rw [hset]
    unfold upd
    by_cases hjk : j = k
    · rw [if_pos hjk, if_pos hjk]
      refine ⟨hb, hu.chg hcV (fun x hx => (hown x hx).2), fun x hx => ⟨List.mem_append_right _ (by rw [hx]; simp), (hown x hx).2⟩⟩
    · rw [if_neg hjk, if_neg hjk]
      obtain ⟨h1, h2, h3⟩ := h.now j hj
      exact ⟨h1, h2.chg hcV (fun x hx => (h3 x hx).2), fun x hx => ⟨List.mem_append_left _ (h3 x hx).1, (h3 x hx).2⟩⟩
  · by_cases hxg : x = g
    · rw [hxg]
      exact (h.no8 g hgV).set (h.lim g (h.sub g hgV)) hu.no8
    · exact (h.no8 x hx).keep (hc.block x (h.lim x (h.sub x hx)) (by simp; exact hxg))
  · rcases List.mem_append.1 hx with hx | hx
    · exact Nat.lt_of_lt_of_le (h.lim x hx) hc.size
    · have := (hown x (by simpa using hx)).1
      simpa [World.setCell] using this
/-- A sector that lasts is another. -/
theorem RDiskOk.last {w : World} {m : Nat} {V F : List Nat} {d : DS} {nv lv av wv : Value} {NV LV AV WV : List Value} (h : RDiskOk w m V F d nv lv av wv NV LV AV WV) (k g cap : Nat) (u : Value) (hk : k < d.n) (hlv : lv = .slice (some ⟨g, 0, none⟩) d.n cap) (hu : No8 u) :
    RDiskOk (w.setCell ⟨g, k, none⟩ u) m V F d nv lv av wv NV (LV.set k u) AV WV ∧ Chg V w (w.setCell ⟨g, k, none⟩ u) := by
  have hgV : g ∈ V := h.in.2.2.1 g (by rw [hlv]; rfl)
  have hc : Chg [g] w (w.setCell ⟨g, k, none⟩ u) := (Chg.refl _ w).setCell (p := ⟨g, k, none⟩) (.inl (by simp)) _
  have hcV : Chg V w (w.setCell ⟨g, k, none⟩ u) := hc.mono (fun x hx => .inl (by rw [List.mem_singleton.1 hx]; exact hgV))
  have hrows := h.row
  have hne : ∀ (r : RowD), r ∈ [(⟨27, 1, nv, d.n, NV⟩ : RowD), ⟨3, 1, av, AV.length, AV⟩, ⟨27, 1, wv, WV.length, WV⟩] → r.v.ownBlock ≠ some g := fun r hr he => by
    have hobj : ObjAt w m 78 (rcs d nv lv av wv) ([⟨27, 1, nv, d.n, NV⟩] ++ (⟨27, 1, lv, d.n, LV⟩ : RowD) :: [⟨3, 1, av, AV.length, AV⟩, ⟨27, 1, wv, WV.length, WV⟩]) := h.obj
    refine hobj.other_ne (q := r) ?_ he (by rw [hlv]; rfl)
    simp only [List.mem_cons, List.mem_nil_iff, or_false] at hr ⊢
    exact hr
  have hmg : m ≠ g := fun e => h.obj.row_ne (r := ⟨27, 1, lv, d.n, LV⟩) (by simp [rrows]) (k := g) (by rw [hlv]; rfl) e.symm
  refine ⟨⟨⟨hc.keep h.obj.head (by simp; exact hmg), fun r hr => ?_, h.obj.apart⟩, fun j hj => ?_, fun c hc => ?_, h.ats, h.wrote, h.few, h.fuse, h.mem, fun x hx => ?_, h.sub, fun x hx => Nat.lt_of_lt_of_le (h.lim x hx) hc.size⟩, hcV⟩
  · simp only [rrows, List.mem_cons, List.mem_nil_iff, or_false] at hr
    by_cases hrl : r = ⟨27, 1, lv, d.n, LV.set k u⟩
    · subst hrl
      show (w.setCell ⟨g, k, none⟩ u).ownsRow 0 27 1 lv d.n (LV.set k u)
      have h1 := hrows.2.1
      rw [hlv] at h1 ⊢
      exact row_set h1 k u (by omega)
    · have hmem : r ∈ rrows d.n nv lv av wv NV LV AV WV := by
        rcases hr with rfl | rfl | rfl | rfl
        · simp [rrows]
        · exact absurd rfl hrl
        · simp [rrows]
        · simp [rrows]
      have hr' : r ∈ [(⟨27, 1, nv, d.n, NV⟩ : RowD), ⟨3, 1, av, AV.length, AV⟩, ⟨27, 1, wv, WV.length, WV⟩] := by
        rcases hr with rfl | rfl | rfl | rfl
        · simp
        · exact absurd rfl hrl
        · simp
        · simp
      exact row_keep (h.obj.rows r hmem) (fun y hy => hc.block y (World.ownsRow.lt (h.obj.rows r hmem) y hy).2 (by
        intro hm
        rw [List.mem_singleton.1 hm] at hy
        exact hne r hr' hy))
  · obtain ⟨h1, h2, h3⟩ := h.now j hj
    exact ⟨h1, h2.chg hcV (fun x hx => (h3 x hx).2), h3⟩
  · rcases List.mem_or_eq_of_mem_set hc with hc | hc
    · exact h.lasts c hc
    · rw [hc]; exact hu
  · by_cases hxg : x = g
    · rw [hxg]
      exact (h.no8 g hgV).set (h.lim g (h.sub g hgV)) hu
    · exact (h.no8 x hx).keep (hc.block x (h.lim x (h.sub x hx)) (by simp; exact hxg))
/-- Nothing waits any more. -/
theorem RDiskOk.calm {w : World} {m : Nat} {V F : List Nat} {d : DS} {nv lv av wv : Value} {NV LV AV WV : List Value} (h : RDiskOk w m V F d nv lv av wv NV LV AV WV) (la : Nat → List UInt8) :
    RDid w ((w.setCell ⟨m, 2, none⟩ (.slice none 0 0)).setCell ⟨m, 3, none⟩ (.slice none 0 0)) m V F { d with lasts := la, since := [] } := by
  have hobj : ObjAt w m 78 (rcs d nv lv av wv) ([⟨27, 1, nv, d.n, NV⟩, ⟨27, 1, lv, d.n, LV⟩] ++ (⟨3, 1, av, AV.length, AV⟩ : RowD) :: [⟨27, 1, wv, WV.length, WV⟩]) := h.obj
  have hg0 : ∀ r, w.grownBy w r := fun r => ⟨rfl, rfl, rfl, Nat.le_refl _, fun _ _ _ => rfl⟩
  obtain ⟨o1, o2, o3⟩ := hobj.field (r' := ⟨3, 1, .slice none 0 0, 0, []⟩) 2 (hg0 _) (World.ownsRow_nil _ _ _ _) (fun k hk => by cases hk)
  have o8 := hobj.field8 (fun y hy => h.no8 y (by rw [h.mem]; exact hy)) 2 (hg0 _) (r' := ⟨3, 1, .slice none 0 0, 0, []⟩) (fun k hk => by cases hk) (fun y hy => by cases hy) no8_slice
  have hV : V = blks m (rrows d.n nv lv av wv NV LV AV WV) := h.mem
  have o3 : Chg V w (w.setCell ⟨m, 2, none⟩ (.slice none 0 0)) := by rw [hV]; exact o3
  have hV1 : ∀ x ∈ blks m (rrows d.n nv lv (.slice none 0 0) wv NV LV [] WV), x ∈ V ∨ w.heap.size ≤ x := fun x hx => by rw [hV]; exact o2 x hx
  have h1 := h.turn (d' := d) (av' := .slice none 0 0) (wv' := wv) (AV' := []) (WV' := WV) o1 hV1 o3 o8 rfl rfl rfl ⟨by simp, by simp⟩ h.wrote
  have hw1 : (w.setCell ⟨m, 2, none⟩ (.slice none 0 0)).heap.size = w.heap.size := by simp [World.setCell]
  generalize w.setCell ⟨m, 2, none⟩ (.slice none 0 0) = w1 at *
  have hobj1 : ObjAt w1 m 78 (rcs d nv lv (.slice none 0 0) wv) ([⟨27, 1, nv, d.n, NV⟩, ⟨27, 1, lv, d.n, LV⟩, ⟨3, 1, .slice none 0 0, ([] : List Value).length, []⟩] ++ (⟨27, 1, wv, WV.length, WV⟩ : RowD) :: []) := h1.obj
  have hg1 : ∀ r, w1.grownBy w1 r := fun r => ⟨rfl, rfl, rfl, Nat.le_refl _, fun _ _ _ => rfl⟩
  obtain ⟨q1, q2, q3⟩ := hobj1.field (r' := ⟨27, 1, .slice none 0 0, 0, []⟩) 3 (hg1 _) (World.ownsRow_nil _ _ _ _) (fun k hk => by cases hk)
  have q8 := hobj1.field8 (fun y hy => h1.no8 y hy) 3 (hg1 _) (r' := ⟨27, 1, .slice none 0 0, 0, []⟩) (fun k hk => by cases hk) (fun y hy => by cases hy) no8_slice
  have q2' : ∀ x ∈ blks m (rrows d.n nv lv (.slice none 0 0) (.slice none 0 0) NV LV [] []), x ∈ blks m (rrows d.n nv lv (.slice none 0 0) wv NV LV [] WV) ∨ w1.heap.size ≤ x := q2
  have h2 := h1.turn (d' := { d with lasts := la, since := [] }) (av' := .slice none 0 0) (wv' := .slice none 0 0) (AV' := []) (WV' := []) q1 q2' q3 q8 rfl rfl rfl ⟨by simp, by simp⟩ ⟨by simp, by simp⟩
  have hV2 : ∀ x ∈ blks m (rrows d.n nv lv (.slice none 0 0) (.slice none 0 0) NV LV [] []), x ∈ V ∨ w.heap.size ≤ x := fun x hx => by
    rcases q2' x hx with h4 | h4
    · exact hV1 x h4
    · exact .inr (by omega)
  refine ⟨_, _, ⟨_, _, _, _, _, _, _, _, h2⟩, hV2, fun x hx => ?_, o3.trans q3 hV1⟩
  have hin : ∀ x, x ∈ V ∨ w.heap.size ≤ x → x ∈ F ∨ w.heap.size ≤ x := fun x hx => hx.imp (h.sub x) id
  rcases List.mem_append.1 hx with hx | hx
  · rcases List.mem_append.1 hx with hx | hx
    · exact .inl hx
    · exact hin x (hV1 x hx)
  · exact hin x (hV2 x hx)
end Go.Proofs.YtbkajnjboipbhaaGreatDoor.W

/- Regions that draw their order: a load under a condition that ends far off: the way from it to its end is told. -/
namespace Go.Proofs.YtbkajnjboipbhaaGreatDoor.W
open Go.RowKit
set_option linter.unusedVariables false
set_option linter.unusedSimpArgs false

section
variable {P : Program} {ops : Array Oper} {Q : Exit → Act → World → Prop} {md : Region.Mode} {cs : List (Nat × (World → Prop))}

/-- Operation d waits for i, by this way. -/
def pathB (md : Region.Mode) (ops : Array Oper) : Nat → List Nat → Nat → Bool
  | d, [], i => match ops[d]? with
    | none => false
    | some o => o.after.any fun e => Region.binds md e && e.on == i
  | d, x :: xs, i => (match ops[d]? with
    | none => false
    | some o => o.after.any fun e => Region.binds md e && e.on == x) && pathB md ops x xs i
theorem step_open {L : Array Bool} (hc : Closed md ops L) {d x : Nat} (hx : L.getD x true = false) (h : (match ops[d]? with
    | none => false
    | some o => o.after.any fun e => Region.binds md e && e.on == x) = true) : L.getD d true = false := by
  cases ho : ops[d]? with
  | none => rw [ho] at h; cases h
  | some o =>
    simp only [ho] at h
    obtain ⟨e, he, h1⟩ := Array.any_eq_true'.1 h
    simp only [Bool.and_eq_true, beq_iff_eq] at h1
    cases hd : L.getD d true with
    | false => rfl
    | true =>
      have h2 := hc d o ho hd e he h1.1
      obtain ⟨_, rfl⟩ := h1
      rw [Array.getD_eq_getD_getElem?] at hx h2
      cases hq : L[e.on]? with
      | none => rw [hq] at h2; cases h2
      | some b => rw [hq] at hx h2; simp at hx h2; rw [hx] at h2; cases h2
theorem path_open {L : Array Bool} (hc : Closed md ops L) {i : Nat} (hi : L.getD i true = false) : ∀ (xs : List Nat) (d : Nat), pathB md ops d xs i = true → L.getD d true = false := by
  intro xs
  induction xs with
  | nil => intro d h; exact step_open hc hi h
  | cons x xs ih =>
    intro d h
    unfold pathB at h
    rw [Bool.and_eq_true] at h
    exact step_open hc (ih x h.2) h.1
theorem wpAnyL_loadP (k : Nat) (xs : List Nat) {i d : Nat} {C : World → Prop} {oi : Oper} {v : Value} {fuel : Nat} {L : Array Bool} {a : Act} {w : World} (hk : cs[k]? = some (d, C)) (hi : ops[i]? = some oi)
    (hs : Region.noSelect ops = true) (hcl : closedB md ops L = true) (hf : Region.free md ops L i = true) (hr : (Region.ready md ops L).contains i = true) (hne : cs.all (fun c => c.1 != i) = true) (hanc : pathB md ops d xs i = true)
    (hQ : ∀ c a w, Q (.panic c) (a.put oi.dst v) w → Q (.panic c) a w) (hy : YieldsIf P ops C oi v a) (hS : HoldC cs L w)
    (h : HoldC cs (L.setIfInBounds i true) w → wpAnyL P md ops Q cs fuel (L.setIfInBounds i true) (a.put oi.dst v) w) : wpAnyL P md ops Q cs (fuel + 1) L a w :=
  wpAnyL_first hi (Region.noSelect_spec hs) hQ (fun L w h1 h2 h3 => h3 _ (List.mem_of_getElem? hk) (path_open h1 h2 _ _ hanc)) (fun c hc => by simpa using List.all_eq_true.1 hne c hc) fuel L a w (closed_of hcl) (Region.free_spec hi hf) (by simpa using hr) hy hS (h (hS.set _))
end
end Go.Proofs.YtbkajnjboipbhaaGreatDoor.W

/- The reference's disk: Write. -/
namespace Go.Proofs.YtbkajnjboipbhaaGreatDoor.W
open Go.RowKit
set_option linter.unusedVariables false
set_option linter.unusedSimpArgs false

theorem facts_bytes : (Tryz.prog.info? 27).map (fun i => (i.zero, i.size, i.bytes)) = some (some (.slice none 0 0), 1, 24) := by kernel_rfl
theorem facts_intR : (Tryz.prog.info? 3).map (fun i => (i.zero, i.size, i.bytes)) = some (some (.int .i64 0), 1, 8) := by kernel_rfl
theorem write_eq (d : DS) (k : Nat) (b : List UInt8) (hd : d.dead = false) (hk : k < d.n) (hb : b.length = 64) :
    d.write (k : Int) b = if d.op.1 then (0, { d.op.2 with since := d.since ++ [(k, b)], now := upd d.now k b }) else (14, { d.op.2 with since := d.since ++ [(k, b)] }) := by
  unfold DS.write
  rw [if_neg (by rw [hd]; simp), if_pos ⟨by omega, by omega, hb⟩, Int.toNat_natCast]
  unfold DS.op
  by_cases hf : d.fuse = 0
  · simp [hf]
  · simp [hf]
theorem op_rest (d : DS) : d.op.2.n = d.n ∧ d.op.2.now = d.now ∧ d.op.2.since = d.since := by
  unfold DS.op
  split <;> exact ⟨rfl, rfl, rfl⟩

set_option maxHeartbeats 8000000 in
set_option maxRecDepth 100000 in
theorem rwrite_ok (m : Nat) (V F : List Nat) (d : DS) (k : Nat) (a : Option Addr) (cap : Nat) (b : List UInt8) (w : World) (h : RDiskAt w m V F d) (ho : d.ops ≤ 1000000000) (hw : d.since.length ≤ 1000000) (hd : d.dead = false) (hk : k < d.n) (hb : b.length = 64)
    (hv : BytesAt w (.slice a 64 cap) b) (hvo : ∀ x, (Value.slice a 64 cap).ownBlock = some x → x ∉ V) :
    Calls Tryz.prog 82 #[.pointer (some ⟨m, 0, none⟩), .int .i64 (k : Int), .slice a 64 cap] w fun e w' => e = .returned (.int .i64 (d.write (k : Int) b).1) ∧ RDid w w' m V F (d.write (k : Int) b).2 := by
  have CO := Lib.hid (rop_any m V F d w h ho)
  obtain ⟨nv, lv, av, wv, NV, LV, AV, WV, H⟩ := h
  have c0 := blk_cell H.head 0 _ rfl
  have c6 := blk_cell H.head 6 _ rfl
  obtain ⟨gn, cn, hnv, _, _⟩ : ∃ g cap, nv = .slice (some ⟨g, 0, none⟩) d.n cap ∧ True ∧ True := by
    rcases H.row.1.2 with ⟨_, h0⟩ | ⟨g, cap, cur, rfl, _⟩
    · omega
    · exact ⟨g, cap, rfl, trivial, trivial⟩
  subst hnv
  have HWE := Lib.hid (write_eq d k b hd hk hb)
  have HV := Lib.hid hv
  have HVO := Lib.hid hvo
  have HB := Lib.hid hb
  have hkz : ¬ (d.n : Int) ≤ (k : Int) := by omega
  have hkz0 : ¬ (k : Int) < 0 := by omega
  have HD := Lib.hid hd
  have c6' : w.cell? ⟨m, 6, none⟩ = some (.bool false) := by rw [← hd]; exact c6
  have HN := Lib.hid hk
  obtain ⟨n, hn⟩ : ∃ n, n = d.n := ⟨_, rfl⟩
  rw [← hn] at c0 hkz
  have HNN := Lib.hid hn
  clear H hv hvo hb hd c6 hn hk
  go_enter Tryz.func82, Tryz.ntmps82
  go_wp2_with fail
  refine CO.out.mono ?_
  rintro e w1 ⟨rfl, hd1⟩
  obtain ⟨o1, o2, o3⟩ := op_rest d
  obtain ⟨q, hq⟩ : ∃ q, q = d.op.1 := ⟨_, rfl⟩
  obtain ⟨d1, hd1e⟩ : ∃ d1, d1 = d.op.2 := ⟨_, rfl⟩
  rw [← hd1e] at hd1 o1 o2 o3
  rw [← hd1e, ← hq] at HWE
  rw [← hq]
  obtain ⟨V1, F1, ⟨nv1, lv1, av1, wv1, NV1, LV1, AV1, WV1, H1⟩, hV1, hF1, hc1⟩ := hd1
  have HV1 := Lib.hid hV1
  have HF1 := Lib.hid hF1
  have HC1 := Lib.hid hc1
  have HH1 := Lib.hid H1
  have O1 := Lib.hid (And.intro o1 (And.intro o2 o3))
  have l2 := blk_cell H1.head 2 _ rfl
  have m2 := blk_frozen H1.head 2
  have hml := blk_lt H1.head
  clear H1 hV1 hF1 hc1 CO c0 c6' hq hd1e o1 o2 o3
  obtain ⟨i2, hi2, hz2, hs2, hy2⟩ := info_parts facts_intR
  obtain ⟨i3, hi3, hz3, hs3, hy3⟩ := info_parts facts_bytes
  have I2 := Lib.hid (And.intro hi2 (And.intro hz2 (And.intro hs2 hy2)))
  have I3 := Lib.hid (And.intro hi3 (And.intro hz3 (And.intro hs3 hy3)))
  have hcA : Chg [] w1 (w1.alloc (.cells #[.int .i64 (k : Int)] 3)) := (Chg.refl _ _).alloc _
  have HA := Lib.hid (HH1.out.keep0 hcA)
  have hl1 : AV1.length + 1 ≤ 1000001 := by have h := HH1.out.ats.2; rw [O1.out.2.2] at h; omega
  have hl2 : WV1.length + 1 ≤ 1000001 := by have h := HH1.out.wrote.2; rw [O1.out.2.2] at h; omega
  obtain ⟨wA, hwA⟩ : ∃ wA, wA = w1.alloc (.cells #[.int .i64 (k : Int)] 3) := ⟨_, rfl⟩
  have HNW := Lib.hid (news_one (w := w1) (e := 3) (u := .int .i64 (k : Int)) rfl)
  have HWA := Lib.hid hwA
  have HCA := Lib.hid hcA
  clear hi2 hz2 hs2 hy2 hi3 hz3 hs3 hy3 hcA hwA
  go_wp2_with (at_builtin; refine wpList_append_no8 rfl (.tmp 34) (.tmp 36) 49 rfl 3 i2 (.int .i64 0) 1 8 Tryz.underlying49 I2.out.1 I2.out.2.1 I2.out.2.2.1 I2.out.2.2.2 rfl (by omega) (one_z8 rfl no8_i64) av1 AV1.length AV1 rfl HA.out.row.2.2.1 HA.out.ats.1 (fun x hx => HA.out.no8 x (HA.out.in.2.2.2.1 x hx)) ⟨w1.heap.size, 0, none⟩ 1 rfl [.int .i64 (k : Int)] rfl HNW.out (fun u hu => by rw [List.mem_singleton.1 hu]; rfl) (fun u hu => by rw [List.mem_singleton.1 hu]; exact no8_i64) (by unfold maxLen; omega) (by omega) ?_; intro g2 cap2 w2 hrow hg hat hlt h8; refine stay_of ?_)
  have hm2 : w2.heap[m]? = _ := (hg.block m (blk_lt HA.out.head) (fun e => HA.out.obj.row_ne (r := ⟨3, 1, av1, AV1.length, AV1⟩) (by simp [rrows]) e.symm rfl)).trans HA.out.head
  have d2 := blk_cell hm2 2 _ rfl
  have e2 := blk_frozen hm2 2
  have f2 := blk_lt hm2
  obtain ⟨V2, F2, H2, hV2, hF2, hc2⟩ := HA.out.at (k, b) (.int .i64 (k : Int)) g2 cap2 hg hrow hat h8 no8_i64
  have hglue : ∀ w' d', RDid (w2.setCell ⟨m, 2, none⟩ (.slice (some ⟨g2, 0, none⟩) (AV1.length + 1) cap2)) w' m V2 F2 d' → RDid w w' m V F d' := fun w' d' h => RDid.glue HV1.out HF1.out HC1.out (RDid.pre HCA.out (RDid.glue hV2 hF2 hc2 h))
  have hlt64 : ∀ x, (Value.slice a 64 cap).ownBlock = some x → x < w.heap.size := HV.out.lt (by intro e; have := HB.out; rw [e] at this; simp at this)
  have hbv : BytesAt (w2.setCell ⟨m, 2, none⟩ (.slice (some ⟨g2, 0, none⟩) (AV1.length + 1) cap2)) (.slice a 64 cap) b := by
    have hsz := HC1.out.size
    refine ((HV.out.chg HC1.out HVO.out).chg HCA.out (by simp)).chg hc2 (fun x hx hm => ?_)
    rcases HV1.out x hm with h4 | h4
    · exact HVO.out x hx h4
    · have := hlt64 x hx; omega
  have hvo2 : ∀ x, (Value.slice a 64 cap).ownBlock = some x → x ∉ V2 := fun x hx hm => by
    have hsz := HC1.out.size
    have hl := hlt64 x hx
    rcases hV2 x hm with h4 | h4
    · rcases HV1.out x h4 with h5 | h5
      · exact HVO.out x hx h5
      · omega
    · simp at h4; omega
  have HG := Lib.hid hglue
  have HH2 := Lib.hid H2
  have HBV := Lib.hid (And.intro hbv hvo2)
  unfold Stay
  clear hglue hbv hvo2 hlt64 H2 hV2 hF2 hc2 hrow hg hat hlt h8 hm2 l2 m2 hml
  go_wp2_with fail
  generalize w2.setCell ⟨m, 2, none⟩ (.slice (some ⟨g2, 0, none⟩) (AV1.length + 1) cap2) = w3 at *
  have p3 : w3.cell? ⟨m, 3, none⟩ = some wv1 := blk_cell HH2.out.head 3 _ rfl
  clear d2 e2 f2
  refine wp_region_L [(11, fun w' => w'.cell? ⟨m, 3, none⟩ = some wv1)] (by kernel_rfl) ?_ (fun hHeld => ?_)
  · exact (HoldC.cons (p3) HoldC.nil)
  refine wpAnyL_take (i := 0) (oi := _) (v := ?_) rfl (by kernel_rfl) (by kernel_rfl) (by kernel_rfl) (by kernel_rfl) (by kernel_rfl) (fun _ _ _ h => h) (Or.inl ⟨by rfl, ?_⟩) (by assumption) (fun hNew => ?_)
  rotate_left
  · intro w _
    go_simp
    try with_reducible rfl
  clear hHeld
  have hHeld := hNew
  clear hNew
  try simp only [List.getElem_toArray, List.getElem_cons_succ, List.getElem_cons_zero, Act.put, List.setIfInBounds_toArray, List.set_cons_zero, List.set_cons_succ]
  refine wpAnyL_take (i := 1) (oi := _) (v := ?_) rfl (by kernel_rfl) (by kernel_rfl) (by kernel_rfl) (by kernel_rfl) (by kernel_rfl) (fun _ _ _ h => h) (Or.inl ⟨by rfl, ?_⟩) (by assumption) (fun hNew => ?_)
  rotate_left
  · intro w _
    go_simp
    try with_reducible rfl
  clear hHeld
  have hHeld := hNew
  clear hNew
  try simp only [List.getElem_toArray, List.getElem_cons_succ, List.getElem_cons_zero, Act.put, List.setIfInBounds_toArray, List.set_cons_zero, List.set_cons_succ]
  refine wpAnyL_take (i := 2) (oi := _) (v := ?_) rfl (by kernel_rfl) (by kernel_rfl) (by kernel_rfl) (by kernel_rfl) (by kernel_rfl) (fun _ _ _ h => h) (Or.inl ⟨by rfl, ?_⟩) (by assumption) (fun hNew => ?_)
  rotate_left
  · intro w _
    go_simp
    try with_reducible rfl
  clear hHeld
  have hHeld := hNew
  clear hNew
  try simp only [List.getElem_toArray, List.getElem_cons_succ, List.getElem_cons_zero, Act.put, List.setIfInBounds_toArray, List.set_cons_zero, List.set_cons_succ]
  refine wpAnyL_take (i := 3) (oi := _) (v := ?_) rfl (by kernel_rfl) (by kernel_rfl) (by kernel_rfl) (by kernel_rfl) (by kernel_rfl) (fun _ _ _ h => h) (Or.inl ⟨by rfl, ?_⟩) (by assumption) (fun hNew => ?_)
  rotate_left
  · intro w _
    go_simp
    try with_reducible rfl
  clear hHeld
  have hHeld := hNew
  clear hNew
  try simp only [List.getElem_toArray, List.getElem_cons_succ, List.getElem_cons_zero, Act.put, List.setIfInBounds_toArray, List.set_cons_zero, List.set_cons_succ]
  refine wpAnyL_take (i := 5) (oi := _) (v := ?_) rfl (by kernel_rfl) (by kernel_rfl) (by kernel_rfl) (by kernel_rfl) (by kernel_rfl) (fun _ _ _ h => h) (Or.inl ⟨by rfl, ?_⟩) (by assumption) (fun hNew => ?_)
  rotate_left
  · intro w _
    go_simp
    try with_reducible rfl
  clear hHeld
  have hHeld := hNew
  clear hNew
  try simp only [List.getElem_toArray, List.getElem_cons_succ, List.getElem_cons_zero, Act.put, List.setIfInBounds_toArray, List.set_cons_zero, List.set_cons_succ]
  refine wpAnyL_load 0 (i := 4) (oi := _) (v := ?_) rfl rfl (by kernel_rfl) (by kernel_rfl) (by kernel_rfl) (by kernel_rfl) (by kernel_rfl) (by kernel_rfl) (fun _ _ _ h => h) (Or.inl ⟨by rfl, ?_⟩) (by assumption) (fun hNew => ?_)
  rotate_left
  · intro w hSw
    (try dsimp only at hSw)
    go_simp
    try with_reducible rfl
  clear hHeld
  have hHeld := hNew
  clear hNew
  try simp only [List.getElem_toArray, List.getElem_cons_succ, List.getElem_cons_zero, Act.put, List.setIfInBounds_toArray, List.set_cons_zero, List.set_cons_succ]
  refine wpAnyL_ready (rs := [6]) (by kernel_rfl) (by simp) ?_
  refine AllReadyL.cons (o := _) rfl (fun K hK => ?_) AllReadyL.nil
  try simp only [List.getElem_toArray, List.getElem_cons_succ, List.getElem_cons_zero]
  go_simp
  refine (rcopy_any (.slice a 64 cap) b w3.drew (HBV.out.1.chg (by exact (Chg.refl [] w3).drew) (by simp)) (by rw [HB.out]; omega)).mono ?_
  rintro e w4 ⟨v4, rfl, hb4, ho4, hc4⟩
  obtain ⟨a4, c4, hv4⟩ := hb4.bytes.slice
  subst hv4
  have hc4 : Chg [] w3 w4 := (by exact (Chg.refl [] w3).drew : Chg [] w3 w3.drew).trans hc4 (by simp)
  have HB4 := Lib.hid hb4
  have hcB : Chg [] w4 (w4.alloc (.cells #[.slice a4 b.length c4] 27)) := (Chg.refl _ _).alloc _
  have H4 := Lib.hid (HH2.out.keep0 (hc4.trans hcB (by simp)))
  have HC4 := Lib.hid (hc4.trans hcB (by simp))
  have p4 := hc4.cell p3 (by simp)
  have p5 := hcB.cell p4 (by simp)
  have HN4 := Lib.hid (news_one (w := w4) (e := 27) (u := .slice a4 b.length c4) rfl)
  have h84 := hb4.bytes.no8
  have hone : (Value.slice a4 b.length c4).oneCell' = true := rfl
  clear hb4 ho4 hc4 hcB p3
  try go_wp2_with fail
  clear hHeld
  refine hK.out _ _ ?_ (fun hHeld => ?_)
  · exact (HoldC.cons (p4) HoldC.nil)
  clear hK K
  try simp only [List.getElem_toArray, List.getElem_cons_succ, List.getElem_cons_zero, Act.put, List.setIfInBounds_toArray, List.set_cons_zero, List.set_cons_succ]
  refine wpAnyL_ready (rs := [7]) (by kernel_rfl) (by simp) ?_
  refine AllReadyL.cons (o := _) rfl (fun K hK => ?_) AllReadyL.nil
  try simp only [List.getElem_toArray, List.getElem_cons_succ, List.getElem_cons_zero]
  go_simp
  clear hHeld
  refine hK.out _ _ ?_ (fun hHeld => ?_)
  · exact (HoldC.cons (p5) HoldC.nil)
  clear hK K
  try simp only [List.getElem_toArray, List.getElem_cons_succ, List.getElem_cons_zero, Act.put, List.setIfInBounds_toArray, List.set_cons_zero, List.set_cons_succ]
  refine wpAnyL_ready (rs := [8]) (by kernel_rfl) (by simp) ?_
  refine AllReadyL.cons (o := _) rfl (fun K hK => ?_) AllReadyL.nil
  try simp only [List.getElem_toArray, List.getElem_cons_succ, List.getElem_cons_zero]
  rw [if_pos (by rfl)]
  refine wp_append_no8 (.tmp 44) (.tmp 47) 76 (by rfl) 27 i3 (.slice none 0 0) 1 24 Tryz.underlying76 I3.out.1 I3.out.2.1 I3.out.2.2.1 I3.out.2.2.2 rfl (by omega) (one_z8 rfl no8_slice) wv1 WV1.length WV1 (by rfl) H4.out.row.2.2.2 H4.out.wrote.1 (fun x hx => H4.out.no8 x (H4.out.in.2.2.2.2 x hx)) ⟨w4.heap.size, 0, none⟩ 1 (by rfl) [.slice a4 b.length c4] rfl HN4.out (fun u hu => by rw [List.mem_singleton.1 hu]; exact hone) (fun u hu => by rw [List.mem_singleton.1 hu]; exact h84) (by unfold maxLen; omega) (by omega) ?_
  intro g5 cap5 w5 hrow hg hat hlt h8
  have hm5 : w5.heap[m]? = _ := (hg.block m (blk_lt H4.out.head) (fun e => H4.out.obj.row_ne (r := ⟨27, 1, wv1, WV1.length, WV1⟩) (by simp [rrows]) e.symm rfl)).trans H4.out.head
  have p6 := blk_cell hm5 3 _ rfl
  have p7 := blk_frozen hm5 3
  have p8 := blk_lt hm5
  have hD6 := H4.out.more (.slice a4 b.length c4) g5 cap5 hg hrow hat h8 h84 (by simp; exact HH1.out.wrote.2)
  have HD6 := Lib.hid (RDid.pre HC4.out hD6)
  clear hrow hg hat hlt h8 hm5 hD6 p4 p5 hone h84
  clear hHeld
  refine hK.out _ _ ?_ (fun hHeld => ?_)
  · exact (HoldC.cons (p6) HoldC.nil)
  clear hK K
  try simp only [List.getElem_toArray, List.getElem_cons_succ, List.getElem_cons_zero, Act.put, List.setIfInBounds_toArray, List.set_cons_zero, List.set_cons_succ]
  refine wpAnyL_take (i := 9) (oi := _) (v := ?_) rfl (by kernel_rfl) (by kernel_rfl) (by kernel_rfl) (by kernel_rfl) (by kernel_rfl) (fun _ _ _ h => h) (Or.inl ⟨by rfl, ?_⟩) (by assumption) (fun hNew => ?_)
  rotate_left
  · intro w _
    go_simp
    try with_reducible rfl
  clear hHeld
  have hHeld := hNew
  clear hNew
  try simp only [List.getElem_toArray, List.getElem_cons_succ, List.getElem_cons_zero, Act.put, List.setIfInBounds_toArray, List.set_cons_zero, List.set_cons_succ]
  refine wpAnyL_take (i := 10) (oi := _) (v := ?_) rfl (by kernel_rfl) (by kernel_rfl) (by kernel_rfl) (by kernel_rfl) (by kernel_rfl) (fun _ _ _ h => h) (Or.inl ⟨by rfl, ?_⟩) (by assumption) (fun hNew => ?_)
  rotate_left
  · intro w _
    go_simp
    try with_reducible rfl
  clear hHeld
  have hHeld := hNew
  clear hNew
  try simp only [List.getElem_toArray, List.getElem_cons_succ, List.getElem_cons_zero, Act.put, List.setIfInBounds_toArray, List.set_cons_zero, List.set_cons_succ]
  refine wpAnyL_ready (rs := [11]) (by kernel_rfl) (by simp) ?_
  refine AllReadyL.cons (o := _) rfl (fun K hK => ?_) AllReadyL.nil
  try simp only [List.getElem_toArray, List.getElem_cons_succ, List.getElem_cons_zero]
  go_simp
  clear hHeld
  refine hK.out _ _ ?_ (fun hHeld => ?_)
  · exact (HoldC.past (by kernel_rfl) HoldC.nil)
  clear hK K
  try simp only [List.getElem_toArray, List.getElem_cons_succ, List.getElem_cons_zero, Act.put, List.setIfInBounds_toArray, List.set_cons_zero, List.set_cons_succ]
  refine wpAnyL_done (by kernel_rfl) ?_ _
  clear hHeld
  generalize w5.setCell ⟨m, 3, none⟩ (.slice (some ⟨g5, 0, none⟩) (WV1.length + 1) cap5) = w6 at *
  clear p6 p7 p8
  cases q
  · simp only [Bool.false_eq_true, if_false] at HWE
    go_wp2
    go_ret
    rw [HWE.out]
    exact ⟨rfl, by
      have h := HG.out _ _ HD6.out
      rw [O1.out.2.2] at h
      exact h⟩
  · simp only [if_true] at HWE
    obtain ⟨V3, F3, ⟨nv3, lv3, av3, wv3, NV3, LV3, AV3, WV3, H3⟩, hV3, hF3, hc3⟩ := HD6.out
    have hn3 : n = d1.n := by rw [HNN.out, O1.out.1]
    obtain ⟨g7, c7, hnv3, -⟩ : ∃ g cap, nv3 = .slice (some ⟨g, 0, none⟩) d1.n cap ∧ True := by
      rcases H3.row.1.2 with ⟨_, h0⟩ | ⟨g, cap, cur, h1, _⟩
      · have : d1.n = 0 := h0
        omega
      · exact ⟨g, cap, h1, trivial⟩
    have p0 : w6.cell? ⟨m, 0, none⟩ = some (.slice (some ⟨g7, 0, none⟩) n c7) := by rw [hn3, ← hnv3]; exact blk_cell H3.head 0 _ rfl
    have hb6 : BytesAt w6 (.slice a 64 cap) b := HBV.out.1.chg hc3 HBV.out.2
    have HH3 := Lib.hid H3
    have HNV := Lib.hid hnv3
    have HN3 := Lib.hid hn3
    have HG3 := Lib.hid (And.intro hV3 (And.intro hF3 hc3))
    have hkz1 : (k : Int).toNat = k := by omega
    clear H3 hV3 hF3 hc3 hnv3 hn3
    go_wp2_with fail
    refine wp_region_L [(8, fun w' => w'.cell? ⟨m, 0, none⟩ = some (.slice (some ⟨g7, 0, none⟩) n c7))] (by kernel_rfl) ?_ (fun hHeld => ?_)
    · exact (HoldC.cons (p0) HoldC.nil)
    refine wpAnyL_take (i := 0) (oi := _) (v := ?_) rfl (by kernel_rfl) (by kernel_rfl) (by kernel_rfl) (by kernel_rfl) (by kernel_rfl) (fun _ _ _ h => h) (Or.inl ⟨by rfl, ?_⟩) (by assumption) (fun hNew => ?_)
    rotate_left
    · intro w _
      go_simp
      try with_reducible rfl
    clear hHeld
    have hHeld := hNew
    clear hNew
    try simp only [List.getElem_toArray, List.getElem_cons_succ, List.getElem_cons_zero, Act.put, List.setIfInBounds_toArray, List.set_cons_zero, List.set_cons_succ]
    refine wpAnyL_take (i := 1) (oi := _) (v := ?_) rfl (by kernel_rfl) (by kernel_rfl) (by kernel_rfl) (by kernel_rfl) (by kernel_rfl) (fun _ _ _ h => h) (Or.inl ⟨by rfl, ?_⟩) (by assumption) (fun hNew => ?_)
    rotate_left
    · intro w _
      go_simp
      try with_reducible rfl
    clear hHeld
    have hHeld := hNew
    clear hNew
    try simp only [List.getElem_toArray, List.getElem_cons_succ, List.getElem_cons_zero, Act.put, List.setIfInBounds_toArray, List.set_cons_zero, List.set_cons_succ]
    refine wpAnyL_take (i := 2) (oi := _) (v := ?_) rfl (by kernel_rfl) (by kernel_rfl) (by kernel_rfl) (by kernel_rfl) (by kernel_rfl) (fun _ _ _ h => h) (Or.inl ⟨by rfl, ?_⟩) (by assumption) (fun hNew => ?_)
    rotate_left
    · intro w _
      go_simp
      try with_reducible rfl
    clear hHeld
    have hHeld := hNew
    clear hNew
    try simp only [List.getElem_toArray, List.getElem_cons_succ, List.getElem_cons_zero, Act.put, List.setIfInBounds_toArray, List.set_cons_zero, List.set_cons_succ]
    refine wpAnyL_take (i := 4) (oi := _) (v := ?_) rfl (by kernel_rfl) (by kernel_rfl) (by kernel_rfl) (by kernel_rfl) (by kernel_rfl) (fun _ _ _ h => h) (Or.inl ⟨by rfl, ?_⟩) (by assumption) (fun hNew => ?_)
    rotate_left
    · intro w _
      go_simp
      try with_reducible rfl
    clear hHeld
    have hHeld := hNew
    clear hNew
    try simp only [List.getElem_toArray, List.getElem_cons_succ, List.getElem_cons_zero, Act.put, List.setIfInBounds_toArray, List.set_cons_zero, List.set_cons_succ]
    refine wpAnyL_take (i := 5) (oi := _) (v := ?_) rfl (by kernel_rfl) (by kernel_rfl) (by kernel_rfl) (by kernel_rfl) (by kernel_rfl) (fun _ _ _ h => h) (Or.inl ⟨by rfl, ?_⟩) (by assumption) (fun hNew => ?_)
    rotate_left
    · intro w _
      go_simp
      try with_reducible rfl
    clear hHeld
    have hHeld := hNew
    clear hNew
    try simp only [List.getElem_toArray, List.getElem_cons_succ, List.getElem_cons_zero, Act.put, List.setIfInBounds_toArray, List.set_cons_zero, List.set_cons_succ]
    refine wpAnyL_load 0 (i := 3) (oi := _) (v := ?_) rfl rfl (by kernel_rfl) (by kernel_rfl) (by kernel_rfl) (by kernel_rfl) (by kernel_rfl) (by kernel_rfl) (fun _ _ _ h => h) (Or.inl ⟨by rfl, ?_⟩) (by assumption) (fun hNew => ?_)
    rotate_left
    · intro w hSw
      (try dsimp only at hSw)
      go_simp
      try with_reducible rfl
    clear hHeld
    have hHeld := hNew
    clear hNew
    try simp only [List.getElem_toArray, List.getElem_cons_succ, List.getElem_cons_zero, Act.put, List.setIfInBounds_toArray, List.set_cons_zero, List.set_cons_succ]
    refine wpAnyL_ready (rs := [6]) (by kernel_rfl) (by simp) ?_
    refine AllReadyL.cons (o := _) rfl (fun K hK => ?_) AllReadyL.nil
    try simp only [List.getElem_toArray, List.getElem_cons_succ, List.getElem_cons_zero]
    go_simp
    refine (rcopy_any (.slice a 64 cap) b w6.drew (hb6.chg (by exact (Chg.refl [] w6).drew) (by simp)) (by rw [HB.out]; omega)).mono ?_
    rintro e w7 ⟨v7, rfl, hb7, ho7, hc7⟩
    have hc7 : Chg [] w6 w7 := (by exact (Chg.refl [] w6).drew : Chg [] w6 w6.drew).trans hc7 (by simp)
    have H7 := Lib.hid (HH3.out.keep0 hc7)
    have p1 := hc7.cell p0 (by simp)
    have hd7 := H7.out.sec k g7 c7 b v7 (by rw [← HN3.out]; omega) HNV.out HB.out hb7.bytes (fun x hx => ⟨hb7.lt x hx, fun hm => by
      have h1 := ho7 x hx
      have h2 := HH3.out.lim x (HH3.out.sub x hm)
      have h3 : w6.drew.heap.size = w6.heap.size := rfl
      omega⟩)
    have HD7 : Hid (RDid w (w7.setCell ⟨g7, k, none⟩ v7) m V F (d.write (k : Int) b).2) := Lib.hid (by
      rw [HWE.out]
      have h1 : RDid w6 (w7.setCell ⟨g7, k, none⟩ v7) m V3 F3 { ({ d1 with since := d1.since ++ [(k, b)] } : DS) with now := upd ({ d1 with since := d1.since ++ [(k, b)] } : DS).now k b } := by
        obtain ⟨V8, F8, q1, q2, q3, q4⟩ := hd7
        refine ⟨V8, F8, q1, fun x hx => (q2 x hx).imp id (fun h => Nat.le_trans hc7.size h), fun x hx => ?_, (hc7.mono (by simp)).trans q4 (fun x hx => .inl hx)⟩
        rcases q3 x hx with h4 | h4
        · rcases List.mem_append.1 h4 with h4 | h4
          · exact .inl h4
          · have h5 := ho7 x (by simpa using h4)
            exact .inr h5
        · exact .inr (Nat.le_trans hc7.size h4)
      have h2 := HG.out _ _ (RDid.glue HG3.out.1 HG3.out.2.1 HG3.out.2.2 h1)
      rw [O1.out.2.2] at h2
      have h3 : upd d.now k b = upd d1.now k b := by rw [O1.out.2.1]
      rw [h3]
      exact h2)
    have gl : g7 < w7.heap.size := Nat.lt_of_lt_of_le (HH3.out.lim g7 (HH3.out.sub g7 (HH3.out.in.2.1 g7 (by rw [HNV.out]; rfl)))) hc7.size
    have gc : ∃ u, w7.cell? ⟨g7, k, none⟩ = some u := by
      have hr := H7.out.row.1
      rw [HNV.out] at hr
      have hl : k < NV3.length := by have := hr.1; rw [← HN3.out] at this; omega
      have := hr.cells (g := g7) rfl k NV3[k] (List.getElem?_eq_getElem hl)
      rw [add_none, Nat.zero_add] at this
      exact ⟨_, this⟩
    obtain ⟨u7, hu7⟩ := gc
    have gf : w7.frozen? ⟨g7, k, none⟩ = false := by
      have hr := H7.out.row.1
      rw [HNV.out] at hr
      rcases hr.2 with ⟨h1, _⟩ | ⟨g', cap', cur, hv, _, hg, _⟩
      · cases h1
      · obtain rfl : g7 = g' := by simp at hv; exact hv.1
        exact blk_frozen hg k
    obtain ⟨a7, c7', hv7⟩ := hb7.bytes.slice
    subst hv7
    clear hb7 ho7 hc7 hd7
    try go_wp2_with fail
    clear hHeld
    refine hK.out _ _ ?_ (fun hHeld => ?_)
    · exact (HoldC.cons (p1) HoldC.nil)
    clear hK K
    try simp only [List.getElem_toArray, List.getElem_cons_succ, List.getElem_cons_zero, Act.put, List.setIfInBounds_toArray, List.set_cons_zero, List.set_cons_succ]
    refine wpAnyL_take (i := 7) (oi := _) (v := ?_) rfl (by kernel_rfl) (by kernel_rfl) (by kernel_rfl) (by kernel_rfl) (by kernel_rfl) (fun _ _ _ h => h) (Or.inl ⟨by rfl, ?_⟩) (by assumption) (fun hNew => ?_)
    rotate_left
    · intro w _
      go_simp
      try with_reducible rfl
    clear hHeld
    have hHeld := hNew
    clear hNew
    try simp only [List.getElem_toArray, List.getElem_cons_succ, List.getElem_cons_zero, Act.put, List.setIfInBounds_toArray, List.set_cons_zero, List.set_cons_succ]
    refine wpAnyL_ready (rs := [8]) (by kernel_rfl) (by simp) ?_
    refine AllReadyL.cons (o := _) rfl (fun K hK => ?_) AllReadyL.nil
    try simp only [List.getElem_toArray, List.getElem_cons_succ, List.getElem_cons_zero]
    go_simp
    clear hHeld
    refine hK.out _ _ ?_ (fun hHeld => ?_)
    · exact (HoldC.past (by kernel_rfl) HoldC.nil)
    clear hK K
    try simp only [List.getElem_toArray, List.getElem_cons_succ, List.getElem_cons_zero, Act.put, List.setIfInBounds_toArray, List.set_cons_zero, List.set_cons_succ]
    refine wpAnyL_done (by kernel_rfl) ?_ _
    clear hHeld
    go_wp2
    go_ret
    exact ⟨by rw [HWE.out]; rfl, HD7.out⟩
end Go.Proofs.YtbkajnjboipbhaaGreatDoor.W

/- The reference's disk: Write of whatever disk, Sync, Image. -/
namespace Go.Proofs.YtbkajnjboipbhaaGreatDoor.W
open Go.RowKit
set_option linter.unusedVariables false
set_option linter.unusedSimpArgs false

set_option maxHeartbeats 4000000 in
set_option maxRecDepth 100000 in
theorem rwrite_dead (m : Nat) (V F : List Nat) (d : DS) (k : Int) (v : Value) (b : List UInt8) (w : World) (h : RDiskAt w m V F d) (hd : d.dead = true) :
    Calls Tryz.prog 82 #[.pointer (some ⟨m, 0, none⟩), .int .i64 k, v] w fun e w' => e = .returned (.int .i64 (d.write k b).1) ∧ RDid w w' m V F (d.write k b).2 := by
  have HF := Lib.hid (RDid.same h)
  obtain ⟨nv, lv, av, wv, NV, LV, AV, WV, H⟩ := h
  have c6 := blk_cell H.head 6 _ rfl
  have c6' : w.cell? ⟨m, 6, none⟩ = some (.bool true) := by rw [← hd]; exact c6
  have HW : Hid (d.write k b = (14, d)) := Lib.hid (by unfold DS.write; rw [if_pos hd])
  rw [HW.out]
  clear H c6 hd
  go_enter Tryz.func82, Tryz.ntmps82
  go_wp2
  go_ret
  exact ⟨rfl, HF.out⟩
theorem rwrite_any (m : Nat) (V F : List Nat) (d : DS) (k : Nat) (v : Value) (b : List UInt8) (w : World) (h : RDiskAt w m V F d) (ho : d.ops ≤ 1000000000) (hw : d.since.length ≤ 1000000) (hk : k < d.n) (hb : b.length = 64)
    (hv : BytesAt w v b) (hvo : ∀ x, v.ownBlock = some x → x ∉ V) :
    Calls Tryz.prog 82 #[.pointer (some ⟨m, 0, none⟩), .int .i64 (k : Int), v] w fun e w' => e = .returned (.int .i64 (d.write (k : Int) b).1) ∧ RDid w w' m V F (d.write (k : Int) b).2 := by
  by_cases hd : d.dead = true
  · exact rwrite_dead m V F d k v b w h hd
  · obtain ⟨a, cap, rfl⟩ := hv.slice
    rw [hb] at hv hvo ⊢
    exact rwrite_ok m V F d k a cap b w h ho hw (by simpa using hd) hk hb hv hvo
theorem RDiskOk.form {w : World} {m : Nat} {V F : List Nat} {d : DS} {nv lv av wv : Value} {NV LV AV WV : List Value} (h : RDiskOk w m V F d nv lv av wv NV LV AV WV) (hn : 0 < d.n) :
    (∃ g cap, nv = .slice (some ⟨g, 0, none⟩) d.n cap) ∧ ∃ g cap, lv = .slice (some ⟨g, 0, none⟩) d.n cap := by
  constructor
  · rcases h.row.1.2 with ⟨_, h0⟩ | ⟨g, cap, cur, h1, _⟩
    · omega
    · exact ⟨g, cap, h1⟩
  · rcases h.row.2.1.2 with ⟨_, h0⟩ | ⟨g, cap, cur, h1, _⟩
    · omega
    · exact ⟨g, cap, h1⟩
theorem own_cell {w : World} {base e g n cap : Nat} {xs : List Value} (h : w.ownsRow base e 1 (.slice (some ⟨g, 0, none⟩) n cap) n xs) (k : Nat) (hk : k < n) : xs.length = n ∧ w.cell? ⟨g, k, none⟩ = some (xs.getD k undef) ∧ w.frozen? ⟨g, k, none⟩ = false ∧ g < w.heap.size := by
  have hl : xs.length = n := by have := h.1; omega
  refine ⟨hl, ?_, ?_, (World.ownsRow.lt h g rfl).2⟩
  · have := h.cells (g := g) rfl k xs[k] (List.getElem?_eq_getElem (by omega))
    rw [add_none, Nat.zero_add] at this
    rw [this, List.getD_eq_getElem?_getD, List.getElem?_eq_getElem (by omega)]
    rfl
  · rcases h.2 with ⟨h1, _⟩ | ⟨g', cap', cur, hv, _, hg, _⟩
    · cases h1
    · obtain rfl : g = g' := by simp at hv; exact hv.1
      exact blk_frozen hg k

set_option maxHeartbeats 8000000 in
set_option maxRecDepth 100000 in
theorem rsync_any (m : Nat) (V F : List Nat) (d : DS) (w : World) (h : RDiskAt w m V F d) (ho : d.ops ≤ 1000000000) :
    Calls Tryz.prog 83 #[.pointer (some ⟨m, 0, none⟩)] w fun e w' => e = .returned (.int .i64 (d.sync).1) ∧ RDid w w' m V F (d.sync).2 := by
  have CO := Lib.hid (rop_any m V F d w h ho)
  have HF := Lib.hid (RDid.same h)
  obtain ⟨nv, lv, av, wv, NV, LV, AV, WV, H⟩ := h
  have c6 := blk_cell H.head 6 _ rfl
  clear H
  by_cases hd : d.dead = true
  · have c6' : w.cell? ⟨m, 6, none⟩ = some (.bool true) := by rw [← hd]; exact c6
    have HS : Hid (d.sync = (14, d)) := Lib.hid (by unfold DS.sync; rw [if_pos hd])
    rw [HS.out]
    clear c6 hd CO
    go_enter Tryz.func83, Tryz.ntmps83
    go_wp2
    go_ret
    exact ⟨rfl, HF.out⟩
  · have hd' : d.dead = false := by simpa using hd
    have c6' : w.cell? ⟨m, 6, none⟩ = some (.bool false) := by rw [← hd']; exact c6
    have HS : Hid (d.sync = if d.op.1 then (0, { d.op.2 with lasts := applied d.op.2.since d.op.2.lasts, since := [] }) else (14, d.op.2)) := Lib.hid (by unfold DS.sync; rw [if_neg hd])
    obtain ⟨q, hq⟩ : ∃ q, q = d.op.1 := ⟨_, rfl⟩
    obtain ⟨d1, hd1⟩ : ∃ d1, d1 = d.op.2 := ⟨_, rfl⟩
    rw [← hq, ← hd1] at HS
    rw [← hq, ← hd1] at CO
    clear c6 hd hd' HF hq hd1
    go_enter Tryz.func83, Tryz.ntmps83
    go_wp2_with fail
    refine CO.out.mono ?_
    rintro e w1 ⟨rfl, hr1⟩
    have HR1 := Lib.hid hr1
    clear hr1 CO
    cases q
    · simp only [Bool.false_eq_true, if_false] at HS
      go_wp2
      go_ret
      rw [HS.out]
      exact ⟨rfl, HR1.out⟩
    · simp only [if_true] at HS
      obtain ⟨n, hn⟩ : ∃ n, n = d1.n := ⟨_, rfl⟩
      have HN := Lib.hid hn
      have hfew : n ≤ 4160 := by
        obtain ⟨_, _, ⟨_, _, _, _, _, _, _, _, H⟩, _⟩ := HR1.out
        rw [hn]; exact H.few
      clear hn c6'
      go_wp2_with fail
      go_loopg [3] n (fun g' s3 wr => ∃ (i : Nat), s3 = .int .i64 (i : Int) ∧ i ≤ n ∧ n ≤ i + g' ∧ Hid (RDid w wr m V F d1))
      case atStart => exact ⟨0, rfl, by omega, by omega, HR1⟩
      case round =>
        obtain ⟨i, rfl, hi, hig, HR⟩ := hrel
        clear HR1
        obtain ⟨V2, F2, ⟨nv, lv, av, wv, NV, LV, AV, WV, H⟩, hV2, hF2, hc2⟩ := HR.out
        have H0 := Lib.hid H
        have HG := Lib.hid (And.intro hV2 (And.intro hF2 hc2))
        have p0 := blk_cell H.head 0 _ rfl
        have p1 := blk_cell H.head 1 _ rfl
        by_cases hlt : i < n
        · obtain ⟨⟨gn, cn, hnv⟩, gl, cl, hlv⟩ := H.form (by rw [← HN.out]; omega)
          have hn1 := H.row.1
          have hl1 := H.row.2.1
          rw [hnv] at hn1
          rw [hlv] at hl1
          obtain ⟨hNl, k0, _, _⟩ := own_cell hn1 i (by rw [← HN.out]; exact hlt)
          obtain ⟨hLl, k1, k2, k3⟩ := own_cell hl1 i (by rw [← HN.out]; exact hlt)
          obtain ⟨b1, b2, b3⟩ := H.now i (by rw [← HN.out]; exact hlt)
          have e0 : wr.cell? ⟨m, 0, none⟩ = some (.slice (some ⟨gn, 0, none⟩) n cn) := by rw [HN.out, ← hnv]; exact p0
          have e1 : wr.cell? ⟨m, 1, none⟩ = some (.slice (some ⟨gl, 0, none⟩) n cl) := by rw [HN.out, ← hlv]; exact p1
          obtain ⟨ax, cx, hx⟩ := b2.slice
          rw [b1] at hx
          rw [hx] at k0 b2
          have B2 := Lib.hid (And.intro b1 b2)
          have HLV := Lib.hid hlv
          have hiz : (i : Int) < (n : Int) := by omega
          have hiz0 : (0 : Int) ≤ (i : Int) := by omega
          have hiz1 : (i : Int).toNat = i := by omega
          have K3 := Lib.hid (And.intro k2 (And.intro k3 (And.intro k1 hLl)))
          clear H hV2 hF2 hc2 p0 p1 hnv hlv hn1 hl1 hNl hLl b1 b2 b3 hx k1 k2 k3
          go_wp2_with fail
          refine wp_region_L [(14, fun w' => w'.cell? ⟨m, 1, none⟩ = some (.slice (some ⟨gl, 0, none⟩) n cl)), (14, fun w' => w'.cell? ⟨m, 0, none⟩ = some (.slice (some ⟨gn, 0, none⟩) n cn)), (14, fun w' => w'.cell? ⟨gn, i, none⟩ = some (.slice ax 64 cx))] (by kernel_rfl) ?_ (fun hHeld => ?_)
          · exact (HoldC.cons (e1) (HoldC.cons (e0) (HoldC.cons (k0) HoldC.nil)))
          refine wpAnyL_take (i := 0) (oi := _) (v := ?_) rfl (by kernel_rfl) (by kernel_rfl) (by kernel_rfl) (by kernel_rfl) (by kernel_rfl) (fun _ _ _ h => h) (Or.inl ⟨by rfl, ?_⟩) (by assumption) (fun hNew => ?_)
          rotate_left
          · intro w _
            go_simp
            try with_reducible rfl
          clear hHeld
          have hHeld := hNew
          clear hNew
          try simp only [List.getElem_toArray, List.getElem_cons_succ, List.getElem_cons_zero, Act.put, List.setIfInBounds_toArray, List.set_cons_zero, List.set_cons_succ]
          refine wpAnyL_take (i := 1) (oi := _) (v := ?_) rfl (by kernel_rfl) (by kernel_rfl) (by kernel_rfl) (by kernel_rfl) (by kernel_rfl) (fun _ _ _ h => h) (Or.inl ⟨by rfl, ?_⟩) (by assumption) (fun hNew => ?_)
          rotate_left
          · intro w _
            go_simp
            try with_reducible rfl
          clear hHeld
          have hHeld := hNew
          clear hNew
          try simp only [List.getElem_toArray, List.getElem_cons_succ, List.getElem_cons_zero, Act.put, List.setIfInBounds_toArray, List.set_cons_zero, List.set_cons_succ]
          refine wpAnyL_take (i := 2) (oi := _) (v := ?_) rfl (by kernel_rfl) (by kernel_rfl) (by kernel_rfl) (by kernel_rfl) (by kernel_rfl) (fun _ _ _ h => h) (Or.inl ⟨by rfl, ?_⟩) (by assumption) (fun hNew => ?_)
          rotate_left
          · intro w _
            go_simp
            try with_reducible rfl
          clear hHeld
          have hHeld := hNew
          clear hNew
          try simp only [List.getElem_toArray, List.getElem_cons_succ, List.getElem_cons_zero, Act.put, List.setIfInBounds_toArray, List.set_cons_zero, List.set_cons_succ]
          refine wpAnyL_take (i := 4) (oi := _) (v := ?_) rfl (by kernel_rfl) (by kernel_rfl) (by kernel_rfl) (by kernel_rfl) (by kernel_rfl) (fun _ _ _ h => h) (Or.inl ⟨by rfl, ?_⟩) (by assumption) (fun hNew => ?_)
          rotate_left
          · intro w _
            go_simp
            try with_reducible rfl
          clear hHeld
          have hHeld := hNew
          clear hNew
          try simp only [List.getElem_toArray, List.getElem_cons_succ, List.getElem_cons_zero, Act.put, List.setIfInBounds_toArray, List.set_cons_zero, List.set_cons_succ]
          refine wpAnyL_take (i := 5) (oi := _) (v := ?_) rfl (by kernel_rfl) (by kernel_rfl) (by kernel_rfl) (by kernel_rfl) (by kernel_rfl) (fun _ _ _ h => h) (Or.inl ⟨by rfl, ?_⟩) (by assumption) (fun hNew => ?_)
          rotate_left
          · intro w _
            go_simp
            try with_reducible rfl
          clear hHeld
          have hHeld := hNew
          clear hNew
          try simp only [List.getElem_toArray, List.getElem_cons_succ, List.getElem_cons_zero, Act.put, List.setIfInBounds_toArray, List.set_cons_zero, List.set_cons_succ]
          refine wpAnyL_take (i := 6) (oi := _) (v := ?_) rfl (by kernel_rfl) (by kernel_rfl) (by kernel_rfl) (by kernel_rfl) (by kernel_rfl) (fun _ _ _ h => h) (Or.inl ⟨by rfl, ?_⟩) (by assumption) (fun hNew => ?_)
          rotate_left
          · intro w _
            go_simp
            try with_reducible rfl
          clear hHeld
          have hHeld := hNew
          clear hNew
          try simp only [List.getElem_toArray, List.getElem_cons_succ, List.getElem_cons_zero, Act.put, List.setIfInBounds_toArray, List.set_cons_zero, List.set_cons_succ]
          refine wpAnyL_take (i := 7) (oi := _) (v := ?_) rfl (by kernel_rfl) (by kernel_rfl) (by kernel_rfl) (by kernel_rfl) (by kernel_rfl) (fun _ _ _ h => h) (Or.inl ⟨by rfl, ?_⟩) (by assumption) (fun hNew => ?_)
          rotate_left
          · intro w _
            go_simp
            try with_reducible rfl
          clear hHeld
          have hHeld := hNew
          clear hNew
          try simp only [List.getElem_toArray, List.getElem_cons_succ, List.getElem_cons_zero, Act.put, List.setIfInBounds_toArray, List.set_cons_zero, List.set_cons_succ]
          refine wpAnyL_take (i := 9) (oi := _) (v := ?_) rfl (by kernel_rfl) (by kernel_rfl) (by kernel_rfl) (by kernel_rfl) (by kernel_rfl) (fun _ _ _ h => h) (Or.inl ⟨by rfl, ?_⟩) (by assumption) (fun hNew => ?_)
          rotate_left
          · intro w _
            go_simp
            try with_reducible rfl
          clear hHeld
          have hHeld := hNew
          clear hNew
          try simp only [List.getElem_toArray, List.getElem_cons_succ, List.getElem_cons_zero, Act.put, List.setIfInBounds_toArray, List.set_cons_zero, List.set_cons_succ]
          refine wpAnyL_load 0 (i := 3) (oi := _) (v := ?_) rfl rfl (by kernel_rfl) (by kernel_rfl) (by kernel_rfl) (by kernel_rfl) (by kernel_rfl) (by kernel_rfl) (fun _ _ _ h => h) (Or.inl ⟨by rfl, ?_⟩) (by assumption) (fun hNew => ?_)
          rotate_left
          · intro w hSw
            (try dsimp only at hSw)
            go_simp
            try with_reducible rfl
          clear hHeld
          have hHeld := hNew
          clear hNew
          try simp only [List.getElem_toArray, List.getElem_cons_succ, List.getElem_cons_zero, Act.put, List.setIfInBounds_toArray, List.set_cons_zero, List.set_cons_succ]
          refine wpAnyL_load 1 (i := 8) (oi := _) (v := ?_) rfl rfl (by kernel_rfl) (by kernel_rfl) (by kernel_rfl) (by kernel_rfl) (by kernel_rfl) (by kernel_rfl) (fun _ _ _ h => h) (Or.inl ⟨by rfl, ?_⟩) (by assumption) (fun hNew => ?_)
          rotate_left
          · intro w hSw
            (try dsimp only at hSw)
            go_simp
            try with_reducible rfl
          clear hHeld
          have hHeld := hNew
          clear hNew
          try simp only [List.getElem_toArray, List.getElem_cons_succ, List.getElem_cons_zero, Act.put, List.setIfInBounds_toArray, List.set_cons_zero, List.set_cons_succ]
          refine wpAnyL_take (i := 10) (oi := _) (v := ?_) rfl (by kernel_rfl) (by kernel_rfl) (by kernel_rfl) (by kernel_rfl) (by kernel_rfl) (fun _ _ _ h => h) (Or.inl ⟨by rfl, ?_⟩) (by assumption) (fun hNew => ?_)
          rotate_left
          · intro w _
            go_simp
            try with_reducible rfl
          clear hHeld
          have hHeld := hNew
          clear hNew
          try simp only [List.getElem_toArray, List.getElem_cons_succ, List.getElem_cons_zero, Act.put, List.setIfInBounds_toArray, List.set_cons_zero, List.set_cons_succ]
          refine wpAnyL_load 2 (i := 11) (oi := _) (v := ?_) rfl rfl (by kernel_rfl) (by kernel_rfl) (by kernel_rfl) (by kernel_rfl) (by kernel_rfl) (by kernel_rfl) (fun _ _ _ h => h) (Or.inl ⟨by rfl, ?_⟩) (by assumption) (fun hNew => ?_)
          rotate_left
          · intro w hSw
            (try dsimp only at hSw)
            go_simp
            try with_reducible rfl
          clear hHeld
          have hHeld := hNew
          clear hNew
          try simp only [List.getElem_toArray, List.getElem_cons_succ, List.getElem_cons_zero, Act.put, List.setIfInBounds_toArray, List.set_cons_zero, List.set_cons_succ]
          refine wpAnyL_ready (rs := [12]) (by kernel_rfl) (by simp) ?_
          refine AllReadyL.cons (o := _) rfl (fun K hK => ?_) AllReadyL.nil
          try simp only [List.getElem_toArray, List.getElem_cons_succ, List.getElem_cons_zero]
          go_simp
          refine (rcopy_any (.slice ax 64 cx) (d1.now i) wr.drew (B2.out.2.chg (by exact (Chg.refl [] wr).drew) (by simp)) (by rw [B2.out.1]; omega)).mono ?_
          rintro e w4 ⟨v4, rfl, hb4, ho4, hc4⟩
          have hc4 : Chg [] wr w4 := (by exact (Chg.refl [] wr).drew : Chg [] wr wr.drew).trans hc4 (by simp)
          have q1 := hc4.cell e1 (by simp)
          have q0 := hc4.cell e0 (by simp)
          have qk := hc4.cell k0 (by simp)
          obtain ⟨r1, r2⟩ := (H0.out.keep0 hc4).last i gl cl v4 (by rw [← HN.out]; exact hlt) HLV.out hb4.bytes.no8
          have HR5 : Hid (RDid w (w4.setCell ⟨gl, i, none⟩ v4) m V F d1) := Lib.hid (RDid.glue HG.out.1 HG.out.2.1 HG.out.2.2 ⟨V2, F2, ⟨_, _, _, _, _, _, _, _, r1⟩, fun x hx => .inl hx, fun x hx => .inl hx, (hc4.mono (by simp)).trans r2 (fun x hx => .inl hx)⟩)
          have s1 := hc4.cell K3.out.2.2.1 (by simp)
          have hglt : gl < w4.heap.size := Nat.lt_of_lt_of_le K3.out.2.1 hc4.size
          have hfro : w4.frozen? ⟨gl, i, none⟩ = false := by
            have hr := (H0.out.keep0 hc4).row.2.1
            rw [HLV.out] at hr
            exact (own_cell hr i (by rw [← HN.out]; exact hlt)).2.2.1
          obtain ⟨a4, c4, hv4⟩ := hb4.bytes.slice
          subst hv4
          clear hb4 ho4 hc4 r1 r2
          try go_wp2_with fail
          clear hHeld
          refine hK.out _ _ ?_ (fun hHeld => ?_)
          · exact (HoldC.cons (q1) (HoldC.cons (q0) (HoldC.cons (qk) HoldC.nil)))
          clear hK K
          try simp only [List.getElem_toArray, List.getElem_cons_succ, List.getElem_cons_zero, Act.put, List.setIfInBounds_toArray, List.set_cons_zero, List.set_cons_succ]
          refine wpAnyL_take (i := 13) (oi := _) (v := ?_) rfl (by kernel_rfl) (by kernel_rfl) (by kernel_rfl) (by kernel_rfl) (by kernel_rfl) (fun _ _ _ h => h) (Or.inl ⟨by rfl, ?_⟩) (by assumption) (fun hNew => ?_)
          rotate_left
          · intro w _
            go_simp
            try with_reducible rfl
          clear hHeld
          have hHeld := hNew
          clear hNew
          try simp only [List.getElem_toArray, List.getElem_cons_succ, List.getElem_cons_zero, Act.put, List.setIfInBounds_toArray, List.set_cons_zero, List.set_cons_succ]
          refine wpAnyL_ready (rs := [14]) (by kernel_rfl) (by simp) ?_
          refine AllReadyL.cons (o := _) rfl (fun K hK => ?_) AllReadyL.nil
          try simp only [List.getElem_toArray, List.getElem_cons_succ, List.getElem_cons_zero]
          go_simp
          clear hHeld
          refine hK.out _ _ ?_ (fun hHeld => ?_)
          · exact (HoldC.past (by kernel_rfl) (HoldC.past (by kernel_rfl) (HoldC.past (by kernel_rfl) HoldC.nil)))
          clear hK K
          try simp only [List.getElem_toArray, List.getElem_cons_succ, List.getElem_cons_zero, Act.put, List.setIfInBounds_toArray, List.set_cons_zero, List.set_cons_succ]
          refine wpAnyL_done (by kernel_rfl) ?_ _
          clear hHeld
          clear q1 q0 qk s1 hglt hfro e0 e1 k0
          generalize w4.setCell ⟨gl, i, none⟩ (.slice a4 (d1.now i).length c4) = w5 at *
          go_wp2
          go_roundg (gk - 1)
          case measure => omega
          case rel => exact ⟨i + 1, by go_num, by omega, by omega, HR5⟩
        · have hnv0 : ∃ a cap, nv = .slice a n cap := by
            rcases H.row.1.2 with ⟨h1, h0⟩ | ⟨g, cap, cur, h1, _⟩
            · exact ⟨none, 0, by rw [h1, HN.out]; simp; exact h0.symm⟩
            · exact ⟨_, cap, by rw [h1, HN.out]⟩
          obtain ⟨a0, c0, hnv⟩ := hnv0
          have e0 : wr.cell? ⟨m, 0, none⟩ = some (.slice a0 n c0) := by rw [← hnv]; exact p0
          have hiz : ¬ (i : Int) < (n : Int) := by omega
          have HC : Hid (RDid w ((wr.setCell ⟨m, 2, none⟩ (.slice none 0 0)).setCell ⟨m, 3, none⟩ (.slice none 0 0)) m V F { d1 with lasts := applied d1.since d1.lasts, since := [] }) := Lib.hid (RDid.glue hV2 hF2 hc2 (H.calm _))
          have p2 := blk_cell H.head 2 _ rfl
          have f2 := blk_frozen H.head 2
          have p3 := blk_cell H.head 3 _ rfl
          have f3 := blk_frozen H.head 3
          have hml := blk_lt H.head
          clear H hV2 hF2 hc2 p0 p1 hnv
          go_wp2
          go_ret
          exact ⟨by rw [HS.out]; rfl, by rw [HS.out]; exact HC.out⟩

set_option maxHeartbeats 8000000 in
set_option maxRecDepth 100000 in
theorem rimage_any (m : Nat) (V F : List Nat) (d : DS) (w : World) (h : RDiskAt w m V F d) :
    Calls Tryz.prog 46 #[.pointer (some ⟨m, 0, none⟩)] w fun e w' => ∃ v, e = .returned v ∧ BRow w' v (flat d.n d.now) ∧ (∀ g, v.ownBlock = some g → w.heap.size ≤ g) ∧ Chg [] w w' := by
  obtain ⟨nv, lv, av, wv, NV, LV, AV, WV, H⟩ := h
  have H0 := Lib.hid H
  have p0 := blk_cell H.head 0 _ rfl
  obtain ⟨n, hn⟩ : ∃ n, n = d.n := ⟨_, rfl⟩
  have HN := Lib.hid hn
  have hfew : n ≤ 4160 := by rw [hn]; exact H.few
  have hnv0 : ∃ a cap, nv = .slice a n cap := by
    rcases H.row.1.2 with ⟨h1, h0⟩ | ⟨g, cap, cur, h1, _⟩
    · exact ⟨none, 0, by rw [h1, HN.out]; simp; exact h0.symm⟩
    · exact ⟨_, cap, by rw [h1, HN.out]⟩
  obtain ⟨a0, c0, hnv⟩ := hnv0
  have e0 : w.cell? ⟨m, 0, none⟩ = some (.slice a0 n c0) := by rw [← hnv]; exact p0
  have HNV := Lib.hid hnv
  clear H p0 hn hnv
  go_enter Tryz.func46, Tryz.ntmps46
  go_wp2_with fail
  go_loopg [3, 4] n (fun g' s3 s4 wr => ∃ (k : Nat) (a3 : Option Addr) (c3 : Nat), s3 = .slice a3 (flat k d.now).length c3 ∧ s4 = .int .i64 k ∧ k ≤ n ∧ n ≤ k + g' ∧ Hid (BRow wr s3 (flat k d.now) ∧ (∀ g, s3.ownBlock = some g → w.heap.size ≤ g) ∧ Chg [] w wr))
  case atStart => exact ⟨0, none, 0, rfl, rfl, by omega, by omega, Lib.hid ⟨BRow.nil _, by simp [Value.ownBlock], Chg.refl _ _⟩⟩
  case round =>
    obtain ⟨k, a3, c3, rfl, rfl, hk, hkg, HR⟩ := hrel
    obtain ⟨s3, hs3⟩ : ∃ s3, s3 = Value.slice a3 (flat k d.now).length c3 := ⟨_, rfl⟩
    have HS3 := Lib.hid hs3
    rw [← hs3] at HR
    clear hs3
    have e0r := HR.out.2.2.cell e0 (by simp)
    by_cases hlt : k < n
    · have Hr := H0.out.keep0 HR.out.2.2
      obtain ⟨⟨gn, cn, hnv2⟩, _⟩ := Hr.form (by rw [← HN.out]; omega)
      have hn1 := Hr.row.1
      rw [hnv2] at hn1
      obtain ⟨hNl, k0, _, _⟩ := own_cell hn1 k (by rw [← HN.out]; exact hlt)
      obtain ⟨b1, b2, b3⟩ := Hr.now k (by rw [← HN.out]; exact hlt)
      obtain ⟨rfl, rfl⟩ : a0 = some ⟨gn, 0, none⟩ ∧ c0 = cn := by
        have := HNV.out.symm.trans hnv2
        rw [HN.out] at this
        simpa using this
      obtain ⟨ax, cx, hx⟩ := b2.slice
      rw [hx] at k0 b2
      have B2 := Lib.hid b2
      have hkz : (k : Int) < (n : Int) := by omega
      have hkz0 : (0 : Int) ≤ (k : Int) := by omega
      have hkz1 : (k : Int).toNat = k := by omega
      have hsz : Hid ((flat k d.now).length + (d.now k).length ≤ 140737488355328) := Lib.hid (by
        rw [flat_len k _ (fun i hi => (Hr.now i (by rw [← HN.out]; omega)).1), b1]; omega)
      clear Hr hnv2 hn1 hNl b1 b2 b3 hx
      go_wp2_with (at_builtin; refine wpList_appB rfl (.tmp 14) (.tmp 21) rfl s3 (flat k d.now) HS3.out.symm HR.out.1 (.slice ax (d.now k).length cx) (d.now k) rfl B2.out hsz.out ?_; intro v1 w2 ho1 hg1 hat1)
      have HO1 := Lib.hid ho1
      have HG1 := Lib.hid hg1
      have HA1 := Lib.hid hat1
      clear ho1 hg1 hat1
      go_roundg (gk - 1)
      case measure => omega
      case rel =>
        have hr : BRow w2 v1 (flat (k + 1) d.now) := by rw [flat_succ]; exact HO1.out
        obtain ⟨a, c, he, _⟩ := hr.bytes
        refine ⟨k + 1, a, c, he, by go_num, by omega, by omega, Lib.hid ⟨hr, fun g hg => ?_, HR.out.2.2.grown HG1.out (fun g hg => .inr (HR.out.2.1 g hg))⟩⟩
        rcases HA1.out with h | h
        · exact HR.out.2.1 g (by rw [← h]; exact hg)
        · rw [h] at hg
          have h1 := HR.out.2.2.size
          have h2 : wr.heap.size = g := by simpa using hg
          omega
    · have hkn : k = n := by omega
      have hkz : ¬ (k : Int) < (n : Int) := by omega
      have HK : Hid (flat k d.now = flat d.n d.now) := Lib.hid (by rw [hkn, HN.out])
      clear hkn
      go_wp2
      go_ret
      exact ⟨s3, by rw [HS3.out]; rfl, by rw [← HK.out]; exact HR.out.1, HR.out.2.1, HR.out.2.2⟩
end Go.Proofs.YtbkajnjboipbhaaGreatDoor.W

/- The reference's slots in memory. -/
namespace Go.Proofs.YtbkajnjboipbhaaGreatDoor.W
open Go.RowKit
set_option linter.unusedVariables false
set_option linter.unusedSimpArgs false

def qcell (x : SRow × Value) : List Value := [.bool x.1.used, x.2, .int .i64 (x.1.n : Int)]
def qcells (R : List (SRow × Value)) : List Value := R.flatMap qcell
theorem qcells_at : ∀ (R : List (SRow × Value)) (i j : Nat) (x : SRow × Value), R[i]? = some x → j < 3 → (qcells R)[i * 3 + j]? = (qcell x)[j]?
  | [], i, j, x, h, _ => by simp at h
  | y :: R, i, j, x, h, hj => by
    have e : qcells (y :: R) = qcell y ++ qcells R := rfl
    have hy : (qcell y).length = 3 := rfl
    rw [e]
    cases i with
    | zero =>
      simp at h; subst h
      rw [Nat.zero_mul, Nat.zero_add, List.getElem?_append_left (by omega)]
    | succ i =>
      rw [List.getElem?_append_right (by omega), hy, show (i + 1) * 3 + j - 3 = i * 3 + j by omega]
      exact qcells_at R i j x (by simpa using h) hj
theorem qcells_app (R : List (SRow × Value)) (x : SRow × Value) : qcells (R ++ [x]) = qcells R ++ qcell x := by simp [qcells]
theorem qcells_set : ∀ (R : List (SRow × Value)) (i : Nat) (x : SRow × Value), i < R.length → qcells (R.set i x) = (((qcells R).set (i * 3) (.bool x.1.used)).set (i * 3 + 1) x.2).set (i * 3 + 2) (.int .i64 (x.1.n : Int))
  | [], i, x, h => by simp at h
  | y :: R, i, x, h => by
    have e : ∀ z, qcells (z :: R) = qcell z ++ qcells R := fun _ => rfl
    cases i with
    | zero => rw [List.set_cons_zero, e, e]; rfl
    | succ i =>
      have ih := qcells_set R i x (by simpa using h)
      have e2 : qcells (y :: R.set i x) = qcell y ++ qcells (R.set i x) := rfl
      rw [List.set_cons_succ, e2, ih, e]
      have h3 : (qcell y).length = 3 := rfl
      rw [List.set_append_right _ _ (by omega), List.set_append_right _ _ (by omega), List.set_append_right _ _ (by omega), h3, show (i + 1) * 3 - 3 = i * 3 by omega, show (i + 1) * 3 + 1 - 3 = i * 3 + 1 by omega, show (i + 1) * 3 + 2 - 3 = i * 3 + 2 by omega]
theorem qcells_no8 {w : World} : ∀ (R : List (SRow × Value)), (∀ x ∈ R, BytesAt w x.2 x.1.key) → ∀ c ∈ qcells R, No8 c := by
  intro R hR c hc
  obtain ⟨x, hx, hc⟩ := List.mem_flatMap.1 hc
  simp only [qcell, List.mem_cons, List.mem_nil_iff, or_false] at hc
  rcases hc with rfl | rfl | rfl
  · exact no8_bool
  · exact (hR x hx).no8
  · exact no8_i64
def rowQ (rv : Value) (R : List (SRow × Value)) : RowD := ⟨125, 3, rv, R.length, qcells R⟩

/-- The reference's slots in block q over its disk in block m; W: what may be written; A: all their blocks. -/
structure RSlotsOk (w : World) (q m : Nat) (V F W A : List Nat) (s : SS) (rv : Value) (R : List (SRow × Value)) : Prop where
  obj : ObjAt w q 123 #[.pointer (some ⟨m, 0, none⟩), .int .i64 (s.first : Int), rv] [rowQ rv R]
  disk : RDiskAt w m V F s.d
  rows : R.map (·.1) = s.rows
  sep : ∀ x ∈ blks q [rowQ rv R], x ∉ F
  keys : ∀ x ∈ R, BytesAt w x.2 x.1.key ∧ ∀ g, x.2.ownBlock = some g → g ∈ A ∧ g ∉ W
  mem : W = V ++ blks q [rowQ rv R]
  no8 : ∀ x ∈ blks q [rowQ rv R], NoU8 w x
  aF : ∀ x ∈ F, x ∈ A
  aB : ∀ x ∈ blks q [rowQ rv R], x ∈ A
  lim : ∀ x ∈ A, x < w.heap.size
  ok : s.Ok
def RSlotsAt (w : World) (q m : Nat) (W A : List Nat) (s : SS) : Prop := ∃ V F rv R, RSlotsOk w q m V F W A s rv R
theorem RSlotsOk.sub {w : World} {q m : Nat} {V F W A : List Nat} {s : SS} {rv : Value} {R : List (SRow × Value)} (h : RSlotsOk w q m V F W A s rv R) : (∀ x ∈ V, x ∈ W) ∧ (∀ x ∈ blks q [rowQ rv R], x ∈ W) ∧ (∀ x ∈ W, x ∈ A) ∧ (∀ x ∈ W, NoU8 w x) ∧ (∀ x ∈ V, x ∈ F) := by
  obtain ⟨hl, hs, h8⟩ := h.disk.lim
  refine ⟨fun x hx => by rw [h.mem]; exact List.mem_append_left _ hx, fun x hx => by rw [h.mem]; exact List.mem_append_right _ hx, fun x hx => ?_, fun x hx => ?_, hs⟩
  · rw [h.mem] at hx
    rcases List.mem_append.1 hx with hx | hx
    · exact h.aF x (hs x hx)
    · exact h.aB x hx
  · rw [h.mem] at hx
    rcases List.mem_append.1 hx with hx | hx
    · exact h8 x hx
    · exact h.no8 x hx
theorem RSlotsOk.keep {w w' : World} {q m : Nat} {V F W A T : List Nat} {s : SS} {rv : Value} {R : List (SRow × Value)} (h : RSlotsOk w q m V F W A s rv R) (hc : Chg T w w') (ha : ∀ x ∈ A, x ∉ T) : RSlotsOk w' q m V F W A s rv R := by
  refine ⟨h.obj.keep hc (fun x hx => ha x (h.aB x hx)), h.disk.keep hc (fun x hx => ha x (h.aF x hx)), h.rows, h.sep, fun x hx => ?_, h.mem, fun x hx => (h.no8 x hx).keep (hc.block x (h.lim x (h.aB x hx)) (ha x (h.aB x hx))), h.aF, h.aB, fun x hx => Nat.lt_of_lt_of_le (h.lim x hx) hc.size, h.ok⟩
  obtain ⟨h1, h2⟩ := h.keys x hx
  exact ⟨h1.chg hc (fun k hk => ha k (h2 k hk).1), h2⟩
theorem RSlotsAt.keep {w w' : World} {q m : Nat} {W A T : List Nat} {s : SS} (h : RSlotsAt w q m W A s) (hc : Chg T w w') (ha : ∀ x ∈ A, x ∉ T) : RSlotsAt w' q m W A s := by
  obtain ⟨V, F, rv, R, h⟩ := h
  exact ⟨V, F, rv, R, h.keep hc ha⟩
theorem RSlotsAt.lim {w : World} {q m : Nat} {W A : List Nat} {s : SS} (h : RSlotsAt w q m W A s) : (∀ x ∈ A, x < w.heap.size) ∧ (∀ x ∈ W, x ∈ A) ∧ ∀ x ∈ W, NoU8 w x := by
  obtain ⟨V, F, rv, R, h⟩ := h
  exact ⟨h.lim, h.sub.2.2.1, h.sub.2.2.2.1⟩
/-- What doing with them leaves. -/
def RSid (w w' : World) (q m : Nat) (W A : List Nat) (s : SS) : Prop := ∃ W' A', RSlotsAt w' q m W' A' s ∧ (∀ x ∈ W', x ∈ W ∨ w.heap.size ≤ x) ∧ (∀ x ∈ A', x ∈ A ∨ w.heap.size ≤ x) ∧ Chg W w w'
theorem RSid.same {w : World} {q m : Nat} {W A : List Nat} {s : SS} (h : RSlotsAt w q m W A s) : RSid w w q m W A s := ⟨W, A, h, fun x hx => .inl hx, fun x hx => .inl hx, Chg.refl _ _⟩
theorem RSid.glue {w w1 w2 : World} {q m : Nat} {W A W1 A1 : List Nat} {s : SS} (hv : ∀ x ∈ W1, x ∈ W ∨ w.heap.size ≤ x) (hf : ∀ x ∈ A1, x ∈ A ∨ w.heap.size ≤ x) (hc : Chg W w w1) (h : RSid w1 w2 q m W1 A1 s) : RSid w w2 q m W A s := by
  obtain ⟨V2, F2, b1, b2, b3, b4⟩ := h
  refine ⟨V2, F2, b1, fun x hx => ?_, fun x hx => ?_, hc.trans b4 hv⟩
  · rcases b2 x hx with h | h
    · exact hv x h
    · exact .inr (Nat.le_trans hc.size h)
  · rcases b3 x hx with h | h
    · exact hf x h
    · exact .inr (Nat.le_trans hc.size h)
theorem RSid.pre {w0 w w' : World} {q m : Nat} {W A : List Nat} {s : SS} (hc : Chg [] w0 w) (h : RSid w w' q m W A s) : RSid w0 w' q m W A s := RSid.glue (fun x hx => .inl hx) (fun x hx => .inl hx) (hc.mono (by simp)) h
theorem RSid.post {w w1 w' : World} {q m : Nat} {W A : List Nat} {s : SS} (h : RSid w w1 q m W A s) (hc : Chg [] w1 w') : RSid w w' q m W A s := by
  obtain ⟨W1, A1, a1, a2, a3, a4⟩ := h
  exact ⟨W1, A1, a1.keep hc (by simp), a2, a3, a4.trans hc (by simp)⟩
theorem RSid.trans {w w1 w2 : World} {q m : Nat} {W A : List Nat} {s1 s2 : SS} (h1 : RSid w w1 q m W A s1) (h2 : ∀ W1 A1, RSlotsAt w1 q m W1 A1 s1 → RSid w1 w2 q m W1 A1 s2) : RSid w w2 q m W A s2 := by
  obtain ⟨V1, F1, a1, a2, a3, a4⟩ := h1
  exact RSid.glue a2 a3 a4 (h2 V1 F1 a1)
/-- The disk has been worked on. -/
theorem RSlotsOk.did {w w' : World} {q m : Nat} {V F W A : List Nat} {s : SS} {rv : Value} {R : List (SRow × Value)} {d : DS} (h : RSlotsOk w q m V F W A s rv R) (hd : RDid w w' m V F d) (hn : d.n = s.d.n) : RSid w w' q m W A { s with d := d } := by
  obtain ⟨V', F', b1, b2, b3, b4⟩ := hd
  obtain ⟨s1, s2, s3, s4, s5⟩ := h.sub
  have hbV : ∀ x ∈ blks q [rowQ rv R], x ∉ V := fun x hx hm => h.sep x hx (s5 x hm)
  have hsz := b4.size
  refine ⟨V' ++ blks q [rowQ rv R], A ++ F', ⟨V', F', rv, R, h.obj.keep b4 hbV, b1, h.rows, fun x hx hm => ?_, fun x hx => ?_, rfl, fun x hx => (h.no8 x hx).keep (b4.block x (h.obj.lim x hx) (hbV x hx)), fun x hx => List.mem_append_right _ hx, fun x hx => List.mem_append_left _ (h.aB x hx), fun x hx => ?_, ⟨by show s.first + 8 * s.rows.length ≤ d.n; rw [hn]; exact h.ok.room, h.ok.rows⟩⟩, fun x hx => ?_, fun x hx => ?_, b4.mono (fun x hx => .inl (s1 x hx))⟩
  · rcases b3 x hm with h1 | h1
    · exact h.sep x hx h1
    · have := h.obj.lim x hx; omega
  · obtain ⟨k1, k2⟩ := h.keys x hx
    refine ⟨k1.chg b4 (fun k hk hm => (k2 k hk).2 (s1 k hm)), fun g hg => ⟨List.mem_append_left _ (k2 g hg).1, fun hm => ?_⟩⟩
    rcases List.mem_append.1 hm with hm | hm
    · rcases b2 g hm with h1 | h1
      · exact (k2 g hg).2 (s1 g h1)
      · have := h.lim g (k2 g hg).1; omega
    · exact (k2 g hg).2 (s2 g hm)
  · rcases List.mem_append.1 hx with hx | hx
    · exact Nat.lt_of_lt_of_le (h.lim x hx) hsz
    · exact b1.lim.1 x hx
  · rcases List.mem_append.1 hx with hx | hx
    · exact (b2 x hx).imp (s1 x) id
    · exact .inl (s2 x hx)
  · rcases List.mem_append.1 hx with hx | hx
    · exact .inl hx
    · exact (b3 x hx).imp (h.aF x) id
theorem RSlotsOk.len {w : World} {q m : Nat} {V F W A : List Nat} {s : SS} {rv : Value} {R : List (SRow × Value)} (h : RSlotsOk w q m V F W A s rv R) : R.length = s.rows.length := by rw [← h.rows, List.length_map]
theorem RSlotsOk.few {w : World} {q m : Nat} {V F W A : List Nat} {s : SS} {rv : Value} {R : List (SRow × Value)} (h : RSlotsOk w q m V F W A s rv R) : s.first + 8 * s.rows.length ≤ s.d.n ∧ s.d.n ≤ 4160 := by
  obtain ⟨_, _, _, _, _, _, _, _, hd⟩ := h.disk
  exact ⟨h.ok.room, hd.few⟩
theorem RSlotsOk.row {w : World} {q m : Nat} {V F W A : List Nat} {s : SS} {rv : Value} {R : List (SRow × Value)} (h : RSlotsOk w q m V F W A s rv R) : w.ownsRow 0 125 3 rv R.length (qcells R) := h.obj.rows _ (List.mem_singleton.2 rfl)
theorem RSlotsOk.form {w : World} {q m : Nat} {V F W A : List Nat} {s : SS} {rv : Value} {R : List (SRow × Value)} (h : RSlotsOk w q m V F W A s rv R) : ∃ a cap, rv = .slice a s.rows.length cap ∧ s.rows.length ≤ cap := by
  rw [← h.len]
  rcases h.row.2 with ⟨h1, h2⟩ | ⟨g, cap, cur, h1, _, _, h3, h4, _⟩
  · exact ⟨none, 0, by rw [h1, h2], by omega⟩
  · exact ⟨_, cap, h1, h3⟩
/-- A row that is there. -/
theorem RSlotsOk.at {w : World} {q m : Nat} {V F W A : List Nat} {s : SS} {rv : Value} {R : List (SRow × Value)} (h : RSlotsOk w q m V F W A s rv R) (i : Nat) (hi : i < s.rows.length) :
    ∃ g cap kv, rv = .slice (some ⟨g, 0, none⟩) s.rows.length cap ∧ s.rows.length ≤ cap ∧ cap ≤ maxLen ∧ w.cell? ⟨g, i * 3, none⟩ = some (.bool (s.rows.getD i noRow).used) ∧
      w.cell? ⟨g, i * 3 + 1, none⟩ = some kv ∧ w.cell? ⟨g, i * 3 + 2, none⟩ = some (.int .i64 ((s.rows.getD i noRow).n : Int)) ∧ BytesAt w kv (s.rows.getD i noRow).key ∧ ∀ k, kv.ownBlock = some k → k ∈ A ∧ k ∉ W := by
  have hl := h.len
  have hr := h.row
  have hiR : i < R.length := by omega
  have hri : s.rows.getD i noRow = (R[i]).1 := by
    rw [← h.rows, List.getD_eq_getElem?_getD, List.getElem?_map, List.getElem?_eq_getElem hiR]; rfl
  rcases hr.2 with ⟨h1, h2⟩ | ⟨g, cap, cur, h1, _, _, h3, h4, _⟩
  · omega
  · subst h1
    have hcell : ∀ j, j < 3 → ∀ u, (qcell R[i])[j]? = some u → w.cell? ⟨g, i * 3 + j, none⟩ = some u := fun j hj u hu => by
      have := hr.cells (g := g) rfl (i * 3 + j) u (by rw [qcells_at R i j R[i] (List.getElem?_eq_getElem hiR) hj]; exact hu)
      rwa [add_none, Nat.zero_add] at this
    refine ⟨g, cap, (R[i]).2, by rw [hl], by omega, h4, ?_, ?_, ?_, ?_⟩
    · rw [hri]; exact hcell 0 (by omega) _ rfl
    · exact hcell 1 (by omega) _ rfl
    · rw [hri]; exact hcell 2 (by omega) _ rfl
    · rw [hri]; exact h.keys _ (List.getElem_mem hiR)
theorem RSlotsOk.there {w : World} {q m : Nat} {V F W A : List Nat} {s : SS} {rv : Value} {R : List (SRow × Value)} (h : RSlotsOk w q m V F W A s rv R) (i : Nat) (hi : i < s.rows.length) (g cap : Nat) (hrv : rv = .slice (some ⟨g, 0, none⟩) s.rows.length cap) : w.there g (i * 3) 3 := by
  have hl := h.len
  rcases h.row.2 with ⟨h1, h2⟩ | ⟨g', cap', cur, h1, _, hb, h3, h4, h5, _⟩
  · omega
  · rw [hrv] at h1
    obtain ⟨rfl, -, rfl⟩ : g = g' ∧ s.rows.length = R.length ∧ cap = cap' := by simpa using h1
    intro j hj
    have hlt : i * 3 + j < cur.size := by
      have : (i + 1) * 3 ≤ cap * 3 := Nat.mul_le_mul_right _ (by omega)
      omega
    exact ⟨by rw [blk_cell hb _ _ (Array.getElem?_eq_getElem hlt)]; rfl, blk_frozen hb _⟩
theorem NoU8.set3 {w : World} {g i : Nat} {a b c : Value} (h : NoU8 w g) (hl : g < w.heap.size) (ha : No8 a) (hb : No8 b) (hc : No8 c) : NoU8 (w.setCells g i [a, b, c]) g := by
  have s1 : (w.setCell ⟨g, i, none⟩ a).heap.size = w.heap.size := by simp [World.setCell]
  have s2 : ((w.setCell ⟨g, i, none⟩ a).setCell ⟨g, i + 1, none⟩ b).heap.size = w.heap.size := by simp [World.setCell]
  exact ((h.set hl ha).set (by rw [s1]; exact hl) hb).set (by rw [s2]; exact hl) hc
/-- A row is set. -/
theorem RSlotsOk.setRow {w : World} {q m : Nat} {V F W A : List Nat} {s : SS} {rv : Value} {R : List (SRow × Value)} {N : Nat} (h : RSlotsOk w q m V F W A s rv R) (i : Nat) (hi : i < s.rows.length) (g cap : Nat) (hrv : rv = .slice (some ⟨g, 0, none⟩) s.rows.length cap)
    (r : SRow) (kv : Value) (hk : BytesAt w kv r.key) (hkU : ∀ k, kv.ownBlock = some k → k < w.heap.size ∧ k ∉ W) (hkA : ∀ k, kv.ownBlock = some k → k ∉ A → N ≤ k) (hN : N ≤ w.heap.size) (hr : r.n ≤ 448 ∧ r.key.length ≤ 40) :
    ∃ A', RSlotsAt (w.setCells g (i * 3) [.bool r.used, kv, .int .i64 (r.n : Int)]) q m W A' { s with rows := s.rows.set i r } ∧ (∀ x ∈ A', x ∈ A ∨ N ≤ x) ∧ Chg W w (w.setCells g (i * 3) [.bool r.used, kv, .int .i64 (r.n : Int)]) := by
  have hl := h.len
  obtain ⟨s1, s2, s3, s4, s5⟩ := h.sub
  have hC : Chg [g] w (w.setCells g (i * 3) [.bool r.used, kv, .int .i64 (r.n : Int)]) := (Chg.refl _ _).setCells (.inl (by simp)) _
  have hob : rv.ownBlock = some g := by rw [hrv]; rfl
  have hgb : g ∈ blks q [rowQ rv R] := blks_row (r := rowQ rv R) (List.mem_singleton.2 rfl) hob
  have hgW := s2 g hgb
  have hrow := h.row
  have hR' : (rowQ rv (R.set i (r, kv))).At (w.setCells g (i * 3) [.bool r.used, kv, .int .i64 (r.n : Int)]) := by
    show (w.setCells g (i * 3) [.bool r.used, kv, .int .i64 (r.n : Int)]).ownsRow 0 125 3 rv (R.set i (r, kv)).length (qcells (R.set i (r, kv)))
    rw [List.length_set, qcells_set R i _ (by omega)]
    rw [hrv, ← hl] at hrow ⊢
    exact row_set (row_set (row_set hrow (i * 3) _ (by omega)) (i * 3 + 1) _ (by omega)) (i * 3 + 2) _ (by omega)
  have hgr := ObjAt.grow (a := []) (b := []) h.obj (r' := rowQ rv (R.set i (r, kv))) (by rw [show (rowQ rv R).v.ownBlock = some g from hob]; exact hC.grownBy) hR' (fun k hk => .inl hk)
  have h8 := (h.no8 g hgb).set3 (i := i * 3) (h.obj.lim g hgb) (no8_bool (x := r.used)) hk.no8 (no8_i64 (x := (r.n : Int)))
  generalize w.setCells g (i * 3) [.bool r.used, kv, .int .i64 (r.n : Int)] = X at *
  have hgu : ∀ x ∈ [g], x ∈ W := fun x hx => (List.mem_singleton.1 hx) ▸ hgW
  have hnot : ∀ k, k ∉ W → k ∉ [g] := fun k hk hm => hk (hgu k hm)
  refine ⟨A ++ kv.ownBlock.toList, ⟨V, F, rv, R.set i (r, kv), hgr.1, h.disk.keep hC (fun x hx hm => ?_), ?_, h.sep, fun x hx => ?_, h.mem, fun x hx => ?_, fun x hx => List.mem_append_left _ (h.aF x hx), fun x hx => List.mem_append_left _ (h.aB x hx), fun x hx => ?_, ⟨?_, fun x hx => ?_⟩⟩, fun x hx => ?_, hC.mono (fun x hx => .inl (hgu x hx))⟩
  · exact h.sep _ hgb (by rw [← List.mem_singleton.1 hm]; exact hx)
  · rw [List.map_set, h.rows]
  · rcases List.mem_or_eq_of_mem_set hx with hx | rfl
    · obtain ⟨k1, k2⟩ := h.keys x hx
      exact ⟨k1.chg hC (fun k hk => hnot k (k2 k hk).2), fun g' hg' => ⟨List.mem_append_left _ (k2 g' hg').1, (k2 g' hg').2⟩⟩
    · exact ⟨hk.chg hC (fun k hk => hnot k (hkU k hk).2), fun g' hg' => ⟨List.mem_append_right _ (by rw [hg']; simp), (hkU g' hg').2⟩⟩
  · by_cases hxg : x = g
    · rw [hxg]; exact h8
    · exact (h.no8 x hx).keep (hC.block x (h.obj.lim x hx) (by simp; exact hxg))
  · rcases List.mem_append.1 hx with hx | hx
    · exact Nat.lt_of_lt_of_le (h.lim x hx) hC.size
    · exact Nat.lt_of_lt_of_le (hkU x (by simpa using hx)).1 hC.size
  · show s.first + 8 * (s.rows.set i r).length ≤ s.d.n
    rw [List.length_set]
    exact h.ok.room
  · rcases List.mem_or_eq_of_mem_set hx with hx | rfl
    · exact h.ok.rows x hx
    · exact hr
  · rcases List.mem_append.1 hx with hx | hx
    · exact .inl hx
    · by_cases hA : x ∈ A
      · exact .inl hA
      · exact .inr (hkA x (by simpa using hx) hA)
end Go.Proofs.YtbkajnjboipbhaaGreatDoor.W

/- The reference's slots: Free, Find. -/
namespace Go.Proofs.YtbkajnjboipbhaaGreatDoor.W
open Go.RowKit
set_option linter.unusedVariables false
set_option linter.unusedSimpArgs false

set_option maxHeartbeats 4000000 in
set_option maxRecDepth 100000 in
theorem rfree_any (q m : Nat) (W A : List Nat) (s : SS) (w : World) (h : RSlotsAt w q m W A s) : Calls Tryz.prog 87 #[.pointer (some ⟨q, 0, none⟩)] w fun e w' => e = .returned (.int .i64 s.free) ∧ w = w' := by
  obtain ⟨V, F, rv, R, H⟩ := h
  have HH := Lib.hid H
  obtain ⟨a, cap0, hrv, hcap⟩ := H.form
  have c2 := blk_cell H.obj.head 2 _ rfl
  have hfew := H.few
  obtain ⟨n, hn⟩ : ∃ n, n = s.rows.length := ⟨_, rfl⟩
  rw [← hn] at hrv hcap
  have HN := Lib.hid hn
  have HRV := Lib.hid hrv
  subst hrv
  have hnf : n ≤ 1000 := by omega
  clear H hfew hn
  go_enter Tryz.func87, Tryz.ntmps87
  go_wp2_with fail
  go_loop [3] (fun i => ∃ k : Nat, k ≤ n ∧ i = .int .i64 k ∧ Hid (∀ x, x < k → (s.rows.getD x noRow).used = true)) (fun i => n - (intOf i).toNat)
  case atStart => exact ⟨0, Nat.zero_le _, rfl, Lib.hid (fun q hq => absurd hq (by omega))⟩
  case round =>
    obtain ⟨k, hk, rfl, HZ⟩ := hrel
    by_cases hlt : k < n
    · obtain ⟨g, cap, kv, hrv2, hcap2, hcm, k0, k1, k2, k3, k4⟩ := HH.out.at k (by rw [← HN.out]; exact hlt)
      have hF := rowFree_drop s.rows k (by rw [← HN.out]; omega) HZ.out 0
      rw [List.drop_eq_getElem_cons (by rw [← HN.out]; exact hlt)] at hF
      have hge : s.rows.getD k noRow = s.rows[k]'(by rw [← HN.out]; exact hlt) := by rw [List.getD_eq_getElem?_getD, List.getElem?_eq_getElem]; rfl
      rw [← hge] at hF
      rw [← HN.out] at hrv2
      obtain ⟨rfl, rfl⟩ : a = some ⟨g, 0, none⟩ ∧ cap0 = cap := by
        have := Value.slice.inj hrv2
        exact ⟨this.1, this.2.2⟩
      have hkz : (k : Int) < (n : Int) := by omega
      have hkz1 : (k : Int).toNat = k := by omega
      have hu : ∃ u, u = (s.rows.getD k noRow).used := ⟨_, rfl⟩
      obtain ⟨u, hu⟩ := hu
      rw [← hu] at k0
      have HU := Lib.hid hu
      have HF := Lib.hid hF
      clear hu hF hge hrv2 k1 k2 k3 k4
      cases u
      · have HX : Hid (s.free = (k : Int)) := Lib.hid (by
          unfold SS.free
          rw [HF.out, rowFree_cons]
          rw [if_pos HU.out.symm]
          simp)
        go_wp2
        go_ret
        exact ⟨by rw [HX.out]; rfl, rfl⟩
      · have HZ1 : Hid (∀ x, x < k + 1 → (s.rows.getD x noRow).used = true) := Lib.hid (fun x hx => by
          rcases Nat.lt_or_ge x k with h | h
          · exact HZ.out x h
          · obtain rfl : x = k := by omega
            exact HU.out.symm)
        go_wp2
        go_round
        case rel => exact ⟨k + 1, by omega, by go_num, HZ1⟩
        case measure => simp [intOf]; omega
    · have hkn : k = n := by omega
      have HX : Hid (s.free = -1) := Lib.hid (by
        unfold SS.free
        rw [rowFree_drop s.rows k (by rw [hkn, HN.out]; exact Nat.le_refl _) HZ.out 0, List.drop_of_length_le (by rw [hkn, HN.out]; exact Nat.le_refl _)]
        rfl)
      have hkz : ¬ (k : Int) < (n : Int) := by omega
      clear hkn
      go_wp2
      go_ret
      exact ⟨by rw [HX.out]; rfl, rfl⟩

set_option maxHeartbeats 4000000 in
set_option maxRecDepth 100000 in
theorem rfind_any (q m : Nat) (W A : List Nat) (s : SS) (kv0 : Value) (key : List UInt8) (w : World) (h : RSlotsAt w q m W A s) (hk0 : BytesAt w kv0 key) (hkl : key.length ≤ 1000000) :
    Calls Tryz.prog 85 #[.pointer (some ⟨q, 0, none⟩), kv0] w fun e w' => e = .returned (.int .i64 (s.find key)) ∧ Chg [] w w' := by
  obtain ⟨V, F, rv, R, H⟩ := h
  have HH := Lib.hid H
  obtain ⟨a, cap0, hrv, hcap⟩ := H.form
  have c2 := blk_cell H.obj.head 2 _ rfl
  have hfew := H.few
  have HK0 := Lib.hid hk0
  obtain ⟨n, hn⟩ : ∃ n, n = s.rows.length := ⟨_, rfl⟩
  rw [← hn] at hrv hcap
  have HN := Lib.hid hn
  have HRV := Lib.hid hrv
  subst hrv
  have hnf : n ≤ 1000 := by omega
  have hk40 : Hid (∀ x, ((s.rows.getD x noRow).key).length ≤ 40) := Lib.hid (fun x => by
    rw [List.getD_eq_getElem?_getD]
    cases he : s.rows[x]? with
    | none => decide
    | some r => exact (H.ok.rows r (List.mem_of_getElem? he)).2)
  clear H hfew hn hk0
  go_enter Tryz.func85, Tryz.ntmps85
  go_wp2_with fail
  go_loopg [5] n (fun g' s5 wr => ∃ k : Nat, s5 = .int .i64 (k : Int) ∧ k ≤ n ∧ n ≤ k + g' ∧ Hid (∀ x, x < k → ((s.rows.getD x noRow).used && decide ((s.rows.getD x noRow).key = key)) = false) ∧ Hid (Chg [] w wr))
  case atStart => exact ⟨0, rfl, Nat.zero_le _, by omega, Lib.hid (fun q hq => absurd hq (by omega)), Lib.hid (Chg.refl _ _)⟩
  case round =>
    obtain ⟨k, rfl, hk, hkg, HZ, HC⟩ := hrel
    have d2 := HC.out.cell c2 (by simp)
    by_cases hlt : k < n
    · obtain ⟨g, cap, kv, hrv2, hcap2, hcm, k0, k1, k2, k3, k4⟩ := (HH.out.keep HC.out (by simp)).at k (by rw [← HN.out]; exact hlt)
      have hF := rowFind_drop key s.rows k (by rw [← HN.out]; omega) HZ.out 0
      rw [List.drop_eq_getElem_cons (by rw [← HN.out]; exact hlt)] at hF
      have hge : s.rows.getD k noRow = s.rows[k]'(by rw [← HN.out]; exact hlt) := by rw [List.getD_eq_getElem?_getD, List.getElem?_eq_getElem]; rfl
      rw [← hge] at hF
      rw [← HN.out] at hrv2
      obtain ⟨rfl, rfl⟩ : a = some ⟨g, 0, none⟩ ∧ cap0 = cap := by
        have := Value.slice.inj hrv2
        exact ⟨this.1, this.2.2⟩
      have hkz : (k : Int) < (n : Int) := by omega
      have hkz1 : (k : Int).toNat = k := by omega
      obtain ⟨u, hu⟩ : ∃ u, u = (s.rows.getD k noRow).used := ⟨_, rfl⟩
      rw [← hu] at k0
      have HU := Lib.hid hu
      have HF := Lib.hid hF
      have CE := Lib.hid (same_any kv kv0 _ key wr k3 (HK0.out.chg HC.out (by simp)) (by have := hk40.out k; omega) (by omega))
      obtain ⟨ak, ck, hkv⟩ := k3.slice
      subst hkv
      clear hu hF hge hrv2 k2 k3 k4
      have stepZ : ((s.rows.getD k noRow).used && decide ((s.rows.getD k noRow).key = key)) = false → Hid (∀ x, x < k + 1 → ((s.rows.getD x noRow).used && decide ((s.rows.getD x noRow).key = key)) = false) := fun h9 => Lib.hid (fun x hx => by
        rcases Nat.lt_or_ge x k with h | h
        · exact HZ.out x h
        · obtain rfl : x = k := by omega
          exact h9)
      have HS := Lib.hid stepZ
      clear stepZ
      cases u
      · have HZ1 := HS.out (by rw [← HU.out]; rfl)
        clear CE
        go_wp2
        go_roundg (gk - 1)
        case rel => exact ⟨k + 1, by go_num, by omega, by omega, HZ1, HC⟩
        case measure => omega
      · by_cases he : (s.rows.getD k noRow).key = key
        · rw [decide_eq_true he] at CE
          have HX : Hid (s.find key = (k : Int)) := Lib.hid (by
            unfold SS.find
            rw [HF.out, rowFind_cons, if_pos (by rw [← HU.out, decide_eq_true he]; rfl)]
            simp)
          clear he
          go_wp2_with fail
          refine CE.out.mono ?_
          rintro e w' ⟨rfl, nn, hq⟩
          have HC2 : Hid (Chg [] w w') := Lib.hid (by rw [hq]; exact HC.out.drewN nn)
          clear hq
          go_wp2
          go_ret
          exact ⟨by rw [HX.out]; rfl, HC2.out⟩
        · rw [decide_eq_false he] at CE
          have HZ1 := HS.out (by rw [decide_eq_false he, Bool.and_false])
          clear he
          go_wp2_with fail
          refine CE.out.mono ?_
          rintro e w' ⟨rfl, nn, hq⟩
          have HC2 : Hid (Chg [] w w') := Lib.hid (by rw [hq]; exact HC.out.drewN nn)
          clear hq
          go_wp2
          go_roundg (gk - 1)
          case rel => exact ⟨k + 1, by go_num, by omega, by omega, HZ1, HC2⟩
          case measure => omega
    · have hkn : k = n := by omega
      have HX : Hid (s.find key = -1) := Lib.hid (by
        unfold SS.find
        rw [rowFind_drop key s.rows k (by rw [hkn, HN.out]; exact Nat.le_refl _) HZ.out 0, List.drop_of_length_le (by rw [hkn, HN.out]; exact Nat.le_refl _)]
        rfl)
      have hkz : ¬ (k : Int) < (n : Int) := by omega
      clear hkn
      go_wp2
      go_ret
      exact ⟨by rw [HX.out]; rfl, HC.out⟩
end Go.Proofs.YtbkajnjboipbhaaGreatDoor.W

/- The reference's eye: Num. -/
namespace Go.Proofs.YtbkajnjboipbhaaGreatDoor.W
open Go.RowKit
set_option linter.unusedVariables false
set_option linter.unusedSimpArgs false

def REyeV (w : World) (v : Value) (g : Nat) (l : List UInt8) : Prop :=
  (l = [] ∧ ∃ a cap, v = .slice a 0 cap) ∨ ∃ o cap, v = .slice (some ⟨g, o, none⟩) l.length cap ∧ l.length ≤ cap ∧ cap ≤ maxLen ∧ g < w.heap.size ∧ ∀ i, i < l.length → w.cell? ⟨g, o + i, none⟩ = some (bv (l.getD i 0))
theorem REyeV.keepC {w w' : World} {v : Value} {g : Nat} {l : List UInt8} {S : List Nat} (h : REyeV w v g l) (hc : Chg S w w') (hn : g ∉ S) : REyeV w' v g l := by
  rcases h with h | ⟨o, cap, rfl, h1, h2, h3, hcell⟩
  · exact .inl h
  · exact .inr ⟨o, cap, rfl, h1, h2, Nat.lt_of_lt_of_le h3 hc.size, fun i hi => hc.cell (hcell i hi) hn⟩
theorem REyeV.slice {w : World} {v : Value} {g : Nat} {l : List UInt8} (h : REyeV w v g l) : ∃ a cap, v = .slice a l.length cap := by
  rcases h with ⟨rfl, a, cap, rfl⟩ | ⟨o, cap, rfl, _⟩
  · exact ⟨_, _, rfl⟩
  · exact ⟨_, _, rfl⟩
/-- The reference's eye in block b, its bytes in block g. -/
def REyeAt (w : World) (b g : Nat) (l : List UInt8) (bad : Int) : Prop :=
  ∃ v, w.heap[b]? = some (.cells #[v, .int .i64 bad] 166 (0, 0)) ∧ REyeV w v g l ∧ g ≠ b ∧ l.length ≤ 1000000
theorem REyeAt.keep {w w' : World} {b g : Nat} {l : List UInt8} {bad : Int} {S : List Nat} (h : REyeAt w b g l bad) (hc : Chg S w w') (hb : b ∉ S) (hg : g ∉ S) : REyeAt w' b g l bad := by
  obtain ⟨v, h1, h2, h3, h4⟩ := h
  exact ⟨v, hc.keep h1 hb, h2.keepC hc hg, h3, h4⟩
theorem REyeV.dropped {w : World} {g o cap n : Nat} {l : List UInt8} (hl : l.length ≤ cap) (hc : cap ≤ maxLen) (hg : g < w.heap.size) (hcell : ∀ i, i < l.length → w.cell? ⟨g, o + i, none⟩ = some (bv (l.getD i 0))) (hn : n ≤ l.length) :
    REyeV w (.slice (some ⟨g, if cap = n then o else o + n, none⟩) (l.length - n) (cap - n)) g (l.drop n) := by
  right
  have hdl : (l.drop n).length = l.length - n := List.length_drop ..
  refine ⟨if cap = n then o else o + n, cap - n, by rw [hdl], by omega, by omega, hg, fun i hi => ?_⟩
  have h2 : ¬ (cap = n) := by omega
  rw [if_neg h2, getD_drop, Nat.add_assoc]
  exact hcell (n + i) (by omega)

set_option maxHeartbeats 4000000 in
set_option maxRecDepth 100000 in
theorem rnum_ok (b g o cap : Nat) (l : List UInt8) (n : Nat) (w : World) (h : w.heap[b]? = some (.cells #[.slice (some ⟨g, o, none⟩) l.length cap, .int .i64 0] 166 (0, 0)))
    (hl : l.length ≤ cap) (hc : cap ≤ maxLen) (hcell : ∀ i, i < l.length → w.cell? ⟨g, o + i, none⟩ = some (bv (l.getD i 0))) (h1 : 1 ≤ n) (h7 : n ≤ 7) (hn : n ≤ l.length) (hll : l.length ≤ 1000000) :
    Calls Tryz.prog 119 #[.pointer (some ⟨b, 0, none⟩), .int .i64 n] w fun e w' => e = .returned (.int .i64 (beNum (l.take n))) ∧
      w' = w.setCell ⟨b, 0, none⟩ (.slice (some ⟨g, if cap = n then o else o + n, none⟩) (l.length - n) (cap - n)) := by
  have b0 := blk_cell h 0 _ rfl
  have b1 := blk_cell h 1 _ rfl
  have f0 := blk_frozen h 0
  have hbl := blk_lt h
  have HC := Lib.hid hcell
  have HL := Lib.hid hl
  unfold maxLen at hc
  have hcapn : n ≤ cap := by omega
  have hn1 : ¬ ((n : Int) < 1) := by omega
  have hn7 : ¬ ((7 : Int) < (n : Int)) := by omega
  have q1 : decide ((n : Int) < 1) = false := by simpa using hn1
  have q7 : decide ((7 : Int) < (n : Int)) = false := by simpa using hn7
  have ql : decide (l.length < n) = false := by simp; omega
  clear h hcell
  obtain rfl | hcn := Decidable.em (n = cap)
  all_goals
    try (have hcn' : ¬ (cap = n) := fun h => hcn h.symm)
    try clear hcn
    go_enter Tryz.func119, Tryz.ntmps119
    go_wp2
    go_loop [5, 6] (fun x i => ∃ k : Nat, k ≤ n ∧ i = .int .i64 k ∧ x = .int .i64 (beNum (l.take k))) (fun _ i => n - (intOf i).toNat)
    case atStart => exact ⟨0, Nat.zero_le _, rfl, rfl⟩
    case round =>
      obtain ⟨k, hk, rfl, rfl⟩ := hrel
      by_cases hlt : k < n
      · have hcl := HC.out k (by omega)
        have hb := beNum_take_le l k (by omega)
        have hkz : (k : Int) < (n : Int) := by omega
        have hkl : (k : Int) < (l.length : Int) := by omega
        have hkz1 : (k : Int).toNat = k := by omega
        obtain ⟨c, hcc⟩ : ∃ c, c = l.getD k 0 := ⟨_, rfl⟩
        rw [← hcc] at hcl
        have hc8 := c.toNat_lt
        have HX : Hid (beNum (l.take (k + 1)) = beNum (l.take k) * 256 + c.toNat) := Lib.hid (by rw [take_snocU l k (by omega), beNum_snoc, hcc])
        clear hcc
        obtain ⟨x, hx⟩ : ∃ x, x = beNum (l.take k) := ⟨_, rfl⟩
        rw [← hx] at hb HX ⊢
        clear hx
        unfold bv at hcl
        have hor : bits .or .i64 ((x : Int) * 256) (c.toNat : Int) = ((x * 256 + c.toNat : Nat) : Int) := by
          have := i64_or_nat (x * 256) c.toNat (by omega) (by omega)
          rw [or_byte] at this
          simpa using this
        go_wp2
        go_round
        case rel => exact ⟨k + 1, by omega, by go_num, by rw [HX.out]; go_num⟩
        case measure => simp [intOf]; omega
      · have hk9 : k = n := by omega
        have HK := Lib.hid hk9
        clear hk9
        go_wp2
        go_ret
        exact ⟨by rw [HK.out]; rfl, rfl⟩

set_option maxHeartbeats 2000000 in
set_option maxRecDepth 100000 in
theorem rnum_short (b : Nat) (a : Option Addr) (L cap : Nat) (n : Nat) (w : World) (h : w.heap[b]? = some (.cells #[.slice a L cap, .int .i64 0] 166 (0, 0)))
    (h1 : 1 ≤ n) (h7 : n ≤ 7) (hn : L < n) :
    Calls Tryz.prog 119 #[.pointer (some ⟨b, 0, none⟩), .int .i64 n] w fun e w' => e = .returned (.int .i64 0) ∧ w' = w.setCell ⟨b, 1, none⟩ (.int .i64 2) := by
  have b0 := blk_cell h 0 _ rfl
  have b1 := blk_cell h 1 _ rfl
  have f1 := blk_frozen h 1
  have hbl := blk_lt h
  have q1 : decide ((n : Int) < 1) = false := by simp; omega
  have q7 : decide ((7 : Int) < (n : Int)) = false := by simp; omega
  have ql : decide (L < n) = true := by simp; omega
  clear h
  go_enter Tryz.func119, Tryz.ntmps119
  go_wp2
  go_ret
  exact ⟨rfl, rfl⟩

set_option maxHeartbeats 2000000 in
set_option maxRecDepth 100000 in
theorem rnum_bad (b : Nat) (v : Value) (bad n : Int) (w : World) (h : w.heap[b]? = some (.cells #[v, .int .i64 bad] 166 (0, 0))) (hb : bad ≠ 0) :
    Calls Tryz.prog 119 #[.pointer (some ⟨b, 0, none⟩), .int .i64 n] w fun e w' => e = .returned (.int .i64 0) ∧ w = w' := by
  have b1 := blk_cell h 1 _ rfl
  have hbl := blk_lt h
  have q1 : (bad == 0) = false := by simp [hb]
  have q2 : (bad != 0) = true := by simp [hb]
  clear h hb
  go_enter Tryz.func119, Tryz.ntmps119
  go_wp2
  go_ret
  exact ⟨rfl, rfl⟩

/-- The reference's Num. -/
theorem rnum_any (b g : Nat) (l : List UInt8) (bad : Int) (width : Int) (w : World) (h : REyeAt w b g l bad) (h1 : 1 ≤ width) (h7 : width ≤ 7) :
    Calls Tryz.prog 119 #[.pointer (some ⟨b, 0, none⟩), .int .i64 width] w fun e w' => e = .returned (.int .i64 (eyeNum l bad width.toNat).1) ∧
      REyeAt w' b g (eyeNum l bad width.toNat).2.1 (eyeNum l bad width.toNat).2.2 ∧ Chg [b] w w' := by
  obtain ⟨n, rfl⟩ := Int.eq_ofNat_of_zero_le (show 0 ≤ width by omega)
  rw [Int.toNat_natCast]
  have hE := h
  obtain ⟨v, hb, hv, hgb, hll⟩ := h
  by_cases hbad : bad = 0
  · subst hbad
    by_cases hlen : l.length < n
    · obtain ⟨a, cap, rfl⟩ := hv.slice
      rw [show eyeNum l 0 n = (0, l, 2) by unfold eyeNum; rw [if_neg (by simp), if_pos hlen]]
      refine (rnum_short b a _ cap n w hb (by omega) (by omega) hlen).mono ?_
      rintro e w' ⟨rfl, rfl⟩
      have hc := (Chg.refl [b] w).setCell (p := ⟨b, 1, none⟩) (.inl (by simp)) (.int .i64 2)
      exact ⟨rfl, ⟨_, set_blk hb, hv.keepC hc (by simp; exact hgb), hgb, hll⟩, hc⟩
    · rw [show eyeNum l 0 n = ((beNum (l.take n) : Int), l.drop n, 0) by unfold eyeNum; rw [if_neg (by simp), if_neg hlen]]
      rcases hv with ⟨rfl, _⟩ | ⟨o, cap, rfl, hlc, hcm, hg, hcell⟩
      · simp at hlen; omega
      refine (rnum_ok b g o cap l n w hb hlc hcm hcell (by omega) (by omega) (by omega) hll).mono ?_
      rintro e w' ⟨rfl, rfl⟩
      have hc := (Chg.refl [b] w).setCell (p := ⟨b, 0, none⟩) (.inl (by simp)) (.slice (some ⟨g, if cap = n then o else o + n, none⟩) (l.length - n) (cap - n))
      exact ⟨rfl, ⟨_, set_blk hb, (REyeV.dropped hlc hcm hg hcell (by omega)).keepC hc (by simp; exact hgb), hgb, by show (l.drop n).length ≤ _; rw [List.length_drop]; omega⟩, hc⟩
  · rw [show eyeNum l bad n = (0, l, bad) by unfold eyeNum; rw [if_pos hbad]]
    refine (rnum_bad b v bad n w hb hbad).mono ?_
    rintro e w' ⟨rfl, rfl⟩
    exact ⟨rfl, hE, Chg.refl _ _⟩

end Go.Proofs.YtbkajnjboipbhaaGreatDoor.W

/- The reference's eye: Raw. -/
namespace Go.Proofs.YtbkajnjboipbhaaGreatDoor.W
open Go.RowKit
set_option linter.unusedVariables false
set_option linter.unusedSimpArgs false

theorem REyeV.bytes {w : World} {v : Value} {g : Nat} {l : List UInt8} (h : REyeV w v g l) : ∃ a cap, v = .slice a l.length cap ∧ (l = [] ∨ ∃ o, a = some ⟨g, o, none⟩ ∧ l.length ≤ cap ∧ cap ≤ maxLen ∧ g < w.heap.size ∧ ∀ i, i < l.length → w.cell? ⟨g, o + i, none⟩ = some (bv (l.getD i 0))) := by
  rcases h with ⟨rfl, a, cap, rfl⟩ | ⟨o, cap, rfl, h1, h2, h3, hc⟩
  · exact ⟨a, cap, rfl, .inl rfl⟩
  · exact ⟨_, cap, rfl, .inr ⟨o, rfl, h1, h2, h3, hc⟩⟩

/-- What the reference's Raw leaves. -/
def RRawLeft (w : World) (b g : Nat) (r : List UInt8 × List UInt8 × Int) (e : Ending) (w' : World) : Prop :=
  ∃ v, e = .returned v ∧ BRow w' v r.1 ∧ (∀ k, v.ownBlock = some k → w.heap.size ≤ k) ∧ REyeAt w' b g r.2.1 r.2.2 ∧ Chg [b] w w'

set_option maxHeartbeats 4000000 in
set_option maxRecDepth 100000 in
theorem rraw_any (b g : Nat) (l : List UInt8) (bad : Int) (most : Nat) (w : World) (h : REyeAt w b g l bad) (hmo : most ≤ 1000000) :
    Calls Tryz.prog 146 #[.pointer (some ⟨b, 0, none⟩), .int .i64 (most : Int)] w (RRawLeft w b g (eyeRaw l bad most)) := by
  have CN := Lib.hid (rnum_any b g l bad 2 w h (by omega) (by omega))
  have HE := Lib.hid h
  obtain ⟨v, hb, hv, hgb, hll⟩ := h
  have b0 := blk_cell hb 0 _ rfl
  have b1 := blk_cell hb 1 _ rfl
  have hbl := blk_lt hb
  have HV := Lib.hid hv
  obtain ⟨a, cap, rfl⟩ := hv.slice
  rw [show (2 : Int).toNat = 2 from rfl] at CN
  have hmz : ¬ ((most : Nat) : Int) < 0 := by omega
  have hmd : decide (((most : Nat) : Int) < 0) = false := decide_eq_false hmz
  -- it fails with error x, the bytes as they were
  have hfail : ∀ (x y : Int) (v2 : Value) (w2 : World), eyeRaw l bad most = ([], l, x) → w2.heap[b]? = some (.cells #[v2, .int .i64 y] 166 (0, 0)) → Chg [b] w w2 →
      Hid (RRawLeft w b g (eyeRaw l bad most) (.returned (.slice none 0 0)) ((w2.setCell ⟨b, 1, none⟩ (.int .i64 x)).setCell ⟨b, 0, none⟩ (.slice a l.length cap))) ∧
      (y = x → Hid (RRawLeft w b g (eyeRaw l bad most) (.returned (.slice none 0 0)) (w2.setCell ⟨b, 0, none⟩ (.slice a l.length cap)))) := by
    intro x y v2 w2 hr h2 hc
    have hc1 : Chg [b] w ((w2.setCell ⟨b, 1, none⟩ (.int .i64 x)).setCell ⟨b, 0, none⟩ (.slice a l.length cap)) := (hc.setCell (.inl (by simp)) _).setCell (.inl (by simp)) _
    have hc2 : Chg [b] w (w2.setCell ⟨b, 0, none⟩ (.slice a l.length cap)) := hc.setCell (.inl (by simp)) _
    refine ⟨Lib.hid ?_, fun hyx => Lib.hid ?_⟩
    · rw [hr]
      exact ⟨_, rfl, BRow.nil _, by simp [Value.ownBlock], ⟨_, set_blk (set_blk h2), hv.keepC hc1 (by simp; exact hgb), hgb, hll⟩, hc1⟩
    · rw [hr]
      subst hyx
      exact ⟨_, rfl, BRow.nil _, by simp [Value.ownBlock], ⟨_, set_blk h2, hv.keepC hc2 (by simp; exact hgb), hgb, hll⟩, hc2⟩
  have HFAIL := Lib.hid hfail
  clear hfail hv
  by_cases hbad : bad = 0
  · subst hbad
    by_cases hlen : l.length < 2
    · have hr : eyeRaw l 0 most = ([], l, 2) := by unfold eyeRaw; rw [if_neg (by simp), if_pos hlen]
      rw [show eyeNum l 0 2 = (0, l, 2) by unfold eyeNum; rw [if_neg (by simp), if_pos hlen]] at CN
      have HR := Lib.hid hr
      clear hb hr HE
      go_enter Tryz.func146, Tryz.ntmps146
      go_wp2_with fail
      refine CN.out.mono ?_
      rintro e w2 ⟨rfl, ⟨v2, hb2, hv2, _, _⟩, hc2⟩
      have HF := (HFAIL.out 2 2 v2 w2 HR.out hb2 hc2).2 rfl
      obtain ⟨a2, c2, rfl⟩ := hv2.slice
      have b02 := blk_cell hb2 0 _ rfl
      have b12 := blk_cell hb2 1 _ rfl
      have f02 := blk_frozen hb2 0
      have hbl2 := blk_lt hb2
      clear hb2 hv2 hc2 CN HFAIL
      go_wp2
      go_ret
      exact HF.out
    · rw [show eyeNum l 0 2 = ((beNum (l.take 2) : Int), l.drop 2, 0) by unfold eyeNum; rw [if_neg (by simp), if_neg hlen]] at CN
      have hbn := beNum_take_le l 2 (by omega)
      have hrr : eyeRaw l 0 most = if most < beNum (l.take 2) then ([], l, 3) else if (l.drop 2).length < beNum (l.take 2) then ([], l, 2) else ((l.drop 2).take (beNum (l.take 2)), (l.drop 2).drop (beNum (l.take 2)), 0) := by
        unfold eyeRaw; rw [if_neg (by simp), if_neg hlen]
      have hdl : (l.drop 2).length = l.length - 2 := List.length_drop ..
      generalize beNum (l.take 2) = n at *
      generalize l.drop 2 = l2 at *
      have HDL := Lib.hid hdl
      have hl2 : l2.length ≤ 1000000 := by omega
      by_cases hlong : most < n
      · have hr : eyeRaw l 0 most = ([], l, 3) := by rw [hrr, if_pos hlong]
        have HR := Lib.hid hr
        have hz : ((most : Nat) : Int) < (n : Int) := by omega
        clear hb hr hrr HE hdl
        go_enter Tryz.func146, Tryz.ntmps146
        go_wp2_with fail
        refine CN.out.mono ?_
        rintro e w2 ⟨rfl, ⟨v2, hb2, hv2, _, _⟩, hc2⟩
        have HF := (HFAIL.out 3 0 v2 w2 HR.out hb2 hc2).1
        obtain ⟨a2, c2, rfl⟩ := hv2.slice
        have b02 := blk_cell hb2 0 _ rfl
        have b12 := blk_cell hb2 1 _ rfl
        have f02 := blk_frozen hb2 0
        have f12 := blk_frozen hb2 1
        have hbl2 := blk_lt hb2
        clear hb2 hv2 hc2 CN HFAIL
        go_wp2
        go_ret
        exact HF.out
      · have hz : ¬ ((most : Nat) : Int) < (n : Int) := by omega
        by_cases hsh : l2.length < n
        · have hr : eyeRaw l 0 most = ([], l, 2) := by rw [hrr, if_neg hlong, if_pos hsh]
          have HR := Lib.hid hr
          have hsz : (l2.length : Int) < (n : Int) := by omega
          clear hb hr hrr HE hdl
          go_enter Tryz.func146, Tryz.ntmps146
          go_wp2_with fail
          refine CN.out.mono ?_
          rintro e w2 ⟨rfl, ⟨v2, hb2, hv2, _, _⟩, hc2⟩
          have HF := (HFAIL.out 2 0 v2 w2 HR.out hb2 hc2).1
          obtain ⟨a2, c2, rfl⟩ := hv2.slice
          have b02 := blk_cell hb2 0 _ rfl
          have b12 := blk_cell hb2 1 _ rfl
          have f02 := blk_frozen hb2 0
          have f12 := blk_frozen hb2 1
          have hbl2 := blk_lt hb2
          clear hb2 hv2 hc2 CN HFAIL
          go_wp2
          go_ret
          exact HF.out
        · have hr : eyeRaw l 0 most = (l2.take n, l2.drop n, 0) := by rw [hrr, if_neg hlong, if_neg hsh]
          have HR := Lib.hid hr
          have hsz : ¬ (l2.length : Int) < (n : Int) := by omega
          have hsz2 : n ≤ l2.length := by omega
          clear hb hr hrr HE hdl HFAIL
          go_enter Tryz.func146, Tryz.ntmps146
          go_wp2_with fail
          refine CN.out.mono ?_
          rintro e w2 ⟨rfl, ⟨v2, hb2, hv2, _, _⟩, hc2⟩
          rcases hv2 with ⟨rfl, a2, c2, rfl⟩ | ⟨o2, c2, rfl, h21, h22, h23, hcell⟩
          · obtain rfl : n = 0 := by simpa using hsz2
            have b02 := blk_cell hb2 0 _ rfl
            have b12 := blk_cell hb2 1 _ rfl
            have hbl2 := blk_lt hb2
            have HB2 := Lib.hid hb2
            have HC2 := Lib.hid hc2
            have hfin : ∀ (w3 : World) (v3 : Value) (a9 : Option Addr) (c9 : Nat), Chg [] w2 w3 → BRow w3 v3 [] → (∀ k, v3.ownBlock = some k → w2.heap.size ≤ k) → Hid (RRawLeft w b g (eyeRaw l 0 most) (.returned v3) (w3.setCell ⟨b, 0, none⟩ (.slice a9 0 c9))) := by
              intro w3 v3 a9 c9 hc3 hr3 hn3
              refine Lib.hid ?_
              rw [HR.out]
              have hs : Chg [b] w2 (w3.setCell ⟨b, 0, none⟩ (.slice a9 0 c9)) := (hc3.mono (by simp)).setCell (.inl (by simp)) _
              exact ⟨_, rfl, hr3.keep (fun k hk => Below.heap_setCell w3 _ _ k (fun e => by have h9 := hn3 k hk; have e2 : k = b := e; omega)), fun k hk => Nat.le_trans HC2.out.size (hn3 k hk), ⟨_, set_blk (hc3.keep HB2.out (by simp)), .inl ⟨rfl, a9, c9, rfl⟩, hgb, by simp⟩, HC2.out.trans hs (fun x hx => .inl hx)⟩
            have HFIN := Lib.hid hfin
            have f02 := blk_frozen hb2 0
            clear hb2 hc2 hfin CN hl2 HDL
            cases a2 with
            | none =>
              go_wp2_with fail
              refine (rcopy_zero _ _ _).mono ?_
              rintro e w3 ⟨rfl, rfl⟩
              go_wp2
              go_ret
              exact (HFIN.out w2 _ _ _ (Chg.refl _ _) (BRow.nil _) (by simp [Value.ownBlock])).out
            | some x =>
              by_cases hc0 : c2 = 0
              · subst hc0
                go_wp2_with fail
                refine (rcopy_zero _ _ _).mono ?_
                rintro e w3 ⟨rfl, rfl⟩
                go_wp2
                go_ret
                exact (HFIN.out w2 _ _ _ (Chg.refl _ _) (BRow.nil _) (by simp [Value.ownBlock])).out
              · have hc1 : 0 < c2 := by omega
                go_wp2_with fail
                refine (rcopy_zero _ _ _).mono ?_
                rintro e w3 ⟨rfl, rfl⟩
                go_wp2
                go_ret
                exact (HFIN.out w2 _ _ _ (Chg.refl _ _) (BRow.nil _) (by simp [Value.ownBlock])).out
          · have b02 := blk_cell hb2 0 _ rfl
            have b12 := blk_cell hb2 1 _ rfl
            have hbl2 := blk_lt hb2
            have HB2 := Lib.hid hb2
            have HC2 := Lib.hid hc2
            have hlt2 : (l2.take n).length = n := by rw [List.length_take]; omega
            have hB : BytesAt w2 (.slice (some ⟨g, o2, none⟩) n c2) (l2.take n) := by
              refine ⟨_, c2, by rw [hlt2], by omega, h22, .inr ⟨g, o2, rfl, fun i hi => ?_⟩⟩
              rw [hlt2] at hi
              rw [getD_take _ _ _ hi]
              exact hcell i (by omega)
            have CC := Lib.hid (rcopy_any _ _ w2 hB (by omega))
            have HCL := Lib.hid hcell
            have HL2 := Lib.hid hlt2
            have h22b := h22
            unfold maxLen at h22b
            clear hb2 hc2 hB hcell hlt2 CN
            go_wp2_with fail
            refine CC.out.mono ?_
            rintro e w3 ⟨v3, rfl, hr3, hn3, hc3⟩
            have hb3 := hc3.keep HB2.out (by simp)
            have b03 := blk_cell hb3 0 _ rfl
            have b13 := blk_cell hb3 1 _ rfl
            have f03 := blk_frozen hb3 0
            have hbl3 := blk_lt hb3
            obtain ⟨a3, c3, he3, _⟩ := hr3.bytes
            rw [HL2.out] at he3
            obtain rfl := he3
            have HR3 := Lib.hid hr3
            have HN3 := Lib.hid hn3
            have HC3 := Lib.hid hc3
            have HB3 := Lib.hid hb3
            clear hr3 hn3 hc3 hb3 CC
            have hset : ∀ u, Chg [b] w2 (w3.setCell ⟨b, 0, none⟩ u) := fun u => (HC3.out.mono (by simp)).setCell (.inl (by simp)) _
            have hdn : (l2.drop n).length = l2.length - n := List.length_drop ..
            have hgw2 : g < w2.heap.size := h23
            have hfin : ∀ o3, (n < l2.length → o3 = o2 + n) → Hid (RRawLeft w b g (eyeRaw l 0 most) (.returned (.slice a3 n c3)) (w3.setCell ⟨b, 0, none⟩ (.slice (some ⟨g, o3, none⟩) (l2.length - n) (c2 - n)))) := by
              intro o3 ho3
              have hs := hset (.slice (some ⟨g, o3, none⟩) (l2.length - n) (c2 - n))
              have hgk : (w3.setCell ⟨b, 0, none⟩ (.slice (some ⟨g, o3, none⟩) (l2.length - n) (c2 - n))).heap[g]? = w2.heap[g]? := hs.block g hgw2 (by simp; exact hgb)
              refine Lib.hid ?_
              rw [HR.out]
              refine ⟨_, rfl, HR3.out.keep (fun k hk => Below.heap_setCell w3 _ _ k (fun e => by have h9 := HN3.out k hk; have e2 : k = b := e; omega)), fun k hk => Nat.le_trans HC2.out.size (HN3.out k hk), ⟨_, set_blk HB3.out, .inr ⟨o3, c2 - n, by rw [hdn], by (show (l2.drop n).length ≤ _; rw [hdn]; omega), by omega, Nat.lt_of_lt_of_le hgw2 hs.size, fun i hi => ?_⟩, hgb, by show (l2.drop n).length ≤ 1000000; rw [hdn]; omega⟩, HC2.out.trans hs (fun x hx => .inl hx)⟩
              rw [hdn] at hi
              obtain rfl := ho3 (by omega)
              rw [getD_drop, Nat.add_assoc]
              exact (World.cell?_of_block (w := w2) (a := ⟨g, o2 + (n + i), none⟩) hgk).trans (HCL.out (n + i) (by omega))
            have HFIN := Lib.hid hfin
            clear hfin hset hdn
            by_cases hcn : c2 = n
            · subst hcn
              go_wp2
              go_ret
              have h9 := (HFIN.out o2 (fun h => by omega)).out
              rw [Nat.sub_self, show l2.length - c2 = 0 by omega] at h9
              exact h9
            · go_wp2
              go_ret
              exact (HFIN.out (o2 + n) (fun h => rfl)).out
  · have hr : eyeRaw l bad most = ([], l, bad) := by unfold eyeRaw; rw [if_pos hbad]
    rw [show eyeNum l bad 2 = (0, l, bad) by unfold eyeNum; rw [if_pos hbad]] at CN
    have HR := Lib.hid hr
    have q1 : (bad == 0) = false := by simp [hbad]
    have q2 : (bad != 0) = true := by simp [hbad]
    clear hb hr HE hbad
    go_enter Tryz.func146, Tryz.ntmps146
    go_wp2_with fail
    refine CN.out.mono ?_
    rintro e w2 ⟨rfl, ⟨v2, hb2, hv2, _, _⟩, hc2⟩
    have HF := (HFAIL.out bad bad v2 w2 HR.out hb2 hc2).2 rfl
    obtain ⟨a2, c2, rfl⟩ := hv2.slice
    have b02 := blk_cell hb2 0 _ rfl
    have b12 := blk_cell hb2 1 _ rfl
    have f02 := blk_frozen hb2 0
    have hbl2 := blk_lt hb2
    clear hb2 hv2 hc2 CN HFAIL
    go_wp2
    go_ret
    exact HF.out
end Go.Proofs.YtbkajnjboipbhaaGreatDoor.W
