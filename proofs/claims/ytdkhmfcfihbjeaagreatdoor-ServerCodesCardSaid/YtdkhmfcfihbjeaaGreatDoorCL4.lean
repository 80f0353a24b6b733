/- Texts laid together. -/
import Derived.Test.YtdkhmfcfihbjeaaGreatDoorCL3
import Derived.Test.YtdkhmfcfihbjeaaGreatDoorCL1
import Derived.Laws.ResultCell
import Derived.Laws.Rows
import Derived.Test.YtdkhmfcfihbjeaaGreatDoorCL2
/- Package slot: what Open makes. -/
namespace Go.Proofs.YtdkhmfcfihbjeaaGreatDoor.W
open Go.RowKit
set_option linter.unusedVariables false
set_option linter.unusedSimpArgs false

theorem assertB_nil (w : World) : (Instr.typeAssert .nilIface 20 186 true).run Tryz.prog w = .ok (.tuple #[.agg #[.int .i64 0], .bool false]) w := by kernel_rfl
theorem assertB_give (x : Int) (w : World) : (Instr.typeAssert (.iface 186 (.agg #[.int .i64 x])) 20 186 true).run Tryz.prog w = .ok (.tuple #[.agg #[.int .i64 x], .bool true]) w := by kernel_rfl

set_option maxHeartbeats 2000000 in
set_option maxRecDepth 100000 in
theorem catchB_idle (pa pb : Value) (w : World) :
    CallsD Tryz.prog 134 #[pa, pb] .returning w fun e u' w' => e = .returned (.tuple #[]) ∧ u' = .returning ∧ w' = w.alloc (.cells #[.int .i64 0] 186) := by
  have hta := assertB_nil
  refine callsD_of_wpS Tryz.func134 rfl fun c₀ cs hu => ?_
  rw [Tryz.ntmps134]
  change Code.wpS Tryz.prog _ _ ⟨#[pa, pb, undef, undef, undef, undef, undef, undef, undef, undef, undef, undef, undef, undef, undef], []⟩ _ _
  apply wpS_seq
  apply wpS_region
  simp [wpOpsS, go_sem, recoverD, hu, Exit.thenS, hta]
  apply wpS_seq
  apply wpS_region
  simp [wpOpsS, go_sem, Exit.thenS]
  refine wpS_cond (t := false) (by simp [Act.eval]) ?_
  simp only [Bool.false_eq_true, if_false]
  refine wpS_of_wp (wp_skip ?_)
  cases c₀
  simp_all [bodyPostS, results, Tryz.results134]

set_option maxHeartbeats 2000000 in
set_option maxRecDepth 100000 in
theorem catchB_14 (pa pb : Nat) (v1 v2 : Value) (older : List PanicEntry) (w : World) (ha : w.heap[pa]? = some (.cells #[v1] 95 (0, 0))) (hb : w.heap[pb]? = some (.cells #[v2] 26 (0, 0))) (hne : pa ≠ pb) :
    CallsD Tryz.prog 134 #[.pointer (some ⟨pa, 0, none⟩), .pointer (some ⟨pb, 0, none⟩)] (.panicking ({ v := .iface 186 (.agg #[.int .i64 14]), recovered := false } :: older)) w fun e u' w' =>
      e = .returned (.tuple #[]) ∧ u' = .panicking ({ v := .iface 186 (.agg #[.int .i64 14]), recovered := true } :: older) ∧ Chg [pa, pb] w w' ∧ w'.heap[pa]? = some (.cells #[.pointer none] 95 (0, 0)) ∧ w'.heap[pb]? = some (.cells #[.int .i64 14] 26 (0, 0)) := by
  have hta := assertB_give 14
  have ha0 := blk_cell ha 0 _ rfl
  have hb0 := blk_cell hb 0 _ rfl
  have fa0 := blk_frozen ha 0
  have fb0 := blk_frozen hb 0
  have l1 := blk_lt ha
  have l2 := blk_lt hb
  have l3 : ¬ (pa = w.heap.size) := Nat.ne_of_lt l1
  have l4 : ¬ (pb = w.heap.size) := Nat.ne_of_lt l2
  have l5 : ¬ (w.heap.size = pa) := fun e => l3 e.symm
  have l6 : ¬ (w.heap.size = pb) := fun e => l4 e.symm
  have l7 : ¬ (pb = pa) := fun e => hne e.symm
  have HA := Lib.hid ha
  have HB := Lib.hid hb
  clear ha hb
  refine callsD_of_wpS Tryz.func134 rfl fun c₀ cs hu => ?_
  rw [Tryz.ntmps134]
  change Code.wpS Tryz.prog _ _ ⟨#[_, _, undef, undef, undef, undef, undef, undef, undef, undef, undef, undef, undef, undef, undef], []⟩ _ _
  apply wpS_seq
  apply wpS_region
  simp [wpOpsS, go_sem, recoverD, hu, Exit.thenS, hta]
  apply wpS_seq
  apply wpS_region
  simp [wpOpsS, go_sem, Exit.thenS]
  refine wpS_cond (t := true) (by simp [Act.eval]) ?_
  simp only [if_true]
  refine wpS_of_wp ?_
  go_wp2
  refine ⟨rfl, _, rfl, .tuple #[], by simp [results, Tryz.results134], rfl, rfl, ?_, ?_, ?_⟩
  · exact ((((Chg.refl [pa, pb] w).setCell (p := ⟨pa, 0, none⟩) (.inl (by simp)) _).setCell (p := ⟨pb, 0, none⟩) (.inl (by simp)) _).setCell (p := ⟨pb, 0, none⟩) (.inl (by simp)) _).alloc _
  · exact blk_alloc (blk_sets (blk_sets (set_blk HA.out) hne) hne)
  · exact blk_alloc (set_blk (set_blk (blk_sets HB.out l7)))
set_option maxHeartbeats 2000000 in
set_option maxRecDepth 100000 in
theorem catchB_x (pa pb : Nat) (x : Int) (hx : x ≠ 14) (v1 v2 : Value) (older : List PanicEntry) (w : World) (ha : w.heap[pa]? = some (.cells #[v1] 95 (0, 0))) (hb : w.heap[pb]? = some (.cells #[v2] 26 (0, 0))) (hne : pa ≠ pb) :
    CallsD Tryz.prog 134 #[.pointer (some ⟨pa, 0, none⟩), .pointer (some ⟨pb, 0, none⟩)] (.panicking ({ v := .iface 186 (.agg #[.int .i64 x]), recovered := false } :: older)) w fun e u' w' =>
      e = .returned (.tuple #[]) ∧ u' = .panicking ({ v := .iface 186 (.agg #[.int .i64 x]), recovered := true } :: older) ∧ Chg [pa, pb] w w' ∧ w'.heap[pa]? = some (.cells #[.pointer none] 95 (0, 0)) ∧ w'.heap[pb]? = some (.cells #[.int .i64 4] 26 (0, 0)) := by
  have hta := assertB_give x
  have q14 : (x == 14) = false := by simp [hx]
  have ha0 := blk_cell ha 0 _ rfl
  have hb0 := blk_cell hb 0 _ rfl
  have fa0 := blk_frozen ha 0
  have fb0 := blk_frozen hb 0
  have l1 := blk_lt ha
  have l2 := blk_lt hb
  have l3 : ¬ (pa = w.heap.size) := Nat.ne_of_lt l1
  have l4 : ¬ (pb = w.heap.size) := Nat.ne_of_lt l2
  have l5 : ¬ (w.heap.size = pa) := fun e => l3 e.symm
  have l6 : ¬ (w.heap.size = pb) := fun e => l4 e.symm
  have l7 : ¬ (pb = pa) := fun e => hne e.symm
  have HA := Lib.hid ha
  have HB := Lib.hid hb
  clear ha hb hx
  refine callsD_of_wpS Tryz.func134 rfl fun c₀ cs hu => ?_
  rw [Tryz.ntmps134]
  change Code.wpS Tryz.prog _ _ ⟨#[_, _, undef, undef, undef, undef, undef, undef, undef, undef, undef, undef, undef, undef, undef], []⟩ _ _
  apply wpS_seq
  apply wpS_region
  simp [wpOpsS, go_sem, recoverD, hu, Exit.thenS, hta]
  apply wpS_seq
  apply wpS_region
  simp [wpOpsS, go_sem, Exit.thenS]
  refine wpS_cond (t := true) (by simp [Act.eval]) ?_
  simp only [if_true]
  refine wpS_of_wp ?_
  go_wp2
  refine ⟨rfl, _, rfl, .tuple #[], by simp [results, Tryz.results134], rfl, rfl, ?_, ?_, ?_⟩
  · exact (((Chg.refl [pa, pb] w).setCell (p := ⟨pa, 0, none⟩) (.inl (by simp)) _).setCell (p := ⟨pb, 0, none⟩) (.inl (by simp)) _).alloc _
  · exact blk_alloc (blk_sets (set_blk HA.out) hne)
  · exact blk_alloc (set_blk (blk_sets HB.out l7))
end Go.Proofs.YtdkhmfcfihbjeaaGreatDoor.W
namespace Go.Proofs.YtdkhmfcfihbjeaaGreatDoor.W
open Go.RowKit
set_option linter.unusedVariables false
set_option linter.unusedSimpArgs false

def rowsFrom (d : DS) (first : Nat) : Nat → Nat → Option (List SRow)
  | 0, _ => some []
  | m + 1, k => match headOf (d.now (first + 8 * k)) with
    | none => none
    | some r => (rowsFrom d first m (k + 1)).map (r :: ·)
def DS.slots (d : DS) (first : Int) : Int × Option SS :=
  if first < 0 ∨ (d.n : Int) < first then (1, none) else if d.dead = true ∨ d.n = 0 then (14, none) else
  match rowsFrom d first.toNat ((d.n - first.toNat) / 8) 0 with
  | none => (4, none)
  | some rows => (0, some ⟨d, first.toNat, rows⟩)
def OpenPost (p : Nat) (S : List Nat) (w : World) (r : Int × Option SS) (e : Ending) (w' : World) : Prop := Chg [] w w' ∧ match r with
  | (c, none) => e = .returned (.tuple #[.pointer none, .int .i64 c])
  | (c, some s) => ∃ q U, e = .returned (.tuple #[.pointer (some ⟨q, 0, none⟩), .int .i64 c]) ∧ SlotsAt w' q p U s ∧ ∀ x ∈ U, x ∈ S ∨ w.heap.size ≤ x
theorem headOf_ok {b : List UInt8} {r : SRow} (h : headOf b = some r) : r.n ≤ 448 ∧ r.key.length ≤ 40 := by
  unfold headOf at h
  split at h
  · obtain rfl := Option.some.inj h
    exact ⟨by decide, by decide⟩
  · split at h
    · cases h
    · rename_i hn
      obtain rfl := Option.some.inj h
      have hn0 := eyeNum_nonneg (eyeNum b 0 1).2.1 (eyeNum b 0 1).2.2 2
      refine ⟨by dsimp only; omega, ?_⟩
      dsimp only
      unfold eyeRaw
      split
      · simp
      · split
        · simp
        · split
          · simp
          · split
            · simp
            · rw [List.length_take]; omega
theorem rowsFrom_len {d : DS} {first : Nat} : ∀ (m k : Nat) (rows : List SRow), rowsFrom d first m k = some rows → rows.length = m ∧ ∀ r ∈ rows, r.n ≤ 448 ∧ r.key.length ≤ 40 := by
  intro m
  induction m with
  | zero => intro k rows h; obtain rfl := Option.some.inj h; simp
  | succ m ih =>
    intro k rows h
    unfold rowsFrom at h
    cases hh : headOf (d.now (first + 8 * k)) with
    | none => rw [hh] at h; cases h
    | some r =>
      rw [hh] at h
      dsimp only at h
      obtain ⟨t, h1, rfl⟩ := Option.map_eq_some_iff.1 h
      obtain ⟨h2, h3⟩ := ih _ _ h1
      refine ⟨by simp [h2], fun x hx => ?_⟩
      rcases List.mem_cons.1 hx with rfl | hx
      · exact headOf_ok hh
      · exact h3 x hx

/-- While Open is at work. -/
structure OpenAt (w wr : World) (pa pb q p : Nat) (first : Nat) (rv : Value) (R : List (SRow × Value)) : Prop where
  chg : Chg [] w wr
  lo : w.heap.size ≤ pa ∧ w.heap.size ≤ pb
  ca : wr.heap[pa]? = some (.cells #[.pointer (some ⟨q, 0, none⟩)] 95 (0, 0))
  cb : wr.heap[pb]? = some (.cells #[.int .i64 0] 26 (0, 0))
  obj : ObjAt wr q 190 #[.pointer (some ⟨p, 0, none⟩), .int .i64 (first : Int), rv] [rowD rv R]
  new : ∀ x ∈ blks q [rowD rv R], w.heap.size ≤ x ∧ x ≠ pa ∧ x ≠ pb
  keys : ∀ x ∈ R, BytesAt wr x.2 x.1.key ∧ ∀ g, x.2.ownBlock = some g → g < wr.heap.size ∧ w.heap.size ≤ g ∧ g ∉ blks q [rowD rv R] ∧ g ≠ pa ∧ g ≠ pb
theorem OpenAt.keep {w wr w' : World} {pa pb q p first : Nat} {rv : Value} {R : List (SRow × Value)} (h : OpenAt w wr pa pb q p first rv R) (hc : Chg [] wr w') : OpenAt w w' pa pb q p first rv R :=
  ⟨h.chg.trans hc (by simp), h.lo, hc.keep h.ca (by simp), hc.keep h.cb (by simp), h.obj.keep hc (by simp), h.new, fun x hx => ⟨(h.keys x hx).1.chg hc (by simp), fun g hg => ⟨Nat.lt_of_lt_of_le ((h.keys x hx).2 g hg).1 hc.size, ((h.keys x hx).2 g hg).2⟩⟩⟩
theorem OpenAt.more {w wr w2 : World} {pa pb q p first : Nat} {rv rv' : Value} {R : List (SRow × Value)} (h : OpenAt w wr pa pb q p first rv R) (x : SRow × Value) (hg : wr.grownBy w2 rv.ownBlock) (hrow : w2.ownsRow 0 192 3 rv' (R.length + 1) (rcells R ++ rcell x))
    (hat : ∀ k, rv'.ownBlock = some k → rv.ownBlock = some k ∨ (wr.heap.size ≤ k)) (hx : BytesAt wr x.2 x.1.key) (hxU : ∀ g, x.2.ownBlock = some g → g < wr.heap.size ∧ w.heap.size ≤ g ∧ g ∉ blks q [rowD rv R] ∧ g ≠ pa ∧ g ≠ pb) :
    OpenAt w (w2.setCell ⟨q, 2, none⟩ rv') pa pb q p first rv' (R ++ [x]) := by
  have hR' : (rowD rv' (R ++ [x])).At w2 := by
    show w2.ownsRow 0 192 3 rv' (R ++ [x]).length (rcells (R ++ [x]))
    rw [List.length_append, rcells_app]
    exact hrow
  obtain ⟨g1, g2, g3⟩ := ObjAt.grow (a := []) (b := []) h.obj hg hR' hat
  simp only [List.nil_append] at g1 g2 g3
  have g4 := g1.setHead 2 rv'
  have hne := h.new
  have hpa : pa ∉ blks q [rowD rv R] := fun hm => (hne pa hm).2.1 rfl
  have hpb : pb ∉ blks q [rowD rv R] := fun hm => (hne pb hm).2.2 rfl
  have hqa : pa ≠ q := fun e => (hne q blks_head).2.1 e.symm
  have hqb : pb ≠ q := fun e => (hne q blks_head).2.2 e.symm
  have hc : Chg (blks q [rowD rv R]) wr (w2.setCell ⟨q, 2, none⟩ rv') := g3.setCell (p := ⟨q, 2, none⟩) (.inl blks_head) rv'
  have hbw : ∀ x ∈ blks q [rowD rv R], w.heap.size ≤ x := fun x hx => (hne x hx).1
  have hla := blk_lt h.ca
  have hlb := blk_lt h.cb
  refine ⟨h.chg.trans hc (fun x hx => .inr (hbw x hx)), h.lo, hc.keep h.ca hpa, hc.keep h.cb hpb, g4, fun x hx => ?_, fun y hy => ?_⟩
  · rcases g2 x hx with h1 | h1
    · exact hne x h1
    · exact ⟨Nat.le_trans h.chg.size h1, fun e => by rw [e] at h1; omega, fun e => by rw [e] at h1; omega⟩
  · have hout : ∀ g, g < wr.heap.size → g ∉ blks q [rowD rv R] → g ∉ blks q [rowD rv' (R ++ [x])] := fun g h1 h2 hm => by
      rcases g2 g hm with h3 | h3
      · exact h2 h3
      · omega
    rcases List.mem_append.1 hy with hy | hy
    · obtain ⟨k1, k2⟩ := h.keys y hy
      exact ⟨k1.chg hc (fun k hk => (k2 k hk).2.2.1), fun g hg => ⟨Nat.lt_of_lt_of_le (k2 g hg).1 hc.size, (k2 g hg).2.1, hout g (k2 g hg).1 (k2 g hg).2.2.1, (k2 g hg).2.2.2⟩⟩
    · obtain rfl : y = x := by simpa using hy
      exact ⟨hx.chg hc (fun k hk => (hxU k hk).2.2.1), fun g hg => ⟨Nat.lt_of_lt_of_le (hxU g hg).1 hc.size, (hxU g hg).2.1, hout g (hxU g hg).1 (hxU g hg).2.2.1, (hxU g hg).2.2.2⟩⟩
theorem OpenAt.done {w wr : World} {pa pb q p first : Nat} {S : List Nat} {d : DS} {rv : Value} {R : List (SRow × Value)} (h : OpenAt w wr pa pb q p first rv R) (hd : DiskAt w p S d) (hok : SS.Ok ⟨d, first, R.map (·.1)⟩) :
    ∀ w', Chg [pa, pb] wr w' → Chg [] w w' ∧ SlotsAt w' q p (S ++ blks q [rowD rv R]) ⟨d, first, R.map (·.1)⟩ ∧ ∀ x ∈ S ++ blks q [rowD rv R], x ∈ S ∨ w.heap.size ≤ x := fun w' hc => by
  have hlim : ∀ x ∈ S, x < w.heap.size := by
    obtain ⟨gn, gl, cn, cl, v, H⟩ := hd
    exact H.lim
  have hnp : ∀ x ∈ blks q [rowD rv R], x ∉ [pa, pb] := fun x hx hm => by
    rcases List.mem_cons.1 hm with h1 | h1
    · exact (h.new x hx).2.1 h1
    · exact (h.new x hx).2.2 (by simpa using h1)
  have hcw : Chg [] w w' := h.chg.trans hc (fun x hx => .inr (by
    rcases List.mem_cons.1 hx with h1 | h1
    · rw [h1]; exact h.lo.1
    · rw [show x = pb by simpa using h1]; exact h.lo.2))
  refine ⟨hcw, ⟨S, rv, R, h.obj.keep hc hnp, hd.keep hcw (by simp), rfl, fun x hx hm => ?_, fun x hx => ?_, fun x hx => List.mem_append_left _ hx, fun x hx => List.mem_append_right _ hx, fun x hx => ?_, hok⟩, fun x hx => ?_⟩
  · have a1 := (h.new x hx).1
    have a2 := hlim x hm
    omega
  · obtain ⟨k1, k2⟩ := h.keys x hx
    refine ⟨k1.chg hc (fun k hk hm => ?_), fun g hg => ⟨Nat.lt_of_lt_of_le (k2 g hg).1 hc.size, fun hm => ?_⟩⟩
    · obtain ⟨_, _, _, k3, k4⟩ := k2 k hk
      rcases List.mem_cons.1 hm with h1 | h1
      · exact k3 h1
      · exact k4 (by simpa using h1)
    · obtain ⟨_, k3, k4, _⟩ := k2 g hg
      rcases List.mem_append.1 hm with hm | hm
      · have := hlim g hm; omega
      · exact k4 hm
  · rcases List.mem_append.1 hx with hx | hx
    · exact Nat.lt_of_lt_of_le (hlim x hx) hcw.size
    · exact Nat.lt_of_lt_of_le (h.obj.lim x hx) hc.size
  · rcases List.mem_append.1 hx with hx | hx
    · exact .inl hx
    · exact .inr (h.new x hx).1
theorem facts_row : (Tryz.prog.info? 192).map (fun i => (i.zero.map (·.cells.size), i.size, i.bytes)) = some (some 3, 3, 40) := by kernel_rfl
end Go.Proofs.YtdkhmfcfihbjeaaGreatDoor.W

/- Package slot: Open. -/
namespace Go.Proofs.YtdkhmfcfihbjeaaGreatDoor.W
open Go.RowKit
set_option linter.unusedVariables false
set_option linter.unusedSimpArgs false

set_option maxHeartbeats 8000000 in
set_option maxRecDepth 100000 in
theorem sopen_bad (p : Nat) (S : List Nat) (d : DS) (first : Int) (w : World) (h : DiskAt w p S d) (hb : first < 0 ∨ (d.n : Int) < first) :
    Calls Tryz.prog 91 #[.pointer (some ⟨p, 0, none⟩), .int .i64 first] w (OpenPost p S w (d.slots first)) := by
  have hg : d.slots first = (1, none) := by unfold DS.slots; rw [if_pos hb]
  rw [hg]
  have CS := Lib.hid (fun w' (hc : Chg [] w w') => dsectors_any p S d w' (h.keep hc (by simp)))
  clear h hg
  by_cases h0 : first < 0
  · clear hb
    go_enter_defers Tryz.func91, Tryz.ntmps91
    go_wp2_with fail
    exact ⟨.tuple #[.pointer none, .int .i64 1], by simp [results, Tryz.results91, go_sem], ((Chg.refl _ _).alloc _).alloc _, rfl⟩
  · have h1 : (d.n : Int) < first := by omega
    clear hb
    go_enter_defers Tryz.func91, Tryz.ntmps91
    go_wp2_with (go_at_call 78; refine (CS.out _ ?_).mono ?_; first | exact ((Chg.refl _ _).alloc _).alloc _ | skip; rintro e w' ⟨rfl, hq⟩; subst hq)
    exact ⟨.tuple #[.pointer none, .int .i64 1], by simp [results, Tryz.results91, go_sem], ((Chg.refl _ _).alloc _).alloc _, rfl⟩

set_option maxHeartbeats 8000000 in
set_option maxRecDepth 100000 in
theorem sopen_dead (p : Nat) (S : List Nat) (d : DS) (first : Int) (w : World) (h : DiskAt w p S d) (hb : ¬ (first < 0 ∨ (d.n : Int) < first)) (hd : d.dead = true ∨ d.n = 0) :
    Calls Tryz.prog 91 #[.pointer (some ⟨p, 0, none⟩), .int .i64 first] w (OpenPost p S w (d.slots first)) := by
  have hg : d.slots first = (14, none) := by unfold DS.slots; rw [if_neg hb, if_pos hd]
  rw [hg]
  obtain ⟨w2, hw2⟩ : ∃ w2, w2 = (w.alloc (.cells #[.pointer none] 95)).alloc (.cells #[.int .i64 0] 26) := ⟨_, rfl⟩
  have hc2 : Chg [] w w2 := by rw [hw2]; exact ((Chg.refl _ _).alloc _).alloc _
  have CS := Lib.hid (dsectors_any p S d w2 (h.keep hc2 (by simp)))
  have CD := Lib.hid (ddead_any p S d w2 (h.keep hc2 (by simp)))
  have hpa : w2.heap[w.heap.size]? = some (.cells #[.pointer none] 95 (0, 0)) := by rw [hw2]; exact blk_alloc (heap_alloc_new w _)
  have hpb : w2.heap[w.heap.size + 1]? = some (.cells #[.int .i64 0] 26 (0, 0)) := by
    rw [hw2]
    have := heap_alloc_new (w.alloc (.cells #[.pointer none] 95)) (.cells #[.int .i64 0] 26)
    simpa using this
  have CP := Lib.hid (catchB_14 w.heap.size (w.heap.size + 1) _ _ [] w2 hpa hpb (by omega))
  have h0 : ¬ first < 0 := by omega
  have h1 : ¬ (d.n : Int) < first := by omega
  have hmf : ∀ (fn : Fn) (first cap : Array Value) (w : World), (Instr.makeFunc fn first cap).run Tryz.prog w = .ok (.func fn first cap) w := fun _ _ _ _ => rfl
  have HW2 := Lib.hid hw2
  have HC2 := Lib.hid hc2
  clear h hg hb hpa hpb hw2 hc2
  by_cases hdd : d.dead = true
  · rw [hdd] at CD
    clear hd hdd
    go_enter_defers Tryz.func91, Tryz.ntmps91
    go_wp2_with (first
      | (go_at_call 78; rw [← HW2.out]; refine CS.out.mono ?_; rintro e w' ⟨rfl, hq⟩; subst hq)
      | (go_at_call 78; refine CS.out.mono ?_; rintro e w' ⟨rfl, hq⟩; subst hq)
      | (go_at_call 38; refine CD.out.mono ?_; rintro e w' ⟨rfl, hq⟩; subst hq))
    refine leaves_cons (f := 134) (args := #[.pointer (some ⟨w.heap.size, 0, none⟩), .pointer (some ⟨w.heap.size + 1, 0, none⟩)]) (by simp) (by simp [go_sem]) ?_
    refine CP.out.mono ?_
    rintro e u' w'' ⟨rfl, rfl, hc, ha, hb⟩
    exact ⟨.tuple #[.pointer none, .int .i64 14], by simp [results, Tryz.results91, go_sem, blk_cell ha 0 _ rfl, blk_cell hb 0 _ rfl], HC2.out.trans hc (fun x hx => .inr (by simp at hx; omega)), rfl⟩
  · have hdn : d.n = 0 := hd.resolve_left hdd
    have hdf : d.dead = false := by simpa using hdd
    rw [hdf] at CD
    have HDN := Lib.hid hdn
    rw [hdn] at CS h1
    clear hd hdd hdn hdf
    go_enter_defers Tryz.func91, Tryz.ntmps91
    go_wp2_with (first
      | (go_at_call 78; rw [← HW2.out]; refine CS.out.mono ?_; rintro e w' ⟨rfl, hq⟩; subst hq)
      | (go_at_call 78; refine CS.out.mono ?_; rintro e w' ⟨rfl, hq⟩; subst hq)
      | (go_at_call 38; refine CD.out.mono ?_; rintro e w' ⟨rfl, hq⟩; subst hq))
    refine leaves_cons (f := 134) (args := #[.pointer (some ⟨w.heap.size, 0, none⟩), .pointer (some ⟨w.heap.size + 1, 0, none⟩)]) (by simp) (by simp [go_sem]) ?_
    refine CP.out.mono ?_
    rintro e u' w'' ⟨rfl, rfl, hc, ha, hb⟩
    exact ⟨.tuple #[.pointer none, .int .i64 14], by simp [results, Tryz.results91, go_sem, blk_cell ha 0 _ rfl, blk_cell hb 0 _ rfl], HC2.out.trans hc (fun x hx => .inr (by simp at hx; omega)), rfl⟩
end Go.Proofs.YtdkhmfcfihbjeaaGreatDoor.W

/- Package slot: Open, of a disk that lives. -/
namespace Go.Proofs.YtdkhmfcfihbjeaaGreatDoor.W
open Go.RowKit
set_option linter.unusedVariables false
set_option linter.unusedSimpArgs false

/-- 's.rows = append(s.rows, r)', the row just laid into a new block. -/
theorem wp_app_row {o : Oper} {a : Act} {K : Act → World → Prop} {Q : Exit → Act → World → Prop} (s y : Operand) (ho : o.op = .call { callee := .builtin .append, args := #[s, y], argTypes := #[188, 188] })
    {w wr : World} {pa pb q p first : Nat} {rv : Value} {R : List (SRow × Value)} (h : OpenAt w wr pa pb q p first rv R) (x : SRow × Value) (hx : BytesAt wr x.2 x.1.key) (hxU : ∀ g, x.2.ownBlock = some g → g < wr.heap.size ∧ w.heap.size ≤ g ∧ g ∉ blks q [rowD rv R] ∧ g ≠ pa ∧ g ≠ pb)
    (hl : R.length ≤ 1000000) (hs : a.eval s = rv) (hy : a.eval y = .slice (some ⟨wr.heap.size, 0, none⟩) 1 1)
    (hk : ∀ g cap w2, w2.cell? ⟨pa, 0, none⟩ = some (.pointer (some ⟨q, 0, none⟩)) → w2.cell? ⟨q, 2, none⟩ = some rv → w2.frozen? ⟨q, 2, none⟩ = false → q < w2.heap.size → Hid (OpenAt w (w2.setCell ⟨q, 2, none⟩ (.slice (some ⟨g, 0, none⟩) (R.length + 1) cap)) pa pb q p first (.slice (some ⟨g, 0, none⟩) (R.length + 1) cap) (R ++ [x])) → K (a.put o.dst (.slice (some ⟨g, 0, none⟩) (R.length + 1) cap)) w2) :
    Oper.wp Tryz.prog o a (wr.alloc (.cells (rcell x).toArray 192)) K Q := by
  obtain ⟨i, z, hi, hz, h1, h2, h3⟩ := info_three facts_row
  have hrow : wr.ownsRow 0 192 3 rv R.length (rcells R) := h.obj.rows _ (List.mem_singleton.2 rfl)
  obtain ⟨ka, kc, hkv⟩ := hx.slice
  have hrow' : (wr.alloc (.cells (rcell x).toArray 192)).ownsRow 0 192 3 rv R.length (rcells R) := hrow.alloc _
  refine wp_append_lies _ s y 188 ho 0 192 i z 3 40 Tryz.underlying188 hi hz h2 h3 h1 (by omega) rv R.length (rcells R) hs hrow' ⟨wr.heap.size, 0, none⟩ 1 1 (rcell x) hy rfl
    (fun j u hj => by rw [add_none, Nat.zero_add]; exact blk_cell (heap_alloc_new wr _) j u (by simpa using hj)) (fun u hu => by
      unfold rcell at hu
      rw [hkv] at hu
      rcases List.mem_cons.1 hu with rfl | hu
      · rfl
      · rcases List.mem_cons.1 hu with rfl | hu
        · rfl
        · obtain rfl := List.mem_singleton.1 hu
          rfl) (by omega) (by unfold maxLen; omega) (by omega) (Nat.zero_le _) _ rfl ?_
  intro g cap w2 hrow hg hat hlt
  have hg' : wr.grownBy w2 rv.ownBlock := grownBy_trans (World.grownBy_alloc wr _ _) hg
  have hkeep : ∀ k, k < wr.heap.size → rv.ownBlock ≠ some k → w2.heap[k]? = wr.heap[k]? := fun k h1 h2 => hg'.block k h1 (fun e => h2 e.symm)
  have hrb : ∀ k, rv.ownBlock = some k → k ∈ blks q [rowD rv R] := fun k hk => blks_row (r := rowD rv R) (List.mem_singleton.2 rfl) hk
  have hq := (hkeep q (blk_lt h.obj.head) (fun e => (h.obj.row_ne (r := rowD rv R) (List.mem_singleton.2 rfl) e) rfl)).trans h.obj.head
  have hpa := (hkeep pa (blk_lt h.ca) (fun e => (h.new _ (hrb _ e)).2.1 rfl)).trans h.ca
  refine hk g cap w2 (blk_cell hpa 0 _ rfl) (blk_cell hq 2 _ rfl) (blk_frozen hq 2) (blk_lt hq) (Lib.hid (h.more x hg' hrow (fun k hk => ?_) hx hxU))
  obtain rfl : g = k := by simpa [Value.ownBlock] using hk
  rcases hat with h4 | h4
  · exact .inl h4
  · exact .inr (by rw [h4]; simp)

theorem leaves_put {P : Program} {fn : Func} {R : Ending → World → Prop} (i : Nat) (v : Value) (hres : ∀ t : Array Value, results fn (t.setIfInBounds i v) = results fn t) :
    ∀ (ds : List Deferred) (u : FrameMode) (w : World) (t : Array Value), Leaves P fn (t.setIfInBounds i v) R ds u w → Leaves P fn t R ds u w := by
  intro ds
  induction ds with
  | nil =>
    intro u w t h
    cases u with
    | run => exact h
    | returning =>
      obtain ⟨x, h1, h2⟩ := h
      exact ⟨x, by rw [hres] at h1; exact h1, h2⟩
    | panicking c => exact h
  | cons d ds ih =>
    intro u w t h
    obtain ⟨h0, fv, cap, f, args, h1, h2, h3⟩ := h
    refine ⟨h0, fv, cap, f, args, h1, h2, h3.mono ?_⟩
    intro e u' w' hr
    cases e with
    | returned x => exact ih _ _ _ hr
    | panicked c => exact ih _ _ _ hr
    | outgrown => exact hr
theorem open_res (i : Nat) (v : Value) (h4 : i ≠ 4) (h5 : i ≠ 5) (t : Array Value) : results Tryz.f91 (t.setIfInBounds i v) = results Tryz.f91 t := by
  unfold results
  rw [Tryz.results91]
  simp [Array.getElem?_setIfInBounds_ne h4, Array.getElem?_setIfInBounds_ne h5]
theorem openQ {R : Ending → World → Prop} (i : Nat) (v : Value) (h4 : i ≠ 4) (h5 : i ≠ 5) (c : List PanicEntry) (a : Act) (w : World) (h : bodyPostD Tryz.prog Tryz.f91 R (.panic c) (a.put (some i) v) w) : bodyPostD Tryz.prog Tryz.f91 R (.panic c) a w :=
  leaves_put i v (open_res i v h4 h5) _ _ _ _ h

set_option maxHeartbeats 8000000 in
set_option maxRecDepth 100000 in
theorem sopen_live (p : Nat) (S : List Nat) (d : DS) (first : Nat) (w : World) (h : DiskAt w p S d) (hb : first ≤ d.n) (hd : d.dead = false) (hn : d.n ≠ 0) :
    Calls Tryz.prog 91 #[.pointer (some ⟨p, 0, none⟩), .int .i64 (first : Int)] w (OpenPost p S w (d.slots first)) := by
  have hg : d.slots first = match rowsFrom d first ((d.n - first) / 8) 0 with
      | none => (4, none)
      | some rows => (0, some ⟨d, first, rows⟩) := by
    unfold DS.slots
    rw [if_neg (by omega), if_neg (by simp [hd, hn])]
    rfl
  obtain ⟨w2, hw2⟩ : ∃ w2, w2 = (w.alloc (.cells #[.pointer none] 95)).alloc (.cells #[.int .i64 0] 26) := ⟨_, rfl⟩
  obtain ⟨w3, hw3⟩ : ∃ w3, w3 = (w2.setCell ⟨w.heap.size, 0, none⟩ (.pointer (some ⟨w.heap.size + 2, 0, none⟩))).alloc (.cells #[.pointer (some ⟨p, 0, none⟩), .int .i64 (first : Int), .slice none 0 0] 190) := ⟨_, rfl⟩
  have hc2 : Chg [] w w2 := by rw [hw2]; exact ((Chg.refl _ _).alloc _).alloc _
  have CS := Lib.hid (fun w' (hc : Chg [] w w') => dsectors_any p S d w' (h.keep hc (by simp)))
  have CD := Lib.hid (ddead_any p S d w2 (h.keep hc2 (by simp)))
  have CR := Lib.hid (fun k w' (hc : Chg [] w w') => dread_any p S d k w' (h.keep hc (by simp)))
  have hs2 : w2.heap.size = w.heap.size + 2 := by rw [hw2]; simp
  have hpa : w2.heap[w.heap.size]? = some (.cells #[.pointer none] 95 (0, 0)) := by rw [hw2]; exact blk_alloc (heap_alloc_new w _)
  have hpb : w2.heap[w.heap.size + 1]? = some (.cells #[.int .i64 0] 26 (0, 0)) := by
    rw [hw2]
    have := heap_alloc_new (w.alloc (.cells #[.pointer none] 95)) (.cells #[.int .i64 0] 26)
    simpa using this
  have hs2' : (w2.setCell ⟨w.heap.size, 0, none⟩ (.pointer (some ⟨w.heap.size + 2, 0, none⟩))).heap.size = w.heap.size + 2 := by rw [← hs2]; simp [World.setCell]
  have hq2 : ((w2.setCell ⟨w.heap.size, 0, none⟩ (.pointer (some ⟨w.heap.size + 2, 0, none⟩))).alloc (.cells #[.pointer (some ⟨p, 0, none⟩), .int .i64 (first : Int), .slice none 0 0] 190)).heap[w.heap.size + 2]? = some (.cells #[.pointer (some ⟨p, 0, none⟩), .int .i64 (first : Int), .slice none 0 0] 190 (0, 0)) := by
    have h1 := heap_alloc_new (w2.setCell ⟨w.heap.size, 0, none⟩ (.pointer (some ⟨w.heap.size + 2, 0, none⟩))) (.cells #[.pointer (some ⟨p, 0, none⟩), .int .i64 (first : Int), .slice none 0 0] 190)
    rw [hs2'] at h1
    exact h1
  have HO3 : Hid (OpenAt w w3 w.heap.size (w.heap.size + 1) (w.heap.size + 2) p first (.slice none 0 0) []) := Lib.hid (by
    rw [hw3]
    refine ⟨((hc2.setCell (p := ⟨w.heap.size, 0, none⟩) (.inr (Nat.le_refl _)) _).alloc _), ⟨Nat.le_refl _, by omega⟩, blk_alloc (set_blk hpa), blk_alloc (blk_sets hpb (by omega)), ⟨hq2, fun r hr => ?_, by simp [blks, rowD, Value.ownBlock]⟩, fun x hx => ?_, fun x hx => by cases hx⟩
    · obtain rfl : r = rowD (.slice none 0 0) [] := by simpa using hr
      exact ⟨rfl, .inl ⟨rfl, rfl⟩⟩
    · have : x = w.heap.size + 2 := by simpa [blks, rowD, Value.ownBlock] using hx
      omega)
  have hfew : d.n ≤ 4160 := by
    obtain ⟨gn, gl, cn, cl, v, hd⟩ := h
    exact hd.few
  have hlen64 : Hid (∀ k, k < d.n → (d.now k).length = 64) := Lib.hid (by
    obtain ⟨gn, gl, cn, cl, v, hd⟩ := h
    exact fun k hk => hd.now.len k hk)
  have h0 : ¬ (first : Int) < 0 := by omega
  have h1 : ¬ (d.n : Int) < (first : Int) := by omega
  have hnz : ¬ (d.n : Int) = 0 := by omega
  have hnz1 : ((d.n : Int) == 0) = false := by simp [hn]
  have hmf : ∀ (fn : Fn) (first cap : Array Value) (w : World), (Instr.makeFunc fn first cap).run Tryz.prog w = .ok (.func fn first cap) w := fun _ _ _ _ => rfl
  have HDK := Lib.hid h
  have HW2 := Lib.hid hw2
  have HW3 := Lib.hid hw3
  have HC2 := Lib.hid hc2
  have f0 := blk_frozen hpa 0
  have a0 := blk_cell hpa 0 _ rfl
  have l0 := blk_lt hpa
  have hw2z := hs2
  have HG := Lib.hid hg
  rw [hd] at CD
  have HD := Lib.hid hd
  have HPA := Lib.hid hpa
  have HPB := Lib.hid hpb
  obtain ⟨Z, hZ⟩ : ∃ Z, Z = d.slots first := ⟨_, rfl⟩
  rw [← hZ] at HG ⊢
  obtain ⟨m, hm⟩ : ∃ m, m = (d.n - first) / 8 := ⟨_, rfl⟩
  rw [← hm] at HG
  obtain ⟨n, hnn⟩ : ∃ n, n = d.n := ⟨_, rfl⟩
  have HN := Lib.hid hnn
  rw [← hnn] at h1 hnz hnz1 hfew hb CS hm
  have hm8 : first + 8 * m ≤ n ∧ n < first + 8 * m + 8 := by omega
  clear h hg hw2 hw3 hc2 hpa hpb hq2 hs2' hd hZ hn hnn hm
  go_enter_defers Tryz.func91, Tryz.ntmps91
  go_wp2_with (first
      | (go_at_call 78; rw [← HW2.out]; refine (CS.out _ HC2.out).mono ?_; rintro e w' ⟨rfl, hq⟩; subst hq)
      | (go_at_call 78; refine (CS.out _ HC2.out).mono ?_; rintro e w' ⟨rfl, hq⟩; subst hq)
      | (go_at_call 38; refine CD.out.mono ?_; rintro e w' ⟨rfl, hq⟩; subst hq))
  rw [← HW3.out]
  go_loopg [6] m (fun g' s6 wr => ∃ (k : Nat) (rv : Value) (R : List (SRow × Value)), s6 = .int .i64 ((first + 8 * k : Nat) : Int) ∧ k ≤ m ∧ m ≤ k + g' ∧ Hid (OpenAt w wr w.heap.size (w.heap.size + 1) (w.heap.size + 2) p first rv R ∧ R.length = k ∧ rowsFrom d first m 0 = (rowsFrom d first (m - k) k).map (R.map (·.1) ++ ·)))
  case atStart => exact ⟨0, .slice none 0 0, [], by simp, by omega, by omega, Lib.hid ⟨HO3.out, rfl, by simp⟩⟩
  case round =>
    obtain ⟨k, rv, R, rfl, hk, hkg, HR⟩ := hrel
    obtain ⟨hO, hRl, hrows⟩ := HR.out
    have HO := Lib.hid hO
    have HROWS := Lib.hid hrows
    have CSr := Lib.hid (CS.out wr hO.chg)
    clear hO hrows f0 a0 l0 HR
    have hk8 : first + 8 * k ≤ 4160 := by omega
    have hwr : Hid (IntKind.i64.wrap (((first + 8 * k : Nat) : Int) + 8) = ((first + 8 * k + 8 : Nat) : Int)) := Lib.hid (by rw [IntWalk.i64_in _ ⟨by omega, by omega⟩]; push_cast; omega)
    by_cases hlt : k < m
    · have hle : (first : Int) + 8 * (k : Int) + 8 ≤ (n : Int) := by omega
      go_wp2_with (go_at_call 78; refine CSr.out.mono ?_; rintro e w' ⟨rfl, hq⟩; subst hq)
      have hlen := hlen64.out (first + 8 * k) (by rw [← HN.out]; omega)
      have HLEN := Lib.hid hlen
      refine (CR.out _ wr HO.out.chg).mono ?_
      rintro e w4 ⟨he, hc4⟩
      rw [if_neg (by rw [HD.out]; simp), if_pos ⟨by omega, by rw [← HN.out]; omega⟩] at he
      obtain ⟨v4, rfl, hr4, hn4⟩ := he
      rw [show ((first : Int) + 8 * (k : Int)).toNat = first + 8 * k by omega] at hr4
      have HO4 := Lib.hid (HO.out.keep hc4)
      have CH := Lib.hid (head_any v4 (d.now (first + 8 * k)) w4.drew (hr4.bytes.chg (by exact (Chg.refl [] w4).drew) (by simp)) (by rw [hlen]; omega))
      obtain ⟨a4, c4, hv4⟩ := hr4.bytes.slice
      rw [hlen] at hv4
      obtain ⟨b4, hb4⟩ : ∃ b4, b4 = d.now (first + 8 * k) := ⟨_, rfl⟩
      have HB4 := Lib.hid hb4
      rw [← hb4] at CH
      subst hv4
      clear hlen hr4 hn4 hc4 hb4
      have a0 := blk_cell HO4.out.ca 0 _ rfl
      have a1 := blk_cell HO4.out.obj.head 2 _ rfl
      go_wp2_with (go_at_call 135; refine (must_ok _).mono ?_; rintro e w' ⟨rfl, hq⟩; subst hq)
      refine wp_region_L [(11, fun w' => w'.cell? ⟨w.heap.size, 0, none⟩ = some (.pointer (some ⟨w.heap.size + 2, 0, none⟩))), (11, fun w' => w'.cell? ⟨w.heap.size + 2, 2, none⟩ = some rv)] (by kernel_rfl) ?_ (fun hHeld => ?_)
      · exact (HoldC.cons (a0) (HoldC.cons (a1) HoldC.nil))
      refine wpAnyL_load 0 (i := 0) (oi := _) (v := ?_) rfl rfl (by kernel_rfl) (by kernel_rfl) (by kernel_rfl) (by kernel_rfl) (by kernel_rfl) (by kernel_rfl) (by intro c a w hq; refine openQ _ _ ?_ ?_ c a w hq <;> decide) (Or.inl ⟨by rfl, ?_⟩) (by assumption) (fun hNew => ?_)
      rotate_left
      · intro w hSw
        (try dsimp only at hSw)
        go_simp
        try with_reducible rfl
      clear hHeld
      have hHeld := hNew
      clear hNew
      try simp only [List.getElem_toArray, List.getElem_cons_succ, List.getElem_cons_zero, Act.put, List.setIfInBounds_toArray, List.set_cons_zero, List.set_cons_succ]
      refine wpAnyL_load 0 (i := 1) (oi := _) (v := ?_) rfl rfl (by kernel_rfl) (by kernel_rfl) (by kernel_rfl) (by kernel_rfl) (by kernel_rfl) (by kernel_rfl) (by intro c a w hq; refine openQ _ _ ?_ ?_ c a w hq <;> decide) (Or.inl ⟨by rfl, ?_⟩) (by assumption) (fun hNew => ?_)
      rotate_left
      · intro w hSw
        (try dsimp only at hSw)
        go_simp
        try with_reducible rfl
      clear hHeld
      have hHeld := hNew
      clear hNew
      try simp only [List.getElem_toArray, List.getElem_cons_succ, List.getElem_cons_zero, Act.put, List.setIfInBounds_toArray, List.set_cons_zero, List.set_cons_succ]
      refine wpAnyL_take (i := 2) (oi := _) (v := ?_) rfl (by kernel_rfl) (by kernel_rfl) (by kernel_rfl) (by kernel_rfl) (by kernel_rfl) (by intro c a w hq; refine openQ _ _ ?_ ?_ c a w hq <;> decide) (Or.inl ⟨by rfl, ?_⟩) (by assumption) (fun hNew => ?_)
      rotate_left
      · intro w _
        go_simp
        try with_reducible rfl
      clear hHeld
      have hHeld := hNew
      clear hNew
      try simp only [List.getElem_toArray, List.getElem_cons_succ, List.getElem_cons_zero, Act.put, List.setIfInBounds_toArray, List.set_cons_zero, List.set_cons_succ]
      refine wpAnyL_take (i := 3) (oi := _) (v := ?_) rfl (by kernel_rfl) (by kernel_rfl) (by kernel_rfl) (by kernel_rfl) (by kernel_rfl) (by intro c a w hq; refine openQ _ _ ?_ ?_ c a w hq <;> decide) (Or.inl ⟨by rfl, ?_⟩) (by assumption) (fun hNew => ?_)
      rotate_left
      · intro w _
        go_simp
        try with_reducible rfl
      clear hHeld
      have hHeld := hNew
      clear hNew
      try simp only [List.getElem_toArray, List.getElem_cons_succ, List.getElem_cons_zero, Act.put, List.setIfInBounds_toArray, List.set_cons_zero, List.set_cons_succ]
      refine wpAnyL_load 1 (i := 4) (oi := _) (v := ?_) rfl rfl (by kernel_rfl) (by kernel_rfl) (by kernel_rfl) (by kernel_rfl) (by kernel_rfl) (by kernel_rfl) (by intro c a w hq; refine openQ _ _ ?_ ?_ c a w hq <;> decide) (Or.inl ⟨by rfl, ?_⟩) (by assumption) (fun hNew => ?_)
      rotate_left
      · intro w hSw
        (try dsimp only at hSw)
        go_simp
        try with_reducible rfl
      clear hHeld
      have hHeld := hNew
      clear hNew
      try simp only [List.getElem_toArray, List.getElem_cons_succ, List.getElem_cons_zero, Act.put, List.setIfInBounds_toArray, List.set_cons_zero, List.set_cons_succ]
      refine wpAnyL_take (i := 5) (oi := _) (v := ?_) rfl (by kernel_rfl) (by kernel_rfl) (by kernel_rfl) (by kernel_rfl) (by kernel_rfl) (by intro c a w hq; refine openQ _ _ ?_ ?_ c a w hq <;> decide) (Or.inl ⟨by rfl, ?_⟩) (by assumption) (fun hNew => ?_)
      rotate_left
      · intro w _
        go_simp
        try with_reducible rfl
      clear hHeld
      have hHeld := hNew
      clear hNew
      try simp only [List.getElem_toArray, List.getElem_cons_succ, List.getElem_cons_zero, Act.put, List.setIfInBounds_toArray, List.set_cons_zero, List.set_cons_succ]
      refine wpAnyL_ready (rs := [6]) (by kernel_rfl) (by simp) ?_
      refine AllReadyL.cons (o := _) rfl (fun K hK => ?_) AllReadyL.nil
      try simp only [List.getElem_toArray, List.getElem_cons_succ, List.getElem_cons_zero]
      go_simp
      refine CH.out.mono ?_
      rintro e w5 ⟨hc5, hh⟩
      have HO5 := Lib.hid (HO4.out.keep ((by exact (Chg.refl [] w4).drew : Chg [] w4 w4.drew).trans hc5 (by simp)))
      have hc5' : Chg [] w4 w5 := (by exact (Chg.refl [] w4).drew : Chg [] w4 w4.drew).trans hc5 (by simp)
      cases hhd : headOf b4 with
      | none =>
        rw [hhd] at hh
        obtain ⟨x, rfl, hx⟩ := hh
        have HZ : Hid (Z = (4, none)) := Lib.hid (by
          rw [HG.out, HROWS.out, show m - k = (m - (k + 1)) + 1 by omega]
          unfold rowsFrom
          rw [← HB4.out, hhd]
          rfl)
        have CP := Lib.hid (catchB_x w.heap.size (w.heap.size + 1) x hx _ _ [] w5 HO5.out.ca HO5.out.cb (by omega))
        unfold broke
        refine leaves_cons (f := 134) (args := #[.pointer (some ⟨w.heap.size, 0, none⟩), .pointer (some ⟨w.heap.size + 1, 0, none⟩)]) (by simp) (by simp [go_sem]) ?_
        refine CP.out.mono ?_
        rintro e u' w'' ⟨rfl, rfl, hc, ha, hb⟩
        refine ⟨.tuple #[.pointer none, .int .i64 4], by simp [results, Tryz.results91, go_sem, blk_cell ha 0 _ rfl, blk_cell hb 0 _ rfl], ?_⟩
        rw [HZ.out]
        exact ⟨HO5.out.chg.trans hc (fun x hx => .inr (by simp at hx; omega)), rfl⟩
      | some r =>
        rw [hhd] at hh
        obtain ⟨kv, rfl, hr5, ho5⟩ := hh
        have hxU : ∀ g, kv.ownBlock = some g → g < w5.heap.size ∧ w.heap.size ≤ g ∧ g ∉ blks (w.heap.size + 2) [rowD rv R] ∧ g ≠ w.heap.size ∧ g ≠ w.heap.size + 1 := fun g hg => by
          have e1 := ho5 g hg
          have e2 : w4.drew.heap.size = w4.heap.size := rfl
          have e3 := blk_lt HO4.out.cb
          have e4 := HO4.out.chg.size
          refine ⟨hr5.lt g hg, by omega, fun hm => ?_, by omega, by omega⟩
          have := HO4.out.obj.lim g hm
          omega
        have HXU := Lib.hid hxU
        have HBX := Lib.hid hr5.bytes
        obtain ⟨iw, zw, hiw, hzw1, hzw2, hzw3, hzw4⟩ := info_three facts_row
        have HIW := Lib.hid hiw
        have HZ1 := Lib.hid hzw1
        have HZ3 : Hid (iw.size = (rcell (r, kv)).toArray.size) := Lib.hid (by rw [hzw3]; rfl)
        have HWS : Hid ((rcell (r, kv)).toArray.size = 3) := Lib.hid rfl
        have HRC : Hid (rowsFrom d first m 0 = (rowsFrom d first (m - (k + 1)) (k + 1)).map ((R ++ [(r, kv)]).map (·.1) ++ ·)) := Lib.hid (by
          rw [HROWS.out, show m - k = (m - (k + 1)) + 1 by omega]
          conv => lhs; unfold rowsFrom
          rw [← HB4.out, hhd]
          dsimp only
          rw [Option.map_map]
          congr 1
          funext t
          simp)
        clear hhd hxU hr5 ho5 hc5 hc5' hiw hzw1 hzw2 hzw3 hzw4 CH HB4 HLEN
        have a5 := blk_cell HO5.out.ca 0 _ rfl
        have b5 := blk_cell HO5.out.obj.head 2 _ rfl
        try go_wp2_with fail
        clear hHeld
        refine hK.out _ _ ?_ (fun hHeld => ?_)
        · exact (HoldC.cons (a5) (HoldC.cons (b5) HoldC.nil))
        clear hK K
        try simp only [List.getElem_toArray, List.getElem_cons_succ, List.getElem_cons_zero, Act.put, List.setIfInBounds_toArray, List.set_cons_zero, List.set_cons_succ]
        refine wpAnyL_ready (rs := [7]) (by kernel_rfl) (by simp) ?_
        refine AllReadyL.cons (o := _) rfl (fun K hK => ?_) AllReadyL.nil
        try simp only [List.getElem_toArray, List.getElem_cons_succ, List.getElem_cons_zero]
        rw [if_pos (by rfl)]
        refine wp_slice1 188 192 (.tmp 57) (by rfl) (rcell (r, kv)).toArray (by rfl) iw zw Tryz.underlying188 HIW.out HZ1.out HZ3.out (by rw [HWS.out]; omega) (by rw [HWS.out]; omega) ?_
        clear hHeld
        refine hK.out _ _ ?_ (fun hHeld => ?_)
        · exact (HoldC.cons ((blk_cell (blk_alloc HO5.out.ca) 0 _ rfl)) (HoldC.cons ((blk_cell (blk_alloc HO5.out.obj.head) 2 _ rfl)) HoldC.nil))
        clear hK K
        try simp only [List.getElem_toArray, List.getElem_cons_succ, List.getElem_cons_zero, Act.put, List.setIfInBounds_toArray, List.set_cons_zero, List.set_cons_succ]
        refine wpAnyL_ready (rs := [8]) (by kernel_rfl) (by simp) ?_
        refine AllReadyL.cons (o := _) rfl (fun K hK => ?_) AllReadyL.nil
        try simp only [List.getElem_toArray, List.getElem_cons_succ, List.getElem_cons_zero]
        rw [if_pos (by rfl)]
        refine wp_app_row (.tmp 55) (.tmp 58) (by rfl) HO5.out (r, kv) HBX.out HXU.out (by omega) (by rfl) (by rfl) ?_
        intro g2 cap2 w6 ea eb ef el HO6
        clear hHeld
        refine hK.out _ _ ?_ (fun hHeld => ?_)
        · exact (HoldC.cons (ea) (HoldC.cons (eb) HoldC.nil))
        clear hK K
        try simp only [List.getElem_toArray, List.getElem_cons_succ, List.getElem_cons_zero, Act.put, List.setIfInBounds_toArray, List.set_cons_zero, List.set_cons_succ]
        refine wpAnyL_take (i := 9) (oi := _) (v := ?_) rfl (by kernel_rfl) (by kernel_rfl) (by kernel_rfl) (by kernel_rfl) (by kernel_rfl) (by intro c a w hq; refine openQ _ _ ?_ ?_ c a w hq <;> decide) (Or.inl ⟨by rfl, ?_⟩) (by assumption) (fun hNew => ?_)
        rotate_left
        · intro w _
          go_simp
          try with_reducible rfl
        clear hHeld
        have hHeld := hNew
        clear hNew
        try simp only [List.getElem_toArray, List.getElem_cons_succ, List.getElem_cons_zero, Act.put, List.setIfInBounds_toArray, List.set_cons_zero, List.set_cons_succ]
        refine wpAnyL_take (i := 10) (oi := _) (v := ?_) rfl (by kernel_rfl) (by kernel_rfl) (by kernel_rfl) (by kernel_rfl) (by kernel_rfl) (by intro c a w hq; refine openQ _ _ ?_ ?_ c a w hq <;> decide) (Or.inl ⟨by rfl, ?_⟩) (by assumption) (fun hNew => ?_)
        rotate_left
        · intro w _
          go_simp
          try with_reducible rfl
        clear hHeld
        have hHeld := hNew
        clear hNew
        try simp only [List.getElem_toArray, List.getElem_cons_succ, List.getElem_cons_zero, Act.put, List.setIfInBounds_toArray, List.set_cons_zero, List.set_cons_succ]
        refine wpAnyL_ready (rs := [11]) (by kernel_rfl) (by simp) ?_
        refine AllReadyL.cons (o := _) rfl (fun K hK => ?_) AllReadyL.nil
        try simp only [List.getElem_toArray, List.getElem_cons_succ, List.getElem_cons_zero]
        go_simp
        clear hHeld
        refine hK.out _ _ ?_ (fun hHeld => ?_)
        · exact (HoldC.past (by kernel_rfl) (HoldC.past (by kernel_rfl) HoldC.nil))
        clear hK K
        try simp only [List.getElem_toArray, List.getElem_cons_succ, List.getElem_cons_zero, Act.put, List.setIfInBounds_toArray, List.set_cons_zero, List.set_cons_succ]
        refine wpAnyL_done (by kernel_rfl) ?_ _
        clear hHeld
        rw [hRl] at HO6
        generalize w6.setCell ⟨w.heap.size + 2, 2, none⟩ (.slice (some ⟨g2, 0, none⟩) (k + 1) cap2) = w7 at *
        clear ea eb ef el a0 a1 a5 b5
        have hw8 : IntKind.i64.wrap ((first : Int) + 8 * (k : Int) + 8) = ((first + 8 * (k + 1) : Nat) : Int) := by rw [IntWalk.i64_in _ ⟨by omega, by omega⟩]; push_cast; omega
        have HW8 := Lib.hid hw8
        clear hw8
        go_wp2
        go_roundg (gk - 1)
        case measure => omega
        case rel => exact ⟨k + 1, _, R ++ [(r, kv)], by first | rfl | rw [HW8.out] | (push_cast; congr 1; omega), by omega, by omega, Lib.hid ⟨HO6.out, by simp [hRl], HRC.out⟩⟩
    · have hkm : k = m := by omega
      have hle : ¬ (first : Int) + 8 * (m : Int) + 8 ≤ (n : Int) := by omega
      obtain rfl := hkm.symm
      have HZ : Hid (Z = (0, some ⟨d, first, R.map (·.1)⟩)) := Lib.hid (by
        rw [HG.out, HROWS.out, Nat.sub_self]
        simp [rowsFrom])
      have HROK : Hid (rowsFrom d first m 0 = some (R.map (·.1))) := Lib.hid (by rw [HROWS.out, Nat.sub_self]; simp [rowsFrom])
      have a0 := blk_cell HO.out.ca 0 _ rfl
      have f0 := blk_frozen HO.out.ca 0
      have b0 := blk_cell HO.out.cb 0 _ rfl
      have g0 := blk_frozen HO.out.cb 0
      have l0 := blk_lt HO.out.ca
      have l1 := blk_lt HO.out.cb
      have l2 : ¬ (w.heap.size = w.heap.size + 1) := by omega
      have HD1 := Lib.hid (HO.out.done HDK.out ⟨by show first + 8 * (R.map (·.1)).length ≤ d.n; rw [List.length_map, hRl, ← HN.out]; omega, (rowsFrom_len _ _ _ HROK.out).2⟩)
      clear hkm hRl
      go_wp2_with (go_at_call 78; refine CSr.out.mono ?_; rintro e w' ⟨rfl, hq⟩; subst hq)
      refine leaves_cons (f := 134) (args := #[.pointer (some ⟨w.heap.size, 0, none⟩), .pointer (some ⟨w.heap.size + 1, 0, none⟩)]) (by simp) (by simp [go_sem]) ?_
      refine (catchB_idle _ _ _).mono ?_
      rintro e u' w'' ⟨rfl, rfl, rfl⟩
      obtain ⟨w9, hw9⟩ : ∃ w9, w9 = (wr.setCell ⟨w.heap.size, 0, none⟩ (.pointer (some ⟨w.heap.size + 2, 0, none⟩))).setCell ⟨w.heap.size + 1, 0, none⟩ (.int .i64 0) := ⟨_, rfl⟩
      have hc9 : Chg [w.heap.size, w.heap.size + 1] wr w9 := by rw [hw9]; exact ((Chg.refl _ wr).setCell (p := ⟨w.heap.size, 0, none⟩) (.inl (by simp)) _).setCell (p := ⟨w.heap.size + 1, 0, none⟩) (.inl (by simp)) _
      have ca9 : w9.heap[w.heap.size]? = some (.cells #[.pointer (some ⟨w.heap.size + 2, 0, none⟩)] 95 (0, 0)) := by rw [hw9]; exact blk_sets (set_blk HO.out.ca) (by omega)
      have cb9 : w9.heap[w.heap.size + 1]? = some (.cells #[.int .i64 0] 26 (0, 0)) := by rw [hw9]; exact set_blk (blk_sets HO.out.cb (by omega))
      rw [← hw9]
      obtain ⟨k1, k2, k3⟩ := HD1.out _ (hc9.alloc (.cells #[.int .i64 0] 186))
      refine ⟨.tuple #[.pointer (some ⟨w.heap.size + 2, 0, none⟩), .int .i64 0], by simp [results, Tryz.results91, go_sem, blk_cell (blk_alloc (o' := .cells #[.int .i64 0] 186) ca9) 0 _ rfl, blk_cell (blk_alloc (o' := .cells #[.int .i64 0] 186) cb9) 0 _ rfl], ?_⟩
      rw [HZ.out]
      exact ⟨k1, _, _, rfl, k2, k3⟩

/-- Open. -/
theorem sopen_any (p : Nat) (S : List Nat) (d : DS) (first : Int) (w : World) (h : DiskAt w p S d) : Calls Tryz.prog 91 #[.pointer (some ⟨p, 0, none⟩), .int .i64 first] w (OpenPost p S w (d.slots first)) := by
  by_cases hb : first < 0 ∨ (d.n : Int) < first
  · exact sopen_bad p S d first w h hb
  · by_cases hd : d.dead = true ∨ d.n = 0
    · exact sopen_dead p S d first w h hb hd
    · obtain ⟨f, rfl⟩ := Int.eq_ofNat_of_zero_le (show 0 ≤ first by omega)
      exact sopen_live p S d f w h (by omega) (by simpa using fun h => hd (.inl h)) (fun h => hd (.inr h))
end Go.Proofs.YtdkhmfcfihbjeaaGreatDoor.W

/- Package store: read; the eye's End. -/
namespace Go.Proofs.YtdkhmfcfihbjeaaGreatDoor.W
open Go.RowKit
set_option linter.unusedVariables false
set_option linter.unusedSimpArgs false

def endOf (l : List UInt8) (bad : Int) : Int := if bad ≠ 0 then bad else if l = [] then 0 else 3
set_option maxHeartbeats 2000000 in
theorem eend_any (b g : Nat) (l : List UInt8) (bad : Int) (w : World) (h : EyeAt w b g l bad) :
    Calls Tryz.prog 58 #[.pointer (some ⟨b, 0, none⟩)] w fun e w' => e = .returned (.int .i64 (endOf l bad)) ∧ w = w' := by
  have CF := Lib.hid (efail_any b g l bad w h)
  obtain ⟨v, hb, hv, _, _, _⟩ := h
  obtain ⟨a, cap, rfl⟩ := hv.slice
  have h1 := blk_cell hb 1 _ rfl
  unfold endOf
  clear hb hv
  by_cases hbad : bad = 0
  · subst hbad
    rw [if_neg (by simp)]
    by_cases hl : l = []
    · subst hl
      rw [if_pos rfl]
      go_enter Tryz.func58, Tryz.ntmps58
      go_wp2_with (go_at_call 55; refine CF.out.mono ?_; rintro e w' ⟨rfl, hq⟩; subst hq)
      go_ret
      exact ⟨rfl, rfl⟩
    · rw [if_neg hl]
      have hp : 0 < l.length := List.length_pos_iff.2 hl
      clear hl
      go_enter Tryz.func58, Tryz.ntmps58
      go_wp2_with (go_at_call 55; refine CF.out.mono ?_; rintro e w' ⟨rfl, hq⟩; subst hq)
      go_ret
      exact ⟨rfl, rfl⟩
  · rw [if_pos hbad]
    have q : (bad != 0) = true := by simp [hbad]
    clear hbad
    go_enter Tryz.func58, Tryz.ntmps58
    go_wp2_with (go_at_call 55; refine CF.out.mono ?_; rintro e w' ⟨rfl, hq⟩; subst hq)
    go_ret
    exact ⟨rfl, rfl⟩

theorem EyeAt.pick {w : World} {b g : Nat} {l : List UInt8} {bad : Int} (h : EyeAt w b g l bad) (M : Nat) (hM : M ≠ b) : ∃ g', EyeAt w b g' l bad ∧ (g' = g ∧ g < w.heap.size ∨ g' = M) := by
  obtain ⟨v, hb, hv, hgb, hg, hl⟩ := h
  rcases hg with hg | hg
  · exact ⟨g, ⟨v, hb, hv, hgb, .inl hg, hl⟩, .inl ⟨rfl, hg⟩⟩
  · subst hg
    have hv' : l = [] := by
      rcases hv with ⟨_, h⟩ | ⟨o, cap, h, _⟩
      · exact h
      · cases h
    exact ⟨M, ⟨_, hb, .inl ⟨rfl, hv'⟩, by first | exact hM | exact hM.symm, .inr rfl, hl⟩, .inr rfl⟩
/-- An eye that is read while an id is filled in block N. -/
structure EyeNew (w0 w : World) (b g N : Nat) (x : Id) (r : Int × List UInt8 × Int) : Prop where
  eye : EyeAt w b g r.2.1 r.2.2
  chg : Chg [] w0 w
  own : w0.heap.size ≤ b
  blk : w.heap[N]? = some (.cells (idC x) 38 (0, 0))
  own2 : w0.heap.size ≤ N
  ne : N ≠ b ∧ N ≠ g
theorem EyeNew.num {w0 w : World} {b g N : Nat} {x : Id} {r : Int × List UInt8 × Int} (h : EyeNew w0 w b g N x r) (n : Nat) (h1 : 1 ≤ n) (h7 : n ≤ 7) (r' : Int × List UInt8 × Int) (hr : r' = eyeNum r.2.1 r.2.2 n) :
    Calls Tryz.prog 54 #[.pointer (some ⟨b, 0, none⟩), .int .i64 n] w fun e w' => e = .returned (.int .i64 r'.1) ∧ EyeNew w0 w' b g N x r' := by
  subst hr
  refine (enum_any b g r.2.1 r.2.2 n w h.eye (by omega) (by omega)).mono ?_
  rintro e w' ⟨rfl, h2, h3⟩
  refine ⟨rfl, h2, h.chg.trans h3 (fun x hx => .inr ?_), h.own, h3.keep h.blk (by simpa using h.ne.1), h.own2, h.ne⟩
  rw [List.mem_singleton.1 hx]; exact h.own
theorem EyeNew.set {w0 w : World} {b g N : Nat} {x y : Id} {r : Int × List UInt8 × Int} (h : EyeNew w0 w b g N x r) (j : Nat) (u : Value) (hy : (idC x).setIfInBounds j u = idC y) : EyeNew w0 (w.setCell ⟨N, j, none⟩ u) b g N y r := by
  have hc : Chg [N] w (w.setCell ⟨N, j, none⟩ u) := (Chg.refl [N] w).setCell (p := ⟨N, j, none⟩) (.inl (by simp)) u
  refine ⟨h.eye.keep hc (by simpa using Ne.symm h.ne.1) (by simpa using Ne.symm h.ne.2), h.chg.setCell (p := ⟨N, j, none⟩) (.inr h.own2) u, h.own, ?_, h.own2, h.ne⟩
  rw [← hy]; exact set_blk h.blk
theorem EyeNew.cells {w0 w : World} {b g N : Nat} {a c d e : Int} {r : Int × List UInt8 × Int} (h : EyeNew w0 w b g N ⟨a, c, d, e⟩ r) : (w.cell? ⟨N, 0, none⟩ = some (.int .i64 a) ∧ w.cell? ⟨N, 1, none⟩ = some (.int .i64 c) ∧ w.cell? ⟨N, 2, none⟩ = some (.int .i64 d) ∧ w.cell? ⟨N, 3, none⟩ = some (.int .i64 e)) ∧
    w.frozen? ⟨N, 0, none⟩ = false ∧ w.frozen? ⟨N, 1, none⟩ = false ∧ w.frozen? ⟨N, 2, none⟩ = false ∧ w.frozen? ⟨N, 3, none⟩ = false :=
  ⟨id_cells h.blk, blk_frozen h.blk 0, blk_frozen h.blk 1, blk_frozen h.blk 2, blk_frozen h.blk 3⟩

theorem idSize : (Tryz.prog.info? 38).map (·.size) = some 4 := by kernel_rfl
theorem ret_id {fn : Func} {p u : Tmp} (h : fn.results = #[.cell p 38, .tmp u]) (tmps : Array Value) {w : World} {b t : Nat} {x : Id} {q : Value} (hp : tmps.getD p undef = .pointer (some ⟨b, 0, none⟩)) (hu : tmps.getD u undef = q) (hb : w.heap[b]? = some (.cells (idC x) t (0, 0))) :
    (results fn tmps).run Tryz.prog w = .ok (.tuple #[idV x, q]) w := by
  have hl := run_loadVar_row (P := Tryz.prog) w b t 38 (idC x) (0, 0) _ hb Tryz.underlying38 rfl (by rw [idSize]; rfl)
  rw [results_cell_tmp h, hp, hu]
  simp only [asAddr, Sem.run_pure, Result.andThen_ok, hl]
theorem id_written {w : World} {b t : Nat} {y : Id} (h : w.heap[b]? = some (.cells (idC y) t (0, 0))) (x : Id) :
    ((((w.setCell ⟨b, 0, none⟩ (.int .i64 x.c)).setCell ⟨b, 1, none⟩ (.int .i64 x.l)).setCell ⟨b, 2, none⟩ (.int .i64 x.n)).setCell ⟨b, 3, none⟩ (.int .i64 x.i)).heap[b]? = some (.cells (idC x) t (0, 0)) :=
  set_blk (set_blk (set_blk (set_blk h)))

set_option maxHeartbeats 4000000 in
set_option maxRecDepth 100000 in
theorem stread_any (v : Value) (l : List UInt8) (w : World) (h : BytesAt w v l) (hl : l.length ≤ 100000) :
    Calls Tryz.prog 94 #[v] w fun e w' => e = .returned (.tuple #[idV (unId l), .bool (unOk l)]) ∧ Chg [] w w' := by
  obtain ⟨w1, hw1⟩ : ∃ w1, w1 = w.alloc (.cells (idC ⟨0, 0, 0, 0⟩) 38) := ⟨_, rfl⟩
  have hc1 : Chg [] w w1 := by rw [hw1]; exact (Chg.refl [] w).alloc _
  have hb1 : w1.heap[w.heap.size]? = some (.cells (idC ⟨0, 0, 0, 0⟩) 38 (0, 0)) := by rw [hw1]; exact heap_alloc_new w _
  have CE := Lib.hid (neweye_any v l w1 (h.chg hc1 (by simp)) (by omega))
  have HB := Lib.hid hb1
  have HC1 := Lib.hid hc1
  have HW1 := Lib.hid hw1
  obtain ⟨a, cap, hv⟩ := h.slice
  subst hv
  have HU : Hid (unId l = ⟨(un1 l).1, (un2 l).1, (un3 l).1, (un4 l).1⟩ ∧ unOk l = (decide (endOf (un4 l).2.1 (un4 l).2.2 = 0) && mayId (unId l))) := Lib.hid ⟨rfl, by
    unfold unOk endOf
    by_cases h1 : (un4 l).2.2 = 0
    · by_cases h2 : (un4 l).2.1 = [] <;> simp [h1, h2]
    · simp [h1]⟩
  clear h hw1 hb1 hc1
  go_enter Tryz.func94, Tryz.ntmps94
  go_wp2_with fail
  rw [← HW1.out]
  refine CE.out.mono ?_
  rintro e w2 ⟨b, g0, rfl, he0, hb2, hg2, hc2⟩
  have hw1s : w1.heap.size = w.heap.size + 1 := by rw [HW1.out]; simp
  obtain ⟨g, he2, hgg⟩ := he0.pick 0 (by omega)
  obtain ⟨w3, hw3⟩ : ∃ w3, w3 = w2.alloc (.cells (idC ⟨0, 0, 0, 0⟩) 38) := ⟨_, rfl⟩
  have hb3 : b < w2.heap.size := by obtain ⟨v, hb, _⟩ := he2; exact blk_lt hb
  have hc3 : Chg [] w2 w3 := by rw [hw3]; exact (Chg.refl [] w2).alloc _
  have hen : EyeNew w1 w3 b g w2.heap.size ⟨0, 0, 0, 0⟩ (0, l, 0) := ⟨he2.keep hc3 (by simp) (by simp), hc2.trans hc3 (by simp), hb2, by rw [hw3]; exact heap_alloc_new w2 _, hc2.size, by omega, by
    have := hc2.size
    rcases hgg with ⟨rfl, h⟩ | rfl <;> omega⟩
  have HB2 := Lib.hid ((hc2.trans hc3 (by simp)).keep HB.out (by simp))
  have hlt : w.heap.size < w2.heap.size := by have := hc2.size; omega
  have CN := Lib.hid (hen.num 1 (by omega) (by omega) (un1 l) rfl)
  have HW3 := Lib.hid hw3
  clear he2 hb2 hg2 hc2 CE hw3 hc3 hen he0 hgg
  go_wp2_with fail
  rw [← HW3.out]
  refine CN.out.mono ?_
  rintro e w4 ⟨rfl, h4⟩
  obtain ⟨⟨m0, m1, m2, m3⟩, f0, f1, f2, f3⟩ := h4.cells
  have h4' := h4.set 0 (.int .i64 (un1 l).1) (y := ⟨(un1 l).1, 0, 0, 0⟩) rfl
  have CN4 := Lib.hid (h4'.num 3 (by omega) (by omega) (un2 l) rfl)
  clear h4 h4' CN HW3
  go_wp2_with fail
  refine CN4.out.mono ?_
  rintro e w5 ⟨rfl, h5⟩
  obtain ⟨⟨m0, m1, m2, m3⟩, f0, f1, f2, f3⟩ := h5.cells
  have h5' := h5.set 1 (.int .i64 (un2 l).1) (y := ⟨(un1 l).1, (un2 l).1, 0, 0⟩) rfl
  have CN5 := Lib.hid (h5'.num 4 (by omega) (by omega) (un3 l) rfl)
  clear h5 h5' CN4
  go_wp2_with fail
  refine CN5.out.mono ?_
  rintro e w6 ⟨rfl, h6⟩
  obtain ⟨⟨m0, m1, m2, m3⟩, f0, f1, f2, f3⟩ := h6.cells
  have h6' := h6.set 2 (.int .i64 (un3 l).1) (y := ⟨(un1 l).1, (un2 l).1, (un3 l).1, 0⟩) rfl
  have CN6 := Lib.hid (h6'.num 1 (by omega) (by omega) (un4 l) rfl)
  clear h6 h6' CN5
  go_wp2_with fail
  refine CN6.out.mono ?_
  rintro e w7 ⟨rfl, h7⟩
  obtain ⟨⟨m0, m1, m2, m3⟩, f0, f1, f2, f3⟩ := h7.cells
  have h7' := h7.set 3 (.int .i64 (un4 l).1) (y := ⟨(un1 l).1, (un2 l).1, (un3 l).1, (un4 l).1⟩) rfl
  rw [← HU.out.1] at h7'
  have HE := Lib.hid h7'
  have HUI := Lib.hid HU.out.2
  clear h7 h7' CN6 HU
  generalize un4 l = z4 at *
  obtain ⟨x, hx⟩ : ∃ x, x = unId l := ⟨_, rfl⟩
  obtain ⟨ok, hok⟩ : ∃ ok, ok = unOk l := ⟨_, rfl⟩
  rw [← hx] at HE HUI
  rw [← hok] at HUI
  have HX := Lib.hid hx
  have HOK := Lib.hid hok
  clear hx hok
  go_wp2_with fail
  obtain ⟨xc, xl, xn, xi⟩ := x
  generalize hw8 : w7.setCell _ _ = w8 at *
  have HE8 := Lib.hid (show EyeNew w1 w8.drew b g w2.heap.size _ z4 from ⟨HE.out.eye.keep ((Chg.refl [] _).drew) (by simp) (by simp), HE.out.chg.drew, HE.out.own, HE.out.blk, HE.out.own2, HE.out.ne⟩)
  have HR8 := Lib.hid (HE8.out.chg.keep HB.out (by simp))
  have CF := Lib.hid (eend_any b g _ _ _ HE8.out.eye)
  have mm := id_cells HE8.out.blk
  obtain ⟨r, hr⟩ : ∃ r, r = endOf z4.2.1 z4.2.2 := ⟨_, rfl⟩
  rw [← hr] at CF HUI
  clear hr HE hw8 m0 m1 m2 m3 f0 f1 f2 f3
  by_cases hr0 : r = 0
  · subst hr0
    have CM := Lib.hid (mayid_any ⟨xc, xl, xn, xi⟩ w8.drew)
    have hk : ok = mayId ⟨xc, xl, xn, xi⟩ := by simpa using HUI.out
    subst hk
    refine wp_region_L [(8, fun w' => (w'.cell? ⟨w2.heap.size, 0, none⟩ = some (.int .i64 xc) ∧ w'.cell? ⟨w2.heap.size, 1, none⟩ = some (.int .i64 xl) ∧ w'.cell? ⟨w2.heap.size, 2, none⟩ = some (.int .i64 xn) ∧ w'.cell? ⟨w2.heap.size, 3, none⟩ = some (.int .i64 xi))), (6, fun w' => (w'.cell? ⟨w2.heap.size, 0, none⟩ = some (.int .i64 xc) ∧ w'.cell? ⟨w2.heap.size, 1, none⟩ = some (.int .i64 xl) ∧ w'.cell? ⟨w2.heap.size, 2, none⟩ = some (.int .i64 xn) ∧ w'.cell? ⟨w2.heap.size, 3, none⟩ = some (.int .i64 xi)))] (by kernel_rfl) ?_ (fun hHeld => ?_)
    · exact (HoldC.cons (mm) (HoldC.cons (mm) HoldC.nil))
    refine wpAnyL_load 0 (i := 0) (oi := _) (v := ?_) rfl rfl (by kernel_rfl) (by kernel_rfl) (by kernel_rfl) (by kernel_rfl) (by kernel_rfl) (by kernel_rfl) (fun _ _ _ h => h) (Or.inl ⟨by rfl, ?_⟩) (by assumption) (fun hNew => ?_)
    rotate_left
    · intro w hSw
      (try dsimp only at hSw)
      go_simp
      try with_reducible rfl
    clear hHeld
    have hHeld := hNew
    clear hNew
    try simp only [List.getElem_toArray, List.getElem_cons_succ, List.getElem_cons_zero, Act.put, List.setIfInBounds_toArray, List.set_cons_zero, List.set_cons_succ]
    refine wpAnyL_take (i := 1) (oi := _) (v := ?_) rfl (by kernel_rfl) (by kernel_rfl) (by kernel_rfl) (by kernel_rfl) (by kernel_rfl) (fun _ _ _ h => h) (Or.inl ⟨by rfl, ?_⟩) (by assumption) (fun hNew => ?_)
    rotate_left
    · intro w _
      go_simp
      try with_reducible rfl
    clear hHeld
    have hHeld := hNew
    clear hNew
    try simp only [List.getElem_toArray, List.getElem_cons_succ, List.getElem_cons_zero, Act.put, List.setIfInBounds_toArray, List.set_cons_zero, List.set_cons_succ]
    refine wpAnyL_ready (rs := [2]) (by kernel_rfl) (by simp) ?_
    refine AllReadyL.cons (o := _) rfl (fun K hK => ?_) AllReadyL.nil
    try simp only [List.getElem_toArray, List.getElem_cons_succ, List.getElem_cons_zero]
    go_simp
    refine (CF.out).mono ?_
    rintro e w9 ⟨rfl, hw9⟩
    subst hw9
    clear hHeld
    refine hK.out _ _ ?_ (fun hHeld => ?_)
    · exact (HoldC.cons (mm) (HoldC.cons (mm) HoldC.nil))
    clear hK K
    try simp only [List.getElem_toArray, List.getElem_cons_succ, List.getElem_cons_zero, Act.put, List.setIfInBounds_toArray, List.set_cons_zero, List.set_cons_succ]
    refine wpAnyL_take (i := 3) (oi := _) (v := ?_) rfl (by kernel_rfl) (by kernel_rfl) (by kernel_rfl) (by kernel_rfl) (by kernel_rfl) (fun _ _ _ h => h) (Or.inl ⟨by rfl, ?_⟩) (by assumption) (fun hNew => ?_)
    rotate_left
    · intro w _
      go_simp
      try with_reducible rfl
    clear hHeld
    have hHeld := hNew
    clear hNew
    try simp only [List.getElem_toArray, List.getElem_cons_succ, List.getElem_cons_zero, Act.put, List.setIfInBounds_toArray, List.set_cons_zero, List.set_cons_succ]
    refine wpAnyL_take (i := 4) (oi := _) (v := ?_) rfl (by kernel_rfl) (by kernel_rfl) (by kernel_rfl) (by kernel_rfl) (by kernel_rfl) (fun _ _ _ h => h) (Or.inl ⟨by rfl, ?_⟩) (by assumption) (fun hNew => ?_)
    rotate_left
    · intro w _
      go_simp
      try with_reducible rfl
    clear hHeld
    have hHeld := hNew
    clear hNew
    try simp only [List.getElem_toArray, List.getElem_cons_succ, List.getElem_cons_zero, Act.put, List.setIfInBounds_toArray, List.set_cons_zero, List.set_cons_succ]
    refine wpAnyL_load 1 (i := 5) (oi := _) (v := ?_) rfl rfl (by kernel_rfl) (by kernel_rfl) (by kernel_rfl) (by kernel_rfl) (by kernel_rfl) (by kernel_rfl) (fun _ _ _ h => h) (Or.inl ⟨by rfl, ?_⟩) (by assumption) (fun hNew => ?_)
    rotate_left
    · intro w hSw
      (try dsimp only at hSw)
      go_simp
      try with_reducible rfl
    clear hHeld
    have hHeld := hNew
    clear hNew
    try simp only [List.getElem_toArray, List.getElem_cons_succ, List.getElem_cons_zero, Act.put, List.setIfInBounds_toArray, List.set_cons_zero, List.set_cons_succ]
    refine wpAnyL_ready (rs := [6]) (by kernel_rfl) (by simp) ?_
    refine AllReadyL.cons (o := _) rfl (fun K hK => ?_) AllReadyL.nil
    try simp only [List.getElem_toArray, List.getElem_cons_succ, List.getElem_cons_zero]
    go_simp
    refine CM.out.mono ?_
    rintro e w10 ⟨rfl, hc10⟩
    have HC10 := Lib.hid hc10
    have mm := id_cells (hc10.keep HE8.out.blk (by simp))
    clear hc10
    clear hHeld
    refine hK.out _ _ ?_ (fun hHeld => ?_)
    · exact (HoldC.cons (mm) (HoldC.past (by kernel_rfl) HoldC.nil))
    clear hK K
    try simp only [List.getElem_toArray, List.getElem_cons_succ, List.getElem_cons_zero, Act.put, List.setIfInBounds_toArray, List.set_cons_zero, List.set_cons_succ]
    refine wpAnyL_take (i := 7) (oi := _) (v := ?_) rfl (by kernel_rfl) (by kernel_rfl) (by kernel_rfl) (by kernel_rfl) (by kernel_rfl) (fun _ _ _ h => h) (Or.inl ⟨by rfl, ?_⟩) (by assumption) (fun hNew => ?_)
    rotate_left
    · intro w _
      go_simp
      try with_reducible rfl
    clear hHeld
    have hHeld := hNew
    clear hNew
    try simp only [List.getElem_toArray, List.getElem_cons_succ, List.getElem_cons_zero, Act.put, List.setIfInBounds_toArray, List.set_cons_zero, List.set_cons_succ]
    obtain ⟨v0, v1, v2, v3⟩ := id_cells (HC10.out.keep HR8.out (by simp))
    have y0 := blk_frozen (HC10.out.keep HR8.out (by simp)) 0
    have y1 := blk_frozen (HC10.out.keep HR8.out (by simp)) 1
    have y2 := blk_frozen (HC10.out.keep HR8.out (by simp)) 2
    have y3 := blk_frozen (HC10.out.keep HR8.out (by simp)) 3
    refine wpAnyL_ready (rs := [8]) (by kernel_rfl) (by simp) ?_
    refine AllReadyL.cons (o := _) rfl (fun K hK => ?_) AllReadyL.nil
    try simp only [List.getElem_toArray, List.getElem_cons_succ, List.getElem_cons_zero]
    go_simp
    clear hHeld
    refine hK.out _ _ ?_ (fun hHeld => ?_)
    · exact (HoldC.past (by kernel_rfl) (HoldC.past (by kernel_rfl) HoldC.nil))
    clear hK K
    try simp only [List.getElem_toArray, List.getElem_cons_succ, List.getElem_cons_zero, Act.put, List.setIfInBounds_toArray, List.set_cons_zero, List.set_cons_succ]
    refine wpAnyL_take (i := 9) (oi := _) (v := ?_) rfl (by kernel_rfl) (by kernel_rfl) (by kernel_rfl) (by kernel_rfl) (by kernel_rfl) (fun _ _ _ h => h) (Or.inl ⟨by rfl, ?_⟩) (by assumption) (fun hNew => ?_)
    rotate_left
    · intro w _
      go_simp
      try with_reducible rfl
    clear hHeld
    have hHeld := hNew
    clear hNew
    try simp only [List.getElem_toArray, List.getElem_cons_succ, List.getElem_cons_zero, Act.put, List.setIfInBounds_toArray, List.set_cons_zero, List.set_cons_succ]
    refine wpAnyL_done (by kernel_rfl) ?_ _
    clear hHeld
    go_wp2_with fail
    have HW := Lib.hid (id_written (HC10.out.keep HR8.out (by simp)) ⟨xc, xl, xn, xi⟩)
    refine bodyPost_ret (ret_id rfl _ rfl rfl HW.out) rfl ?_
    refine ⟨by rw [← HX.out, ← HOK.out]; rfl, ?_⟩
    have hc := (HC1.out.trans (HE8.out.chg.trans HC10.out (by simp)) (by simp))
    exact (((hc.setCell (.inr (Nat.le_refl _)) _).setCell (.inr (Nat.le_refl _)) _).setCell (.inr (Nat.le_refl _)) _).setCell (.inr (Nat.le_refl _)) _
  · have hk : ok = false := by simpa [hr0] using HUI.out
    subst hk
    have qr : (r == 0) = false := by simpa using hr0
    refine wp_region_L [(8, fun w' => (w'.cell? ⟨w2.heap.size, 0, none⟩ = some (.int .i64 xc) ∧ w'.cell? ⟨w2.heap.size, 1, none⟩ = some (.int .i64 xl) ∧ w'.cell? ⟨w2.heap.size, 2, none⟩ = some (.int .i64 xn) ∧ w'.cell? ⟨w2.heap.size, 3, none⟩ = some (.int .i64 xi)))] (by kernel_rfl) ?_ (fun hHeld => ?_)
    · exact (HoldC.cons (mm) HoldC.nil)
    refine wpAnyL_load 0 (i := 0) (oi := _) (v := ?_) rfl rfl (by kernel_rfl) (by kernel_rfl) (by kernel_rfl) (by kernel_rfl) (by kernel_rfl) (by kernel_rfl) (fun _ _ _ h => h) (Or.inl ⟨by rfl, ?_⟩) (by assumption) (fun hNew => ?_)
    rotate_left
    · intro w hSw
      (try dsimp only at hSw)
      go_simp
      try with_reducible rfl
    clear hHeld
    have hHeld := hNew
    clear hNew
    try simp only [List.getElem_toArray, List.getElem_cons_succ, List.getElem_cons_zero, Act.put, List.setIfInBounds_toArray, List.set_cons_zero, List.set_cons_succ]
    refine wpAnyL_take (i := 1) (oi := _) (v := ?_) rfl (by kernel_rfl) (by kernel_rfl) (by kernel_rfl) (by kernel_rfl) (by kernel_rfl) (fun _ _ _ h => h) (Or.inl ⟨by rfl, ?_⟩) (by assumption) (fun hNew => ?_)
    rotate_left
    · intro w _
      go_simp
      try with_reducible rfl
    clear hHeld
    have hHeld := hNew
    clear hNew
    try simp only [List.getElem_toArray, List.getElem_cons_succ, List.getElem_cons_zero, Act.put, List.setIfInBounds_toArray, List.set_cons_zero, List.set_cons_succ]
    refine wpAnyL_ready (rs := [2]) (by kernel_rfl) (by simp) ?_
    refine AllReadyL.cons (o := _) rfl (fun K hK => ?_) AllReadyL.nil
    try simp only [List.getElem_toArray, List.getElem_cons_succ, List.getElem_cons_zero]
    go_simp
    refine (CF.out).mono ?_
    rintro e w9 ⟨rfl, hw9⟩
    subst hw9
    clear hHeld
    refine hK.out _ _ ?_ (fun hHeld => ?_)
    · exact (HoldC.cons (mm) HoldC.nil)
    clear hK K
    try simp only [List.getElem_toArray, List.getElem_cons_succ, List.getElem_cons_zero, Act.put, List.setIfInBounds_toArray, List.set_cons_zero, List.set_cons_succ]
    refine wpAnyL_take (i := 3) (oi := _) (v := ?_) rfl (by kernel_rfl) (by kernel_rfl) (by kernel_rfl) (by kernel_rfl) (by kernel_rfl) (fun _ _ _ h => h) (Or.inl ⟨by rfl, ?_⟩) (by assumption) (fun hNew => ?_)
    rotate_left
    · intro w _
      go_simp
      try with_reducible rfl
    clear hHeld
    have hHeld := hNew
    clear hNew
    try simp only [List.getElem_toArray, List.getElem_cons_succ, List.getElem_cons_zero, Act.put, List.setIfInBounds_toArray, List.set_cons_zero, List.set_cons_succ]
    refine wpAnyL_take (i := 4) (oi := _) (v := ?_) rfl (by kernel_rfl) (by kernel_rfl) (by kernel_rfl) (by kernel_rfl) (by kernel_rfl) (fun _ _ _ h => h) (Or.inl ⟨by rfl, ?_⟩) (by assumption) (fun hNew => ?_)
    rotate_left
    · intro w _
      go_simp
      try with_reducible rfl
    clear hHeld
    have hHeld := hNew
    clear hNew
    try simp only [List.getElem_toArray, List.getElem_cons_succ, List.getElem_cons_zero, Act.put, List.setIfInBounds_toArray, List.set_cons_zero, List.set_cons_succ]
    refine wpAnyL_take (i := 5) (oi := _) (v := _) rfl (by kernel_rfl) (by kernel_rfl) (by kernel_rfl) (by kernel_rfl) (by kernel_rfl) (fun _ _ _ h => h) (Or.inr ⟨by rfl, rfl⟩) (by assumption) (fun hNew => ?_)
    clear hHeld
    have hHeld := hNew
    clear hNew
    try simp only [List.getElem_toArray, List.getElem_cons_succ, List.getElem_cons_zero, Act.put, List.setIfInBounds_toArray, List.set_cons_zero, List.set_cons_succ]
    refine wpAnyL_take (i := 6) (oi := _) (v := _) rfl (by kernel_rfl) (by kernel_rfl) (by kernel_rfl) (by kernel_rfl) (by kernel_rfl) (fun _ _ _ h => h) (Or.inr ⟨by rfl, rfl⟩) (by assumption) (fun hNew => ?_)
    clear hHeld
    have hHeld := hNew
    clear hNew
    try simp only [List.getElem_toArray, List.getElem_cons_succ, List.getElem_cons_zero, Act.put, List.setIfInBounds_toArray, List.set_cons_zero, List.set_cons_succ]
    refine wpAnyL_take (i := 7) (oi := _) (v := ?_) rfl (by kernel_rfl) (by kernel_rfl) (by kernel_rfl) (by kernel_rfl) (by kernel_rfl) (fun _ _ _ h => h) (Or.inl ⟨by rfl, ?_⟩) (by assumption) (fun hNew => ?_)
    rotate_left
    · intro w _
      go_simp
      try with_reducible rfl
    clear hHeld
    have hHeld := hNew
    clear hNew
    try simp only [List.getElem_toArray, List.getElem_cons_succ, List.getElem_cons_zero, Act.put, List.setIfInBounds_toArray, List.set_cons_zero, List.set_cons_succ]
    have HR9 : w8.heap[w.heap.size]? = some (.cells (idC ⟨0, 0, 0, 0⟩) 38 (0, 0)) := HR8.out
    obtain ⟨v0, v1, v2, v3⟩ := id_cells HR9
    have y0 := blk_frozen HR9 0
    have y1 := blk_frozen HR9 1
    have y2 := blk_frozen HR9 2
    have y3 := blk_frozen HR9 3
    clear HR9
    refine wpAnyL_ready (rs := [8]) (by kernel_rfl) (by simp) ?_
    refine AllReadyL.cons (o := _) rfl (fun K hK => ?_) AllReadyL.nil
    try simp only [List.getElem_toArray, List.getElem_cons_succ, List.getElem_cons_zero]
    go_simp
    clear hHeld
    refine hK.out _ _ ?_ (fun hHeld => ?_)
    · exact (HoldC.past (by kernel_rfl) HoldC.nil)
    clear hK K
    try simp only [List.getElem_toArray, List.getElem_cons_succ, List.getElem_cons_zero, Act.put, List.setIfInBounds_toArray, List.set_cons_zero, List.set_cons_succ]
    refine wpAnyL_take (i := 9) (oi := _) (v := ?_) rfl (by kernel_rfl) (by kernel_rfl) (by kernel_rfl) (by kernel_rfl) (by kernel_rfl) (fun _ _ _ h => h) (Or.inl ⟨by rfl, ?_⟩) (by assumption) (fun hNew => ?_)
    rotate_left
    · intro w _
      go_simp
      try with_reducible rfl
    clear hHeld
    have hHeld := hNew
    clear hNew
    try simp only [List.getElem_toArray, List.getElem_cons_succ, List.getElem_cons_zero, Act.put, List.setIfInBounds_toArray, List.set_cons_zero, List.set_cons_succ]
    refine wpAnyL_done (by kernel_rfl) ?_ _
    clear hHeld
    go_wp2_with fail
    have HW := Lib.hid (id_written HR8.out ⟨xc, xl, xn, xi⟩)
    refine bodyPost_ret (ret_id rfl _ rfl rfl HW.out) rfl ?_
    refine ⟨by rw [← HX.out, ← HOK.out]; rfl, ?_⟩
    have hc := HC1.out.trans HE8.out.chg (by simp)
    exact (((hc.setCell (.inr (Nat.le_refl _)) _).setCell (.inr (Nat.le_refl _)) _).setCell (.inr (Nat.le_refl _)) _).setCell (.inr (Nat.le_refl _)) _
end Go.Proofs.YtdkhmfcfihbjeaaGreatDoor.W

/- The reference's eye: Num. -/
namespace Go.Proofs.YtdkhmfcfihbjeaaGreatDoor.W
open Go.RowKit
set_option linter.unusedVariables false
set_option linter.unusedSimpArgs false

def REyeV (w : World) (v : Value) (g : Nat) (l : List UInt8) : Prop :=
  (l = [] ∧ ∃ a cap, v = .slice a 0 cap) ∨ ∃ o cap, v = .slice (some ⟨g, o, none⟩) l.length cap ∧ l.length ≤ cap ∧ cap ≤ maxLen ∧ g < w.heap.size ∧ ∀ i, i < l.length → w.cell? ⟨g, o + i, none⟩ = some (bv (l.getD i 0))
theorem REyeV.keepC {w w' : World} {v : Value} {g : Nat} {l : List UInt8} {S : List Nat} (h : REyeV w v g l) (hc : Chg S w w') (hn : g ∉ S) : REyeV w' v g l := by
  rcases h with h | ⟨o, cap, rfl, h1, h2, h3, hcell⟩
  · exact .inl h
  · exact .inr ⟨o, cap, rfl, h1, h2, Nat.lt_of_lt_of_le h3 hc.size, fun i hi => hc.cell (hcell i hi) hn⟩
theorem REyeV.slice {w : World} {v : Value} {g : Nat} {l : List UInt8} (h : REyeV w v g l) : ∃ a cap, v = .slice a l.length cap := by
  rcases h with ⟨rfl, a, cap, rfl⟩ | ⟨o, cap, rfl, _⟩
  · exact ⟨_, _, rfl⟩
  · exact ⟨_, _, rfl⟩
/-- The reference's eye in block b, its bytes in block g. -/
def REyeAt (w : World) (b g : Nat) (l : List UInt8) (bad : Int) : Prop :=
  ∃ v, w.heap[b]? = some (.cells #[v, .int .i64 bad] 127 (0, 0)) ∧ REyeV w v g l ∧ g ≠ b ∧ l.length ≤ 1000000
theorem REyeAt.keep {w w' : World} {b g : Nat} {l : List UInt8} {bad : Int} {S : List Nat} (h : REyeAt w b g l bad) (hc : Chg S w w') (hb : b ∉ S) (hg : g ∉ S) : REyeAt w' b g l bad := by
  obtain ⟨v, h1, h2, h3, h4⟩ := h
  exact ⟨v, hc.keep h1 hb, h2.keepC hc hg, h3, h4⟩
theorem REyeV.dropped {w : World} {g o cap n : Nat} {l : List UInt8} (hl : l.length ≤ cap) (hc : cap ≤ maxLen) (hg : g < w.heap.size) (hcell : ∀ i, i < l.length → w.cell? ⟨g, o + i, none⟩ = some (bv (l.getD i 0))) (hn : n ≤ l.length) :
    REyeV w (.slice (some ⟨g, if cap = n then o else o + n, none⟩) (l.length - n) (cap - n)) g (l.drop n) := by
  right
  have hdl : (l.drop n).length = l.length - n := List.length_drop ..
  refine ⟨if cap = n then o else o + n, cap - n, by rw [hdl], by omega, by omega, hg, fun i hi => ?_⟩
  have h2 : ¬ (cap = n) := by omega
  rw [if_neg h2, getD_drop, Nat.add_assoc]
  exact hcell (n + i) (by omega)

set_option maxHeartbeats 4000000 in
set_option maxRecDepth 100000 in
theorem rnum_ok (b g o cap : Nat) (l : List UInt8) (n : Nat) (w : World) (h : w.heap[b]? = some (.cells #[.slice (some ⟨g, o, none⟩) l.length cap, .int .i64 0] 127 (0, 0)))
    (hl : l.length ≤ cap) (hc : cap ≤ maxLen) (hcell : ∀ i, i < l.length → w.cell? ⟨g, o + i, none⟩ = some (bv (l.getD i 0))) (h1 : 1 ≤ n) (h7 : n ≤ 7) (hn : n ≤ l.length) (hll : l.length ≤ 1000000) :
    Calls Tryz.prog 59 #[.pointer (some ⟨b, 0, none⟩), .int .i64 n] w fun e w' => e = .returned (.int .i64 (beNum (l.take n))) ∧
      w' = w.setCell ⟨b, 0, none⟩ (.slice (some ⟨g, if cap = n then o else o + n, none⟩) (l.length - n) (cap - n)) := by
  have b0 := blk_cell h 0 _ rfl
  have b1 := blk_cell h 1 _ rfl
  have f0 := blk_frozen h 0
  have hbl := blk_lt h
  have HC := Lib.hid hcell
  have HL := Lib.hid hl
  unfold maxLen at hc
  have hcapn : n ≤ cap := by omega
  have hn1 : ¬ ((n : Int) < 1) := by omega
  have hn7 : ¬ ((7 : Int) < (n : Int)) := by omega
  have q1 : decide ((n : Int) < 1) = false := by simpa using hn1
  have q7 : decide ((7 : Int) < (n : Int)) = false := by simpa using hn7
  have ql : decide (l.length < n) = false := by simp; omega
  clear h hcell
  obtain rfl | hcn := Decidable.em (n = cap)
  all_goals
    try (have hcn' : ¬ (cap = n) := fun h => hcn h.symm)
    try clear hcn
    go_enter Tryz.func59, Tryz.ntmps59
    go_wp2
    go_loop [5, 6] (fun x i => ∃ k : Nat, k ≤ n ∧ i = .int .i64 k ∧ x = .int .i64 (beNum (l.take k))) (fun _ i => n - (intOf i).toNat)
    case atStart => exact ⟨0, Nat.zero_le _, rfl, rfl⟩
    case round =>
      obtain ⟨k, hk, rfl, rfl⟩ := hrel
      by_cases hlt : k < n
      · have hcl := HC.out k (by omega)
        have hb := beNum_take_le l k (by omega)
        have hkz : (k : Int) < (n : Int) := by omega
        have hkl : (k : Int) < (l.length : Int) := by omega
        have hkz1 : (k : Int).toNat = k := by omega
        obtain ⟨c, hcc⟩ : ∃ c, c = l.getD k 0 := ⟨_, rfl⟩
        rw [← hcc] at hcl
        have hc8 := c.toNat_lt
        have HX : Hid (beNum (l.take (k + 1)) = beNum (l.take k) * 256 + c.toNat) := Lib.hid (by rw [take_snocU l k (by omega), beNum_snoc, hcc])
        clear hcc
        obtain ⟨x, hx⟩ : ∃ x, x = beNum (l.take k) := ⟨_, rfl⟩
        rw [← hx] at hb HX ⊢
        clear hx
        unfold bv at hcl
        have hor : bits .or .i64 ((x : Int) * 256) (c.toNat : Int) = ((x * 256 + c.toNat : Nat) : Int) := by
          have := i64_or_nat (x * 256) c.toNat (by omega) (by omega)
          rw [or_byte] at this
          simpa using this
        go_wp2
        go_round
        case rel => exact ⟨k + 1, by omega, by go_num, by rw [HX.out]; go_num⟩
        case measure => simp [intOf]; omega
      · have hk9 : k = n := by omega
        have HK := Lib.hid hk9
        clear hk9
        go_wp2
        go_ret
        exact ⟨by rw [HK.out]; rfl, rfl⟩

set_option maxHeartbeats 2000000 in
set_option maxRecDepth 100000 in
theorem rnum_short (b : Nat) (a : Option Addr) (L cap : Nat) (n : Nat) (w : World) (h : w.heap[b]? = some (.cells #[.slice a L cap, .int .i64 0] 127 (0, 0)))
    (h1 : 1 ≤ n) (h7 : n ≤ 7) (hn : L < n) :
    Calls Tryz.prog 59 #[.pointer (some ⟨b, 0, none⟩), .int .i64 n] w fun e w' => e = .returned (.int .i64 0) ∧ w' = w.setCell ⟨b, 1, none⟩ (.int .i64 2) := by
  have b0 := blk_cell h 0 _ rfl
  have b1 := blk_cell h 1 _ rfl
  have f1 := blk_frozen h 1
  have hbl := blk_lt h
  have q1 : decide ((n : Int) < 1) = false := by simp; omega
  have q7 : decide ((7 : Int) < (n : Int)) = false := by simp; omega
  have ql : decide (L < n) = true := by simp; omega
  clear h
  go_enter Tryz.func59, Tryz.ntmps59
  go_wp2
  go_ret
  exact ⟨rfl, rfl⟩

set_option maxHeartbeats 2000000 in
set_option maxRecDepth 100000 in
theorem rnum_bad (b : Nat) (v : Value) (bad n : Int) (w : World) (h : w.heap[b]? = some (.cells #[v, .int .i64 bad] 127 (0, 0))) (hb : bad ≠ 0) :
    Calls Tryz.prog 59 #[.pointer (some ⟨b, 0, none⟩), .int .i64 n] w fun e w' => e = .returned (.int .i64 0) ∧ w = w' := by
  have b1 := blk_cell h 1 _ rfl
  have hbl := blk_lt h
  have q1 : (bad == 0) = false := by simp [hb]
  have q2 : (bad != 0) = true := by simp [hb]
  clear h hb
  go_enter Tryz.func59, Tryz.ntmps59
  go_wp2
  go_ret
  exact ⟨rfl, rfl⟩

/-- The reference's Num. -/
theorem rnum_any (b g : Nat) (l : List UInt8) (bad : Int) (width : Int) (w : World) (h : REyeAt w b g l bad) (h1 : 1 ≤ width) (h7 : width ≤ 7) :
    Calls Tryz.prog 59 #[.pointer (some ⟨b, 0, none⟩), .int .i64 width] w fun e w' => e = .returned (.int .i64 (eyeNum l bad width.toNat).1) ∧
      REyeAt w' b g (eyeNum l bad width.toNat).2.1 (eyeNum l bad width.toNat).2.2 ∧ Chg [b] w w' := by
  obtain ⟨n, rfl⟩ := Int.eq_ofNat_of_zero_le (show 0 ≤ width by omega)
  rw [Int.toNat_natCast]
  have hE := h
  obtain ⟨v, hb, hv, hgb, hll⟩ := h
  by_cases hbad : bad = 0
  · subst hbad
    by_cases hlen : l.length < n
    · obtain ⟨a, cap, rfl⟩ := hv.slice
      rw [show eyeNum l 0 n = (0, l, 2) by unfold eyeNum; rw [if_neg (by simp), if_pos hlen]]
      refine (rnum_short b a _ cap n w hb (by omega) (by omega) hlen).mono ?_
      rintro e w' ⟨rfl, rfl⟩
      have hc := (Chg.refl [b] w).setCell (p := ⟨b, 1, none⟩) (.inl (by simp)) (.int .i64 2)
      exact ⟨rfl, ⟨_, set_blk hb, hv.keepC hc (by simp; exact hgb), hgb, hll⟩, hc⟩
    · rw [show eyeNum l 0 n = ((beNum (l.take n) : Int), l.drop n, 0) by unfold eyeNum; rw [if_neg (by simp), if_neg hlen]]
      rcases hv with ⟨rfl, _⟩ | ⟨o, cap, rfl, hlc, hcm, hg, hcell⟩
      · simp at hlen; omega
      refine (rnum_ok b g o cap l n w hb hlc hcm hcell (by omega) (by omega) (by omega) hll).mono ?_
      rintro e w' ⟨rfl, rfl⟩
      have hc := (Chg.refl [b] w).setCell (p := ⟨b, 0, none⟩) (.inl (by simp)) (.slice (some ⟨g, if cap = n then o else o + n, none⟩) (l.length - n) (cap - n))
      exact ⟨rfl, ⟨_, set_blk hb, (REyeV.dropped hlc hcm hg hcell (by omega)).keepC hc (by simp; exact hgb), hgb, by show (l.drop n).length ≤ _; rw [List.length_drop]; omega⟩, hc⟩
  · rw [show eyeNum l bad n = (0, l, bad) by unfold eyeNum; rw [if_pos hbad]]
    refine (rnum_bad b v bad n w hb hbad).mono ?_
    rintro e w' ⟨rfl, rfl⟩
    exact ⟨rfl, hE, Chg.refl _ _⟩

end Go.Proofs.YtdkhmfcfihbjeaaGreatDoor.W

/- Package wire's eye: Bool. -/
namespace Go.Proofs.YtdkhmfcfihbjeaaGreatDoor.W
open Go.RowKit
set_option linter.unusedVariables false
set_option linter.unusedSimpArgs false

theorem enters2 : ∀ args w, (callFunc 107 args).run Tryz.prog w = .ok (.enter 107 args) w := enters_of Tryz.func107 (by kernel_rfl) rfl

set_option maxHeartbeats 2000000 in
set_option maxRecDepth 100000 in
theorem bstep_any (b g o cap pe px : Nat) (c : UInt8) (l : List UInt8) (bad : Value) (w : World) (h : w.heap[b]? = some (.cells #[.bool true, .slice (some ⟨g, o, none⟩) (c :: l).length cap, bad] 159 (0, 0)))
    (hgb : g ≠ b) (hl : (c :: l).length ≤ cap) (hc : cap ≤ maxLen) (hcell : w.cell? ⟨g, o, none⟩ = some (bv c))
    (he : w.heap[pe]? = some (.cells #[.pointer (some ⟨b, 0, none⟩)] 120 (0, 0))) (hx : w.heap[px]? = some (.cells #[.bool false] 4 (0, 0))) (hxb : px ≠ b) :
    Calls Tryz.prog 107 #[.pointer (some ⟨pe, 0, none⟩), .pointer (some ⟨px, 0, none⟩)] w fun e w' => 
      if 1 < c.toNat then e = gaveUp 4 ∧ w' = w.setCell ⟨b, 1, none⟩ (.slice (some ⟨g, if cap = 1 then o else o + 1, none⟩) l.length (cap - 1))
      else e = .returned (.tuple #[]) ∧ w' = (w.setCell ⟨b, 1, none⟩ (.slice (some ⟨g, if cap = 1 then o else o + 1, none⟩) l.length (cap - 1))).setCell ⟨px, 0, none⟩ (.bool (c.toNat == 1)) := by
  have CN := Lib.hid (take_ok b g o cap (c :: l) bad 1 w h hl hc (by simp))
  rw [show (c :: l).length - 1 = l.length from rfl] at CN
  obtain ⟨w1, hw1⟩ : ∃ w1, w1 = w.setCell ⟨b, 1, none⟩ (.slice (some ⟨g, if cap = 1 then o else o + 1, none⟩) l.length (cap - 1)) := ⟨_, rfl⟩
  rw [← hw1] at CN ⊢
  have hx1 : w1.heap[px]? = some (.cells #[.bool false] 4 (0, 0)) := by rw [hw1]; exact blk_sets hx hxb
  have hcl : w1.cell? ⟨g, o, none⟩ = some (bv c) := by
    rw [hw1]; exact (World.cell?_of_block (w := w) (a := ⟨g, o, none⟩) (Below.heap_setCell w _ _ g (by simpa using hgb))).trans hcell
  have e0 := blk_cell he 0 _ rfl
  have x0 := blk_cell hx1 0 _ rfl
  have x1 := blk_frozen hx1 0
  clear h hl hc hcell hw1 he hx hx1
  unfold bv at hcl
  unfold gaveUp
  have hbq : ((c.toNat : Int) == 1) = (c.toNat == 1) := by
    rw [Bool.eq_iff_iff, beq_iff_eq, beq_iff_eq]; omega
  by_cases hc1 : 1 < c.toNat
  · simp only [if_pos hc1]
    go_enter Tryz.func107, Tryz.ntmps107
    go_wp2_with fail
    refine CN.out.mono ?_
    rintro e w' ⟨rfl, rfl⟩
    go_wp2
    exact ⟨rfl, rfl, rfl⟩
  · simp only [if_neg hc1]
    go_enter Tryz.func107, Tryz.ntmps107
    go_wp2_with fail
    refine CN.out.mono ?_
    rintro e w' ⟨rfl, rfl⟩
    go_wp2
    go_end0
    exact ⟨rfl, rfl⟩

set_option maxHeartbeats 2000000 in
theorem bstep_short (b pe : Nat) (px : Value) (a : Option Addr) (cap : Nat) (bad : Value) (w : World) (h : w.heap[b]? = some (.cells #[.bool true, .slice a 0 cap, bad] 159 (0, 0)))
    (he : w.heap[pe]? = some (.cells #[.pointer (some ⟨b, 0, none⟩)] 120 (0, 0))) :
    Calls Tryz.prog 107 #[.pointer (some ⟨pe, 0, none⟩), px] w fun e w' => e = gaveUp 2 ∧ w = w' := by
  have CN := Lib.hid (take_short b a 0 cap bad 1 w h (by omega) (by omega))
  have e0 := blk_cell he 0 _ rfl
  clear h he
  unfold gaveUp at *
  go_enter Tryz.func107, Tryz.ntmps107
  go_wp2_with fail
  refine CN.out.mono ?_
  rintro e w' ⟨rfl, rfl⟩
  exact ⟨rfl, rfl, rfl⟩

set_option maxHeartbeats 4000000 in
set_option maxRecDepth 100000 in
/-- Bool. -/
theorem ebool_any (b g : Nat) (l : List UInt8) (bad : Int) (w : World) (h : EyeAt w b g l bad) :
    Calls Tryz.prog 66 #[.pointer (some ⟨b, 0, none⟩)] w fun e w' => e = .returned (.bool (eyeBool l bad).1) ∧
      EyeAt w' b g (eyeBool l bad).2.1 (eyeBool l bad).2.2 ∧ Chg [b] w w' := by
  have hE := h
  obtain ⟨v, hb, hv, hgb, hg, hll⟩ := h
  have hbl := blk_lt hb
  obtain ⟨w3, hw3⟩ : ∃ w3, w3 = (w.alloc (.cells #[.pointer (some ⟨b, 0, none⟩)] 120)).alloc (.cells #[.bool false] 4) := ⟨_, rfl⟩
  have hs3 : w3.heap.size = w.heap.size + 2 := by rw [hw3]; simp
  have hb3 : w3.heap[b]? = some (.cells #[.bool true, v, .int .i64 bad] 159 (0, 0)) := by rw [hw3]; exact blk_alloc (blk_alloc hb)
  have hpe : w3.heap[w.heap.size]? = some (.cells #[.pointer (some ⟨b, 0, none⟩)] 120 (0, 0)) := by rw [hw3]; exact blk_alloc (heap_alloc_new w _)
  have hpx : w3.heap[w.heap.size + 1]? = some (.cells #[.bool false] 4 (0, 0)) := by
    rw [hw3]
    have := heap_alloc_new (w.alloc (.cells #[.pointer (some ⟨b, 0, none⟩)] 120)) (.cells #[.bool false] 4)
    simpa using this
  have hc3 : Chg [b] w w3 := by rw [hw3]; exact ((Chg.refl [b] w).alloc _).alloc _
  have hv3 : EyeV w3 v g l := hv.keepC hg hc3 (by simp; exact hgb)
  have hg3 := or_lt hg hc3
  obtain ⟨r, hr⟩ : ∃ r, r = eyeBool l bad := ⟨_, rfl⟩
  have CR : Hid (Calls Tryz.prog 101 #[.pointer (some ⟨b, 0, none⟩), .func (.func 107) #[] #[.pointer (some ⟨w.heap.size, 0, none⟩), .pointer (some ⟨w.heap.size + 1, 0, none⟩)]] w3
      fun e w' => e = .returned (.tuple #[]) ∧ Hid (Chg [b, w.heap.size + 1] w3 w' ∧ EyeAt w' b g r.2.1 r.2.2 ∧ w'.heap[w.heap.size + 1]? = some (.cells #[.bool r.1] 4 (0, 0)))) := by
    have hgb3 : b < w3.heap.size := blk_lt hb3
    by_cases hbad : bad = 0
    · subst hbad
      cases l with
      | nil =>
        have hr' : r = (false, [], 2) := by rw [hr]; rfl
        obtain ⟨a, cap, rfl⟩ := hv3.slice
        refine (read_panic b _ 107 _ w3 enters2 a 0 cap rfl 2 hb3 [] (by simp) ?_).mono ?_
        · refine (bstep_short b _ _ a cap _ _ (blk_alloc (blk_alloc hb3)) (blk_alloc (blk_alloc hpe))).mono ?_
          rintro e w' ⟨rfl, rfl⟩
          exact ⟨rfl, _, Chg.refl _ _, blk_alloc (blk_alloc hb3)⟩
        · rintro e w' ⟨rfl, hc, hh⟩
          refine ⟨rfl, hc.mono (by simp), ?_, ?_⟩
          · rw [hr']
            exact ⟨_, hh, hv3.keepC hg3 hc (by simp; exact hgb), hgb, or_lt hg3 hc, hll⟩
          · rw [hr']; exact hc.keep hpx (by simp; omega)
      | cons c l =>
        rcases hv3 with ⟨_, h0⟩ | ⟨o, cap, rfl, hlc, hcm, hcell⟩
        · cases h0
        have hg4 : g < w.heap.size := by
          rcases hg with hg | hg
          · exact hg
          · cases hg
        obtain ⟨w5, hw5⟩ : ∃ w5, w5 = (w3.alloc (.cells #[.pointer (some ⟨b, 0, none⟩)] 120)).alloc (.cells #[.slice (some ⟨g, o, none⟩) (c :: l).length cap] 30) := ⟨_, rfl⟩
        have hc5 : Chg [] w3 w5 := by rw [hw5]; exact ((Chg.refl [] w3).alloc _).alloc _
        have hc0 : w3.cell? ⟨g, o, none⟩ = some (bv c) := hcell 0 (by simp)
        have CS := bstep_any b g o cap _ _ c l _ w5 (hc5.keep hb3 (by simp)) hgb hlc hcm (hc5.cell hc0 (by simp)) (hc5.keep hpe (by simp)) (hc5.keep hpx (by simp)) (by omega)
        by_cases hc1 : 1 < c.toNat
        · have hr' : r = (false, c :: l, 4) := by rw [hr]; unfold eyeBool; simp [hc1]
          refine (read_panic b _ 107 _ w3 enters2 _ _ _ rfl 4 hb3 [b] (by simp; exact hgb3) ?_).mono ?_
          · rw [← hw5]
            refine CS.mono ?_
            intro e w' h
            rw [if_pos hc1] at h
            obtain ⟨rfl, rfl⟩ := h
            exact ⟨rfl, _, (Chg.refl _ _).setCell (.inl (by simp)) _, set_blk (hc5.keep hb3 (by simp))⟩
          · rintro e w' ⟨rfl, hc, hh⟩
            refine ⟨rfl, hc.mono (by simp), ?_, ?_⟩
            · rw [hr']
              exact ⟨_, hh, .inr ⟨o, cap, rfl, hlc, hcm, fun i hi => hc.cell (hcell i hi) (by simp; exact hgb)⟩, hgb, .inl (Nat.lt_of_lt_of_le (show g < w3.heap.size by omega) hc.size), hll⟩
            · rw [hr']; exact hc.keep hpx (by simp; omega)
        · have hr' : r = (c.toNat == 1, l, 0) := by rw [hr]; unfold eyeBool; simp [hc1]
          rw [hw5] at CS
          simp only [if_neg hc1] at CS
          refine (read_ret b _ 107 _ w3 enters2 _ _ _ rfl hb3 _ CS).mono ?_
          rintro e w' ⟨rfl, w1, hq, rfl⟩
          rw [← hw5] at hq
          have hcq : Chg [b, w.heap.size + 1] w3 w1 := by
            rw [hq]
            exact ((hc5.mono (by simp)).setCell (p := ⟨b, 1, none⟩) (.inl (by simp)) _).setCell (p := ⟨w.heap.size + 1, 0, none⟩) (.inl (by simp)) _
          have hb1 : w1.heap[b]? = some (.cells #[.bool true, .slice (some ⟨g, if cap = 1 then o else o + 1, none⟩) l.length (cap - 1), .int .i64 0] 159 (0, 0)) := by
            rw [hq]; exact blk_sets (set_blk (hc5.keep hb3 (by simp))) (by omega)
          have hx1 : w1.heap[w.heap.size + 1]? = some (.cells #[.bool (c.toNat == 1)] 4 (0, 0)) := by
            rw [hq]; exact set_blk (blk_sets (hc5.keep hpx (by simp)) (by omega))
          refine ⟨rfl, hcq.alloc _, ?_, ?_⟩
          · rw [hr']
            refine ⟨_, blk_alloc hb1, ?_, hgb, ?_, ?_⟩
            · exact (EyeV.dropped (n := 1) hlc hcm hcell (by simp)).keep ((hcq.alloc _).block g (by omega) (by simp; omega))
            · exact .inl (Nat.lt_of_lt_of_le (by omega) (hcq.alloc _).size)
            · show l.length ≤ _
              simp at hll; omega
          · rw [hr']; exact blk_alloc hx1
    · have hr' : r = (false, l, bad) := by rw [hr]; unfold eyeBool; rw [if_pos hbad]
      refine (read_done b v bad 107 _ w3 hb3 hbad).mono ?_
      rintro e w' ⟨rfl, rfl⟩
      rw [hr']
      refine ⟨rfl, (Chg.refl _ _).alloc _, ⟨v, blk_alloc hb3, hv3.keepC hg3 ((Chg.refl [] w3).alloc _) (by simp), hgb, or_lt hg3 ((Chg.refl [] w3).alloc _), hll⟩, blk_alloc hpx⟩
  rw [← hr]
  have HC := Lib.hid hc3
  have HW := Lib.hid hw3
  have hmf : ∀ (fn : Fn) (first cap : Array Value) (w : World), (Instr.makeFunc fn first cap).run Tryz.prog w = .ok (.func fn first cap) w := fun _ _ _ _ => rfl
  clear hb hv hb3 hpe hpx hc3 hr hE hw3 hv3
  go_enter Tryz.func66, Tryz.ntmps66
  go_wp2_with fail
  rw [← HW.out]
  refine CR.out.mono ?_
  rintro e w4 ⟨rfl, H4⟩
  have x0 := blk_cell H4.out.2.2 0 _ rfl
  go_wp2
  go_ret
  exact ⟨rfl, H4.out.2.1, HC.out.trans H4.out.1 (by
    intro x hx
    simp at hx
    rcases hx with rfl | rfl
    · exact .inl (by simp)
    · exact .inr (by omega))⟩

end Go.Proofs.YtdkhmfcfihbjeaaGreatDoor.W

/- The reference's eye: Bool, Form, Fall. -/
namespace Go.Proofs.YtdkhmfcfihbjeaaGreatDoor.W
open Go.RowKit
set_option linter.unusedVariables false
set_option linter.unusedSimpArgs false

set_option maxHeartbeats 2000000 in
set_option maxRecDepth 100000 in
/-- Fall. -/
theorem rfall_any (b g : Nat) (l : List UInt8) (bad x : Int) (w : World) (h : REyeAt w b g l bad) :
    Calls Tryz.prog 106 #[.pointer (some ⟨b, 0, none⟩), .int .i64 x] w fun e w' => e = .returned (.tuple #[]) ∧ REyeAt w' b g l (if bad = 0 then x else bad) ∧ Chg [b] w w' := by
  have hE := Lib.hid h
  obtain ⟨v, hb, hv, hgb, hll⟩ := h
  have b1 := blk_cell hb 1 _ rfl
  have f1 := blk_frozen hb 1
  have hbl := blk_lt hb
  by_cases hbad : bad = 0
  · subst hbad
    have HF : Hid (REyeAt (w.setCell ⟨b, 1, none⟩ (.int .i64 x)) b g l x ∧ Chg [b] w (w.setCell ⟨b, 1, none⟩ (.int .i64 x))) := by
      have hc := (Chg.refl [b] w).setCell (p := ⟨b, 1, none⟩) (.inl (by simp)) (.int .i64 x)
      exact ⟨⟨_, set_blk hb, hv.keepC hc (by simp; exact hgb), hgb, hll⟩, hc⟩
    rw [if_pos rfl]
    clear hb hv
    go_enter Tryz.func106, Tryz.ntmps106
    go_wp2
    go_end0
    exact ⟨rfl, HF.out⟩
  · rw [if_neg hbad]
    have q1 : (bad == 0) = false := by simp [hbad]
    clear hb hv hbad
    go_enter Tryz.func106, Tryz.ntmps106
    go_wp2
    go_end0
    exact ⟨rfl, hE.out, Chg.refl _ _⟩

set_option maxHeartbeats 2000000 in
set_option maxRecDepth 100000 in
/-- Form. -/
theorem rform_any (b g : Nat) (l : List UInt8) (bad : Int) (q : Bool) (w : World) (h : REyeAt w b g l bad) :
    Calls Tryz.prog 60 #[.pointer (some ⟨b, 0, none⟩), .bool q] w fun e w' => e = .returned (.tuple #[]) ∧ REyeAt w' b g l (if q = true ∧ bad = 0 then 4 else bad) ∧ Chg [b] w w' := by
  have hE := Lib.hid h
  have CF := Lib.hid (rfall_any b g l bad 4 w h)
  rw [show (if q = true ∧ bad = 0 then (4 : Int) else bad) = if q = true then (if bad = 0 then 4 else bad) else bad by cases q <;> simp]
  generalize (if bad = 0 then (4 : Int) else bad) = x4 at *
  clear h
  cases q
  · rw [if_neg (by simp)]
    go_enter Tryz.func60, Tryz.ntmps60
    go_wp2
    go_end0
    exact ⟨rfl, hE.out, Chg.refl _ _⟩
  · rw [if_pos rfl]
    go_enter Tryz.func60, Tryz.ntmps60
    go_wp2_with fail
    refine CF.out.mono ?_
    rintro e w' ⟨rfl, H⟩
    have HH := Lib.hid H
    clear H
    go_wp2
    go_end0
    exact ⟨rfl, HH.out⟩

set_option maxHeartbeats 4000000 in
set_option maxRecDepth 100000 in
/-- The reference's Bool. -/
theorem rbool_any (b g : Nat) (l : List UInt8) (bad : Int) (w : World) (h : REyeAt w b g l bad) :
    Calls Tryz.prog 67 #[.pointer (some ⟨b, 0, none⟩)] w fun e w' => e = .returned (.bool (eyeBool l bad).1) ∧
      REyeAt w' b g (eyeBool l bad).2.1 (eyeBool l bad).2.2 ∧ Chg [b] w w' := by
  have hE := Lib.hid h
  obtain ⟨v, hb, hv, hgb, hll⟩ := h
  have b0 := blk_cell hb 0 _ rfl
  obtain ⟨av, Lv, cv, rfl⟩ : ∃ a L cap, v = .slice a L cap := by obtain ⟨a, cap, h⟩ := hv.slice; exact ⟨a, _, cap, h⟩
  by_cases hbad : bad = 0
  · subst hbad
    cases l with
    | nil =>
      have hL : Lv = 0 := by
        obtain ⟨a, cap, h⟩ := hv.slice
        simp at h
        exact h.2.1
      have CN := Lib.hid (rnum_short b av Lv cv 1 w hb (by omega) (by omega) (by omega))
      have HF : Hid (REyeAt (w.setCell ⟨b, 1, none⟩ (.int .i64 2)) b g [] 2 ∧ Chg [b] w (w.setCell ⟨b, 1, none⟩ (.int .i64 2))) := by
        have hc := (Chg.refl [b] w).setCell (p := ⟨b, 1, none⟩) (.inl (by simp)) (.int .i64 2)
        exact ⟨⟨_, set_blk hb, hv.keepC hc (by simp; exact hgb), hgb, hll⟩, hc⟩
      have HR : Hid (eyeBool [] 0 = (false, [], 2)) := Lib.hid rfl
      rw [HR.out]
      have b1 := blk_cell (set_blk (j := 1) (u := .int .i64 2) hb) 1 _ rfl
      clear hb hv hL
      go_enter Tryz.func67, Tryz.ntmps67
      go_wp2_with fail
      refine CN.out.mono ?_
      rintro e w' ⟨rfl, rfl⟩
      go_wp2
      go_ret
      exact ⟨rfl, HF.out⟩
    | cons c l =>
      rcases hv with ⟨h0, _⟩ | ⟨o, cap, hs, hlc, hcm, hg, hcell⟩
      · cases h0
      obtain ⟨rfl, rfl, rfl⟩ : av = some ⟨g, o, none⟩ ∧ Lv = (c :: l).length ∧ cv = cap := by simpa using hs
      have CN := rnum_ok b g o cv (c :: l) 1 w hb hlc hcm hcell (by omega) (by omega) (by simp) hll
      have hc := (Chg.refl [b] w).setCell (p := ⟨b, 0, none⟩) (.inl (by simp)) (.slice (some ⟨g, if cv = 1 then o else o + 1, none⟩) ((c :: l).length - 1) (cv - 1))
      have hb1 := set_blk (j := 0) (u := .slice (some ⟨g, if cv = 1 then o else o + 1, none⟩) ((c :: l).length - 1) (cv - 1)) hb
      have hd := (REyeV.dropped (n := 1) hlc hcm hg hcell (by simp)).keepC hc (by simp; exact hgb)
      generalize w.setCell ⟨b, 0, none⟩ (.slice (some ⟨g, if cv = 1 then o else o + 1, none⟩) ((c :: l).length - 1) (cv - 1)) = w1 at *
      have hnum : beNum ((c :: l).take 1) = c.toNat := by simp [beNum]
      rw [hnum] at CN
      have HCN := Lib.hid CN
      have d0 := blk_cell hb1 0 _ rfl
      have d1 := blk_cell hb1 1 _ rfl
      have e0 := blk_frozen hb1 0
      have e1 := blk_frozen hb1 1
      have l1 := blk_lt hb1
      by_cases hc1 : 1 < c.toNat
      · have HR : Hid (eyeBool (c :: l) 0 = (false, c :: l, 4)) := Lib.hid (by unfold eyeBool; simp [hc1])
        rw [HR.out]
        have q1 : decide ((1 : Int) < (c.toNat : Int)) = true := by simp; omega
        have HF : Hid (REyeAt ((w1.setCell ⟨b, 1, none⟩ (.int .i64 4)).setCell ⟨b, 0, none⟩ (.slice (some ⟨g, o, none⟩) (c :: l).length cv)) b g (c :: l) 4 ∧ Chg [b] w ((w1.setCell ⟨b, 1, none⟩ (.int .i64 4)).setCell ⟨b, 0, none⟩ (.slice (some ⟨g, o, none⟩) (c :: l).length cv))) := by
          have hc2 := (hc.setCell (p := ⟨b, 1, none⟩) (.inl (by simp)) (.int .i64 4)).setCell (p := ⟨b, 0, none⟩) (.inl (by simp)) (.slice (some ⟨g, o, none⟩) (c :: l).length cv)
          refine ⟨⟨_, set_blk (set_blk hb1), ?_, hgb, hll⟩, hc2⟩
          exact REyeV.keepC (S := [b]) (.inr ⟨o, cv, rfl, hlc, hcm, hg, hcell⟩) hc2 (by simp; exact hgb)
        clear hb hb1 hd hc hcell hnum CN hs hlc hcm hc1
        go_enter Tryz.func67, Tryz.ntmps67
        go_wp2_with fail
        refine HCN.out.mono ?_
        rintro e w' ⟨rfl, rfl⟩
        go_wp2
        go_ret
        exact ⟨rfl, HF.out⟩
      · have HR : Hid (eyeBool (c :: l) 0 = (c.toNat == 1, l, 0)) := Lib.hid (by unfold eyeBool; simp [hc1])
        rw [HR.out]
        have q1 : decide ((1 : Int) < (c.toNat : Int)) = false := by simp; omega
        have hbq : ((c.toNat : Int) == 1) = (c.toNat == 1) := by
          rw [Bool.eq_iff_iff, beq_iff_eq, beq_iff_eq]; omega
        have HF : Hid (REyeAt w1 b g l 0 ∧ Chg [b] w w1) := by
          refine ⟨⟨_, hb1, hd, hgb, ?_⟩, hc⟩
          simp at hll; omega
        clear hb hb1 hd hc hcell hnum CN hs hlc hcm hc1
        go_enter Tryz.func67, Tryz.ntmps67
        go_wp2_with fail
        refine HCN.out.mono ?_
        rintro e w' ⟨rfl, rfl⟩
        go_wp2
        go_ret
        exact ⟨rfl, HF.out⟩
  · have HR : Hid (eyeBool l bad = (false, l, bad)) := Lib.hid (by unfold eyeBool; rw [if_pos hbad])
    rw [HR.out]
    have CN := Lib.hid (rnum_bad b _ bad 1 w hb hbad)
    have b1 := blk_cell hb 1 _ rfl
    have q1 : (bad == 0) = false := by simp [hbad]
    clear hb hv hbad
    go_enter Tryz.func67, Tryz.ntmps67
    go_wp2_with fail
    refine CN.out.mono ?_
    rintro e w' ⟨rfl, rfl⟩
    go_wp2
    go_ret
    exact ⟨rfl, hE.out, Chg.refl _ _⟩
end Go.Proofs.YtdkhmfcfihbjeaaGreatDoor.W

/- The reference's eye: Raw. -/
namespace Go.Proofs.YtdkhmfcfihbjeaaGreatDoor.W
open Go.RowKit
set_option linter.unusedVariables false
set_option linter.unusedSimpArgs false

theorem REyeV.bytes {w : World} {v : Value} {g : Nat} {l : List UInt8} (h : REyeV w v g l) : ∃ a cap, v = .slice a l.length cap ∧ (l = [] ∨ ∃ o, a = some ⟨g, o, none⟩ ∧ l.length ≤ cap ∧ cap ≤ maxLen ∧ g < w.heap.size ∧ ∀ i, i < l.length → w.cell? ⟨g, o + i, none⟩ = some (bv (l.getD i 0))) := by
  rcases h with ⟨rfl, a, cap, rfl⟩ | ⟨o, cap, rfl, h1, h2, h3, hc⟩
  · exact ⟨a, cap, rfl, .inl rfl⟩
  · exact ⟨_, cap, rfl, .inr ⟨o, rfl, h1, h2, h3, hc⟩⟩

/-- What the reference's Raw leaves. -/
def RRawLeft (w : World) (b g : Nat) (r : List UInt8 × List UInt8 × Int) (e : Ending) (w' : World) : Prop :=
  ∃ v, e = .returned v ∧ BRow w' v r.1 ∧ (∀ k, v.ownBlock = some k → w.heap.size ≤ k) ∧ REyeAt w' b g r.2.1 r.2.2 ∧ Chg [b] w w'

set_option maxHeartbeats 4000000 in
set_option maxRecDepth 100000 in
theorem rraw_any (b g : Nat) (l : List UInt8) (bad : Int) (most : Nat) (w : World) (h : REyeAt w b g l bad) (hmo : most ≤ 1000000) :
    Calls Tryz.prog 62 #[.pointer (some ⟨b, 0, none⟩), .int .i64 (most : Int)] w (RRawLeft w b g (eyeRaw l bad most)) := by
  have CN := Lib.hid (rnum_any b g l bad 2 w h (by omega) (by omega))
  have HE := Lib.hid h
  obtain ⟨v, hb, hv, hgb, hll⟩ := h
  have b0 := blk_cell hb 0 _ rfl
  have b1 := blk_cell hb 1 _ rfl
  have hbl := blk_lt hb
  have HV := Lib.hid hv
  obtain ⟨a, cap, rfl⟩ := hv.slice
  rw [show (2 : Int).toNat = 2 from rfl] at CN
  have hmz : ¬ ((most : Nat) : Int) < 0 := by omega
  have hmd : decide (((most : Nat) : Int) < 0) = false := decide_eq_false hmz
  -- it fails with error x, the bytes as they were
  have hfail : ∀ (x y : Int) (v2 : Value) (w2 : World), eyeRaw l bad most = ([], l, x) → w2.heap[b]? = some (.cells #[v2, .int .i64 y] 127 (0, 0)) → Chg [b] w w2 →
      Hid (RRawLeft w b g (eyeRaw l bad most) (.returned (.slice none 0 0)) ((w2.setCell ⟨b, 1, none⟩ (.int .i64 x)).setCell ⟨b, 0, none⟩ (.slice a l.length cap))) ∧
      (y = x → Hid (RRawLeft w b g (eyeRaw l bad most) (.returned (.slice none 0 0)) (w2.setCell ⟨b, 0, none⟩ (.slice a l.length cap)))) := by
    intro x y v2 w2 hr h2 hc
    have hc1 : Chg [b] w ((w2.setCell ⟨b, 1, none⟩ (.int .i64 x)).setCell ⟨b, 0, none⟩ (.slice a l.length cap)) := (hc.setCell (.inl (by simp)) _).setCell (.inl (by simp)) _
    have hc2 : Chg [b] w (w2.setCell ⟨b, 0, none⟩ (.slice a l.length cap)) := hc.setCell (.inl (by simp)) _
    refine ⟨Lib.hid ?_, fun hyx => Lib.hid ?_⟩
    · rw [hr]
      exact ⟨_, rfl, BRow.nil _, by simp [Value.ownBlock], ⟨_, set_blk (set_blk h2), hv.keepC hc1 (by simp; exact hgb), hgb, hll⟩, hc1⟩
    · rw [hr]
      subst hyx
      exact ⟨_, rfl, BRow.nil _, by simp [Value.ownBlock], ⟨_, set_blk h2, hv.keepC hc2 (by simp; exact hgb), hgb, hll⟩, hc2⟩
  have HFAIL := Lib.hid hfail
  clear hfail hv
  by_cases hbad : bad = 0
  · subst hbad
    by_cases hlen : l.length < 2
    · have hr : eyeRaw l 0 most = ([], l, 2) := by unfold eyeRaw; rw [if_neg (by simp), if_pos hlen]
      rw [show eyeNum l 0 2 = (0, l, 2) by unfold eyeNum; rw [if_neg (by simp), if_pos hlen]] at CN
      have HR := Lib.hid hr
      clear hb hr HE
      go_enter Tryz.func62, Tryz.ntmps62
      go_wp2_with fail
      refine CN.out.mono ?_
      rintro e w2 ⟨rfl, ⟨v2, hb2, hv2, _, _⟩, hc2⟩
      have HF := (HFAIL.out 2 2 v2 w2 HR.out hb2 hc2).2 rfl
      obtain ⟨a2, c2, rfl⟩ := hv2.slice
      have b02 := blk_cell hb2 0 _ rfl
      have b12 := blk_cell hb2 1 _ rfl
      have f02 := blk_frozen hb2 0
      have hbl2 := blk_lt hb2
      clear hb2 hv2 hc2 CN HFAIL
      go_wp2
      go_ret
      exact HF.out
    · rw [show eyeNum l 0 2 = ((beNum (l.take 2) : Int), l.drop 2, 0) by unfold eyeNum; rw [if_neg (by simp), if_neg hlen]] at CN
      have hbn := beNum_take_le l 2 (by omega)
      have hrr : eyeRaw l 0 most = if most < beNum (l.take 2) then ([], l, 3) else if (l.drop 2).length < beNum (l.take 2) then ([], l, 2) else ((l.drop 2).take (beNum (l.take 2)), (l.drop 2).drop (beNum (l.take 2)), 0) := by
        unfold eyeRaw; rw [if_neg (by simp), if_neg hlen]
      have hdl : (l.drop 2).length = l.length - 2 := List.length_drop ..
      generalize beNum (l.take 2) = n at *
      generalize l.drop 2 = l2 at *
      have HDL := Lib.hid hdl
      have hl2 : l2.length ≤ 1000000 := by omega
      by_cases hlong : most < n
      · have hr : eyeRaw l 0 most = ([], l, 3) := by rw [hrr, if_pos hlong]
        have HR := Lib.hid hr
        have hz : ((most : Nat) : Int) < (n : Int) := by omega
        clear hb hr hrr HE hdl
        go_enter Tryz.func62, Tryz.ntmps62
        go_wp2_with fail
        refine CN.out.mono ?_
        rintro e w2 ⟨rfl, ⟨v2, hb2, hv2, _, _⟩, hc2⟩
        have HF := (HFAIL.out 3 0 v2 w2 HR.out hb2 hc2).1
        obtain ⟨a2, c2, rfl⟩ := hv2.slice
        have b02 := blk_cell hb2 0 _ rfl
        have b12 := blk_cell hb2 1 _ rfl
        have f02 := blk_frozen hb2 0
        have f12 := blk_frozen hb2 1
        have hbl2 := blk_lt hb2
        clear hb2 hv2 hc2 CN HFAIL
        go_wp2
        go_ret
        exact HF.out
      · have hz : ¬ ((most : Nat) : Int) < (n : Int) := by omega
        by_cases hsh : l2.length < n
        · have hr : eyeRaw l 0 most = ([], l, 2) := by rw [hrr, if_neg hlong, if_pos hsh]
          have HR := Lib.hid hr
          have hsz : (l2.length : Int) < (n : Int) := by omega
          clear hb hr hrr HE hdl
          go_enter Tryz.func62, Tryz.ntmps62
          go_wp2_with fail
          refine CN.out.mono ?_
          rintro e w2 ⟨rfl, ⟨v2, hb2, hv2, _, _⟩, hc2⟩
          have HF := (HFAIL.out 2 0 v2 w2 HR.out hb2 hc2).1
          obtain ⟨a2, c2, rfl⟩ := hv2.slice
          have b02 := blk_cell hb2 0 _ rfl
          have b12 := blk_cell hb2 1 _ rfl
          have f02 := blk_frozen hb2 0
          have f12 := blk_frozen hb2 1
          have hbl2 := blk_lt hb2
          clear hb2 hv2 hc2 CN HFAIL
          go_wp2
          go_ret
          exact HF.out
        · have hr : eyeRaw l 0 most = (l2.take n, l2.drop n, 0) := by rw [hrr, if_neg hlong, if_neg hsh]
          have HR := Lib.hid hr
          have hsz : ¬ (l2.length : Int) < (n : Int) := by omega
          have hsz2 : n ≤ l2.length := by omega
          clear hb hr hrr HE hdl HFAIL
          go_enter Tryz.func62, Tryz.ntmps62
          go_wp2_with fail
          refine CN.out.mono ?_
          rintro e w2 ⟨rfl, ⟨v2, hb2, hv2, _, _⟩, hc2⟩
          rcases hv2 with ⟨rfl, a2, c2, rfl⟩ | ⟨o2, c2, rfl, h21, h22, h23, hcell⟩
          · obtain rfl : n = 0 := by simpa using hsz2
            have b02 := blk_cell hb2 0 _ rfl
            have b12 := blk_cell hb2 1 _ rfl
            have hbl2 := blk_lt hb2
            have HB2 := Lib.hid hb2
            have HC2 := Lib.hid hc2
            have hfin : ∀ (w3 : World) (v3 : Value) (a9 : Option Addr) (c9 : Nat), Chg [] w2 w3 → BRow w3 v3 [] → (∀ k, v3.ownBlock = some k → w2.heap.size ≤ k) → Hid (RRawLeft w b g (eyeRaw l 0 most) (.returned v3) (w3.setCell ⟨b, 0, none⟩ (.slice a9 0 c9))) := by
              intro w3 v3 a9 c9 hc3 hr3 hn3
              refine Lib.hid ?_
              rw [HR.out]
              have hs : Chg [b] w2 (w3.setCell ⟨b, 0, none⟩ (.slice a9 0 c9)) := (hc3.mono (by simp)).setCell (.inl (by simp)) _
              exact ⟨_, rfl, hr3.keep (fun k hk => Below.heap_setCell w3 _ _ k (fun e => by have h9 := hn3 k hk; have e2 : k = b := e; omega)), fun k hk => Nat.le_trans HC2.out.size (hn3 k hk), ⟨_, set_blk (hc3.keep HB2.out (by simp)), .inl ⟨rfl, a9, c9, rfl⟩, hgb, by simp⟩, HC2.out.trans hs (fun x hx => .inl hx)⟩
            have HFIN := Lib.hid hfin
            have f02 := blk_frozen hb2 0
            clear hb2 hc2 hfin CN hl2 HDL
            cases a2 with
            | none =>
              go_wp2_with fail
              refine (rcopy_zero _ _ _).mono ?_
              rintro e w3 ⟨rfl, rfl⟩
              go_wp2
              go_ret
              exact (HFIN.out w2 _ _ _ (Chg.refl _ _) (BRow.nil _) (by simp [Value.ownBlock])).out
            | some x =>
              by_cases hc0 : c2 = 0
              · subst hc0
                go_wp2_with fail
                refine (rcopy_zero _ _ _).mono ?_
                rintro e w3 ⟨rfl, rfl⟩
                go_wp2
                go_ret
                exact (HFIN.out w2 _ _ _ (Chg.refl _ _) (BRow.nil _) (by simp [Value.ownBlock])).out
              · have hc1 : 0 < c2 := by omega
                go_wp2_with fail
                refine (rcopy_zero _ _ _).mono ?_
                rintro e w3 ⟨rfl, rfl⟩
                go_wp2
                go_ret
                exact (HFIN.out w2 _ _ _ (Chg.refl _ _) (BRow.nil _) (by simp [Value.ownBlock])).out
          · have b02 := blk_cell hb2 0 _ rfl
            have b12 := blk_cell hb2 1 _ rfl
            have hbl2 := blk_lt hb2
            have HB2 := Lib.hid hb2
            have HC2 := Lib.hid hc2
            have hlt2 : (l2.take n).length = n := by rw [List.length_take]; omega
            have hB : BytesAt w2 (.slice (some ⟨g, o2, none⟩) n c2) (l2.take n) := by
              refine ⟨_, c2, by rw [hlt2], by omega, h22, .inr ⟨g, o2, rfl, fun i hi => ?_⟩⟩
              rw [hlt2] at hi
              rw [getD_take _ _ _ hi]
              exact hcell i (by omega)
            have CC := Lib.hid (rcopy_any _ _ w2 hB (by omega))
            have HCL := Lib.hid hcell
            have HL2 := Lib.hid hlt2
            have h22b := h22
            unfold maxLen at h22b
            clear hb2 hc2 hB hcell hlt2 CN
            go_wp2_with fail
            refine CC.out.mono ?_
            rintro e w3 ⟨v3, rfl, hr3, hn3, hc3⟩
            have hb3 := hc3.keep HB2.out (by simp)
            have b03 := blk_cell hb3 0 _ rfl
            have b13 := blk_cell hb3 1 _ rfl
            have f03 := blk_frozen hb3 0
            have hbl3 := blk_lt hb3
            obtain ⟨a3, c3, he3, _⟩ := hr3.bytes
            rw [HL2.out] at he3
            obtain rfl := he3
            have HR3 := Lib.hid hr3
            have HN3 := Lib.hid hn3
            have HC3 := Lib.hid hc3
            have HB3 := Lib.hid hb3
            clear hr3 hn3 hc3 hb3 CC
            have hset : ∀ u, Chg [b] w2 (w3.setCell ⟨b, 0, none⟩ u) := fun u => (HC3.out.mono (by simp)).setCell (.inl (by simp)) _
            have hdn : (l2.drop n).length = l2.length - n := List.length_drop ..
            have hgw2 : g < w2.heap.size := h23
            have hfin : ∀ o3, (n < l2.length → o3 = o2 + n) → Hid (RRawLeft w b g (eyeRaw l 0 most) (.returned (.slice a3 n c3)) (w3.setCell ⟨b, 0, none⟩ (.slice (some ⟨g, o3, none⟩) (l2.length - n) (c2 - n)))) := by
              intro o3 ho3
              have hs := hset (.slice (some ⟨g, o3, none⟩) (l2.length - n) (c2 - n))
              have hgk : (w3.setCell ⟨b, 0, none⟩ (.slice (some ⟨g, o3, none⟩) (l2.length - n) (c2 - n))).heap[g]? = w2.heap[g]? := hs.block g hgw2 (by simp; exact hgb)
              refine Lib.hid ?_
              rw [HR.out]
              refine ⟨_, rfl, HR3.out.keep (fun k hk => Below.heap_setCell w3 _ _ k (fun e => by have h9 := HN3.out k hk; have e2 : k = b := e; omega)), fun k hk => Nat.le_trans HC2.out.size (HN3.out k hk), ⟨_, set_blk HB3.out, .inr ⟨o3, c2 - n, by rw [hdn], by (show (l2.drop n).length ≤ _; rw [hdn]; omega), by omega, Nat.lt_of_lt_of_le hgw2 hs.size, fun i hi => ?_⟩, hgb, by show (l2.drop n).length ≤ 1000000; rw [hdn]; omega⟩, HC2.out.trans hs (fun x hx => .inl hx)⟩
              rw [hdn] at hi
              obtain rfl := ho3 (by omega)
              rw [getD_drop, Nat.add_assoc]
              exact (World.cell?_of_block (w := w2) (a := ⟨g, o2 + (n + i), none⟩) hgk).trans (HCL.out (n + i) (by omega))
            have HFIN := Lib.hid hfin
            clear hfin hset hdn
            by_cases hcn : c2 = n
            · subst hcn
              go_wp2
              go_ret
              have h9 := (HFIN.out o2 (fun h => by omega)).out
              rw [Nat.sub_self, show l2.length - c2 = 0 by omega] at h9
              exact h9
            · go_wp2
              go_ret
              exact (HFIN.out (o2 + n) (fun h => rfl)).out
  · have hr : eyeRaw l bad most = ([], l, bad) := by unfold eyeRaw; rw [if_pos hbad]
    rw [show eyeNum l bad 2 = (0, l, bad) by unfold eyeNum; rw [if_pos hbad]] at CN
    have HR := Lib.hid hr
    have q1 : (bad == 0) = false := by simp [hbad]
    have q2 : (bad != 0) = true := by simp [hbad]
    clear hb hr HE hbad
    go_enter Tryz.func62, Tryz.ntmps62
    go_wp2_with fail
    refine CN.out.mono ?_
    rintro e w2 ⟨rfl, ⟨v2, hb2, hv2, _, _⟩, hc2⟩
    have HF := (HFAIL.out bad bad v2 w2 HR.out hb2 hc2).2 rfl
    obtain ⟨a2, c2, rfl⟩ := hv2.slice
    have b02 := blk_cell hb2 0 _ rfl
    have b12 := blk_cell hb2 1 _ rfl
    have f02 := blk_frozen hb2 0
    have hbl2 := blk_lt hb2
    clear hb2 hv2 hc2 CN HFAIL
    go_wp2
    go_ret
    exact HF.out
end Go.Proofs.YtdkhmfcfihbjeaaGreatDoor.W

/- Package server: getId, and the reference's (printed by gen_svg.py). -/
namespace Go.Proofs.YtdkhmfcfihbjeaaGreatDoor.W
open Go.RowKit
set_option linter.unusedVariables false
set_option linter.unusedSimpArgs false

/-! ### Plainly: what is left, and the error -/
def enV (s : PB) (n : Nat) : Int := (eyeNum s.1 s.2 n).1
def enS (s : PB) (n : Nat) : PB := ((eyeNum s.1 s.2 n).2.1, (eyeNum s.1 s.2 n).2.2)
def erV (s : PB) : List UInt8 := (eyeRaw s.1 s.2 65535).1
def erS (s : PB) : PB := ((eyeRaw s.1 s.2 65535).2.1, (eyeRaw s.1 s.2 65535).2.2)
def ebV (s : PB) : Bool := (eyeBool s.1 s.2).1
def ebS (s : PB) : PB := ((eyeBool s.1 s.2).2.1, (eyeBool s.1 s.2).2.2)
def giV (s : PB) : Id := ⟨enV s 1, enV (enS s 1) 3, enV (enS (enS s 1) 3) 4, enV (enS (enS (enS s 1) 3) 4) 1⟩
def giS (s : PB) : PB := enS (enS (enS (enS s 1) 3) 4) 1
set_option maxHeartbeats 2000000 in
theorem rsend_any (b g : Nat) (l : List UInt8) (bad : Int) (w : World) (h : REyeAt w b g l bad) :
    Calls Tryz.prog 63 #[.pointer (some ⟨b, 0, none⟩)] w fun e w' => e = .returned (.int .i64 (endOf l bad)) ∧ w = w' := by
  obtain ⟨v, hb, hv, _, _⟩ := h
  obtain ⟨a, cap, rfl⟩ := hv.slice
  have h0 := blk_cell hb 0 _ rfl
  have h1 := blk_cell hb 1 _ rfl
  unfold endOf
  clear hb hv
  by_cases hbad : bad = 0
  · subst hbad
    rw [if_neg (by simp)]
    by_cases hl : l = []
    · subst hl
      rw [if_pos rfl]
      go_enter Tryz.func63, Tryz.ntmps63
      go_wp2
      go_ret
      exact ⟨rfl, rfl⟩
    · rw [if_neg hl]
      have hp : 0 < l.length := List.length_pos_iff.2 hl
      clear hl
      go_enter Tryz.func63, Tryz.ntmps63
      go_wp2
      go_ret
      exact ⟨rfl, rfl⟩
  · rw [if_pos hbad]
    have q : (bad != 0) = true := by simp [hbad]
    clear hbad
    go_enter Tryz.func63, Tryz.ntmps63
    go_wp2
    go_ret
    exact ⟨rfl, rfl⟩
theorem REyeAt.pick {w : World} {b g : Nat} {l : List UInt8} {bad : Int} (h : REyeAt w b g l bad) (M : Nat) (hM : M ≠ b) : ∃ g', REyeAt w b g' l bad ∧ (g' = g ∧ g < w.heap.size ∨ g' = M) := by
  obtain ⟨v, hb, hv, hgb, hl⟩ := h
  rcases hv with ⟨h1, a, cap, h2⟩ | ⟨o, cap, h1, h2, h3, h4, h5⟩
  · exact ⟨M, ⟨v, hb, .inl ⟨h1, a, cap, h2⟩, hM, hl⟩, .inr rfl⟩
  · exact ⟨g, ⟨v, hb, .inr ⟨o, cap, h1, h2, h3, h4, h5⟩, hgb, hl⟩, .inl ⟨rfl, h4⟩⟩
theorem REyeAt.blt {w : World} {b g : Nat} {l : List UInt8} {bad : Int} (h : REyeAt w b g l bad) : b < w.heap.size := by obtain ⟨v, hb, _⟩ := h; exact blk_lt hb
theorem EyeAt.blt {w : World} {b g : Nat} {l : List UInt8} {bad : Int} (h : EyeAt w b g l bad) : b < w.heap.size := by obtain ⟨v, hb, _⟩ := h; exact blk_lt hb
theorem ret_idc {fn : Func} {p : Tmp} (h : fn.results = #[.cell p 38]) (tmps : Array Value) {w : World} {b t : Nat} {x : Id} (hp : tmps.getD p undef = .pointer (some ⟨b, 0, none⟩)) (hb : w.heap[b]? = some (.cells (idC x) t (0, 0))) :
    (results fn tmps).run Tryz.prog w = .ok (idV x) w := by
  have hl := run_loadVar_row (P := Tryz.prog) w b t 38 (idC x) (0, 0) _ hb Tryz.underlying38 rfl (by rw [idSize]; rfl)
  have he : (results fn tmps).run Tryz.prog w = ((asAddr (tmps.getD p undef)).run Tryz.prog w).andThen fun a w₁ => (loadVar 38 a).run Tryz.prog w₁ := by
    simp only [results, h]
    simp [Sem.run_bind, Result.andThen]
  rw [he, hp]
  simp only [asAddr, Sem.run_pure, Result.andThen_ok, hl]
theorem idf_cells {w : World} {N t : Nat} {a c d e : Int} (h : w.heap[N]? = some (.cells (idC ⟨a, c, d, e⟩) t (0, 0))) : (w.cell? ⟨N, 0, none⟩ = some (.int .i64 a) ∧ w.cell? ⟨N, 1, none⟩ = some (.int .i64 c) ∧ w.cell? ⟨N, 2, none⟩ = some (.int .i64 d) ∧ w.cell? ⟨N, 3, none⟩ = some (.int .i64 e)) ∧
    w.frozen? ⟨N, 0, none⟩ = false ∧ w.frozen? ⟨N, 1, none⟩ = false ∧ w.frozen? ⟨N, 2, none⟩ = false ∧ w.frozen? ⟨N, 3, none⟩ = false :=
  ⟨id_cells h, blk_frozen h 0, blk_frozen h 1, blk_frozen h 2, blk_frozen h 3⟩

/-- An eye of our own, beside the blocks K. -/
structure EyeS (K : List Nat) (w0 w : World) (b : Nat) (s : PB) : Prop where
  eye : ∃ g, EyeAt w b g s.1 s.2 ∧ g ∉ K
  own : w0.heap.size ≤ b ∧ b ∉ K
  chg : Chg [] w0 w
  lim : ∀ x ∈ K, x < w.heap.size
def EyeP (K : List Nat) (w0 w : World) (b : Nat) (v : Value) (s : PB) (e : Ending) (w' : World) : Prop := e = .returned v ∧ EyeS K w0 w' b s ∧ ∀ x ∈ K, w'.heap[x]? = w.heap[x]?
section
variable {K Y : List Nat} {w0 w w' : World} {b : Nat} {s s' : PB}
theorem EyeS.step {g : Nat} (h : EyeS K w0 w b s) (hg : g ∉ K) (he : EyeAt w' b g s'.1 s'.2) (hc : Chg [b] w w') : EyeS K w0 w' b s' ∧ ∀ x ∈ K, w'.heap[x]? = w.heap[x]? :=
  ⟨⟨⟨g, he, hg⟩, h.own, h.chg.trans hc (fun x hx => by rw [List.mem_singleton.1 hx]; exact .inr h.own.1), fun x hx => Nat.lt_of_lt_of_le (h.lim x hx) hc.size⟩, fun x hx => hc.block x (h.lim x hx) (fun hm => h.own.2 (by rw [← List.mem_singleton.1 hm]; exact hx))⟩
theorem EyeS.add (h : EyeS K w0 w b s) (hc : Chg [] w w') (hY : ∀ k ∈ Y, k ∈ K ∨ (w.heap.size ≤ k ∧ k < w'.heap.size)) : EyeS Y w0 w' b s := by
  obtain ⟨g, he, hg⟩ := h.eye
  have hb := he.blt
  obtain ⟨g', he', hg'⟩ := he.pick (w'.heap.size + b + 1) (by omega)
  refine ⟨⟨g', he'.keep hc (by simp) (by simp), fun hm => ?_⟩, ⟨h.own.1, fun hm => ?_⟩, h.chg.trans hc (by simp), fun x hx => ?_⟩
  · rcases hg' with ⟨rfl, h1⟩ | rfl
    · rcases hY _ hm with h2 | h2
      · exact hg h2
      · omega
    · rcases hY _ hm with h2 | h2
      · have := h.lim _ h2; have := hc.size; omega
      · omega
  · rcases hY _ hm with h2 | h2
    · exact h.own.2 h2
    · omega
  · rcases hY x hx with h2 | h2
    · exact Nat.lt_of_lt_of_le (h.lim x h2) hc.size
    · exact h2.2
theorem EyeS.sub (h : EyeS K w0 w b s) (hY : ∀ k ∈ Y, k ∈ K) : EyeS Y w0 w b s := by
  obtain ⟨g, he, hg⟩ := h.eye
  exact ⟨⟨g, he, fun hm => hg (hY g hm)⟩, ⟨h.own.1, fun hm => h.own.2 (hY b hm)⟩, h.chg, fun x hx => h.lim x (hY x hx)⟩
theorem EyeS.set {N : Nat} (h : EyeS K w0 w b s) (hN : N ∈ K) (hN0 : w0.heap.size ≤ N) (j : Nat) (u : Value) : EyeS K w0 (w.setCell ⟨N, j, none⟩ u) b s := by
  obtain ⟨g, he, hg⟩ := h.eye
  have hc : Chg [N] w (w.setCell ⟨N, j, none⟩ u) := (Chg.refl [N] w).setCell (p := ⟨N, j, none⟩) (.inl (by simp)) u
  exact ⟨⟨g, he.keep hc (fun hm => h.own.2 (by rw [List.mem_singleton.1 hm]; exact hN)) (fun hm => hg (by rw [List.mem_singleton.1 hm]; exact hN)), hg⟩, h.own, h.chg.trans hc (fun x hx => by rw [List.mem_singleton.1 hx]; exact .inr hN0), fun x hx => by have := h.lim x hx; simpa [World.setCell] using this⟩
theorem EyeS.keepD (h : EyeS K w0 w b s) (hc : Chg [] w w') : EyeS K w0 w' b s := h.add hc (fun k hk => .inl hk)
theorem esNum (h : EyeS K w0 w b s) (n : Nat) (h1 : 1 ≤ n) (h7 : n ≤ 7) : Calls Tryz.prog 54 #[.pointer (some ⟨b, 0, none⟩), .int .i64 (n : Int)] w (EyeP K w0 w b (.int .i64 (enV s n)) (enS s n)) := by
  obtain ⟨g, he, hg⟩ := h.eye
  refine (enum_any b g s.1 s.2 (n : Int) w he (by omega) (by omega)).mono ?_
  rintro e w' ⟨rfl, h2, h3⟩
  rw [Int.toNat_natCast] at h2 ⊢
  exact ⟨rfl, h.step (s' := enS s n) hg h2 h3⟩
theorem esRaw (h : EyeS K w0 w b s) : Calls Tryz.prog 57 #[.pointer (some ⟨b, 0, none⟩), .int .i64 65535] w fun e w' => ∃ v, EyeP K w0 w b v (erS s) e w' ∧ BRow w' v (erV s) ∧ (∀ k, v.ownBlock = some k → w.heap.size ≤ k) ∧ Chg [b] w w' := by
  obtain ⟨g, he, hg⟩ := h.eye
  refine (eraw_any b g s.1 s.2 65535 w he (by omega)).mono ?_
  rintro e w' ⟨v, rfl, h1, h2, h3, h4⟩
  exact ⟨v, ⟨rfl, h.step (s' := erS s) hg h3 h4⟩, h1, h2, h4⟩
theorem esBool (h : EyeS K w0 w b s) : Calls Tryz.prog 66 #[.pointer (some ⟨b, 0, none⟩)] w (EyeP K w0 w b (.bool (ebV s)) (ebS s)) := by
  obtain ⟨g, he, hg⟩ := h.eye
  refine (ebool_any b g s.1 s.2 w he).mono ?_
  rintro e w' ⟨rfl, h2, h3⟩
  exact ⟨rfl, h.step (s' := ebS s) hg h2 h3⟩
theorem esEnd (h : EyeS K w0 w b s) : Calls Tryz.prog 58 #[.pointer (some ⟨b, 0, none⟩)] w fun e w' => e = .returned (.int .i64 (endOf s.1 s.2)) ∧ w = w' := by
  obtain ⟨g, he, hg⟩ := h.eye
  exact eend_any b g s.1 s.2 w he
theorem esFail (h : EyeS K w0 w b s) : Calls Tryz.prog 55 #[.pointer (some ⟨b, 0, none⟩)] w fun e w' => e = .returned (.int .i64 s.2) ∧ w = w' := by
  obtain ⟨g, he, hg⟩ := h.eye
  exact efail_any b g s.1 s.2 w he
set_option maxHeartbeats 4000000 in
set_option maxRecDepth 100000 in
theorem esGetId (h : EyeS K w0 w b s) : Calls Tryz.prog 56 #[.pointer (some ⟨b, 0, none⟩)] w (EyeP K w0 w b (idV (giV s)) (giS s)) := by
  obtain ⟨A, hA⟩ : ∃ A, A = w.heap.size := ⟨_, rfl⟩
  obtain ⟨w1, hw1⟩ : ∃ w1, w1 = (w.alloc (.cells (idC ⟨0, 0, 0, 0⟩) 38)).alloc (.cells (idC ⟨0, 0, 0, 0⟩) 38) := ⟨_, rfl⟩
  have hc1 : Chg [] w w1 := by rw [hw1]; exact ((Chg.refl [] w).alloc _).alloc _
  have hbA : w1.heap[A]? = some (.cells (idC ⟨0, 0, 0, 0⟩) 38 (0, 0)) := by rw [hw1, hA]; exact blk_alloc (heap_alloc_new w _)
  have hbB : w1.heap[A + 1]? = some (.cells (idC ⟨0, 0, 0, 0⟩) 38 (0, 0)) := by rw [hw1, hA]; exact heap_at (by simp)
  have hs := h.chg.size
  have hA0 : w0.heap.size ≤ A := by omega
  have hlA := blk_lt hbB
  have h1 : EyeS (A :: (A + 1) :: K) w0 w1 b s := h.add hc1 (fun k hk => by
    rcases List.mem_cons.1 hk with rfl | hk
    · exact .inr ⟨by omega, by omega⟩
    · rcases List.mem_cons.1 hk with rfl | hk
      · exact .inr ⟨by omega, hlA⟩
      · exact .inl hk)
  have HK1 : Hid (∀ y ∈ K, w1.heap[y]? = w.heap[y]? ∧ y < A) := Lib.hid (fun y hy => ⟨hc1.block y (h.lim y hy) (by simp), by have := h.lim y hy; omega⟩)
  have HAA := Lib.hid hbA
  have HA := Lib.hid hA
  have HW1 := Lib.hid hw1
  obtain ⟨⟨m0, m1, m2, m3⟩, f0, f1, f2, f3⟩ := idf_cells hbB
  have HBB := Lib.hid hbB
  have C1 := Lib.hid (esNum h1 1 (by omega) (by omega))
  have HG : Hid (giV s = ⟨enV s 1, enV (enS s 1) 3, enV (enS (enS s 1) 3) 4, enV (enS (enS (enS s 1) 3) 4) 1⟩ ∧ giS s = enS (enS (enS (enS s 1) 3) 4) 1) := Lib.hid ⟨rfl, rfl⟩
  have HA0 := Lib.hid hA0
  generalize giV s = gv at *
  generalize giS s = gs at *
  clear hw1 hc1 hbA hbB hs hA0 hlA h1 h hA
  go_enter Tryz.func56, Tryz.ntmps56
  go_wp2_with fail
  rw [← HW1.out, ← HA.out]
  refine C1.out.mono ?_
  rintro e w2 ⟨rfl, h2, k2⟩
  have HB2 := Lib.hid (keepO HBB.out (k2 (A + 1) (by simp)))
  have HA2 := Lib.hid (keepO HAA.out (k2 A (by simp)))
  have HK2 := Lib.hid k2
  have C2 := Lib.hid (esNum (h2.set (N := A + 1) (by simp) (by have := HA0.out; omega) 0 (.int .i64 (enV s 1))) 3 (by omega) (by omega))
  have HS2 := Lib.hid (set_blk (j := 0) (u := .int .i64 (enV s 1)) HB2.out)
  clear m0 m1 m2 m3 f0 f1 f2 f3
  obtain ⟨⟨m0, m1, m2, m3⟩, f0, f1, f2, f3⟩ := idf_cells HB2.out
  clear h2 k2 C1
  go_wp2_with fail
  refine C2.out.mono ?_
  rintro e w3 ⟨rfl, h3, k3⟩
  have HB3 : Hid (w3.heap[A + 1]? = some (.cells (idC ⟨enV s 1, 0, 0, 0⟩) 38 (0, 0))) := Lib.hid (keepO HS2.out (k3 (A + 1) (by simp)))
  have HK3 := Lib.hid k3
  have C3 := Lib.hid (esNum (h3.set (N := A + 1) (by simp) (by have := HA0.out; omega) 1 (.int .i64 (enV (enS s 1) 3))) 4 (by omega) (by omega))
  have HS3 := Lib.hid (set_blk (j := 1) (u := .int .i64 (enV (enS s 1) 3)) HB3.out)
  clear m0 m1 m2 m3 f0 f1 f2 f3
  obtain ⟨⟨m0, m1, m2, m3⟩, f0, f1, f2, f3⟩ := idf_cells HB3.out
  clear h3 k3 C2
  go_wp2_with fail
  refine C3.out.mono ?_
  rintro e w4 ⟨rfl, h4, k4⟩
  have HB4 : Hid (w4.heap[A + 1]? = some (.cells (idC ⟨enV s 1, enV (enS s 1) 3, 0, 0⟩) 38 (0, 0))) := Lib.hid (keepO HS3.out (k4 (A + 1) (by simp)))
  have HK4 := Lib.hid k4
  have C4 := Lib.hid (esNum (h4.set (N := A + 1) (by simp) (by have := HA0.out; omega) 2 (.int .i64 (enV (enS (enS s 1) 3) 4))) 1 (by omega) (by omega))
  have HS4 := Lib.hid (set_blk (j := 2) (u := .int .i64 (enV (enS (enS s 1) 3) 4)) HB4.out)
  clear m0 m1 m2 m3 f0 f1 f2 f3
  obtain ⟨⟨m0, m1, m2, m3⟩, f0, f1, f2, f3⟩ := idf_cells HB4.out
  clear h4 k4 C3
  go_wp2_with fail
  refine C4.out.mono ?_
  rintro e w5 ⟨rfl, h5, k5⟩
  have HB5 : Hid (w5.heap[A + 1]? = some (.cells (idC ⟨enV s 1, enV (enS s 1) 3, enV (enS (enS s 1) 3) 4, 0⟩) 38 (0, 0))) := Lib.hid (keepO HS4.out (k5 (A + 1) (by simp)))
  have HA5 : Hid (w5.heap[A]? = some (.cells (idC ⟨0, 0, 0, 0⟩) 38 (0, 0))) := Lib.hid (by
    have e0 : A ≠ A + 1 := by omega
    exact keepO (blk_sets (keepO (blk_sets (keepO (blk_sets HA2.out e0) (HK3.out A (by simp))) e0) (HK4.out A (by simp))) e0) (k5 A (by simp)))
  have HK5 : Hid (∀ y ∈ K, w5.heap[y]? = w.heap[y]?) := Lib.hid (fun y hy => by
    have hm : y ∈ A :: (A + 1) :: K := List.mem_cons_of_mem _ (List.mem_cons_of_mem _ hy)
    have hlt := (HK1.out y hy).2
    have hb : ∀ (a : World) (j : Nat) (u : Value), (a.setCell ⟨A + 1, j, none⟩ u).heap[y]? = a.heap[y]? := fun a j u => Below.heap_setCell a ⟨A + 1, j, none⟩ u y (by show y ≠ A + 1; omega)
    rw [k5 y hm, hb, HK4.out y hm, hb, HK3.out y hm, hb, HK2.out y hm, (HK1.out y hy).1])
  have HS5 := Lib.hid (set_blk (j := 3) (u := .int .i64 (enV (enS (enS (enS s 1) 3) 4) 1)) HB5.out)
  have H5 := Lib.hid (h5.set (N := A + 1) (by simp) (by have := HA0.out; omega) 3 (.int .i64 (enV (enS (enS (enS s 1) 3) 4) 1)))
  clear m0 m1 m2 m3 f0 f1 f2 f3
  obtain ⟨⟨m0, m1, m2, m3⟩, f0, f1, f2, f3⟩ := idf_cells HB5.out
  obtain ⟨⟨p0, p1, p2, p3⟩, g0, g1, g2, g3⟩ := idf_cells HA5.out
  clear h5 k5 C4
  have HFA : ∀ x : Id, Hid ((((((w5.setCell ⟨A + 1, 3, none⟩ (.int .i64 (enV (enS (enS (enS s 1) 3) 4) 1))).setCell ⟨A, 0, none⟩ (.int .i64 x.c)).setCell ⟨A, 1, none⟩ (.int .i64 x.l)).setCell ⟨A, 2, none⟩ (.int .i64 x.n)).setCell ⟨A, 3, none⟩ (.int .i64 x.i)).heap[A]? = some (.cells (idC x) 38 (0, 0))) := fun x => Lib.hid (id_written (blk_sets HA5.out (by omega)) x)
  have HES : ∀ x : Id, Hid (EyeS K w0 (((((w5.setCell ⟨A + 1, 3, none⟩ (.int .i64 (enV (enS (enS (enS s 1) 3) 4) 1))).setCell ⟨A, 0, none⟩ (.int .i64 x.c)).setCell ⟨A, 1, none⟩ (.int .i64 x.l)).setCell ⟨A, 2, none⟩ (.int .i64 x.n)).setCell ⟨A, 3, none⟩ (.int .i64 x.i)) b gs) := fun x => Lib.hid (by
    rw [HG.out.2]
    have h0 := HA0.out
    exact ((((H5.out.set (N := A) (by simp) h0 0 _).set (N := A) (by simp) h0 1 _).set (N := A) (by simp) h0 2 _).set (N := A) (by simp) h0 3 _).sub (fun k hk => List.mem_cons_of_mem _ (List.mem_cons_of_mem _ hk)))
  have HEK : ∀ x : Id, Hid (∀ y ∈ K, (((((w5.setCell ⟨A + 1, 3, none⟩ (.int .i64 (enV (enS (enS (enS s 1) 3) 4) 1))).setCell ⟨A, 0, none⟩ (.int .i64 x.c)).setCell ⟨A, 1, none⟩ (.int .i64 x.l)).setCell ⟨A, 2, none⟩ (.int .i64 x.n)).setCell ⟨A, 3, none⟩ (.int .i64 x.i)).heap[y]? = w.heap[y]?) := fun x => Lib.hid (fun y hy => by
    have hlt := (HK1.out y hy).2
    have hb : ∀ (a : World) (N j : Nat) (u : Value), A ≤ N → (a.setCell ⟨N, j, none⟩ u).heap[y]? = a.heap[y]? := fun a N j u hN => Below.heap_setCell a ⟨N, j, none⟩ u y (by show y ≠ N; omega)
    rw [hb _ _ _ _ (Nat.le_refl _), hb _ _ _ _ (Nat.le_refl _), hb _ _ _ _ (Nat.le_refl _), hb _ _ _ _ (Nat.le_refl _), hb _ _ _ _ (by omega), HK5.out y hy])
  have HFX := HFA gv
  have HEX := HES gv
  have HKX := HEK gv
  rw [HG.out.1] at HFX HEX HKX
  clear HFA HES HEK
  go_wp2_with fail
  refine bodyPost_ret (ret_idc rfl _ rfl HFX.out) rfl ?_
  exact ⟨by rw [HG.out.1], HEX.out, HKX.out⟩
end

/-- An eye of our own, beside the blocks K. -/
structure REyeS (K : List Nat) (w0 w : World) (b : Nat) (s : PB) : Prop where
  eye : ∃ g, REyeAt w b g s.1 s.2 ∧ g ∉ K
  own : w0.heap.size ≤ b ∧ b ∉ K
  chg : Chg [] w0 w
  lim : ∀ x ∈ K, x < w.heap.size
def REyeP (K : List Nat) (w0 w : World) (b : Nat) (v : Value) (s : PB) (e : Ending) (w' : World) : Prop := e = .returned v ∧ REyeS K w0 w' b s ∧ ∀ x ∈ K, w'.heap[x]? = w.heap[x]?
section
variable {K Y : List Nat} {w0 w w' : World} {b : Nat} {s s' : PB}
theorem REyeS.step {g : Nat} (h : REyeS K w0 w b s) (hg : g ∉ K) (he : REyeAt w' b g s'.1 s'.2) (hc : Chg [b] w w') : REyeS K w0 w' b s' ∧ ∀ x ∈ K, w'.heap[x]? = w.heap[x]? :=
  ⟨⟨⟨g, he, hg⟩, h.own, h.chg.trans hc (fun x hx => by rw [List.mem_singleton.1 hx]; exact .inr h.own.1), fun x hx => Nat.lt_of_lt_of_le (h.lim x hx) hc.size⟩, fun x hx => hc.block x (h.lim x hx) (fun hm => h.own.2 (by rw [← List.mem_singleton.1 hm]; exact hx))⟩
theorem REyeS.add (h : REyeS K w0 w b s) (hc : Chg [] w w') (hY : ∀ k ∈ Y, k ∈ K ∨ (w.heap.size ≤ k ∧ k < w'.heap.size)) : REyeS Y w0 w' b s := by
  obtain ⟨g, he, hg⟩ := h.eye
  have hb := he.blt
  obtain ⟨g', he', hg'⟩ := he.pick (w'.heap.size + b + 1) (by omega)
  refine ⟨⟨g', he'.keep hc (by simp) (by simp), fun hm => ?_⟩, ⟨h.own.1, fun hm => ?_⟩, h.chg.trans hc (by simp), fun x hx => ?_⟩
  · rcases hg' with ⟨rfl, h1⟩ | rfl
    · rcases hY _ hm with h2 | h2
      · exact hg h2
      · omega
    · rcases hY _ hm with h2 | h2
      · have := h.lim _ h2; have := hc.size; omega
      · omega
  · rcases hY _ hm with h2 | h2
    · exact h.own.2 h2
    · omega
  · rcases hY x hx with h2 | h2
    · exact Nat.lt_of_lt_of_le (h.lim x h2) hc.size
    · exact h2.2
theorem REyeS.sub (h : REyeS K w0 w b s) (hY : ∀ k ∈ Y, k ∈ K) : REyeS Y w0 w b s := by
  obtain ⟨g, he, hg⟩ := h.eye
  exact ⟨⟨g, he, fun hm => hg (hY g hm)⟩, ⟨h.own.1, fun hm => h.own.2 (hY b hm)⟩, h.chg, fun x hx => h.lim x (hY x hx)⟩
theorem REyeS.set {N : Nat} (h : REyeS K w0 w b s) (hN : N ∈ K) (hN0 : w0.heap.size ≤ N) (j : Nat) (u : Value) : REyeS K w0 (w.setCell ⟨N, j, none⟩ u) b s := by
  obtain ⟨g, he, hg⟩ := h.eye
  have hc : Chg [N] w (w.setCell ⟨N, j, none⟩ u) := (Chg.refl [N] w).setCell (p := ⟨N, j, none⟩) (.inl (by simp)) u
  exact ⟨⟨g, he.keep hc (fun hm => h.own.2 (by rw [List.mem_singleton.1 hm]; exact hN)) (fun hm => hg (by rw [List.mem_singleton.1 hm]; exact hN)), hg⟩, h.own, h.chg.trans hc (fun x hx => by rw [List.mem_singleton.1 hx]; exact .inr hN0), fun x hx => by have := h.lim x hx; simpa [World.setCell] using this⟩
theorem REyeS.keepD (h : REyeS K w0 w b s) (hc : Chg [] w w') : REyeS K w0 w' b s := h.add hc (fun k hk => .inl hk)
theorem resNum (h : REyeS K w0 w b s) (n : Nat) (h1 : 1 ≤ n) (h7 : n ≤ 7) : Calls Tryz.prog 59 #[.pointer (some ⟨b, 0, none⟩), .int .i64 (n : Int)] w (REyeP K w0 w b (.int .i64 (enV s n)) (enS s n)) := by
  obtain ⟨g, he, hg⟩ := h.eye
  refine (rnum_any b g s.1 s.2 (n : Int) w he (by omega) (by omega)).mono ?_
  rintro e w' ⟨rfl, h2, h3⟩
  rw [Int.toNat_natCast] at h2 ⊢
  exact ⟨rfl, h.step (s' := enS s n) hg h2 h3⟩
theorem resRaw (h : REyeS K w0 w b s) : Calls Tryz.prog 62 #[.pointer (some ⟨b, 0, none⟩), .int .i64 65535] w fun e w' => ∃ v, REyeP K w0 w b v (erS s) e w' ∧ BRow w' v (erV s) ∧ (∀ k, v.ownBlock = some k → w.heap.size ≤ k) ∧ Chg [b] w w' := by
  obtain ⟨g, he, hg⟩ := h.eye
  refine (rraw_any b g s.1 s.2 65535 w he (by omega)).mono ?_
  rintro e w' ⟨v, rfl, h1, h2, h3, h4⟩
  exact ⟨v, ⟨rfl, h.step (s' := erS s) hg h3 h4⟩, h1, h2, h4⟩
theorem resBool (h : REyeS K w0 w b s) : Calls Tryz.prog 67 #[.pointer (some ⟨b, 0, none⟩)] w (REyeP K w0 w b (.bool (ebV s)) (ebS s)) := by
  obtain ⟨g, he, hg⟩ := h.eye
  refine (rbool_any b g s.1 s.2 w he).mono ?_
  rintro e w' ⟨rfl, h2, h3⟩
  exact ⟨rfl, h.step (s' := ebS s) hg h2 h3⟩
theorem resEnd (h : REyeS K w0 w b s) : Calls Tryz.prog 63 #[.pointer (some ⟨b, 0, none⟩)] w fun e w' => e = .returned (.int .i64 (endOf s.1 s.2)) ∧ w = w' := by
  obtain ⟨g, he, hg⟩ := h.eye
  exact rsend_any b g s.1 s.2 w he
theorem resForm (h : REyeS K w0 w b s) (q : Bool) : Calls Tryz.prog 60 #[.pointer (some ⟨b, 0, none⟩), .bool q] w (REyeP K w0 w b (.tuple #[]) (s.1, if q = true ∧ s.2 = 0 then 4 else s.2)) := by
  obtain ⟨g, he, hg⟩ := h.eye
  refine (rform_any b g s.1 s.2 q w he).mono ?_
  rintro e w' ⟨rfl, h2, h3⟩
  exact ⟨rfl, h.step (s' := (s.1, if q = true ∧ s.2 = 0 then 4 else s.2)) hg h2 h3⟩
set_option maxHeartbeats 4000000 in
set_option maxRecDepth 100000 in
theorem resGetId (h : REyeS K w0 w b s) : Calls Tryz.prog 61 #[.pointer (some ⟨b, 0, none⟩)] w (REyeP K w0 w b (idV (giV s)) (giS s)) := by
  obtain ⟨A, hA⟩ : ∃ A, A = w.heap.size := ⟨_, rfl⟩
  obtain ⟨w1, hw1⟩ : ∃ w1, w1 = (w.alloc (.cells (idC ⟨0, 0, 0, 0⟩) 38)).alloc (.cells (idC ⟨0, 0, 0, 0⟩) 38) := ⟨_, rfl⟩
  have hc1 : Chg [] w w1 := by rw [hw1]; exact ((Chg.refl [] w).alloc _).alloc _
  have hbA : w1.heap[A]? = some (.cells (idC ⟨0, 0, 0, 0⟩) 38 (0, 0)) := by rw [hw1, hA]; exact blk_alloc (heap_alloc_new w _)
  have hbB : w1.heap[A + 1]? = some (.cells (idC ⟨0, 0, 0, 0⟩) 38 (0, 0)) := by rw [hw1, hA]; exact heap_at (by simp)
  have hs := h.chg.size
  have hA0 : w0.heap.size ≤ A := by omega
  have hlA := blk_lt hbB
  have h1 : REyeS (A :: (A + 1) :: K) w0 w1 b s := h.add hc1 (fun k hk => by
    rcases List.mem_cons.1 hk with rfl | hk
    · exact .inr ⟨by omega, by omega⟩
    · rcases List.mem_cons.1 hk with rfl | hk
      · exact .inr ⟨by omega, hlA⟩
      · exact .inl hk)
  have HK1 : Hid (∀ y ∈ K, w1.heap[y]? = w.heap[y]? ∧ y < A) := Lib.hid (fun y hy => ⟨hc1.block y (h.lim y hy) (by simp), by have := h.lim y hy; omega⟩)
  have HAA := Lib.hid hbA
  have HA := Lib.hid hA
  have HW1 := Lib.hid hw1
  obtain ⟨⟨m0, m1, m2, m3⟩, f0, f1, f2, f3⟩ := idf_cells hbB
  have HBB := Lib.hid hbB
  have C1 := Lib.hid (resNum h1 1 (by omega) (by omega))
  have HG : Hid (giV s = ⟨enV s 1, enV (enS s 1) 3, enV (enS (enS s 1) 3) 4, enV (enS (enS (enS s 1) 3) 4) 1⟩ ∧ giS s = enS (enS (enS (enS s 1) 3) 4) 1) := Lib.hid ⟨rfl, rfl⟩
  have HA0 := Lib.hid hA0
  generalize giV s = gv at *
  generalize giS s = gs at *
  clear hw1 hc1 hbA hbB hs hA0 hlA h1 h hA
  go_enter Tryz.func61, Tryz.ntmps61
  go_wp2_with fail
  rw [← HW1.out, ← HA.out]
  refine C1.out.mono ?_
  rintro e w2 ⟨rfl, h2, k2⟩
  have HB2 := Lib.hid (keepO HBB.out (k2 (A + 1) (by simp)))
  have HA2 := Lib.hid (keepO HAA.out (k2 A (by simp)))
  have HK2 := Lib.hid k2
  have C2 := Lib.hid (resNum (h2.set (N := A + 1) (by simp) (by have := HA0.out; omega) 0 (.int .i64 (enV s 1))) 3 (by omega) (by omega))
  have HS2 := Lib.hid (set_blk (j := 0) (u := .int .i64 (enV s 1)) HB2.out)
  clear m0 m1 m2 m3 f0 f1 f2 f3
  obtain ⟨⟨m0, m1, m2, m3⟩, f0, f1, f2, f3⟩ := idf_cells HB2.out
  clear h2 k2 C1
  go_wp2_with fail
  refine C2.out.mono ?_
  rintro e w3 ⟨rfl, h3, k3⟩
  have HB3 : Hid (w3.heap[A + 1]? = some (.cells (idC ⟨enV s 1, 0, 0, 0⟩) 38 (0, 0))) := Lib.hid (keepO HS2.out (k3 (A + 1) (by simp)))
  have HK3 := Lib.hid k3
  have C3 := Lib.hid (resNum (h3.set (N := A + 1) (by simp) (by have := HA0.out; omega) 1 (.int .i64 (enV (enS s 1) 3))) 4 (by omega) (by omega))
  have HS3 := Lib.hid (set_blk (j := 1) (u := .int .i64 (enV (enS s 1) 3)) HB3.out)
  clear m0 m1 m2 m3 f0 f1 f2 f3
  obtain ⟨⟨m0, m1, m2, m3⟩, f0, f1, f2, f3⟩ := idf_cells HB3.out
  clear h3 k3 C2
  go_wp2_with fail
  refine C3.out.mono ?_
  rintro e w4 ⟨rfl, h4, k4⟩
  have HB4 : Hid (w4.heap[A + 1]? = some (.cells (idC ⟨enV s 1, enV (enS s 1) 3, 0, 0⟩) 38 (0, 0))) := Lib.hid (keepO HS3.out (k4 (A + 1) (by simp)))
  have HK4 := Lib.hid k4
  have C4 := Lib.hid (resNum (h4.set (N := A + 1) (by simp) (by have := HA0.out; omega) 2 (.int .i64 (enV (enS (enS s 1) 3) 4))) 1 (by omega) (by omega))
  have HS4 := Lib.hid (set_blk (j := 2) (u := .int .i64 (enV (enS (enS s 1) 3) 4)) HB4.out)
  clear m0 m1 m2 m3 f0 f1 f2 f3
  obtain ⟨⟨m0, m1, m2, m3⟩, f0, f1, f2, f3⟩ := idf_cells HB4.out
  clear h4 k4 C3
  go_wp2_with fail
  refine C4.out.mono ?_
  rintro e w5 ⟨rfl, h5, k5⟩
  have HB5 : Hid (w5.heap[A + 1]? = some (.cells (idC ⟨enV s 1, enV (enS s 1) 3, enV (enS (enS s 1) 3) 4, 0⟩) 38 (0, 0))) := Lib.hid (keepO HS4.out (k5 (A + 1) (by simp)))
  have HA5 : Hid (w5.heap[A]? = some (.cells (idC ⟨0, 0, 0, 0⟩) 38 (0, 0))) := Lib.hid (by
    have e0 : A ≠ A + 1 := by omega
    exact keepO (blk_sets (keepO (blk_sets (keepO (blk_sets HA2.out e0) (HK3.out A (by simp))) e0) (HK4.out A (by simp))) e0) (k5 A (by simp)))
  have HK5 : Hid (∀ y ∈ K, w5.heap[y]? = w.heap[y]?) := Lib.hid (fun y hy => by
    have hm : y ∈ A :: (A + 1) :: K := List.mem_cons_of_mem _ (List.mem_cons_of_mem _ hy)
    have hlt := (HK1.out y hy).2
    have hb : ∀ (a : World) (j : Nat) (u : Value), (a.setCell ⟨A + 1, j, none⟩ u).heap[y]? = a.heap[y]? := fun a j u => Below.heap_setCell a ⟨A + 1, j, none⟩ u y (by show y ≠ A + 1; omega)
    rw [k5 y hm, hb, HK4.out y hm, hb, HK3.out y hm, hb, HK2.out y hm, (HK1.out y hy).1])
  have HS5 := Lib.hid (set_blk (j := 3) (u := .int .i64 (enV (enS (enS (enS s 1) 3) 4) 1)) HB5.out)
  have H5 := Lib.hid (h5.set (N := A + 1) (by simp) (by have := HA0.out; omega) 3 (.int .i64 (enV (enS (enS (enS s 1) 3) 4) 1)))
  clear m0 m1 m2 m3 f0 f1 f2 f3
  obtain ⟨⟨m0, m1, m2, m3⟩, f0, f1, f2, f3⟩ := idf_cells HB5.out
  obtain ⟨⟨p0, p1, p2, p3⟩, g0, g1, g2, g3⟩ := idf_cells HA5.out
  clear h5 k5 C4
  have HFA : ∀ x : Id, Hid ((((((w5.setCell ⟨A + 1, 3, none⟩ (.int .i64 (enV (enS (enS (enS s 1) 3) 4) 1))).setCell ⟨A, 0, none⟩ (.int .i64 x.c)).setCell ⟨A, 1, none⟩ (.int .i64 x.l)).setCell ⟨A, 2, none⟩ (.int .i64 x.n)).setCell ⟨A, 3, none⟩ (.int .i64 x.i)).heap[A]? = some (.cells (idC x) 38 (0, 0))) := fun x => Lib.hid (id_written (blk_sets HA5.out (by omega)) x)
  have HES : ∀ x : Id, Hid (REyeS K w0 (((((w5.setCell ⟨A + 1, 3, none⟩ (.int .i64 (enV (enS (enS (enS s 1) 3) 4) 1))).setCell ⟨A, 0, none⟩ (.int .i64 x.c)).setCell ⟨A, 1, none⟩ (.int .i64 x.l)).setCell ⟨A, 2, none⟩ (.int .i64 x.n)).setCell ⟨A, 3, none⟩ (.int .i64 x.i)) b gs) := fun x => Lib.hid (by
    rw [HG.out.2]
    have h0 := HA0.out
    exact ((((H5.out.set (N := A) (by simp) h0 0 _).set (N := A) (by simp) h0 1 _).set (N := A) (by simp) h0 2 _).set (N := A) (by simp) h0 3 _).sub (fun k hk => List.mem_cons_of_mem _ (List.mem_cons_of_mem _ hk)))
  have HEK : ∀ x : Id, Hid (∀ y ∈ K, (((((w5.setCell ⟨A + 1, 3, none⟩ (.int .i64 (enV (enS (enS (enS s 1) 3) 4) 1))).setCell ⟨A, 0, none⟩ (.int .i64 x.c)).setCell ⟨A, 1, none⟩ (.int .i64 x.l)).setCell ⟨A, 2, none⟩ (.int .i64 x.n)).setCell ⟨A, 3, none⟩ (.int .i64 x.i)).heap[y]? = w.heap[y]?) := fun x => Lib.hid (fun y hy => by
    have hlt := (HK1.out y hy).2
    have hb : ∀ (a : World) (N j : Nat) (u : Value), A ≤ N → (a.setCell ⟨N, j, none⟩ u).heap[y]? = a.heap[y]? := fun a N j u hN => Below.heap_setCell a ⟨N, j, none⟩ u y (by show y ≠ N; omega)
    rw [hb _ _ _ _ (Nat.le_refl _), hb _ _ _ _ (Nat.le_refl _), hb _ _ _ _ (Nat.le_refl _), hb _ _ _ _ (Nat.le_refl _), hb _ _ _ _ (by omega), HK5.out y hy])
  have HFX := HFA gv
  have HEX := HES gv
  have HKX := HEK gv
  rw [HG.out.1] at HFX HEX HKX
  clear HFA HES HEK
  go_wp2_with fail
  refine bodyPost_ret (ret_idc rfl _ rfl HFX.out) rfl ?_
  exact ⟨by rw [HG.out.1], HEX.out, HKX.out⟩
end
end Go.Proofs.YtdkhmfcfihbjeaaGreatDoor.W

/- Package server: Decode, and the reference's (printed by gen_svh.py). -/
namespace Go.Proofs.YtdkhmfcfihbjeaaGreatDoor.W
open Go.RowKit
set_option linter.unusedVariables false
set_option linter.unusedSimpArgs false

/-! ### Plainly -/
def reqDec (l : List UInt8) : Rq × Int :=
  if (enS (l, 0) 1).2 = 0 ∧ kindB (enV (l, 0) 1) = false then (noRq, 4) else
  if endOf (erS (giS (enS (l, 0) 1))).1 (erS (giS (enS (l, 0) 1))).2 ≠ 0 then (noRq, endOf (erS (giS (enS (l, 0) 1))).1 (erS (giS (enS (l, 0) 1))).2) else
  (⟨enV (l, 0) 1, giV (enS (l, 0) 1), erV (giS (enS (l, 0) 1))⟩, 0)
theorem enS_bad {s : PB} (h : s.2 ≠ 0) (n : Nat) : enS s n = s ∧ enV s n = 0 := by
  unfold enS enV eyeNum
  rw [if_pos h]
  exact ⟨rfl, rfl⟩
theorem giS_bad {s : PB} (h : s.2 ≠ 0) : giS s = s := by
  unfold giS
  rw [(enS_bad h 1).1, (enS_bad h 3).1, (enS_bad h 4).1, (enS_bad h 1).1]
theorem erS_bad {s : PB} (h : s.2 ≠ 0) : erS s = s := by
  unfold erS eyeRaw
  rw [if_pos h]
theorem end_bad {s : PB} (h : s.2 ≠ 0) : endOf s.1 s.2 = s.2 := by
  unfold endOf
  rw [if_pos h]
/-- The reference goes on with an eye that has failed. -/
theorem reqDec_ref (l : List UInt8) (s1 : PB) (hs : s1 = ((enS (l, 0) 1).1, if (!kindB (enV (l, 0) 1)) = true ∧ (enS (l, 0) 1).2 = 0 then 4 else (enS (l, 0) 1).2)) :
    reqDec l = if endOf (erS (giS s1)).1 (erS (giS s1)).2 ≠ 0 then (noRq, endOf (erS (giS s1)).1 (erS (giS s1)).2) else (⟨enV (l, 0) 1, giV s1, erV (giS s1)⟩, 0) := by
  unfold reqDec
  by_cases h : (enS (l, 0) 1).2 = 0 ∧ kindB (enV (l, 0) 1) = false
  · rw [if_pos h]
    rw [if_pos (by simp [h.1, h.2])] at hs
    have hb : s1.2 ≠ 0 := by rw [hs]; simp
    rw [giS_bad hb, erS_bad hb, end_bad hb, hs]
    simp
  · rw [if_neg h]
    rw [if_neg (fun hh => h ⟨hh.2, by simpa using hh.1⟩)] at hs
    have : s1 = enS (l, 0) 1 := by rw [hs]
    rw [this]
theorem BytesAt.rseye {w : World} {v : Value} {l : List UInt8} (h : BytesAt w v l) (M : Nat) : ∃ g, REyeV w v g l ∧ (g < w.heap.size ∨ g = M) := by
  obtain ⟨a, cap, rfl, h1, h2, h3⟩ := h
  by_cases hl : l = []
  · subst hl
    exact ⟨M, .inl ⟨rfl, a, cap, rfl⟩, .inr rfl⟩
  · rcases h3 with ⟨h3, _⟩ | ⟨g, o, rfl, hc⟩
    · exact absurd h3 hl
    · have hp : 0 < l.length := List.length_pos_iff.2 hl
      have hg := World.block_lt_of_cell? w _ (hc 0 hp)
      exact ⟨g, .inr ⟨o, cap, rfl, h1, h2, hg, hc⟩, .inl hg⟩

/-- What a decoder of requests answers. -/
def DecPost (w0 : World) (r : Rq × Int) (e : Ending) (w' : World) : Prop := ∃ bv, e = .returned (.tuple #[rqV r.1 bv, .int .i64 r.2]) ∧ BytesAt w' bv r.1.b ∧ (∀ k, bv.ownBlock = some k → w0.heap.size ≤ k) ∧ Chg [] w0 w'
theorem six_cells {w : World} {N t : Nat} {a0 a1 a2 a3 a4 a5 : Value} (h : w.heap[N]? = some (.cells #[a0, a1, a2, a3, a4, a5] t (0, 0))) :
    (w.cell? ⟨N, 0, none⟩ = some a0 ∧ w.cell? ⟨N, 1, none⟩ = some a1 ∧ w.cell? ⟨N, 2, none⟩ = some a2 ∧ w.cell? ⟨N, 3, none⟩ = some a3 ∧ w.cell? ⟨N, 4, none⟩ = some a4 ∧ w.cell? ⟨N, 5, none⟩ = some a5) ∧
    w.frozen? ⟨N, 0, none⟩ = false ∧ w.frozen? ⟨N, 1, none⟩ = false ∧ w.frozen? ⟨N, 2, none⟩ = false ∧ w.frozen? ⟨N, 3, none⟩ = false ∧ w.frozen? ⟨N, 4, none⟩ = false ∧ w.frozen? ⟨N, 5, none⟩ = false :=
  ⟨⟨blk_cell h 0 _ rfl, blk_cell h 1 _ rfl, blk_cell h 2 _ rfl, blk_cell h 3 _ rfl, blk_cell h 4 _ rfl, blk_cell h 5 _ rfl⟩, blk_frozen h 0, blk_frozen h 1, blk_frozen h 2, blk_frozen h 3, blk_frozen h 4, blk_frozen h 5⟩
theorem four_mid {w : World} {N t : Nat} {a0 a1 a2 a3 a4 a5 u1 u2 u3 u4 : Value} (h : w.heap[N]? = some (.cells #[a0, a1, a2, a3, a4, a5] t (0, 0))) :
    ((((w.setCell ⟨N, 1, none⟩ u1).setCell ⟨N, 2, none⟩ u2).setCell ⟨N, 3, none⟩ u3).setCell ⟨N, 4, none⟩ u4).heap[N]? = some (.cells #[a0, u1, u2, u3, u4, a5] t (0, 0)) :=
  set_blk (set_blk (set_blk (set_blk h)))
theorem set_six {w : World} {b t : Nat} {a0 a1 a2 a3 a4 a5 : Value} (h : w.heap[b]? = some (.cells #[a0, a1, a2, a3, a4, a5] t (0, 0))) (u0 u1 u2 u3 u4 u5 : Value) :
    ((((((w.setCell ⟨b, 0, none⟩ u0).setCell ⟨b, 1, none⟩ u1).setCell ⟨b, 2, none⟩ u2).setCell ⟨b, 3, none⟩ u3).setCell ⟨b, 4, none⟩ u4).setCell ⟨b, 5, none⟩ u5).heap[b]? = some (.cells #[u0, u1, u2, u3, u4, u5] t (0, 0)) := six_set h u0 u1 u2 u3 u4 u5
theorem chg_six {w0 w : World} (hc : Chg [] w0 w) {b : Nat} (hb : w0.heap.size ≤ b) (u0 u1 u2 u3 u4 u5 : Value) :
    Chg [] w0 ((((((w.setCell ⟨b, 0, none⟩ u0).setCell ⟨b, 1, none⟩ u1).setCell ⟨b, 2, none⟩ u2).setCell ⟨b, 3, none⟩ u3).setCell ⟨b, 4, none⟩ u4).setCell ⟨b, 5, none⟩ u5) :=
  (((((hc.setCell (.inr hb) _).setCell (.inr hb) _).setCell (.inr hb) _).setCell (.inr hb) _).setCell (.inr hb) _).setCell (.inr hb) _
theorem bytes_six {w : World} {v : Value} {l : List UInt8} (h : BytesAt w v l) {b : Nat} (hb : ∀ k, v.ownBlock = some k → k ≠ b) (u0 u1 u2 u3 u4 u5 : Value) :
    BytesAt ((((((w.setCell ⟨b, 0, none⟩ u0).setCell ⟨b, 1, none⟩ u1).setCell ⟨b, 2, none⟩ u2).setCell ⟨b, 3, none⟩ u3).setCell ⟨b, 4, none⟩ u4).setCell ⟨b, 5, none⟩ u5) v l := by
  refine h.chg (S := [b]) ((((((((Chg.refl [b] w).setCell (.inl ?_) _).setCell (.inl ?_) _).setCell (.inl ?_) _).setCell (.inl ?_) _).setCell (.inl ?_) _).setCell (.inl ?_) _)) (fun k hk hm => hb k hk (List.mem_singleton.1 hm)) <;> simp

theorem ret_rq {fn : Func} {p u : Tmp} (h : fn.results = #[.cell p 40, .tmp u]) (tmps : Array Value) {w : World} {b t : Nat} {r : Rq} {bv q : Value} (hp : tmps.getD p undef = .pointer (some ⟨b, 0, none⟩)) (hu : tmps.getD u undef = q) (hb : w.heap[b]? = some (.cells (rqL r bv).toArray t (0, 0))) :
    (results fn tmps).run Tryz.prog w = .ok (.tuple #[rqV r bv, q]) w := by
  have hl := run_loadVar_row (P := Tryz.prog) w b t 40 (rqL r bv).toArray (0, 0) _ hb Tryz.underlying40 rfl (rq_size _ _)
  rw [results_cell_tmp h, hp, hu]
  simp only [asAddr, Sem.run_pure, Result.andThen_ok, hl]
  rfl
set_option maxHeartbeats 8000000 in
set_option maxRecDepth 100000 in
theorem svdec_any (v : Value) (l : List UInt8) (w : World) (hv : BytesAt w v l) (hl : l.length ≤ 1000000) : Calls Tryz.prog 26 #[v] w (DecPost w (reqDec l)) := by
  obtain ⟨R, hR⟩ : ∃ R, R = w.heap.size := ⟨_, rfl⟩
  obtain ⟨w1, hw1⟩ : ∃ w1, w1 = w.alloc (.cells zeroRq 40) := ⟨_, rfl⟩
  have hc1 : Chg [] w w1 := by rw [hw1]; exact (Chg.refl [] w).alloc _
  have hb1 : w1.heap[R]? = some (.cells zeroRq 40 (0, 0)) := by rw [hw1, hR]; exact heap_alloc_new w _
  have hs1 : w1.heap.size = R + 1 := by rw [hw1, hR]; simp
  have CE := Lib.hid (neweye_any v l w1 (hv.chg hc1 (by simp)) hl)
  obtain ⟨a, cap, rfl⟩ := hv.slice
  have HB1 := Lib.hid hb1
  have HC1 := Lib.hid hc1
  have HW1 := Lib.hid hw1
  have HR := Lib.hid hR
  have HS1 := Lib.hid hs1
  have HRW : Hid (w.heap.size ≤ R) := Lib.hid (by omega)
  have HD0 : Hid (reqDec l = if (enS (l, 0) 1).2 = 0 ∧ kindB (enV (l, 0) 1) = false then (noRq, 4) else if endOf (erS (giS (enS (l, 0) 1))).1 (erS (giS (enS (l, 0) 1))).2 ≠ 0 then (noRq, endOf (erS (giS (enS (l, 0) 1))).1 (erS (giS (enS (l, 0) 1))).2) else (⟨enV (l, 0) 1, giV (enS (l, 0) 1), erV (giS (enS (l, 0) 1))⟩, 0)) := Lib.hid rfl
  clear hb1 hc1 hw1 hR hs1 hv
  go_enter Tryz.func26, Tryz.ntmps26
  go_wp2_with fail
  rw [show (#[.int .i64 0, .int .i64 0, .int .i64 0, .int .i64 0, .int .i64 0, .slice none 0 0] : Array Value) = zeroRq from rfl, ← HW1.out, ← HR.out]
  refine CE.out.mono ?_
  rintro e w2 ⟨b, g, rfl, he2, hb2, hg2, hc2⟩
  obtain ⟨L, hLE⟩ : ∃ L, L = w2.heap.size := ⟨_, rfl⟩
  obtain ⟨w3, hw3⟩ : ∃ w3, w3 = w2.alloc (.cells #[.int .i64 0, .int .i64 0, .int .i64 0, .int .i64 0, .int .i64 0, .slice none 0 0] 40) := ⟨_, rfl⟩
  have hs2 := hc2.size
  have hs1 := HS1.out
  have h2 : EyeS [R] w w2 b (l, 0) := ⟨⟨g, he2, by simp; omega⟩, ⟨by have := HRW.out; omega, by simp; omega⟩, HC1.out.trans hc2 (by simp), fun x hx => by rw [List.mem_singleton.1 hx]; omega⟩
  have hc3 : Chg [] w2 w3 := by rw [hw3]; exact (Chg.refl [] w2).alloc _
  have hbL : w3.heap[L]? = some (.cells zeroRq 40 (0, 0)) := by rw [hw3, hLE]; exact heap_alloc_new w2 _
  have H3 : Hid (EyeS [L, R] w w3 b (l, 0)) := Lib.hid (h2.add hc3 (fun k hk => by
    simp at hk
    rcases hk with rfl | rfl
    · exact .inr ⟨by omega, blk_lt hbL⟩
    · exact .inl (by simp)))
  have HL3 := Lib.hid hbL
  have HR3 := Lib.hid ((hc2.trans hc3 (by simp)).keep HB1.out (by simp))
  have HL0 : Hid (w.heap.size ≤ L) := Lib.hid (by have := HRW.out; omega)
  have HRL : Hid (R ≠ L) := Lib.hid (by omega)
  have HW3 := Lib.hid hw3
  have HLE := Lib.hid hLE
  have HLE2 : Hid (L = L) := Lib.hid rfl
  have C1 := Lib.hid (esNum H3.out 1 (by omega) (by omega))
  clear CE he2 hb2 hg2 hc2 hw3 hLE h2 hc3 hbL hs1 hs2

  go_wp2_with fail
  rw [← HW3.out]
  try rw [← HLE.out]
  try rw [HLE2.out]
  refine C1.out.mono ?_
  rintro e w4 ⟨rfl, h4, k4⟩
  have HL4 := Lib.hid (keepO HL3.out (k4 L (by simp)))
  have HR4 := Lib.hid (keepO HR3.out (k4 R (by simp)))
  obtain ⟨k, hk⟩ : ∃ k, k = enV (l, 0) 1 := ⟨_, rfl⟩
  rw [← hk]
  have HKK := Lib.hid hk
  have H5 := Lib.hid (h4.set (N := L) (by simp) HL0.out 0 (.int .i64 k))
  have HL5 : Hid ((w4.setCell ⟨L, 0, none⟩ (.int .i64 k)).heap[L]? = some (.cells #[.int .i64 k, .int .i64 0, .int .i64 0, .int .i64 0, .int .i64 0, .slice none 0 0] 40 (0, 0))) := Lib.hid (set_blk HL4.out)
  have HR5 : Hid ((w4.setCell ⟨L, 0, none⟩ (.int .i64 k)).heap[R]? = some (.cells #[.int .i64 0, .int .i64 0, .int .i64 0, .int .i64 0, .int .i64 0, .slice none 0 0] 40 (0, 0))) := Lib.hid (blk_sets HR4.out HRL.out)
  obtain ⟨⟨m0, m1, m2, m3, m4, m5⟩, f0, f1, f2, f3, f4, f5⟩ := six_cells (a0 := .int .i64 0) (a1 := .int .i64 0) (a2 := .int .i64 0) (a3 := .int .i64 0) (a4 := .int .i64 0) (a5 := .slice none 0 0) HL4.out
  have HLB := Lib.hid (blk_lt HL4.out)
  clear h4 k4 C1 hk
  have CF := Lib.hid (esFail H5.out)
  obtain ⟨s1, hs1⟩ : ∃ s1, s1 = enS (l, 0) 1 := ⟨_, rfl⟩
  rw [← hs1] at CF H5
  rw [← HKK.out, ← hs1] at HD0
  go_wp2_with fail
  refine CF.out.mono ?_
  rintro e w' ⟨rfl, hq⟩
  subst hq
  clear m0 m1 m2 m3 m4 m5 f0 f1 f2 f3 f4 f5 CF hs1
  generalize w4.setCell ⟨L, 0, none⟩ (.int .i64 k) = w5 at *
  obtain ⟨bad, hbad⟩ : ∃ bad, bad = s1.2 := ⟨_, rfl⟩
  rw [← hbad] at HD0 ⊢
  have H6 := H5
  have HL6 := HL5
  have HR6 := HR5
  have CK := Lib.hid (kind_any k w5)
  obtain ⟨⟨m0, m1, m2, m3, m4, m5⟩, f0, f1, f2, f3, f4, f5⟩ := six_cells HL5.out
  clear hbad
  by_cases hb0 : bad = 0
  · by_cases hk : kindB k = true
    · rw [if_neg (by simp [hk])] at HD0
      have HD := HD0
      subst hb0
      rw [hk] at CK
      clear hk
      go_wp2_with fail
      refine CK.out.mono ?_
      rintro e w' ⟨rfl, hq⟩
      subst hq
      have C2 := Lib.hid (esGetId H6.out)
      go_wp2_with fail
      refine C2.out.mono ?_
      rintro e w6 ⟨rfl, h6, k6⟩
      have HL7 := Lib.hid (keepO HL6.out (k6 L (by simp)))
      have HR7 := Lib.hid (keepO HR6.out (k6 R (by simp)))
      obtain ⟨x, hx⟩ : ∃ x, x = giV s1 := ⟨_, rfl⟩
      rw [← hx]
      rw [← hx] at HD
      obtain ⟨s2, hs2⟩ : ∃ s2, s2 = giS s1 := ⟨_, rfl⟩
      rw [← hs2] at HD h6
      obtain ⟨xc, xl, xn, xi⟩ := x
      have H8 := Lib.hid ((((h6.set (N := L) (by simp) HL0.out 1 (.int .i64 xc)).set (N := L) (by simp) HL0.out 2 (.int .i64 xl)).set (N := L) (by simp) HL0.out 3 (.int .i64 xn)).set (N := L) (by simp) HL0.out 4 (.int .i64 xi))
      have HL8 := Lib.hid (four_mid (u1 := .int .i64 xc) (u2 := .int .i64 xl) (u3 := .int .i64 xn) (u4 := .int .i64 xi) HL7.out)
      have HR8 := Lib.hid (blk_sets (u := .int .i64 xi) (j := 4) (blk_sets (u := .int .i64 xn) (j := 3) (blk_sets (u := .int .i64 xl) (j := 2) (blk_sets (u := .int .i64 xc) (j := 1) HR7.out HRL.out) HRL.out) HRL.out) HRL.out)
      have C3 := Lib.hid (esRaw H8.out)
      clear m0 m1 m2 m3 m4 m5 f0 f1 f2 f3 f4 f5
      obtain ⟨⟨m0, m1, m2, m3, m4, m5⟩, f0, f1, f2, f3, f4, f5⟩ := six_cells HL7.out
      have HLB7 := Lib.hid (blk_lt HL8.out)
      clear h6 k6 C2 hx hs2
      go_wp2_with fail
      refine C3.out.mono ?_
      rintro e w7 ⟨v7, ⟨rfl, h7, k7⟩, hb7, hn7, hc7⟩
      have HL9 := Lib.hid (keepO HL8.out (k7 L (by simp)))
      have HR9 := Lib.hid (keepO HR8.out (k7 R (by simp)))
      obtain ⟨s3, hs3⟩ : ∃ s3, s3 = erS s2 := ⟨_, rfl⟩
      rw [← hs3] at HD h7
      obtain ⟨bb, hbb⟩ : ∃ bb, bb = erV s2 := ⟨_, rfl⟩
      rw [← hbb] at HD hb7
      obtain ⟨a7, c7, rfl⟩ := hb7.slice
      have hnL : ∀ q, (Value.slice a7 bb.length c7).ownBlock = some q → q ≠ L ∧ q ≠ R := fun q hq => by
        have h1 := hn7 q hq
        have h2 := HLB7.out
        have h3 := blk_lt HR8.out
        omega
      have HBB : Hid (BytesAt (w7.setCell ⟨L, 5, none⟩ (.slice a7 bb.length c7)) (.slice a7 bb.length c7) bb) := Lib.hid (hb7.bytes.chg (S := [L]) ((Chg.refl [L] w7).setCell (p := ⟨L, 5, none⟩) (.inl (by simp)) _) (fun q hq hm => (hnL q hq).1 (List.mem_singleton.1 hm)))
      have HNR : Hid (∀ q, (Value.slice a7 bb.length c7).ownBlock = some q → q ≠ R) := Lib.hid (fun q hq => (hnL q hq).2)
      have HNW : Hid (∀ q, (Value.slice a7 bb.length c7).ownBlock = some q → w.heap.size ≤ q) := Lib.hid (fun q hq => by
        have h1 := hn7 q hq
        have h2 := H8.out.chg.size
        omega)
      have H9 := Lib.hid (h7.set (N := L) (by simp) HL0.out 5 (.slice a7 bb.length c7))
      have HLA : Hid ((w7.setCell ⟨L, 5, none⟩ (.slice a7 bb.length c7)).heap[L]? = some (.cells #[.int .i64 k, .int .i64 xc, .int .i64 xl, .int .i64 xn, .int .i64 xi, .slice a7 bb.length c7] 40 (0, 0))) := Lib.hid (set_blk HL9.out)
      have HRA := Lib.hid (blk_sets (u := .slice a7 bb.length c7) (j := 5) HR9.out HRL.out)
      have C4 := Lib.hid (esEnd H9.out)
      clear m0 m1 m2 m3 m4 m5 f0 f1 f2 f3 f4 f5
      obtain ⟨⟨m0, m1, m2, m3, m4, m5⟩, f0, f1, f2, f3, f4, f5⟩ := six_cells HL9.out
      clear h7 k7 hb7 hn7 hc7 C3 hs3 hbb hnL
      obtain ⟨ff, hff⟩ : ∃ ff, ff = endOf s3.1 s3.2 := ⟨_, rfl⟩
      rw [← hff] at HD C4
      have HCC := Lib.hid H9.out.chg
      go_wp2_with fail
      refine C4.out.mono ?_
      rintro e w' ⟨rfl, hq⟩
      subst hq
      clear m0 m1 m2 m3 m4 m5 f0 f1 f2 f3 f4 f5 C4 hff
      generalize w7.setCell ⟨L, 5, none⟩ (.slice a7 bb.length c7) = w8 at *
      obtain ⟨⟨r0, r1, r2, r3, r4, r5⟩, g0, g1, g2, g3, g4, g5⟩ := six_cells HRA.out
      by_cases hf : ff = 0
      · rw [if_neg (by simp [hf])] at HD
        subst hf
        obtain ⟨⟨m0, m1, m2, m3, m4, m5⟩, f0, f1, f2, f3, f4, f5⟩ := six_cells HLA.out
        have HFX := Lib.hid (set_six HRA.out (.int .i64 k) (.int .i64 xc) (.int .i64 xl) (.int .i64 xn) (.int .i64 xi) (.slice a7 bb.length c7))
        have HCX := Lib.hid (chg_six HCC.out HRW.out (.int .i64 k) (.int .i64 xc) (.int .i64 xl) (.int .i64 xn) (.int .i64 xi) (.slice a7 bb.length c7))
        have HBX := Lib.hid (bytes_six HBB.out HNR.out (.int .i64 k) (.int .i64 xc) (.int .i64 xl) (.int .i64 xn) (.int .i64 xi) (.slice a7 bb.length c7))
        go_wp2_with fail
        refine bodyPost_ret (ret_rq (r := ⟨k, ⟨xc, xl, xn, xi⟩, bb⟩) (bv := .slice a7 bb.length c7) rfl _ rfl rfl HFX.out) rfl ?_
        rw [HD.out]
        exact ⟨_, rfl, HBX.out, HNW.out, HCX.out⟩
      · rw [if_pos hf] at HD
        have qf : (ff != 0) = true := by simp [hf]
        have HFX := Lib.hid (set_six HRA.out (.int .i64 0) (.int .i64 0) (.int .i64 0) (.int .i64 0) (.int .i64 0) (.slice none 0 0))
        have HCX := Lib.hid (chg_six HCC.out HRW.out (.int .i64 0) (.int .i64 0) (.int .i64 0) (.int .i64 0) (.int .i64 0) (.slice none 0 0))
        clear hf
        go_wp2_with fail
        refine bodyPost_ret (ret_rq (r := noRq) (bv := .slice none 0 0) rfl _ rfl rfl HFX.out) rfl ?_
        rw [HD.out]
        exact ⟨_, rfl, BytesAt.nil _, by simp [Value.ownBlock], HCX.out⟩
    · have hk : kindB k = false := by cases h : kindB k with | true => exact absurd h hk | false => rfl
      rw [if_pos ⟨hb0, hk⟩] at HD0
      subst hb0
      rw [hk] at CK
      obtain ⟨⟨r0, r1, r2, r3, r4, r5⟩, g0, g1, g2, g3, g4, g5⟩ := six_cells HR5.out
      have HFX := Lib.hid (set_six HR5.out (.int .i64 0) (.int .i64 0) (.int .i64 0) (.int .i64 0) (.int .i64 0) (.slice none 0 0))
      have HCX := Lib.hid (chg_six H5.out.chg HRW.out (.int .i64 0) (.int .i64 0) (.int .i64 0) (.int .i64 0) (.int .i64 0) (.slice none 0 0))
      clear hk
      go_wp2_with fail
      refine CK.out.mono ?_
      rintro e w' ⟨rfl, hq⟩
      subst hq
      go_wp2_with fail
      refine bodyPost_ret (ret_rq (r := noRq) (bv := .slice none 0 0) rfl _ rfl rfl HFX.out) rfl ?_
      rw [HD0.out]
      exact ⟨_, rfl, BytesAt.nil _, by simp [Value.ownBlock], HCX.out⟩
  · rw [if_neg (fun h => hb0 h.1)] at HD0
    have HD := HD0
    have qb : (bad == 0) = false := by simp [hb0]
    clear hb0
    have C2 := Lib.hid (esGetId H6.out)
    go_wp2_with fail
    refine C2.out.mono ?_
    rintro e w6 ⟨rfl, h6, k6⟩
    have HL7 := Lib.hid (keepO HL6.out (k6 L (by simp)))
    have HR7 := Lib.hid (keepO HR6.out (k6 R (by simp)))
    obtain ⟨x, hx⟩ : ∃ x, x = giV s1 := ⟨_, rfl⟩
    rw [← hx]
    rw [← hx] at HD
    obtain ⟨s2, hs2⟩ : ∃ s2, s2 = giS s1 := ⟨_, rfl⟩
    rw [← hs2] at HD h6
    obtain ⟨xc, xl, xn, xi⟩ := x
    have H8 := Lib.hid ((((h6.set (N := L) (by simp) HL0.out 1 (.int .i64 xc)).set (N := L) (by simp) HL0.out 2 (.int .i64 xl)).set (N := L) (by simp) HL0.out 3 (.int .i64 xn)).set (N := L) (by simp) HL0.out 4 (.int .i64 xi))
    have HL8 := Lib.hid (four_mid (u1 := .int .i64 xc) (u2 := .int .i64 xl) (u3 := .int .i64 xn) (u4 := .int .i64 xi) HL7.out)
    have HR8 := Lib.hid (blk_sets (u := .int .i64 xi) (j := 4) (blk_sets (u := .int .i64 xn) (j := 3) (blk_sets (u := .int .i64 xl) (j := 2) (blk_sets (u := .int .i64 xc) (j := 1) HR7.out HRL.out) HRL.out) HRL.out) HRL.out)
    have C3 := Lib.hid (esRaw H8.out)
    clear m0 m1 m2 m3 m4 m5 f0 f1 f2 f3 f4 f5
    obtain ⟨⟨m0, m1, m2, m3, m4, m5⟩, f0, f1, f2, f3, f4, f5⟩ := six_cells HL7.out
    have HLB7 := Lib.hid (blk_lt HL8.out)
    clear h6 k6 C2 hx hs2
    go_wp2_with fail
    refine C3.out.mono ?_
    rintro e w7 ⟨v7, ⟨rfl, h7, k7⟩, hb7, hn7, hc7⟩
    have HL9 := Lib.hid (keepO HL8.out (k7 L (by simp)))
    have HR9 := Lib.hid (keepO HR8.out (k7 R (by simp)))
    obtain ⟨s3, hs3⟩ : ∃ s3, s3 = erS s2 := ⟨_, rfl⟩
    rw [← hs3] at HD h7
    obtain ⟨bb, hbb⟩ : ∃ bb, bb = erV s2 := ⟨_, rfl⟩
    rw [← hbb] at HD hb7
    obtain ⟨a7, c7, rfl⟩ := hb7.slice
    have hnL : ∀ q, (Value.slice a7 bb.length c7).ownBlock = some q → q ≠ L ∧ q ≠ R := fun q hq => by
      have h1 := hn7 q hq
      have h2 := HLB7.out
      have h3 := blk_lt HR8.out
      omega
    have HBB : Hid (BytesAt (w7.setCell ⟨L, 5, none⟩ (.slice a7 bb.length c7)) (.slice a7 bb.length c7) bb) := Lib.hid (hb7.bytes.chg (S := [L]) ((Chg.refl [L] w7).setCell (p := ⟨L, 5, none⟩) (.inl (by simp)) _) (fun q hq hm => (hnL q hq).1 (List.mem_singleton.1 hm)))
    have HNR : Hid (∀ q, (Value.slice a7 bb.length c7).ownBlock = some q → q ≠ R) := Lib.hid (fun q hq => (hnL q hq).2)
    have HNW : Hid (∀ q, (Value.slice a7 bb.length c7).ownBlock = some q → w.heap.size ≤ q) := Lib.hid (fun q hq => by
      have h1 := hn7 q hq
      have h2 := H8.out.chg.size
      omega)
    have H9 := Lib.hid (h7.set (N := L) (by simp) HL0.out 5 (.slice a7 bb.length c7))
    have HLA : Hid ((w7.setCell ⟨L, 5, none⟩ (.slice a7 bb.length c7)).heap[L]? = some (.cells #[.int .i64 k, .int .i64 xc, .int .i64 xl, .int .i64 xn, .int .i64 xi, .slice a7 bb.length c7] 40 (0, 0))) := Lib.hid (set_blk HL9.out)
    have HRA := Lib.hid (blk_sets (u := .slice a7 bb.length c7) (j := 5) HR9.out HRL.out)
    have C4 := Lib.hid (esEnd H9.out)
    clear m0 m1 m2 m3 m4 m5 f0 f1 f2 f3 f4 f5
    obtain ⟨⟨m0, m1, m2, m3, m4, m5⟩, f0, f1, f2, f3, f4, f5⟩ := six_cells HL9.out
    clear h7 k7 hb7 hn7 hc7 C3 hs3 hbb hnL
    obtain ⟨ff, hff⟩ : ∃ ff, ff = endOf s3.1 s3.2 := ⟨_, rfl⟩
    rw [← hff] at HD C4
    have HCC := Lib.hid H9.out.chg
    go_wp2_with fail
    refine C4.out.mono ?_
    rintro e w' ⟨rfl, hq⟩
    subst hq
    clear m0 m1 m2 m3 m4 m5 f0 f1 f2 f3 f4 f5 C4 hff
    generalize w7.setCell ⟨L, 5, none⟩ (.slice a7 bb.length c7) = w8 at *
    obtain ⟨⟨r0, r1, r2, r3, r4, r5⟩, g0, g1, g2, g3, g4, g5⟩ := six_cells HRA.out
    by_cases hf : ff = 0
    · rw [if_neg (by simp [hf])] at HD
      subst hf
      obtain ⟨⟨m0, m1, m2, m3, m4, m5⟩, f0, f1, f2, f3, f4, f5⟩ := six_cells HLA.out
      have HFX := Lib.hid (set_six HRA.out (.int .i64 k) (.int .i64 xc) (.int .i64 xl) (.int .i64 xn) (.int .i64 xi) (.slice a7 bb.length c7))
      have HCX := Lib.hid (chg_six HCC.out HRW.out (.int .i64 k) (.int .i64 xc) (.int .i64 xl) (.int .i64 xn) (.int .i64 xi) (.slice a7 bb.length c7))
      have HBX := Lib.hid (bytes_six HBB.out HNR.out (.int .i64 k) (.int .i64 xc) (.int .i64 xl) (.int .i64 xn) (.int .i64 xi) (.slice a7 bb.length c7))
      go_wp2_with fail
      refine bodyPost_ret (ret_rq (r := ⟨k, ⟨xc, xl, xn, xi⟩, bb⟩) (bv := .slice a7 bb.length c7) rfl _ rfl rfl HFX.out) rfl ?_
      rw [HD.out]
      exact ⟨_, rfl, HBX.out, HNW.out, HCX.out⟩
    · rw [if_pos hf] at HD
      have qf : (ff != 0) = true := by simp [hf]
      have HFX := Lib.hid (set_six HRA.out (.int .i64 0) (.int .i64 0) (.int .i64 0) (.int .i64 0) (.int .i64 0) (.slice none 0 0))
      have HCX := Lib.hid (chg_six HCC.out HRW.out (.int .i64 0) (.int .i64 0) (.int .i64 0) (.int .i64 0) (.int .i64 0) (.slice none 0 0))
      clear hf
      go_wp2_with fail
      refine bodyPost_ret (ret_rq (r := noRq) (bv := .slice none 0 0) rfl _ rfl rfl HFX.out) rfl ?_
      rw [HD.out]
      exact ⟨_, rfl, BytesAt.nil _, by simp [Value.ownBlock], HCX.out⟩

theorem ret_rrq {fn : Func} {p u : Tmp} (h : fn.results = #[.cell p 42, .tmp u]) (tmps : Array Value) {w : World} {b t : Nat} {r : Rq} {bv q : Value} (hp : tmps.getD p undef = .pointer (some ⟨b, 0, none⟩)) (hu : tmps.getD u undef = q) (hb : w.heap[b]? = some (.cells (rqL r bv).toArray t (0, 0))) :
    (results fn tmps).run Tryz.prog w = .ok (.tuple #[rqV r bv, q]) w := by
  have hl := run_loadVar_row (P := Tryz.prog) w b t 42 (rqL r bv).toArray (0, 0) _ hb Tryz.underlying42 rfl (rrq_size _ _)
  rw [results_cell_tmp h, hp, hu]
  simp only [asAddr, Sem.run_pure, Result.andThen_ok, hl]
  rfl
set_option maxHeartbeats 8000000 in
set_option maxRecDepth 100000 in
theorem rsvdec_any (v : Value) (l : List UInt8) (w : World) (hv : BytesAt w v l) (hl : l.length ≤ 1000000) : Calls Tryz.prog 27 #[v] w (DecPost w (reqDec l)) := by
  obtain ⟨R, hR⟩ : ∃ R, R = w.heap.size := ⟨_, rfl⟩
  obtain ⟨w1, hw1⟩ : ∃ w1, w1 = w.alloc (.cells zeroRq 42) := ⟨_, rfl⟩
  have hc1 : Chg [] w w1 := by rw [hw1]; exact (Chg.refl [] w).alloc _
  have hb1 : w1.heap[R]? = some (.cells zeroRq 42 (0, 0)) := by rw [hw1, hR]; exact heap_alloc_new w _
  have hs1 : w1.heap.size = R + 1 := by rw [hw1, hR]; simp
  obtain ⟨E, hE⟩ : ∃ E, E = R + 1 := ⟨_, rfl⟩
  obtain ⟨L, hLE⟩ : ∃ L, L = R + 1 + 1 := ⟨_, rfl⟩
  obtain ⟨w2, hw2⟩ : ∃ w2, w2 = w1.alloc (.cells #[v, .int .i64 0] 127) := ⟨_, rfl⟩
  have hc2 : Chg [] w1 w2 := by rw [hw2]; exact (Chg.refl [] w1).alloc _
  have hbE : w2.heap[E]? = some (.cells #[v, .int .i64 0] 127 (0, 0)) := by rw [hw2, hE, ← hs1]; exact heap_alloc_new w1 _
  have hs2 : w2.heap.size = R + 2 := by rw [hw2]; simp [hs1]
  obtain ⟨w3, hw3⟩ : ∃ w3, w3 = w2.alloc (.cells #[.int .i64 0, .int .i64 0, .int .i64 0, .int .i64 0, .int .i64 0, .slice none 0 0] 42) := ⟨_, rfl⟩
  have hc3 : Chg [] w2 w3 := by rw [hw3]; exact (Chg.refl [] w2).alloc _
  have hbL : w3.heap[L]? = some (.cells zeroRq 42 (0, 0)) := by rw [hw3, hLE, show R + 1 + 1 = R + 2 from rfl, ← hs2]; exact heap_alloc_new w2 _
  obtain ⟨g, hev, hgg⟩ := hv.rseye (R + 7)
  have hc12 : Chg [] w w2 := hc1.trans hc2 (by simp)
  have h2 : REyeS [R] w w2 E (l, 0) := ⟨⟨g, ⟨v, hbE, hev.keepC hc12 (by simp), by omega, hl⟩, by simp; omega⟩, ⟨by omega, by simp; omega⟩, hc12, fun x hx => by rw [List.mem_singleton.1 hx]; omega⟩
  obtain ⟨a, cap, rfl⟩ := hv.slice
  have H3 : Hid (REyeS [L, R] w w3 E (l, 0)) := Lib.hid (h2.add hc3 (fun k hk => by
    simp at hk
    rcases hk with rfl | rfl
    · exact .inr ⟨by omega, blk_lt hbL⟩
    · exact .inl (by simp)))
  have HL3 := Lib.hid hbL
  have HR3 := Lib.hid ((hc2.trans hc3 (by simp)).keep hb1 (by simp))
  have HL0 : Hid (w.heap.size ≤ L) := Lib.hid (by omega)
  have HRL : Hid (R ≠ L) := Lib.hid (by omega)
  have HRW : Hid (w.heap.size ≤ R) := Lib.hid (by omega)
  have HW1 := Lib.hid hw1
  have HW2 := Lib.hid hw2
  have HW3 := Lib.hid hw3
  have HLE := Lib.hid hLE
  have HLE2 : Hid (R + 1 + 1 = L) := Lib.hid hLE.symm
  have HEE : Hid (R + 1 = E) := Lib.hid hE.symm
  have HR := Lib.hid hR
  have HD0 := Lib.hid (reqDec_ref l _ rfl)
  have C1 := Lib.hid (resNum H3.out 1 (by omega) (by omega))
  clear hb1 hc1 hw1 hR hs1 hv hE hLE hw2 hc2 hbE hs2 hw3 hc3 hbL hev hgg hc12 h2
  go_enter Tryz.func27, Tryz.ntmps27
  go_wp2_with fail
  rw [show (w.alloc (.cells #[.int .i64 0, .int .i64 0, .int .i64 0, .int .i64 0, .int .i64 0, .slice none 0 0] 42)) = w1 from HW1.out.symm, ← HW2.out]
  try rw [← HR.out]
  rw [HLE2.out, HEE.out]

  go_wp2_with fail
  rw [← HW3.out]
  try rw [← HLE.out]
  try rw [HLE2.out]
  refine C1.out.mono ?_
  rintro e w4 ⟨rfl, h4, k4⟩
  have HL4 := Lib.hid (keepO HL3.out (k4 L (by simp)))
  have HR4 := Lib.hid (keepO HR3.out (k4 R (by simp)))
  obtain ⟨k, hk⟩ : ∃ k, k = enV (l, 0) 1 := ⟨_, rfl⟩
  rw [← hk]
  have HKK := Lib.hid hk
  have H5 := Lib.hid (h4.set (N := L) (by simp) HL0.out 0 (.int .i64 k))
  have HL5 : Hid ((w4.setCell ⟨L, 0, none⟩ (.int .i64 k)).heap[L]? = some (.cells #[.int .i64 k, .int .i64 0, .int .i64 0, .int .i64 0, .int .i64 0, .slice none 0 0] 42 (0, 0))) := Lib.hid (set_blk HL4.out)
  have HR5 : Hid ((w4.setCell ⟨L, 0, none⟩ (.int .i64 k)).heap[R]? = some (.cells #[.int .i64 0, .int .i64 0, .int .i64 0, .int .i64 0, .int .i64 0, .slice none 0 0] 42 (0, 0))) := Lib.hid (blk_sets HR4.out HRL.out)
  obtain ⟨⟨m0, m1, m2, m3, m4, m5⟩, f0, f1, f2, f3, f4, f5⟩ := six_cells (a0 := .int .i64 0) (a1 := .int .i64 0) (a2 := .int .i64 0) (a3 := .int .i64 0) (a4 := .int .i64 0) (a5 := .slice none 0 0) HL4.out
  have HLB := Lib.hid (blk_lt HL4.out)
  clear h4 k4 C1 hk
  obtain ⟨s0, hs0⟩ : ∃ s0, s0 = enS (l, 0) 1 := ⟨_, rfl⟩
  rw [← hs0] at H5
  rw [← HKK.out, ← hs0] at HD0
  clear hs0
  have CF := Lib.hid (resForm H5.out (!kindB k))
  have HQK : Hid ((!kindB k) = (decide (k < 1) || decide (6 < k))) := Lib.hid (by unfold kindB; by_cases h1 : 1 ≤ k <;> by_cases h2 : k ≤ 6 <;> simp [h1, h2] <;> omega)
  obtain ⟨s1, hs1⟩ : ∃ s1 : PB, s1 = (s0.1, if (!kindB k) = true ∧ s0.2 = 0 then 4 else s0.2) := ⟨_, rfl⟩
  rw [← hs1] at CF HD0
  have HD := HD0
  clear hs1
  have HCK : Hid (∀ q, q = (!kindB k) → Calls Tryz.prog 60 #[.pointer (some ⟨E, 0, none⟩), .bool q] (w4.setCell ⟨L, 0, none⟩ (.int .i64 k)) (REyeP [L, R] w (w4.setCell ⟨L, 0, none⟩ (.int .i64 k)) E (.tuple #[]) s1)) := Lib.hid (fun q hq => by rw [hq]; exact CF.out)
  clear CF
  have HGO : Hid (∀ q, q = (!kindB k) → True) := Lib.hid (fun _ _ => trivial)
  by_cases hk1 : k < 1
  · have CF := Lib.hid (HCK.out true (by rw [HQK.out]; simp [hk1]))
    clear HCK HGO HQK
    go_wp2_with fail
    refine CF.out.mono ?_
    rintro e w5 ⟨rfl, h5, k5⟩
    have H6 := Lib.hid h5
    have HL6 := Lib.hid (keepO HL5.out (k5 L (by simp)))
    have HR6 := Lib.hid (keepO HR5.out (k5 R (by simp)))
    clear m0 m1 m2 m3 m4 m5 f0 f1 f2 f3 f4 f5 CF h5 k5
    obtain ⟨⟨m0, m1, m2, m3, m4, m5⟩, f0, f1, f2, f3, f4, f5⟩ := six_cells HL6.out
    have C2 := Lib.hid (resGetId H6.out)
    go_wp2_with fail
    refine C2.out.mono ?_
    rintro e w6 ⟨rfl, h6, k6⟩
    have HL7 := Lib.hid (keepO HL6.out (k6 L (by simp)))
    have HR7 := Lib.hid (keepO HR6.out (k6 R (by simp)))
    obtain ⟨x, hx⟩ : ∃ x, x = giV s1 := ⟨_, rfl⟩
    rw [← hx]
    rw [← hx] at HD
    obtain ⟨s2, hs2⟩ : ∃ s2, s2 = giS s1 := ⟨_, rfl⟩
    rw [← hs2] at HD h6
    obtain ⟨xc, xl, xn, xi⟩ := x
    have H8 := Lib.hid ((((h6.set (N := L) (by simp) HL0.out 1 (.int .i64 xc)).set (N := L) (by simp) HL0.out 2 (.int .i64 xl)).set (N := L) (by simp) HL0.out 3 (.int .i64 xn)).set (N := L) (by simp) HL0.out 4 (.int .i64 xi))
    have HL8 := Lib.hid (four_mid (u1 := .int .i64 xc) (u2 := .int .i64 xl) (u3 := .int .i64 xn) (u4 := .int .i64 xi) HL7.out)
    have HR8 := Lib.hid (blk_sets (u := .int .i64 xi) (j := 4) (blk_sets (u := .int .i64 xn) (j := 3) (blk_sets (u := .int .i64 xl) (j := 2) (blk_sets (u := .int .i64 xc) (j := 1) HR7.out HRL.out) HRL.out) HRL.out) HRL.out)
    have C3 := Lib.hid (resRaw H8.out)
    clear m0 m1 m2 m3 m4 m5 f0 f1 f2 f3 f4 f5
    obtain ⟨⟨m0, m1, m2, m3, m4, m5⟩, f0, f1, f2, f3, f4, f5⟩ := six_cells HL7.out
    have HLB7 := Lib.hid (blk_lt HL8.out)
    clear h6 k6 C2 hx hs2
    go_wp2_with fail
    refine C3.out.mono ?_
    rintro e w7 ⟨v7, ⟨rfl, h7, k7⟩, hb7, hn7, hc7⟩
    have HL9 := Lib.hid (keepO HL8.out (k7 L (by simp)))
    have HR9 := Lib.hid (keepO HR8.out (k7 R (by simp)))
    obtain ⟨s3, hs3⟩ : ∃ s3, s3 = erS s2 := ⟨_, rfl⟩
    rw [← hs3] at HD h7
    obtain ⟨bb, hbb⟩ : ∃ bb, bb = erV s2 := ⟨_, rfl⟩
    rw [← hbb] at HD hb7
    obtain ⟨a7, c7, rfl⟩ := hb7.slice
    have hnL : ∀ q, (Value.slice a7 bb.length c7).ownBlock = some q → q ≠ L ∧ q ≠ R := fun q hq => by
      have h1 := hn7 q hq
      have h2 := HLB7.out
      have h3 := blk_lt HR8.out
      omega
    have HBB : Hid (BytesAt (w7.setCell ⟨L, 5, none⟩ (.slice a7 bb.length c7)) (.slice a7 bb.length c7) bb) := Lib.hid (hb7.bytes.chg (S := [L]) ((Chg.refl [L] w7).setCell (p := ⟨L, 5, none⟩) (.inl (by simp)) _) (fun q hq hm => (hnL q hq).1 (List.mem_singleton.1 hm)))
    have HNR : Hid (∀ q, (Value.slice a7 bb.length c7).ownBlock = some q → q ≠ R) := Lib.hid (fun q hq => (hnL q hq).2)
    have HNW : Hid (∀ q, (Value.slice a7 bb.length c7).ownBlock = some q → w.heap.size ≤ q) := Lib.hid (fun q hq => by
      have h1 := hn7 q hq
      have h2 := H8.out.chg.size
      omega)
    have H9 := Lib.hid (h7.set (N := L) (by simp) HL0.out 5 (.slice a7 bb.length c7))
    have HLA : Hid ((w7.setCell ⟨L, 5, none⟩ (.slice a7 bb.length c7)).heap[L]? = some (.cells #[.int .i64 k, .int .i64 xc, .int .i64 xl, .int .i64 xn, .int .i64 xi, .slice a7 bb.length c7] 42 (0, 0))) := Lib.hid (set_blk HL9.out)
    have HRA := Lib.hid (blk_sets (u := .slice a7 bb.length c7) (j := 5) HR9.out HRL.out)
    have C4 := Lib.hid (resEnd H9.out)
    clear m0 m1 m2 m3 m4 m5 f0 f1 f2 f3 f4 f5
    obtain ⟨⟨m0, m1, m2, m3, m4, m5⟩, f0, f1, f2, f3, f4, f5⟩ := six_cells HL9.out
    clear h7 k7 hb7 hn7 hc7 C3 hs3 hbb hnL
    obtain ⟨ff, hff⟩ : ∃ ff, ff = endOf s3.1 s3.2 := ⟨_, rfl⟩
    rw [← hff] at HD C4
    have HCC := Lib.hid H9.out.chg
    go_wp2_with fail
    refine C4.out.mono ?_
    rintro e w' ⟨rfl, hq⟩
    subst hq
    clear m0 m1 m2 m3 m4 m5 f0 f1 f2 f3 f4 f5 C4 hff
    generalize w7.setCell ⟨L, 5, none⟩ (.slice a7 bb.length c7) = w8 at *
    obtain ⟨⟨r0, r1, r2, r3, r4, r5⟩, g0, g1, g2, g3, g4, g5⟩ := six_cells HRA.out
    by_cases hf : ff = 0
    · rw [if_neg (by simp [hf])] at HD
      subst hf
      obtain ⟨⟨m0, m1, m2, m3, m4, m5⟩, f0, f1, f2, f3, f4, f5⟩ := six_cells HLA.out
      have HFX := Lib.hid (set_six HRA.out (.int .i64 k) (.int .i64 xc) (.int .i64 xl) (.int .i64 xn) (.int .i64 xi) (.slice a7 bb.length c7))
      have HCX := Lib.hid (chg_six HCC.out HRW.out (.int .i64 k) (.int .i64 xc) (.int .i64 xl) (.int .i64 xn) (.int .i64 xi) (.slice a7 bb.length c7))
      have HBX := Lib.hid (bytes_six HBB.out HNR.out (.int .i64 k) (.int .i64 xc) (.int .i64 xl) (.int .i64 xn) (.int .i64 xi) (.slice a7 bb.length c7))
      go_wp2_with fail
      refine bodyPost_ret (ret_rrq (r := ⟨k, ⟨xc, xl, xn, xi⟩, bb⟩) (bv := .slice a7 bb.length c7) rfl _ rfl rfl HFX.out) rfl ?_
      rw [HD.out]
      exact ⟨_, rfl, HBX.out, HNW.out, HCX.out⟩
    · rw [if_pos hf] at HD
      have qf : (ff != 0) = true := by simp [hf]
      have HFX := Lib.hid (set_six HRA.out (.int .i64 0) (.int .i64 0) (.int .i64 0) (.int .i64 0) (.int .i64 0) (.slice none 0 0))
      have HCX := Lib.hid (chg_six HCC.out HRW.out (.int .i64 0) (.int .i64 0) (.int .i64 0) (.int .i64 0) (.int .i64 0) (.slice none 0 0))
      clear hf
      go_wp2_with fail
      refine bodyPost_ret (ret_rrq (r := noRq) (bv := .slice none 0 0) rfl _ rfl rfl HFX.out) rfl ?_
      rw [HD.out]
      exact ⟨_, rfl, BytesAt.nil _, by simp [Value.ownBlock], HCX.out⟩
  · have q1 : decide (k < 1) = false := decide_eq_false hk1
    obtain ⟨q6, hq6⟩ : ∃ q6, q6 = decide (6 < k) := ⟨_, rfl⟩
    have hq7 : decide (k > 6) = q6 := hq6.symm
    have CF := Lib.hid (HCK.out q6 (by rw [HQK.out, q1, hq6]; rfl))
    have HQ6 := Lib.hid hq6
    clear HCK HGO HQK hq6
    go_wp2_with fail
    refine CF.out.mono ?_
    rintro e w5 ⟨rfl, h5, k5⟩
    have H6 := Lib.hid h5
    have HL6 := Lib.hid (keepO HL5.out (k5 L (by simp)))
    have HR6 := Lib.hid (keepO HR5.out (k5 R (by simp)))
    clear m0 m1 m2 m3 m4 m5 f0 f1 f2 f3 f4 f5 CF h5 k5
    obtain ⟨⟨m0, m1, m2, m3, m4, m5⟩, f0, f1, f2, f3, f4, f5⟩ := six_cells HL6.out
    have C2 := Lib.hid (resGetId H6.out)
    go_wp2_with fail
    refine C2.out.mono ?_
    rintro e w6 ⟨rfl, h6, k6⟩
    have HL7 := Lib.hid (keepO HL6.out (k6 L (by simp)))
    have HR7 := Lib.hid (keepO HR6.out (k6 R (by simp)))
    obtain ⟨x, hx⟩ : ∃ x, x = giV s1 := ⟨_, rfl⟩
    rw [← hx]
    rw [← hx] at HD
    obtain ⟨s2, hs2⟩ : ∃ s2, s2 = giS s1 := ⟨_, rfl⟩
    rw [← hs2] at HD h6
    obtain ⟨xc, xl, xn, xi⟩ := x
    have H8 := Lib.hid ((((h6.set (N := L) (by simp) HL0.out 1 (.int .i64 xc)).set (N := L) (by simp) HL0.out 2 (.int .i64 xl)).set (N := L) (by simp) HL0.out 3 (.int .i64 xn)).set (N := L) (by simp) HL0.out 4 (.int .i64 xi))
    have HL8 := Lib.hid (four_mid (u1 := .int .i64 xc) (u2 := .int .i64 xl) (u3 := .int .i64 xn) (u4 := .int .i64 xi) HL7.out)
    have HR8 := Lib.hid (blk_sets (u := .int .i64 xi) (j := 4) (blk_sets (u := .int .i64 xn) (j := 3) (blk_sets (u := .int .i64 xl) (j := 2) (blk_sets (u := .int .i64 xc) (j := 1) HR7.out HRL.out) HRL.out) HRL.out) HRL.out)
    have C3 := Lib.hid (resRaw H8.out)
    clear m0 m1 m2 m3 m4 m5 f0 f1 f2 f3 f4 f5
    obtain ⟨⟨m0, m1, m2, m3, m4, m5⟩, f0, f1, f2, f3, f4, f5⟩ := six_cells HL7.out
    have HLB7 := Lib.hid (blk_lt HL8.out)
    clear h6 k6 C2 hx hs2
    go_wp2_with fail
    refine C3.out.mono ?_
    rintro e w7 ⟨v7, ⟨rfl, h7, k7⟩, hb7, hn7, hc7⟩
    have HL9 := Lib.hid (keepO HL8.out (k7 L (by simp)))
    have HR9 := Lib.hid (keepO HR8.out (k7 R (by simp)))
    obtain ⟨s3, hs3⟩ : ∃ s3, s3 = erS s2 := ⟨_, rfl⟩
    rw [← hs3] at HD h7
    obtain ⟨bb, hbb⟩ : ∃ bb, bb = erV s2 := ⟨_, rfl⟩
    rw [← hbb] at HD hb7
    obtain ⟨a7, c7, rfl⟩ := hb7.slice
    have hnL : ∀ q, (Value.slice a7 bb.length c7).ownBlock = some q → q ≠ L ∧ q ≠ R := fun q hq => by
      have h1 := hn7 q hq
      have h2 := HLB7.out
      have h3 := blk_lt HR8.out
      omega
    have HBB : Hid (BytesAt (w7.setCell ⟨L, 5, none⟩ (.slice a7 bb.length c7)) (.slice a7 bb.length c7) bb) := Lib.hid (hb7.bytes.chg (S := [L]) ((Chg.refl [L] w7).setCell (p := ⟨L, 5, none⟩) (.inl (by simp)) _) (fun q hq hm => (hnL q hq).1 (List.mem_singleton.1 hm)))
    have HNR : Hid (∀ q, (Value.slice a7 bb.length c7).ownBlock = some q → q ≠ R) := Lib.hid (fun q hq => (hnL q hq).2)
    have HNW : Hid (∀ q, (Value.slice a7 bb.length c7).ownBlock = some q → w.heap.size ≤ q) := Lib.hid (fun q hq => by
      have h1 := hn7 q hq
      have h2 := H8.out.chg.size
      omega)
    have H9 := Lib.hid (h7.set (N := L) (by simp) HL0.out 5 (.slice a7 bb.length c7))
    have HLA : Hid ((w7.setCell ⟨L, 5, none⟩ (.slice a7 bb.length c7)).heap[L]? = some (.cells #[.int .i64 k, .int .i64 xc, .int .i64 xl, .int .i64 xn, .int .i64 xi, .slice a7 bb.length c7] 42 (0, 0))) := Lib.hid (set_blk HL9.out)
    have HRA := Lib.hid (blk_sets (u := .slice a7 bb.length c7) (j := 5) HR9.out HRL.out)
    have C4 := Lib.hid (resEnd H9.out)
    clear m0 m1 m2 m3 m4 m5 f0 f1 f2 f3 f4 f5
    obtain ⟨⟨m0, m1, m2, m3, m4, m5⟩, f0, f1, f2, f3, f4, f5⟩ := six_cells HL9.out
    clear h7 k7 hb7 hn7 hc7 C3 hs3 hbb hnL
    obtain ⟨ff, hff⟩ : ∃ ff, ff = endOf s3.1 s3.2 := ⟨_, rfl⟩
    rw [← hff] at HD C4
    have HCC := Lib.hid H9.out.chg
    go_wp2_with fail
    refine C4.out.mono ?_
    rintro e w' ⟨rfl, hq⟩
    subst hq
    clear m0 m1 m2 m3 m4 m5 f0 f1 f2 f3 f4 f5 C4 hff
    generalize w7.setCell ⟨L, 5, none⟩ (.slice a7 bb.length c7) = w8 at *
    obtain ⟨⟨r0, r1, r2, r3, r4, r5⟩, g0, g1, g2, g3, g4, g5⟩ := six_cells HRA.out
    by_cases hf : ff = 0
    · rw [if_neg (by simp [hf])] at HD
      subst hf
      obtain ⟨⟨m0, m1, m2, m3, m4, m5⟩, f0, f1, f2, f3, f4, f5⟩ := six_cells HLA.out
      have HFX := Lib.hid (set_six HRA.out (.int .i64 k) (.int .i64 xc) (.int .i64 xl) (.int .i64 xn) (.int .i64 xi) (.slice a7 bb.length c7))
      have HCX := Lib.hid (chg_six HCC.out HRW.out (.int .i64 k) (.int .i64 xc) (.int .i64 xl) (.int .i64 xn) (.int .i64 xi) (.slice a7 bb.length c7))
      have HBX := Lib.hid (bytes_six HBB.out HNR.out (.int .i64 k) (.int .i64 xc) (.int .i64 xl) (.int .i64 xn) (.int .i64 xi) (.slice a7 bb.length c7))
      go_wp2_with fail
      refine bodyPost_ret (ret_rrq (r := ⟨k, ⟨xc, xl, xn, xi⟩, bb⟩) (bv := .slice a7 bb.length c7) rfl _ rfl rfl HFX.out) rfl ?_
      rw [HD.out]
      exact ⟨_, rfl, HBX.out, HNW.out, HCX.out⟩
    · rw [if_pos hf] at HD
      have qf : (ff != 0) = true := by simp [hf]
      have HFX := Lib.hid (set_six HRA.out (.int .i64 0) (.int .i64 0) (.int .i64 0) (.int .i64 0) (.int .i64 0) (.slice none 0 0))
      have HCX := Lib.hid (chg_six HCC.out HRW.out (.int .i64 0) (.int .i64 0) (.int .i64 0) (.int .i64 0) (.int .i64 0) (.slice none 0 0))
      clear hf
      go_wp2_with fail
      refine bodyPost_ret (ret_rrq (r := noRq) (bv := .slice none 0 0) rfl _ rfl rfl HFX.out) rfl ?_
      rw [HD.out]
      exact ⟨_, rfl, BytesAt.nil _, by simp [Value.ownBlock], HCX.out⟩
end Go.Proofs.YtdkhmfcfihbjeaaGreatDoor.W
