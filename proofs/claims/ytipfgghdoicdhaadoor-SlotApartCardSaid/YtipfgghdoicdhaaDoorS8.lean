/- Package slot: what Open makes. -/
import Derived.Test.YtipfgghdoicdhaaDoorS6
namespace Go.Proofs.YtipfgghdoicdhaaDoor.W
open Go.RowKit
set_option linter.unusedVariables false
set_option linter.unusedSimpArgs false

theorem assertB_nil (w : World) : (Instr.typeAssert .nilIface 20 82 true).run Tryd.prog w = .ok (.tuple #[.agg #[.int .i64 0], .bool false]) w := by kernel_rfl
theorem assertB_give (x : Int) (w : World) : (Instr.typeAssert (.iface 82 (.agg #[.int .i64 x])) 20 82 true).run Tryd.prog w = .ok (.tuple #[.agg #[.int .i64 x], .bool true]) w := by kernel_rfl

set_option maxHeartbeats 2000000 in
set_option maxRecDepth 100000 in
theorem catchB_idle (pa pb : Value) (w : World) :
    CallsD Tryd.prog 41 #[pa, pb] .returning w fun e u' w' => e = .returned (.tuple #[]) ∧ u' = .returning ∧ w' = w.alloc (.cells #[.int .i64 0] 82) := by
  have hta := assertB_nil
  refine callsD_of_wpS Tryd.func41 rfl fun c₀ cs hu => ?_
  rw [Tryd.ntmps41]
  change Code.wpS Tryd.prog _ _ ⟨#[pa, pb, undef, undef, undef, undef, undef, undef, undef, undef, undef, undef, undef, undef, undef], []⟩ _ _
  apply wpS_seq
  apply wpS_region
  simp [wpOpsS, go_sem, recoverD, hu, Exit.thenS, hta]
  apply wpS_seq
  apply wpS_region
  simp [wpOpsS, go_sem, Exit.thenS]
  refine wpS_cond (t := false) (by simp [Act.eval]) ?_
  simp only [Bool.false_eq_true, if_false]
  refine wpS_of_wp (wp_skip ?_)
  cases c₀
  simp_all [bodyPostS, results, Tryd.results41]

set_option maxHeartbeats 2000000 in
set_option maxRecDepth 100000 in
theorem catchB_14 (pa pb : Nat) (v1 v2 : Value) (older : List PanicEntry) (w : World) (ha : w.heap[pa]? = some (.cells #[v1] 34 (0, 0))) (hb : w.heap[pb]? = some (.cells #[v2] 25 (0, 0))) (hne : pa ≠ pb) :
    CallsD Tryd.prog 41 #[.pointer (some ⟨pa, 0, none⟩), .pointer (some ⟨pb, 0, none⟩)] (.panicking ({ v := .iface 82 (.agg #[.int .i64 14]), recovered := false } :: older)) w fun e u' w' =>
      e = .returned (.tuple #[]) ∧ u' = .panicking ({ v := .iface 82 (.agg #[.int .i64 14]), recovered := true } :: older) ∧ Chg [pa, pb] w w' ∧ w'.heap[pa]? = some (.cells #[.pointer none] 34 (0, 0)) ∧ w'.heap[pb]? = some (.cells #[.int .i64 14] 25 (0, 0)) := by
  have hta := assertB_give 14
  have ha0 := blk_cell ha 0 _ rfl
  have hb0 := blk_cell hb 0 _ rfl
  have fa0 := blk_frozen ha 0
  have fb0 := blk_frozen hb 0
  have l1 := blk_lt ha
  have l2 := blk_lt hb
  have l3 : ¬ (pa = w.heap.size) := Nat.ne_of_lt l1
  have l4 : ¬ (pb = w.heap.size) := Nat.ne_of_lt l2
  have l5 : ¬ (w.heap.size = pa) := fun e => l3 e.symm
  have l6 : ¬ (w.heap.size = pb) := fun e => l4 e.symm
  have l7 : ¬ (pb = pa) := fun e => hne e.symm
  have HA := Lib.hid ha
  have HB := Lib.hid hb
  clear ha hb
  refine callsD_of_wpS Tryd.func41 rfl fun c₀ cs hu => ?_
  rw [Tryd.ntmps41]
  change Code.wpS Tryd.prog _ _ ⟨#[_, _, undef, undef, undef, undef, undef, undef, undef, undef, undef, undef, undef, undef, undef], []⟩ _ _
  apply wpS_seq
  apply wpS_region
  simp [wpOpsS, go_sem, recoverD, hu, Exit.thenS, hta]
  apply wpS_seq
  apply wpS_region
  simp [wpOpsS, go_sem, Exit.thenS]
  refine wpS_cond (t := true) (by simp [Act.eval]) ?_
  simp only [if_true]
  refine wpS_of_wp ?_
  go_wp2
  refine ⟨rfl, _, rfl, .tuple #[], by simp [results, Tryd.results41], rfl, rfl, ?_, ?_, ?_⟩
  · exact ((((Chg.refl [pa, pb] w).setCell (p := ⟨pa, 0, none⟩) (.inl (by simp)) _).setCell (p := ⟨pb, 0, none⟩) (.inl (by simp)) _).setCell (p := ⟨pb, 0, none⟩) (.inl (by simp)) _).alloc _
  · exact blk_alloc (blk_sets (blk_sets (set_blk HA.out) hne) hne)
  · exact blk_alloc (set_blk (set_blk (blk_sets HB.out l7)))
set_option maxHeartbeats 2000000 in
set_option maxRecDepth 100000 in
theorem catchB_x (pa pb : Nat) (x : Int) (hx : x ≠ 14) (v1 v2 : Value) (older : List PanicEntry) (w : World) (ha : w.heap[pa]? = some (.cells #[v1] 34 (0, 0))) (hb : w.heap[pb]? = some (.cells #[v2] 25 (0, 0))) (hne : pa ≠ pb) :
    CallsD Tryd.prog 41 #[.pointer (some ⟨pa, 0, none⟩), .pointer (some ⟨pb, 0, none⟩)] (.panicking ({ v := .iface 82 (.agg #[.int .i64 x]), recovered := false } :: older)) w fun e u' w' =>
      e = .returned (.tuple #[]) ∧ u' = .panicking ({ v := .iface 82 (.agg #[.int .i64 x]), recovered := true } :: older) ∧ Chg [pa, pb] w w' ∧ w'.heap[pa]? = some (.cells #[.pointer none] 34 (0, 0)) ∧ w'.heap[pb]? = some (.cells #[.int .i64 4] 25 (0, 0)) := by
  have hta := assertB_give x
  have q14 : (x == 14) = false := by simp [hx]
  have ha0 := blk_cell ha 0 _ rfl
  have hb0 := blk_cell hb 0 _ rfl
  have fa0 := blk_frozen ha 0
  have fb0 := blk_frozen hb 0
  have l1 := blk_lt ha
  have l2 := blk_lt hb
  have l3 : ¬ (pa = w.heap.size) := Nat.ne_of_lt l1
  have l4 : ¬ (pb = w.heap.size) := Nat.ne_of_lt l2
  have l5 : ¬ (w.heap.size = pa) := fun e => l3 e.symm
  have l6 : ¬ (w.heap.size = pb) := fun e => l4 e.symm
  have l7 : ¬ (pb = pa) := fun e => hne e.symm
  have HA := Lib.hid ha
  have HB := Lib.hid hb
  clear ha hb hx
  refine callsD_of_wpS Tryd.func41 rfl fun c₀ cs hu => ?_
  rw [Tryd.ntmps41]
  change Code.wpS Tryd.prog _ _ ⟨#[_, _, undef, undef, undef, undef, undef, undef, undef, undef, undef, undef, undef, undef, undef], []⟩ _ _
  apply wpS_seq
  apply wpS_region
  simp [wpOpsS, go_sem, recoverD, hu, Exit.thenS, hta]
  apply wpS_seq
  apply wpS_region
  simp [wpOpsS, go_sem, Exit.thenS]
  refine wpS_cond (t := true) (by simp [Act.eval]) ?_
  simp only [if_true]
  refine wpS_of_wp ?_
  go_wp2
  refine ⟨rfl, _, rfl, .tuple #[], by simp [results, Tryd.results41], rfl, rfl, ?_, ?_, ?_⟩
  · exact (((Chg.refl [pa, pb] w).setCell (p := ⟨pa, 0, none⟩) (.inl (by simp)) _).setCell (p := ⟨pb, 0, none⟩) (.inl (by simp)) _).alloc _
  · exact blk_alloc (blk_sets (set_blk HA.out) hne)
  · exact blk_alloc (set_blk (blk_sets HB.out l7))
end Go.Proofs.YtipfgghdoicdhaaDoor.W
namespace Go.Proofs.YtipfgghdoicdhaaDoor.W
open Go.RowKit
set_option linter.unusedVariables false
set_option linter.unusedSimpArgs false

def rowsFrom (d : DS) (first : Nat) : Nat → Nat → Option (List SRow)
  | 0, _ => some []
  | m + 1, k => match headOf (d.now (first + 8 * k)) with
    | none => none
    | some r => (rowsFrom d first m (k + 1)).map (r :: ·)
def DS.slots (d : DS) (first : Int) : Int × Option SS :=
  if first < 0 ∨ (d.n : Int) < first then (1, none) else if d.dead = true ∨ d.n = 0 then (14, none) else
  match rowsFrom d first.toNat ((d.n - first.toNat) / 8) 0 with
  | none => (4, none)
  | some rows => (0, some ⟨d, first.toNat, rows⟩)
def OpenPost (p : Nat) (S : List Nat) (w : World) (r : Int × Option SS) (e : Ending) (w' : World) : Prop := Chg [] w w' ∧ match r with
  | (c, none) => e = .returned (.tuple #[.pointer none, .int .i64 c])
  | (c, some s) => ∃ q U, e = .returned (.tuple #[.pointer (some ⟨q, 0, none⟩), .int .i64 c]) ∧ SlotsAt w' q p U s ∧ ∀ x ∈ U, x ∈ S ∨ w.heap.size ≤ x
theorem headOf_ok {b : List UInt8} {r : SRow} (h : headOf b = some r) : r.n ≤ 448 ∧ r.key.length ≤ 40 := by
  unfold headOf at h
  split at h
  · obtain rfl := Option.some.inj h
    exact ⟨by decide, by decide⟩
  · split at h
    · cases h
    · rename_i hn
      obtain rfl := Option.some.inj h
      have hn0 := eyeNum_nonneg (eyeNum b 0 1).2.1 (eyeNum b 0 1).2.2 2
      refine ⟨by dsimp only; omega, ?_⟩
      dsimp only
      unfold eyeRaw
      split
      · simp
      · split
        · simp
        · split
          · simp
          · split
            · simp
            · rw [List.length_take]; omega
theorem rowsFrom_len {d : DS} {first : Nat} : ∀ (m k : Nat) (rows : List SRow), rowsFrom d first m k = some rows → rows.length = m ∧ ∀ r ∈ rows, r.n ≤ 448 ∧ r.key.length ≤ 40 := by
  intro m
  induction m with
  | zero => intro k rows h; obtain rfl := Option.some.inj h; simp
  | succ m ih =>
    intro k rows h
    unfold rowsFrom at h
    cases hh : headOf (d.now (first + 8 * k)) with
    | none => rw [hh] at h; cases h
    | some r =>
      rw [hh] at h
      dsimp only at h
      obtain ⟨t, h1, rfl⟩ := Option.map_eq_some_iff.1 h
      obtain ⟨h2, h3⟩ := ih _ _ h1
      refine ⟨by simp [h2], fun x hx => ?_⟩
      rcases List.mem_cons.1 hx with rfl | hx
      · exact headOf_ok hh
      · exact h3 x hx

/-- While Open is at work. -/
structure OpenAt (w wr : World) (pa pb q p : Nat) (first : Nat) (rv : Value) (R : List (SRow × Value)) : Prop where
  chg : Chg [] w wr
  lo : w.heap.size ≤ pa ∧ w.heap.size ≤ pb
  ca : wr.heap[pa]? = some (.cells #[.pointer (some ⟨q, 0, none⟩)] 34 (0, 0))
  cb : wr.heap[pb]? = some (.cells #[.int .i64 0] 25 (0, 0))
  obj : ObjAt wr q 86 #[.pointer (some ⟨p, 0, none⟩), .int .i64 (first : Int), rv] [rowD rv R]
  new : ∀ x ∈ blks q [rowD rv R], w.heap.size ≤ x ∧ x ≠ pa ∧ x ≠ pb
  keys : ∀ x ∈ R, BytesAt wr x.2 x.1.key ∧ ∀ g, x.2.ownBlock = some g → g < wr.heap.size ∧ w.heap.size ≤ g ∧ g ∉ blks q [rowD rv R] ∧ g ≠ pa ∧ g ≠ pb
theorem OpenAt.keep {w wr w' : World} {pa pb q p first : Nat} {rv : Value} {R : List (SRow × Value)} (h : OpenAt w wr pa pb q p first rv R) (hc : Chg [] wr w') : OpenAt w w' pa pb q p first rv R :=
  ⟨h.chg.trans hc (by simp), h.lo, hc.keep h.ca (by simp), hc.keep h.cb (by simp), h.obj.keep hc (by simp), h.new, fun x hx => ⟨(h.keys x hx).1.chg hc (by simp), fun g hg => ⟨Nat.lt_of_lt_of_le ((h.keys x hx).2 g hg).1 hc.size, ((h.keys x hx).2 g hg).2⟩⟩⟩
theorem OpenAt.more {w wr w2 : World} {pa pb q p first : Nat} {rv rv' : Value} {R : List (SRow × Value)} (h : OpenAt w wr pa pb q p first rv R) (x : SRow × Value) (hg : wr.grownBy w2 rv.ownBlock) (hrow : w2.ownsRow 0 89 3 rv' (R.length + 1) (rcells R ++ rcell x))
    (hat : ∀ k, rv'.ownBlock = some k → rv.ownBlock = some k ∨ (wr.heap.size ≤ k)) (hx : BytesAt wr x.2 x.1.key) (hxU : ∀ g, x.2.ownBlock = some g → g < wr.heap.size ∧ w.heap.size ≤ g ∧ g ∉ blks q [rowD rv R] ∧ g ≠ pa ∧ g ≠ pb) :
    OpenAt w (w2.setCell ⟨q, 2, none⟩ rv') pa pb q p first rv' (R ++ [x]) := by
  have hR' : (rowD rv' (R ++ [x])).At w2 := by
    show w2.ownsRow 0 89 3 rv' (R ++ [x]).length (rcells (R ++ [x]))
    rw [List.length_append, rcells_app]
    exact hrow
  obtain ⟨g1, g2, g3⟩ := ObjAt.grow (a := []) (b := []) h.obj hg hR' hat
  simp only [List.nil_append] at g1 g2 g3
  have g4 := g1.setHead 2 rv'
  have hne := h.new
  have hpa : pa ∉ blks q [rowD rv R] := fun hm => (hne pa hm).2.1 rfl
  have hpb : pb ∉ blks q [rowD rv R] := fun hm => (hne pb hm).2.2 rfl
  have hqa : pa ≠ q := fun e => (hne q blks_head).2.1 e.symm
  have hqb : pb ≠ q := fun e => (hne q blks_head).2.2 e.symm
  have hc : Chg (blks q [rowD rv R]) wr (w2.setCell ⟨q, 2, none⟩ rv') := g3.setCell (p := ⟨q, 2, none⟩) (.inl blks_head) rv'
  have hbw : ∀ x ∈ blks q [rowD rv R], w.heap.size ≤ x := fun x hx => (hne x hx).1
  have hla := blk_lt h.ca
  have hlb := blk_lt h.cb
  refine ⟨h.chg.trans hc (fun x hx => .inr (hbw x hx)), h.lo, hc.keep h.ca hpa, hc.keep h.cb hpb, g4, fun x hx => ?_, fun y hy => ?_⟩
  · rcases g2 x hx with h1 | h1
    · exact hne x h1
    · exact ⟨Nat.le_trans h.chg.size h1, fun e => by rw [e] at h1; omega, fun e => by rw [e] at h1; omega⟩
  · have hout : ∀ g, g < wr.heap.size → g ∉ blks q [rowD rv R] → g ∉ blks q [rowD rv' (R ++ [x])] := fun g h1 h2 hm => by
      rcases g2 g hm with h3 | h3
      · exact h2 h3
      · omega
    rcases List.mem_append.1 hy with hy | hy
    · obtain ⟨k1, k2⟩ := h.keys y hy
      exact ⟨k1.chg hc (fun k hk => (k2 k hk).2.2.1), fun g hg => ⟨Nat.lt_of_lt_of_le (k2 g hg).1 hc.size, (k2 g hg).2.1, hout g (k2 g hg).1 (k2 g hg).2.2.1, (k2 g hg).2.2.2⟩⟩
    · obtain rfl : y = x := by simpa using hy
      exact ⟨hx.chg hc (fun k hk => (hxU k hk).2.2.1), fun g hg => ⟨Nat.lt_of_lt_of_le (hxU g hg).1 hc.size, (hxU g hg).2.1, hout g (hxU g hg).1 (hxU g hg).2.2.1, (hxU g hg).2.2.2⟩⟩
theorem OpenAt.done {w wr : World} {pa pb q p first : Nat} {S : List Nat} {d : DS} {rv : Value} {R : List (SRow × Value)} (h : OpenAt w wr pa pb q p first rv R) (hd : DiskAt w p S d) (hok : SS.Ok ⟨d, first, R.map (·.1)⟩) :
    ∀ w', Chg [pa, pb] wr w' → Chg [] w w' ∧ SlotsAt w' q p (S ++ blks q [rowD rv R]) ⟨d, first, R.map (·.1)⟩ ∧ ∀ x ∈ S ++ blks q [rowD rv R], x ∈ S ∨ w.heap.size ≤ x := fun w' hc => by
  have hlim : ∀ x ∈ S, x < w.heap.size := by
    obtain ⟨gn, gl, cn, cl, v, H⟩ := hd
    exact H.lim
  have hnp : ∀ x ∈ blks q [rowD rv R], x ∉ [pa, pb] := fun x hx hm => by
    rcases List.mem_cons.1 hm with h1 | h1
    · exact (h.new x hx).2.1 h1
    · exact (h.new x hx).2.2 (by simpa using h1)
  have hcw : Chg [] w w' := h.chg.trans hc (fun x hx => .inr (by
    rcases List.mem_cons.1 hx with h1 | h1
    · rw [h1]; exact h.lo.1
    · rw [show x = pb by simpa using h1]; exact h.lo.2))
  refine ⟨hcw, ⟨S, rv, R, h.obj.keep hc hnp, hd.keep hcw (by simp), rfl, fun x hx hm => ?_, fun x hx => ?_, fun x hx => List.mem_append_left _ hx, fun x hx => List.mem_append_right _ hx, fun x hx => ?_, hok⟩, fun x hx => ?_⟩
  · have a1 := (h.new x hx).1
    have a2 := hlim x hm
    omega
  · obtain ⟨k1, k2⟩ := h.keys x hx
    refine ⟨k1.chg hc (fun k hk hm => ?_), fun g hg => ⟨Nat.lt_of_lt_of_le (k2 g hg).1 hc.size, fun hm => ?_⟩⟩
    · obtain ⟨_, _, _, k3, k4⟩ := k2 k hk
      rcases List.mem_cons.1 hm with h1 | h1
      · exact k3 h1
      · exact k4 (by simpa using h1)
    · obtain ⟨_, k3, k4, _⟩ := k2 g hg
      rcases List.mem_append.1 hm with hm | hm
      · have := hlim g hm; omega
      · exact k4 hm
  · rcases List.mem_append.1 hx with hx | hx
    · exact Nat.lt_of_lt_of_le (hlim x hx) hcw.size
    · exact Nat.lt_of_lt_of_le (h.obj.lim x hx) hc.size
  · rcases List.mem_append.1 hx with hx | hx
    · exact .inl hx
    · exact .inr (h.new x hx).1
theorem facts_row : (Tryd.prog.info? 89).map (fun i => (i.zero.map (·.cells.size), i.size, i.bytes)) = some (some 3, 3, 40) := by kernel_rfl
end Go.Proofs.YtipfgghdoicdhaaDoor.W
