/- What Write does to the disk, by steps: the write that waits; the sector. -/
import Derived.Test.YtipfgghdoicdhaaDoorDEq
import Derived.Test.YtipfgghdoicdhaaDoorD2
import Derived.Deep.AppendLies
import Derived.Deep.RegionHeld3
import Derived.Laws.Cover3
import Derived.Great.Ranges
namespace Go.Proofs.YtipfgghdoicdhaaDoor.W
open Go.RowKit
set_option linter.unusedVariables false
set_option linter.unusedSimpArgs false

section
variable {P : Program} {ops : Array Oper} {Q : Exit → Act → World → Prop}
theorem wpList_buildTo {rest : List Oper} {o : Oper} {a : Act} {w : World} (hg : o.guard = none) (t : TypeId) (parts : Array (Nat × Operand)) (ho : o.op = .build t parts) (v : Value)
    (hrun : (Instr.build t (parts.map fun (i, x) => (i, a.eval x))).run P w = .ok v w) (h : wpList P ops Q rest (a.put o.dst v) w) : wpList P ops Q (o :: rest) a w :=
  wpList_plain hg fun _ hK => by
    unfold Oper.wp execOp
    simp only [ho, Sem.run_bind, hrun, Result.andThen_ok]
    exact hK _ _ h
theorem wpList_build1 {rest : List Oper} {o : Oper} {a : Act} {w : World} (hg : o.guard = none) (t : TypeId) (i : Nat) (x : Operand) (ho : o.op = .build t #[(i, x)]) (u v : Value) (hx : a.eval x = u)
    (hrun : (Instr.build t #[(i, u)]).run P w = .ok v w) (h : wpList P ops Q rest (a.put o.dst v) w) : wpList P ops Q (o :: rest) a w :=
  wpList_buildTo hg t _ ho v (by rw [← hx] at hrun; simpa using hrun) h
theorem wpList_build2 {rest : List Oper} {o : Oper} {a : Act} {w : World} (hg : o.guard = none) (t : TypeId) (i j : Nat) (x y : Operand) (ho : o.op = .build t #[(i, x), (j, y)]) (u u' v : Value) (hx : a.eval x = u) (hy : a.eval y = u')
    (hrun : (Instr.build t #[(i, u), (j, u')]).run P w = .ok v w) (h : wpList P ops Q rest (a.put o.dst v) w) : wpList P ops Q (o :: rest) a w :=
  wpList_buildTo hg t _ ho v (by rw [← hx, ← hy] at hrun; simpa using hrun) h
/-- 'var x T = v': a new variable, its value stored. -/
theorem wpList_var {rest : List Oper} {o1 o2 : Oper} {a : Act} {w : World} (g1 : o1.guard = none) (g2 : o2.guard = none) (t : TypeId) (x y : Operand) (h1 : o1.op = .alloc t) (h2 : o2.op = .store t x y) (N : Nat) (hN : w.heap.size = N) (c : Array Value)
    (hx : (a.put o1.dst (.pointer (some ⟨N, 0, none⟩))).eval x = .pointer (some ⟨N, 0, none⟩)) (hy : (a.put o1.dst (.pointer (some ⟨N, 0, none⟩))).eval y = .agg c)
    (i : TypeInfo) (z : Value) (hi : P.info? t = some i) (hz : i.zero = some z) (hzs : z.cells.size = c.size) (his : i.size = c.size) (hone : c.all (·.oneCell') = true)
    (h : wpList P ops Q rest ((a.put o1.dst (.pointer (some ⟨N, 0, none⟩))).put o2.dst undef) (w.alloc (.cells c t))) : wpList P ops Q (o1 :: o2 :: rest) a w := by
  subst hN
  refine wpList_plain g1 fun K hK => ?_
  have hst := run_storeAt_new (P := P) w t z.cells c (by rw [hi, Option.map_some, his]) hzs hone
  have h3 : wpList P ops Q (o2 :: rest) (a.put o1.dst (.pointer (some ⟨w.heap.size, 0, none⟩))) (w.alloc (.cells z.cells t)) := wpList_plain g2 fun K2 hK2 => by
    unfold Oper.wp execOp
    simp only [h2, hx, hy, Sem.run_bind, hst, Result.andThen_ok]
    exact hK2 _ _ h
  unfold Oper.wp execOp
  simp only [h1, Instr.alloc, zeroValue, typeInfo, run_program, hi, hz, newVar, newRow, run_newObj_alloc, Sem.run_pure, Sem.run_bind, Result.andThen_ok]
  exact hK _ _ h3
/-- A slice literal of one element that is an aggregate. -/
theorem wp_slice1 {o : Oper} {a : Act} {w : World} {K : Act → World → Prop} (t e : TypeId) (x : Operand) (ho : o.op = .buildSlice t 1 #[(0, x)]) (c : Array Value) (hx : a.eval x = .agg c)
    (i : TypeInfo) (z : Value) (hu : P.underlying t = some (.slice e)) (hi : P.info? e = some i) (hz : i.zero = some z) (his : i.size = c.size) (hpos : 0 < c.size) (hsm : c.size ≤ 1000)
    (h : K (a.put o.dst (.slice (some ⟨w.heap.size, 0, none⟩) 1 1)) (w.alloc (.cells c e))) : Oper.wp P o a w K Q := by
  refine wp_buildSlice t e 1 #[(0, x)] ho c i z hu hi hz (by omega) (by omega) ?_ h
  obtain ⟨cs, e1, e2, e3⟩ := fill_step (fun k => some (k * i.size, i.size)) ((Array.range (1 * i.size)).map (z.cells[· % z.cells.size]!)) 0 (.agg c) [] 0 i.size (by simp) his.symm (by simp)
  have hp : ((#[(0, x)] : Array (Nat × Operand)).map fun (k, y) => (k, a.eval y)).toList = [(0, .agg c)] := by simp [hx]
  rw [hp, e1, fill_nil]
  congr 1
  refine Array.ext (by rw [e2]; simp [his]) (fun j a1 b1 => ?_)
  have := e3 j
  rw [if_pos (by rw [his]; omega), Nat.sub_zero, Array.getElem?_eq_getElem a1] at this
  have hb : (Value.agg c).cells[j]? = some c[j] := Array.getElem?_eq_getElem b1
  rw [hb] at this
  exact Option.some.inj this
end

theorem wcells_len (x : Nat × List UInt8) (h : x.2.length = 64) : (wcells x).length = 65 := by simp [wcells, bvs_len, h]
theorem wcells_one (x : Nat × List UInt8) : ∀ u ∈ wcells x, u.oneCell' = true := by
  intro u hu
  unfold wcells at hu
  rcases List.mem_cons.1 hu with rfl | hu
  · rfl
  · exact bvs_one _ u hu

/-- A write more waits. -/
theorem DiskOk.more {w w2 : World} {p : Nat} {S : List Nat} {d : DS} {gn gl cn cl : Nat} {v v' : Value} {x : Nat × List UInt8} (h : DiskOk w p S d gn gl cn cl v) (hg : w.grownBy w2 v.ownBlock)
    (hrow : w2.ownsRow 0 79 65 v' (d.since.length + 1) (wsCells d.since ++ wcells x)) (hat : ∀ k, v'.ownBlock = some k → v.ownBlock = some k ∨ w.heap.size ≤ k) (hx : x.1 < d.n ∧ x.2.length = 64) :
    Did w (w2.setCell ⟨p, 2, none⟩ v') p S { d with since := d.since ++ [x] } := by
  obtain ⟨m1, m2, m3, m4⟩ := h.mem
  have hc0 : Chg v.ownBlock.toList w w2 := (Chg.refl _ w).grown hg (fun k hk => .inl (by rw [hk]; simp))
  have hpv : p ∉ v.ownBlock.toList := fun hm => (h.av p (by simpa using hm)).1 rfl
  have hp2 : w2.heap[p]? = _ := hc0.keep h.head hpv
  have hl := blk_lt h.head
  have hne : ∀ k, v'.ownBlock = some k → k ≠ p ∧ k ≠ gn ∧ k ≠ gl := by
    intro k hk
    rcases hat k hk with h1 | h1
    · exact h.av k h1
    · have := h.lim _ m1; have := h.lim _ m2; have := h.lim _ m3
      omega
  have hc1 : Chg (p :: v.ownBlock.toList) w (w2.setCell ⟨p, 2, none⟩ v') := (hc0.mono (fun x hx => .inl (List.mem_cons_of_mem _ hx))).setCell (.inl (by simp)) _
  have out : ∀ k, k ∈ S → k ≠ p → v.ownBlock ≠ some k → (w2.setCell ⟨p, 2, none⟩ v').heap[k]? = w.heap[k]? := fun k hk h1 h2 => hc1.block k (h.lim k hk) (by
    intro hm
    rcases List.mem_cons.1 hm with e | e
    · exact h1 e
    · exact h2 (by simpa using e))
  refine ⟨S ++ v'.ownBlock.toList, ⟨gn, gl, cn, cl, v', set_blk hp2, ?_, ?_, ?_, ?_, h.few, h.capn, h.capl, h.fuse, h.ap, hne, ⟨?_, ?_, ?_, fun k hk => ?_⟩, fun k hk => ?_⟩, fun k hk => ?_, hc1.mono (fun k hk => .inl ?_)⟩
  · exact h.now.keep (out gn m2 h.ap.1.symm (fun e => (h.av gn e).2.1 rfl))
  · exact h.lasts.keep (out gl m3 h.ap.2.1.symm (fun e => (h.av gl e).2.2 rfl))
  · have hr := row_keep hrow (w' := w2.setCell ⟨p, 2, none⟩ v') (fun k hk => Below.heap_setCell w2 _ _ k (hne k hk).1)
    rw [wsCells_app, List.length_append]
    exact hr
  · intro y hy
    rcases List.mem_append.1 hy with hy | hy
    · exact h.waits y hy
    · simp at hy; subst hy; exact hx
  · exact List.mem_append_left _ m1
  · exact List.mem_append_left _ m2
  · exact List.mem_append_left _ m3
  · exact List.mem_append_right _ (by rw [hk]; simp)
  · rcases List.mem_append.1 hk with hk | hk
    · exact Nat.lt_of_lt_of_le (h.lim k hk) hc1.size
    · have := (World.ownsRow.lt hrow k (by simpa using hk)).2
      simpa [World.setCell] using this
  · rcases List.mem_append.1 hk with hk | hk
    · exact .inl hk
    · rcases hat k (by simpa using hk) with h1 | h1
      · exact .inl (m4 k h1)
      · exact .inr h1
  · rcases List.mem_cons.1 hk with rfl | hk
    · exact m1
    · exact m4 k (by simpa using hk)

theorem DiskOk.drew {w : World} {p : Nat} {S : List Nat} {d : DS} {gn gl cn cl : Nat} {v : Value} (h : DiskOk w p S d gn gl cn cl v) : DiskOk w.drew p S d gn gl cn cl v :=
  ⟨h.head, h.now.keep rfl, h.lasts.keep rfl, row_keep h.since (fun _ _ => rfl), h.waits, h.few, h.capn, h.capl, h.fuse, h.ap, h.av, h.mem, h.lim⟩
theorem Did.pre {w0 w w' : World} {p : Nat} {S : List Nat} {d : DS} (hc : Chg [] w0 w) (h : Did w w' p S d) : Did w0 w' p S d := by
  obtain ⟨S', h1, h2, h3⟩ := h
  exact ⟨S', h1, fun x hx => (h2 x hx).imp id (fun h => Nat.le_trans hc.size h), (hc.mono (by simp)).trans h3 (fun x hx => .inl hx)⟩
theorem Did.glue {w w1 w2 : World} {p : Nat} {S S1 : List Nat} {d : DS} (hs : ∀ x ∈ S1, x ∈ S ∨ w.heap.size ≤ x) (hc : Chg S w w1) (h : Did w1 w2 p S1 d) : Did w w2 p S d := by
  obtain ⟨S2, b1, b2, b3⟩ := h
  refine ⟨S2, b1, fun x hx => ?_, hc.trans b3 hs⟩
  rcases b2 x hx with h | h
  · exact hs x h
  · exact .inr (Nat.le_trans hc.size h)
theorem upd_same (f : Nat → List UInt8) (k : Nat) (s : List UInt8) (h : f k = s) : upd f k s = f := by
  funext j
  unfold upd
  split
  · subst_vars; rfl
  · rfl
theorem range_tail {w : World} {N o : Nat} {v : Value} {l : List Value} (h : w.rangeAt N o (v :: l)) : w.rangeAt N (o + 1) l := fun j u hj => by
  have := h (j + 1) u (by simpa using hj)
  rw [← this]
  congr 2
  omega
theorem range_keep {w w' : World} {N o : Nat} {l : List Value} (h : w.rangeAt N o l) (hb : w'.heap[N]? = w.heap[N]?) : w'.rangeAt N o l := fun j u hj => (World.cell?_of_block (w := w) (a := ⟨N, o + j, none⟩) hb).trans (h j u hj)
/-- 'd.since = append(d.since, w)', the write just laid into a new block. -/
theorem wp_app_wr {o : Oper} {a : Act} {K : Act → World → Prop} {Q : Exit → Act → World → Prop} (s y : Operand) (ho : o.op = .call { callee := .builtin .append, args := #[s, y], argTypes := #[72, 72] })
    {w : World} {p : Nat} {S : List Nat} {d : DS} {gn gl cn cl : Nat} {v : Value} (h : DiskOk w p S d gn gl cn cl v) (x : Nat × List UInt8) (hx : x.1 < d.n ∧ x.2.length = 64) (hl : d.since.length ≤ 1000000)
    (hs : a.eval s = v) (hy : a.eval y = .slice (some ⟨w.heap.size, 0, none⟩) 1 1)
    (hk : ∀ g cap w2, w2.cell? ⟨p, 2, none⟩ = some v → w2.frozen? ⟨p, 2, none⟩ = false → p < w2.heap.size → Hid (Did w (w2.setCell ⟨p, 2, none⟩ (.slice (some ⟨g, 0, none⟩) (d.since.length + 1) cap)) p S { d with since := d.since ++ [x] }) → K (a.put o.dst (.slice (some ⟨g, 0, none⟩) (d.since.length + 1) cap)) w2) :
    Oper.wp Tryd.prog o a (w.alloc (.cells (wcells x).toArray 79)) K Q := by
  obtain ⟨i, z, hi, hz, h1, h2, h3⟩ := info_three facts_wr
  have hlen := wcells_len x hx.2
  refine wp_append_lies _ s y 72 ho 0 79 i z 65 72 Tryd.underlying72 hi hz h2 h3 h1 (by omega) v d.since.length (wsCells d.since) hs (h.since.alloc _) ⟨w.heap.size, 0, none⟩ 1 1 (wcells x) hy (by rw [hlen])
    (fun j u hj => by rw [add_none, Nat.zero_add]; exact blk_cell (heap_alloc_new w _) j u (by simpa using hj)) (wcells_one _) (by omega) (by unfold maxLen; omega) (by omega) (Nat.zero_le _) _ rfl ?_
  intro g cap w2 hrow hg hat hlt
  have hg' : w.grownBy w2 v.ownBlock := grownBy_trans (World.grownBy_alloc w _ _) hg
  have hpb : w2.heap[p]? = w.heap[p]? := hg'.block p (blk_lt h.head) (fun e => (h.av p e.symm).1 rfl)
  have hp2 := hpb.trans h.head
  refine hk g cap w2 (blk_cell hp2 2 _ rfl) (blk_frozen hp2 2) (blk_lt hp2) (Lib.hid (h.more hg' hrow (fun k hk => ?_) hx))
  rcases hat with h4 | h4
  · simp [Value.ownBlock] at hk; subst hk; exact .inl h4
  · simp [Value.ownBlock] at hk; subst hk; right; rw [h4]; simp
/-- A sector is written. -/
theorem DiskOk.put_now {w : World} {p : Nat} {S : List Nat} {d : DS} {gn gl cn cl : Nat} {v : Value} (h : DiskOk w p S d gn gl cn cl v) (k : Nat) (s : List UInt8) (hk : k < d.n) (hs : s.length = 64) :
    Did w (w.setCells gn (k * 64) (bvs s)) p S { d with now := upd d.now k s } := by
  obtain ⟨m1, m2, m3, m4⟩ := h.mem
  have hc : Chg [gn] w (w.setCells gn (k * 64) (bvs s)) := (Chg.refl _ w).setCells (.inl (by simp)) _
  refine ⟨S, ⟨gn, gl, cn, cl, v, hc.keep h.head (by simp; exact h.ap.1), h.now.set k s hk hs, h.lasts.keep (setCells_far _ _ _ _ (fun e => h.ap.2.2 e.symm)), row_keep h.since (fun g hg => setCells_far _ _ _ _ (h.av g hg).2.1),
    h.waits, h.few, h.capn, h.capl, h.fuse, h.ap, h.av, h.mem, fun x hx => Nat.lt_of_lt_of_le (h.lim x hx) hc.size⟩, fun x hx => .inl hx, hc.mono (fun x hx => .inl (by simp at hx; rw [hx]; exact m2))⟩
end Go.Proofs.YtipfgghdoicdhaaDoor.W
