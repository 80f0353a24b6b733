/- Texts laid together. -/
import Derived.Test.YtdkhmfcfihbjeaaGreatDoorDL6
import Derived.Test.YtdkhmfcfihbjeaaGreatDoorDL2
import Derived.Test.YtdkhmfcfihbjeaaGreatDoorDL3
import Derived.LoopTactic
import Derived.Test.YtdkhmfcfihbjeaaGreatDoorDL1
import Derived.Test.YtdkhmfcfihbjeaaGreatDoorDL4
import Derived.Test.YtdkhmfcfihbjeaaGreatDoorDL5
import Derived.Deep.MidRow
/- Requests that came in; the laws' Small and Request. -/
namespace Go.Proofs.YtdkhmfcfihbjeaaGreatDoor.W
open Go.RowKit Go.ChangeShapes Go.WideShapes
set_option linter.unusedVariables false
set_option linter.unusedSimpArgs false

structure RqIn (w : World) (r : Rq) (bv : Value) : Prop where
  came : Came w bv r.b
  long : r.b.length ≤ maxLen
  wk : okW r.k
  wx : okD r.x
instance : Inhabited (Rq × Value) := ⟨⟨0, ⟨0, 0, 0, 0⟩, []⟩, .slice none 0 0⟩
structure RqAt (w : World) (g p : Nat) (r : Rq × Value) : Prop where
  c0 : w.cell? ⟨g, p, none⟩ = some (.int .i64 r.1.k)
  c1 : w.cell? ⟨g, p + 1, none⟩ = some (.int .i64 r.1.x.c)
  c2 : w.cell? ⟨g, p + 2, none⟩ = some (.int .i64 r.1.x.l)
  c3 : w.cell? ⟨g, p + 3, none⟩ = some (.int .i64 r.1.x.n)
  c4 : w.cell? ⟨g, p + 4, none⟩ = some (.int .i64 r.1.x.i)
  c5 : w.cell? ⟨g, p + 5, none⟩ = some r.2
  inn : RqIn w r.1 r.2
def RqsAt (w : World) (a : Option Addr) (n : Nat) (f : Nat → Rq × Value) : Prop := n = 0 ∨ ∃ g o, a = some ⟨g, o, none⟩ ∧ ∀ i, i < n → RqAt w g (o + i * 6) (f i)
theorem RqIn.keep {w w' : World} {r : Rq} {bv : Value} (h : RqIn w r bv) (hc : Chg [] w w') : RqIn w' r bv := ⟨h.came.chg hc, h.long, h.wk, h.wx⟩
theorem RqAt.keep {w w' : World} {g p : Nat} {r : Rq × Value} (h : RqAt w g p r) (hc : Chg [] w w') : RqAt w' g p r :=
  ⟨hc.cell h.c0 (by simp), hc.cell h.c1 (by simp), hc.cell h.c2 (by simp), hc.cell h.c3 (by simp), hc.cell h.c4 (by simp), hc.cell h.c5 (by simp), h.inn.keep hc⟩
theorem RqsAt.keep {w w' : World} {a : Option Addr} {n : Nat} {f : Nat → Rq × Value} (h : RqsAt w a n f) (hc : Chg [] w w') : RqsAt w' a n f := by
  rcases h with h | ⟨g, o, rfl, h⟩
  · exact .inl h
  · exact .inr ⟨g, o, rfl, fun i hi => (h i hi).keep hc⟩
section
variable {H : Type} {enc : TypeId × Value → H} {w : World} {base : Nat} {held : Bool}
theorem fieldsQ : ∃ f0 f1 f2 : Field, Tryz.prog.underlying 42 = some (.struct #[f0, f1, f2]) ∧ f0.offset = 0 ∧ f1.offset = 1 ∧ f2.offset = 5 ∧
    Tryz.prog.underlying f0.type = some (.int .i64) ∧ f1.type = 38 ∧ f2.type = 30 ∧ Tryz.prog.cellsOf f0.type = 1 ∧ Tryz.prog.cellsOf f2.type = 1 :=
  ⟨_, _, _, Tryz.underlying42, rfl, rfl, rfl, by kernel_rfl, rfl, rfl, by kernel_rfl, by kernel_rfl⟩
theorem cellsQ : Tryz.prog.cellsOf 42 = 6 := by kernel_rfl
theorem open_rqc {fuel : Nat} {v0 v1 v2 v3 v4 v5 : Value} {x : DataW H × List MemPlace} (h : DataW.trod enc Tryz.prog w base (fun _ => true) held fuel 42 [v0, v1, v2, v3, v4, v5] = some x) : ∃ r : Rq, v0 = .int .i64 r.k ∧ v1 = .int .i64 r.x.c ∧ v2 = .int .i64 r.x.l ∧ v3 = .int .i64 r.x.n ∧ v4 = .int .i64 r.x.i ∧ RqIn w r v5 := by
  obtain ⟨f0, f1, f2, hs, o0, o1, o2, t0, t1, t2, c0, c2⟩ := fieldsQ
  obtain ⟨xs, k, hk, hxy, _, hxl, hf⟩ := DataW.trod_struct hs h
  match xs, hxl with
  | [y0, y1, y2], _ =>
    have g0 := hf 0 f0 rfl
    have g1 := hf 1 f1 rfl
    have g2 := hf 2 f2 rfl
    rw [t1] at g1
    simp [o0, o1, o2, c0, c2, cells_id] at g0 g1 g2
    rw [t2] at g2
    obtain ⟨z0, q0, _, z0w⟩ := DataW.trod_int t0 g0
    obtain ⟨y, hy, rfl, rfl, rfl, rfl⟩ := open_idc g1
    obtain ⟨z3, l3, q3, m3, ml⟩ := open_came g2
    simp at q0 q3
    subst q0; subst q3
    refine ⟨⟨z0, y, l3⟩, rfl, rfl, rfl, rfl, rfl, m3, ml, ?_, hy⟩
    first | exact z0w | exact z0w.1
set_option maxRecDepth 100000 in
theorem open_rq {r : Reach} {b0 : Nat} {v : Value} {d : DataW H} {p : List MemPlace} (hv : Value.okWide Tryz.prog w r b0 42 v) (h : DataW.Trod enc Tryz.prog w base (fun _ => true) held 42 v d p) : ∃ (r : Rq) (bv : Value), RqIn w r bv ∧ v = rqV r bv := by
  obtain ⟨f0, f1, f2, hs, _⟩ := fieldsQ
  obtain ⟨cs, rfl, hsz⟩ := okWide_struct hs hv
  rw [cellsQ] at hsz
  obtain ⟨fuel, hf⟩ := h
  have hl : cs.toList.length = 6 := by simpa using hsz
  match hcs : cs.toList, hl with
  | [v0, v1, v2, v3, v4, v5], _ =>
    have hf' : DataW.trod enc Tryz.prog w base (fun _ => true) held fuel 42 [v0, v1, v2, v3, v4, v5] = some (d, p) := by rw [← hcs]; exact hf
    obtain ⟨y, rfl, rfl, rfl, rfl, rfl, hy⟩ := open_rqc hf'
    refine ⟨y, v5, hy, ?_⟩
    have : cs = (rqL y v5).toArray := Array.ext' (by rw [hcs]; rfl)
    rw [this]; rfl
end
theorem ret_rq1 {fn : Func} {p : Tmp} (h : fn.results = #[.cell p 40]) (tmps : Array Value) {w : World} {b t : Nat} {r : Rq} {bv : Value} (hp : tmps.getD p undef = .pointer (some ⟨b, 0, none⟩)) (hb : w.heap[b]? = some (.cells (rqL r bv).toArray t (0, 0))) :
    (results fn tmps).run Tryz.prog w = .ok (rqV r bv) w := by
  have hl := run_loadVar_row (P := Tryz.prog) w b t 40 (rqL r bv).toArray (0, 0) _ hb Tryz.underlying40 rfl (rq_size _ _)
  have he : (results fn tmps).run Tryz.prog w = ((asAddr (tmps.getD p undef)).run Tryz.prog w).andThen fun a w₁ => (loadVar 40 a).run Tryz.prog w₁ := by
    simp only [results, h]
    simp [Sem.run_bind, Result.andThen]
  rw [he, hp]
  simp only [asAddr, Sem.run_pure, Result.andThen_ok, hl]
  rfl
set_option maxHeartbeats 4000000 in
set_option maxRecDepth 100000 in
/-- Request: the reference's as ours. -/
theorem request20_any (r : Rq) (a : Option Addr) (n c : Nat) (w : World) : Calls Tryz.prog 13 #[.agg #[.int .i64 r.k, .int .i64 r.x.c, .int .i64 r.x.l, .int .i64 r.x.n, .int .i64 r.x.i, .slice a n c]] w fun e w' => e = .returned (.agg #[.int .i64 r.k, .int .i64 r.x.c, .int .i64 r.x.l, .int .i64 r.x.n, .int .i64 r.x.i, .slice a n c]) ∧ Chg [] w w' := by
  obtain ⟨k, ⟨xc, xl, xn, xi⟩, b⟩ := r
  dsimp only
  have HC := Lib.hid (((Chg.refl [] w).alloc (.cells #[.int .i64 k, .int .i64 xc, .int .i64 xl, .int .i64 xn, .int .i64 xi, .slice a n c] 42)).alloc (.cells #[.int .i64 k, .int .i64 xc, .int .i64 xl, .int .i64 xn, .int .i64 xi, .slice a n c] 40))
  have HX : Hid (((w.alloc (.cells #[.int .i64 k, .int .i64 xc, .int .i64 xl, .int .i64 xn, .int .i64 xi, .slice a n c] 42)).alloc (.cells #[.int .i64 k, .int .i64 xc, .int .i64 xl, .int .i64 xn, .int .i64 xi, .slice a n c] 40)).heap[w.heap.size + 1]? = some (.cells #[.int .i64 k, .int .i64 xc, .int .i64 xl, .int .i64 xn, .int .i64 xi, .slice a n c] 40 (0, 0))) := Lib.hid (heap_at (by simp))
  go_enter Tryz.func13, Tryz.ntmps13
  go_wp2_with fail
  refine bodyPost_ret (ret_rq1 (r := ⟨k, ⟨xc, xl, xn, xi⟩, b⟩) (bv := .slice a n c) rfl _ rfl HX.out) rfl ⟨rfl, HC.out⟩
end Go.Proofs.YtdkhmfcfihbjeaaGreatDoor.W

/- The reference's disk in memory; op. -/
namespace Go.Proofs.YtdkhmfcfihbjeaaGreatDoor.W
open Go.RowKit
set_option linter.unusedVariables false
set_option linter.unusedSimpArgs false

def rrows (n : Nat) (nv lv av wv : Value) (NV LV AV WV : List Value) : List RowD := [⟨30, 1, nv, n, NV⟩, ⟨30, 1, lv, n, LV⟩, ⟨3, 1, av, AV.length, AV⟩, ⟨30, 1, wv, WV.length, WV⟩]
def rcs (d : DS) (nv lv av wv : Value) : Array Value := #[nv, lv, av, wv, .int .i64 (d.ops : Int), .int .i64 d.fuse, .bool d.dead]
/-- The reference's disk in block m; V: what may be written; F: all its blocks. -/
structure RDiskOk (w : World) (m : Nat) (V F : List Nat) (d : DS) (nv lv av wv : Value) (NV LV AV WV : List Value) : Prop where
  obj : ObjAt w m 134 (rcs d nv lv av wv) (rrows d.n nv lv av wv NV LV AV WV)
  now : ∀ k, k < d.n → (d.now k).length = 64 ∧ BytesAt w (NV.getD k undef) (d.now k) ∧ ∀ g, (NV.getD k undef).ownBlock = some g → g ∈ F ∧ g ∉ V
  lasts : ∀ c ∈ LV, No8 c
  ats : (∀ c ∈ AV, No8 c) ∧ AV.length ≤ d.since.length
  wrote : (∀ c ∈ WV, No8 c) ∧ WV.length ≤ d.since.length
  few : d.n ≤ 4160
  fuse : -1 ≤ d.fuse ∧ d.fuse ≤ 9223372036854775807
  mem : V = blks m (rrows d.n nv lv av wv NV LV AV WV)
  no8 : ∀ x ∈ V, NoU8 w x
  sub : ∀ x ∈ V, x ∈ F
  lim : ∀ x ∈ F, x < w.heap.size
def RDiskAt (w : World) (m : Nat) (V F : List Nat) (d : DS) : Prop := ∃ nv lv av wv NV LV AV WV, RDiskOk w m V F d nv lv av wv NV LV AV WV
theorem RDiskAt.keep {w w' : World} {m : Nat} {V F T : List Nat} {d : DS} (h : RDiskAt w m V F d) (hc : Chg T w w') (ha : ∀ x ∈ F, x ∉ T) : RDiskAt w' m V F d := by
  obtain ⟨nv, lv, av, wv, NV, LV, AV, WV, h⟩ := h
  refine ⟨nv, lv, av, wv, NV, LV, AV, WV, h.obj.keep hc (fun x hx => ha x (h.sub x (by rw [h.mem]; exact hx))), fun k hk => ?_, h.lasts, h.ats, h.wrote, h.few, h.fuse, h.mem, fun x hx => (h.no8 x hx).keep (hc.block x (h.lim x (h.sub x hx)) (ha x (h.sub x hx))), h.sub, fun x hx => Nat.lt_of_lt_of_le (h.lim x hx) hc.size⟩
  obtain ⟨h1, h2, h3⟩ := h.now k hk
  exact ⟨h1, h2.chg hc (fun g hg => ha g (h3 g hg).1), h3⟩
theorem RDiskOk.keep0 {w w' : World} {m : Nat} {V F : List Nat} {d : DS} {nv lv av wv : Value} {NV LV AV WV : List Value} (h : RDiskOk w m V F d nv lv av wv NV LV AV WV) (hc : Chg [] w w') : RDiskOk w' m V F d nv lv av wv NV LV AV WV := by
  refine ⟨h.obj.keep hc (by simp), fun k hk => ?_, h.lasts, h.ats, h.wrote, h.few, h.fuse, h.mem, fun x hx => (h.no8 x hx).keep (hc.block x (h.lim x (h.sub x hx)) (by simp)), h.sub, fun x hx => Nat.lt_of_lt_of_le (h.lim x hx) hc.size⟩
  obtain ⟨h1, h2, h3⟩ := h.now k hk
  exact ⟨h1, h2.chg hc (by simp), h3⟩
theorem RDiskAt.lim {w : World} {m : Nat} {V F : List Nat} {d : DS} (h : RDiskAt w m V F d) : (∀ x ∈ F, x < w.heap.size) ∧ (∀ x ∈ V, x ∈ F) ∧ ∀ x ∈ V, NoU8 w x := by
  obtain ⟨nv, lv, av, wv, NV, LV, AV, WV, h⟩ := h
  exact ⟨h.lim, h.sub, h.no8⟩
/-- What doing with it leaves. -/
def RDid (w w' : World) (m : Nat) (V F : List Nat) (d : DS) : Prop := ∃ V' F', RDiskAt w' m V' F' d ∧ (∀ x ∈ V', x ∈ V ∨ w.heap.size ≤ x) ∧ (∀ x ∈ F', x ∈ F ∨ w.heap.size ≤ x) ∧ Chg V w w'
theorem RDid.same {w : World} {m : Nat} {V F : List Nat} {d : DS} (h : RDiskAt w m V F d) : RDid w w m V F d := ⟨V, F, h, fun x hx => .inl hx, fun x hx => .inl hx, Chg.refl _ _⟩
theorem RDid.glue {w w1 w2 : World} {m : Nat} {V F V1 F1 : List Nat} {d : DS} (hv : ∀ x ∈ V1, x ∈ V ∨ w.heap.size ≤ x) (hf : ∀ x ∈ F1, x ∈ F ∨ w.heap.size ≤ x) (hc : Chg V w w1) (h : RDid w1 w2 m V1 F1 d) : RDid w w2 m V F d := by
  obtain ⟨V2, F2, b1, b2, b3, b4⟩ := h
  refine ⟨V2, F2, b1, fun x hx => ?_, fun x hx => ?_, hc.trans b4 hv⟩
  · rcases b2 x hx with h | h
    · exact hv x h
    · exact .inr (Nat.le_trans hc.size h)
  · rcases b3 x hx with h | h
    · exact hf x h
    · exact .inr (Nat.le_trans hc.size h)
theorem RDid.pre {w0 w w' : World} {m : Nat} {V F : List Nat} {d : DS} (hc : Chg [] w0 w) (h : RDid w w' m V F d) : RDid w0 w' m V F d := RDid.glue (fun x hx => .inl hx) (fun x hx => .inl hx) (hc.mono (by simp)) h
theorem RDid.trans {w w1 w2 : World} {m : Nat} {V F : List Nat} {d1 d2 : DS} (h1 : RDid w w1 m V F d1) (h2 : ∀ V1 F1, RDiskAt w1 m V1 F1 d1 → RDid w1 w2 m V1 F1 d2) : RDid w w2 m V F d2 := by
  obtain ⟨V1, F1, a1, a2, a3, a4⟩ := h1
  exact RDid.glue a2 a3 a4 (h2 V1 F1 a1)
theorem RDiskOk.head {w : World} {m : Nat} {V F : List Nat} {d : DS} {nv lv av wv : Value} {NV LV AV WV : List Value} (h : RDiskOk w m V F d nv lv av wv NV LV AV WV) : w.heap[m]? = some (.cells #[nv, lv, av, wv, .int .i64 (d.ops : Int), .int .i64 d.fuse, .bool d.dead] 134 (0, 0)) := h.obj.head
/-- A store into a counter. -/
theorem RDiskOk.put {w w' : World} {m : Nat} {V F : List Nat} {d d' : DS} {nv lv av wv : Value} {NV LV AV WV : List Value} (h : RDiskOk w m V F d nv lv av wv NV LV AV WV) (hc : Chg [m] w w') (hn : NoU8 w' m)
    (hh : w'.heap[m]? = some (.cells (rcs d' nv lv av wv) 134 (0, 0))) (e1 : d'.n = d.n) (e2 : d'.now = d.now) (e3 : d'.since = d.since) (e5 : -1 ≤ d'.fuse ∧ d'.fuse ≤ 9223372036854775807) : RDid w w' m V F d' := by
  have hmV : m ∈ V := by rw [h.mem]; exact blks_head
  have hNV : ∀ k, k < d.n → ∀ g, (NV.getD k undef).ownBlock = some g → g ∉ [m] := fun k hk g hg hm => (h.now k hk).2.2 g hg |>.2 (by rw [List.mem_singleton.1 hm]; exact hmV)
  refine ⟨V, F, ⟨nv, lv, av, wv, NV, LV, AV, WV, ⟨hh, fun r hr => ?_, by rw [e1]; exact h.obj.apart⟩, fun k hk => ?_, h.lasts, by rw [e3]; exact h.ats, by rw [e3]; exact h.wrote, by rw [e1]; exact h.few, e5, by rw [e1]; exact h.mem, fun x hx => ?_, h.sub, fun x hx => Nat.lt_of_lt_of_le (h.lim x hx) hc.size⟩, fun x hx => .inl hx, fun x hx => .inl hx, hc.mono (fun x hx => .inl (by rw [List.mem_singleton.1 hx]; exact hmV))⟩
  · rw [e1] at hr
    exact row_keep (h.obj.rows r hr) (fun g hg => hc.block g (World.ownsRow.lt (h.obj.rows r hr) g hg).2 (by
      intro hm
      exact h.obj.row_ne hr hg (List.mem_singleton.1 hm)))
  · rw [e1] at hk
    rw [e2]
    obtain ⟨h1, h2, h3⟩ := h.now k hk
    exact ⟨h1, h2.chg hc (hNV k hk), h3⟩
  · by_cases hxm : x = m
    · rw [hxm]; exact hn
    · exact (h.no8 x hx).keep (hc.block x (h.lim x (h.sub x hx)) (by simp; exact hxm))

end Go.Proofs.YtdkhmfcfihbjeaaGreatDoor.W

/- The reference's disk: its fields are set. -/
namespace Go.Proofs.YtdkhmfcfihbjeaaGreatDoor.W
open Go.RowKit
set_option linter.unusedVariables false
set_option linter.unusedSimpArgs false

/-- A field that is a row is another row: grown, or new. -/
theorem ObjAt.field {w w2 : World} {p t : Nat} {cs : Array Value} {a b : List RowD} {r r' : RowD} (h : ObjAt w p t cs (a ++ r :: b)) (j : Nat) (hg : w.grownBy w2 r.v.ownBlock) (hrow : r'.At w2)
    (hat : ∀ k, r'.v.ownBlock = some k → r.v.ownBlock = some k ∨ w.heap.size ≤ k) : ObjAt (w2.setCell ⟨p, j, none⟩ r'.v) p t (cs.setIfInBounds j r'.v) (a ++ r' :: b) ∧ (∀ x ∈ blks p (a ++ r' :: b), x ∈ blks p (a ++ r :: b) ∨ w.heap.size ≤ x) ∧ Chg (blks p (a ++ r :: b)) w (w2.setCell ⟨p, j, none⟩ r'.v) := by
  obtain ⟨g1, g2, g3⟩ := h.grow hg hrow hat
  exact ⟨g1.setHead j r'.v, g2, g3.setCell (p := ⟨p, j, none⟩) (.inl blks_head) _⟩
theorem RDiskOk.turn {w w3 : World} {m : Nat} {V F : List Nat} {d d' : DS} {nv lv av wv av' wv' : Value} {NV LV AV WV AV' WV' : List Value} (h : RDiskOk w m V F d nv lv av wv NV LV AV WV)
    (hobj : ObjAt w3 m 134 (rcs d' nv lv av' wv') (rrows d'.n nv lv av' wv' NV LV AV' WV')) (hb : ∀ x ∈ blks m (rrows d'.n nv lv av' wv' NV LV AV' WV'), x ∈ V ∨ w.heap.size ≤ x) (hc : Chg V w w3)
    (h8 : ∀ x ∈ blks m (rrows d'.n nv lv av' wv' NV LV AV' WV'), NoU8 w3 x) (en : d'.n = d.n) (enow : d'.now = d.now) (ef : d'.fuse = d.fuse) (hA : (∀ c ∈ AV', No8 c) ∧ AV'.length ≤ d'.since.length) (hW : (∀ c ∈ WV', No8 c) ∧ WV'.length ≤ d'.since.length) :
    RDiskOk w3 m (blks m (rrows d'.n nv lv av' wv' NV LV AV' WV')) (F ++ blks m (rrows d'.n nv lv av' wv' NV LV AV' WV')) d' nv lv av' wv' NV LV AV' WV' := by
  refine ⟨hobj, fun k hk => ?_, h.lasts, hA, hW, by rw [en]; exact h.few, by rw [ef]; exact h.fuse, rfl, h8, fun x hx => List.mem_append_right _ hx, fun x hx => ?_⟩
  · rw [en] at hk
    rw [enow]
    obtain ⟨h1, h2, h3⟩ := h.now k hk
    refine ⟨h1, h2.chg hc (fun g hg => (h3 g hg).2), fun g hg => ⟨List.mem_append_left _ (h3 g hg).1, fun hm => ?_⟩⟩
    rcases hb g hm with h4 | h4
    · exact (h3 g hg).2 h4
    · have := h.lim g (h3 g hg).1; omega
  · rcases List.mem_append.1 hx with hx | hx
    · exact Nat.lt_of_lt_of_le (h.lim x hx) hc.size
    · exact hobj.lim x hx
theorem RDiskOk.row {w : World} {m : Nat} {V F : List Nat} {d : DS} {nv lv av wv : Value} {NV LV AV WV : List Value} (h : RDiskOk w m V F d nv lv av wv NV LV AV WV) : w.ownsRow 0 30 1 nv d.n NV ∧ w.ownsRow 0 30 1 lv d.n LV ∧ w.ownsRow 0 3 1 av AV.length AV ∧ w.ownsRow 0 30 1 wv WV.length WV :=
  ⟨h.obj.rows _ (by simp [rrows] : (⟨30, 1, nv, d.n, NV⟩ : RowD) ∈ _), h.obj.rows _ (by simp [rrows] : (⟨30, 1, lv, d.n, LV⟩ : RowD) ∈ _), h.obj.rows _ (by simp [rrows] : (⟨3, 1, av, AV.length, AV⟩ : RowD) ∈ _), h.obj.rows _ (by simp [rrows] : (⟨30, 1, wv, WV.length, WV⟩ : RowD) ∈ _)⟩
theorem RDiskOk.in {w : World} {m : Nat} {V F : List Nat} {d : DS} {nv lv av wv : Value} {NV LV AV WV : List Value} (h : RDiskOk w m V F d nv lv av wv NV LV AV WV) : m ∈ V ∧ (∀ x, nv.ownBlock = some x → x ∈ V) ∧ (∀ x, lv.ownBlock = some x → x ∈ V) ∧ (∀ x, av.ownBlock = some x → x ∈ V) ∧ ∀ x, wv.ownBlock = some x → x ∈ V := by
  rw [h.mem]
  refine ⟨blks_head, fun x hx => ?_, fun x hx => ?_, fun x hx => ?_, fun x hx => ?_⟩
  · exact blks_row (r := ⟨30, 1, nv, d.n, NV⟩) (by simp [rrows]) hx
  · exact blks_row (r := ⟨30, 1, lv, d.n, LV⟩) (by simp [rrows]) hx
  · exact blks_row (r := ⟨3, 1, av, AV.length, AV⟩) (by simp [rrows]) hx
  · exact blks_row (r := ⟨30, 1, wv, WV.length, WV⟩) (by simp [rrows]) hx
theorem ObjAt.other_ne {w : World} {p t : Nat} {cs : Array Value} {a b : List RowD} {r q : RowD} (h : ObjAt w p t cs (a ++ r :: b)) (hq : q ∈ a ∨ q ∈ b) {x : Nat} (hx : q.v.ownBlock = some x) : r.v.ownBlock ≠ some x := fun hr => by
  have hnd := (List.nodup_cons.1 h.apart).2
  rw [List.filterMap_append, List.filterMap_cons, hr] at hnd
  simp only at hnd
  have hd := List.nodup_append.1 hnd
  rcases hq with hq | hq
  · exact hd.2.2 x (List.mem_filterMap.2 ⟨q, hq, hx⟩) x (List.mem_cons_self ..) rfl
  · exact (List.nodup_cons.1 hd.2.1).1 (List.mem_filterMap.2 ⟨q, hq, hx⟩)
/-- No byte comes into an object's blocks. -/
theorem ObjAt.field8 {w w2 : World} {p t : Nat} {cs : Array Value} {a b : List RowD} {r r' : RowD} (h : ObjAt w p t cs (a ++ r :: b)) (h8 : ∀ x ∈ blks p (a ++ r :: b), NoU8 w x) (j : Nat) (hg : w.grownBy w2 r.v.ownBlock)
    (hat : ∀ k, r'.v.ownBlock = some k → r.v.ownBlock = some k ∨ w.heap.size ≤ k) (h8' : ∀ x, r'.v.ownBlock = some x → NoU8 w2 x) (hu : No8 r'.v) : ∀ x ∈ blks p (a ++ r' :: b), NoU8 (w2.setCell ⟨p, j, none⟩ r'.v) x := fun x hx => by
  have hmr : r ∈ a ++ r :: b := List.mem_append_right _ (List.mem_cons_self ..)
  have hpl := blk_lt h.head
  have hp2 : w2.heap[p]? = w.heap[p]? := hg.block p hpl (fun e => h.row_ne hmr e.symm rfl)
  have hset : ∀ x, x ≠ p → (w2.setCell ⟨p, j, none⟩ r'.v).heap[x]? = w2.heap[x]? := fun x hx => Below.heap_setCell w2 ⟨p, j, none⟩ _ x hx
  have hother : ∀ q, q ∈ a ∨ q ∈ b → q ∈ a ++ r :: b → q.v.ownBlock = some x → NoU8 (w2.setCell ⟨p, j, none⟩ r'.v) x := fun q hq hm he => by
    have h1 := h.row_ne hm he
    have h2 := h.other_ne hq he
    have h3 := h.lim x (blks_row hm he)
    exact (h8 x (blks_row hm he)).keep ((hset x h1).trans (hg.block x h3 (fun e => h2 e.symm)))
  rcases mem_blks hx with rfl | ⟨q, hq, he⟩
  · exact ((h8 x blks_head).keep hp2).set (Nat.lt_of_lt_of_le hpl hg.size) hu
  · rcases List.mem_append.1 hq with hq | hq
    · exact hother q (.inl hq) (List.mem_append_left _ hq) he
    · rcases List.mem_cons.1 hq with rfl | hq
      · have hxp : x ≠ p := fun e => by
          rcases hat x he with h1 | h1
          · exact h.row_ne hmr h1 e
          · omega
        exact (h8' x he).keep (hset x hxp)
      · exact hother q (.inr hq) (List.mem_append_right _ (List.mem_cons_of_mem _ hq)) he
/-- At grows. -/
theorem RDiskOk.at {w w2 : World} {m : Nat} {V F : List Nat} {d : DS} {nv lv av wv : Value} {NV LV AV WV : List Value} (h : RDiskOk w m V F d nv lv av wv NV LV AV WV) (x : Nat × List UInt8) (u : Value) (g cap : Nat) (hg : w.grownBy w2 av.ownBlock)
    (hrow : w2.ownsRow 0 3 1 (.slice (some ⟨g, 0, none⟩) (AV.length + 1) cap) (AV.length + 1) (AV ++ [u])) (hat : av.ownBlock = some g ∨ g = w.heap.size) (h8 : NoU8 w2 g) (hu : No8 u) :
    ∃ V' F', RDiskOk (w2.setCell ⟨m, 2, none⟩ (.slice (some ⟨g, 0, none⟩) (AV.length + 1) cap)) m V' F' { d with since := d.since ++ [x] } nv lv (.slice (some ⟨g, 0, none⟩) (AV.length + 1) cap) wv NV LV (AV ++ [u]) WV ∧
      (∀ x ∈ V', x ∈ V ∨ w.heap.size ≤ x) ∧ (∀ x ∈ F', x ∈ F ∨ w.heap.size ≤ x) ∧ Chg V w (w2.setCell ⟨m, 2, none⟩ (.slice (some ⟨g, 0, none⟩) (AV.length + 1) cap)) := by
  have hloc : ∀ k, (Value.slice (some ⟨g, 0, none⟩) (AV.length + 1) cap).ownBlock = some k → av.ownBlock = some k ∨ w.heap.size ≤ k := fun k hk => by
    obtain rfl : g = k := by simpa [Value.ownBlock] using hk
    rcases hat with h4 | h4
    · exact .inl h4
    · exact .inr (by omega)
  have hobj : ObjAt w m 134 (rcs d nv lv av wv) ([⟨30, 1, nv, d.n, NV⟩, ⟨30, 1, lv, d.n, LV⟩] ++ (⟨3, 1, av, AV.length, AV⟩ : RowD) :: [⟨30, 1, wv, WV.length, WV⟩]) := h.obj
  obtain ⟨o1, o2, o3⟩ := hobj.field (r' := ⟨3, 1, .slice (some ⟨g, 0, none⟩) (AV.length + 1) cap, (AV ++ [u]).length, AV ++ [u]⟩) 2 hg (by
    show w2.ownsRow 0 3 1 (.slice (some ⟨g, 0, none⟩) (AV.length + 1) cap) (AV ++ [u]).length (AV ++ [u])
    rw [List.length_append]
    exact hrow) hloc
  have hV : V = blks m (rrows d.n nv lv av wv NV LV AV WV) := h.mem
  have hV' : ∀ x ∈ blks m (rrows d.n nv lv (.slice (some ⟨g, 0, none⟩) (AV.length + 1) cap) wv NV LV (AV ++ [u]) WV), x ∈ V ∨ w.heap.size ≤ x := fun x hx => by rw [hV]; exact o2 x hx
  have hc : Chg V w (w2.setCell ⟨m, 2, none⟩ (.slice (some ⟨g, 0, none⟩) (AV.length + 1) cap)) := by rw [hV]; exact o3
  refine ⟨_, _, h.turn (d' := { d with since := d.since ++ [x] }) o1 hV' hc (hobj.field8 (fun y hy => h.no8 y (by rw [h.mem]; exact hy)) 2 hg (r' := ⟨3, 1, .slice (some ⟨g, 0, none⟩) (AV.length + 1) cap, (AV ++ [u]).length, AV ++ [u]⟩) hloc (fun y hy => by
    obtain rfl : g = y := by simpa [Value.ownBlock] using hy
    exact h8) no8_slice) rfl rfl rfl ⟨fun c hc => ?_, by simp; exact h.ats.2⟩ ⟨h.wrote.1, by simp; exact Nat.le_succ_of_le h.wrote.2⟩, hV', fun y hy => ?_, hc⟩
  · rcases List.mem_append.1 hc with hc | hc
    · exact h.ats.1 c hc
    · rw [List.mem_singleton.1 hc]; exact hu
  · rcases List.mem_append.1 hy with hy | hy
    · exact .inl hy
    · rcases hV' y hy with h4 | h4
      · exact .inl (h.sub y h4)
      · exact .inr h4
/-- Wrote grows, behind At. -/
theorem RDiskOk.more {w w2 : World} {m : Nat} {V F : List Nat} {d : DS} {nv lv av wv : Value} {NV LV AV WV : List Value} (h : RDiskOk w m V F d nv lv av wv NV LV AV WV) (u : Value) (g cap : Nat) (hg : w.grownBy w2 wv.ownBlock)
    (hrow : w2.ownsRow 0 30 1 (.slice (some ⟨g, 0, none⟩) (WV.length + 1) cap) (WV.length + 1) (WV ++ [u])) (hat : wv.ownBlock = some g ∨ g = w.heap.size) (h8 : NoU8 w2 g) (hu : No8 u) (hl : WV.length + 1 ≤ d.since.length) :
    RDid w (w2.setCell ⟨m, 3, none⟩ (.slice (some ⟨g, 0, none⟩) (WV.length + 1) cap)) m V F d := by
  have hloc : ∀ k, (Value.slice (some ⟨g, 0, none⟩) (WV.length + 1) cap).ownBlock = some k → wv.ownBlock = some k ∨ w.heap.size ≤ k := fun k hk => by
    obtain rfl : g = k := by simpa [Value.ownBlock] using hk
    rcases hat with h4 | h4
    · exact .inl h4
    · exact .inr (by omega)
  have hobj : ObjAt w m 134 (rcs d nv lv av wv) ([⟨30, 1, nv, d.n, NV⟩, ⟨30, 1, lv, d.n, LV⟩, ⟨3, 1, av, AV.length, AV⟩] ++ (⟨30, 1, wv, WV.length, WV⟩ : RowD) :: []) := h.obj
  obtain ⟨o1, o2, o3⟩ := hobj.field (r' := ⟨30, 1, .slice (some ⟨g, 0, none⟩) (WV.length + 1) cap, (WV ++ [u]).length, WV ++ [u]⟩) 3 hg (by
    show w2.ownsRow 0 30 1 (.slice (some ⟨g, 0, none⟩) (WV.length + 1) cap) (WV ++ [u]).length (WV ++ [u])
    rw [List.length_append]
    exact hrow) hloc
  have hV : V = blks m (rrows d.n nv lv av wv NV LV AV WV) := h.mem
  have hV' : ∀ x ∈ blks m (rrows d.n nv lv av (.slice (some ⟨g, 0, none⟩) (WV.length + 1) cap) NV LV AV (WV ++ [u])), x ∈ V ∨ w.heap.size ≤ x := fun x hx => by rw [hV]; exact o2 x hx
  have hc : Chg V w (w2.setCell ⟨m, 3, none⟩ (.slice (some ⟨g, 0, none⟩) (WV.length + 1) cap)) := by rw [hV]; exact o3
  refine ⟨_, _, ⟨_, _, _, _, _, _, _, _, h.turn (d' := d) o1 hV' hc (hobj.field8 (fun y hy => h.no8 y (by rw [h.mem]; exact hy)) 3 hg (r' := ⟨30, 1, .slice (some ⟨g, 0, none⟩) (WV.length + 1) cap, (WV ++ [u]).length, WV ++ [u]⟩) hloc (fun y hy => by
    obtain rfl : g = y := by simpa [Value.ownBlock] using hy
    exact h8) no8_slice) rfl rfl rfl h.ats ⟨fun c hc => ?_, by simp; exact hl⟩⟩, hV', fun y hy => ?_, hc⟩
  · rcases List.mem_append.1 hc with hc | hc
    · exact h.wrote.1 c hc
    · rw [List.mem_singleton.1 hc]; exact hu
  · rcases List.mem_append.1 hy with hy | hy
    · exact .inl hy
    · rcases hV' y hy with h4 | h4
      · exact .inl (h.sub y h4)
      · exact .inr h4
/-- A sector that lasts is another. -/
theorem RDiskOk.last {w : World} {m : Nat} {V F : List Nat} {d : DS} {nv lv av wv : Value} {NV LV AV WV : List Value} (h : RDiskOk w m V F d nv lv av wv NV LV AV WV) (k g cap : Nat) (u : Value) (hk : k < d.n) (hlv : lv = .slice (some ⟨g, 0, none⟩) d.n cap) (hu : No8 u) :
    RDiskOk (w.setCell ⟨g, k, none⟩ u) m V F d nv lv av wv NV (LV.set k u) AV WV ∧ Chg V w (w.setCell ⟨g, k, none⟩ u) := by
  have hgV : g ∈ V := h.in.2.2.1 g (by rw [hlv]; rfl)
  have hc : Chg [g] w (w.setCell ⟨g, k, none⟩ u) := (Chg.refl _ w).setCell (p := ⟨g, k, none⟩) (.inl (by simp)) _
  have hcV : Chg V w (w.setCell ⟨g, k, none⟩ u) := hc.mono (fun x hx => .inl (by rw [List.mem_singleton.1 hx]; exact hgV))
  have hrows := h.row
  have hne : ∀ (r : RowD), r ∈ [(⟨30, 1, nv, d.n, NV⟩ : RowD), ⟨3, 1, av, AV.length, AV⟩, ⟨30, 1, wv, WV.length, WV⟩] → r.v.ownBlock ≠ some g := fun r hr he => by
    have hobj : ObjAt w m 134 (rcs d nv lv av wv) ([⟨30, 1, nv, d.n, NV⟩] ++ (⟨30, 1, lv, d.n, LV⟩ : RowD) :: [⟨3, 1, av, AV.length, AV⟩, ⟨30, 1, wv, WV.length, WV⟩]) := h.obj
    refine hobj.other_ne (q := r) ?_ he (by rw [hlv]; rfl)
    simp only [List.mem_cons, List.mem_nil_iff, or_false] at hr ⊢
    exact hr
  have hmg : m ≠ g := fun e => h.obj.row_ne (r := ⟨30, 1, lv, d.n, LV⟩) (by simp [rrows]) (k := g) (by rw [hlv]; rfl) e.symm
  refine ⟨⟨⟨hc.keep h.obj.head (by simp; exact hmg), fun r hr => ?_, h.obj.apart⟩, fun j hj => ?_, fun c hc => ?_, h.ats, h.wrote, h.few, h.fuse, h.mem, fun x hx => ?_, h.sub, fun x hx => Nat.lt_of_lt_of_le (h.lim x hx) hc.size⟩, hcV⟩
  · simp only [rrows, List.mem_cons, List.mem_nil_iff, or_false] at hr
    by_cases hrl : r = ⟨30, 1, lv, d.n, LV.set k u⟩
    · subst hrl
      show (w.setCell ⟨g, k, none⟩ u).ownsRow 0 30 1 lv d.n (LV.set k u)
      have h1 := hrows.2.1
      rw [hlv] at h1 ⊢
      exact row_set h1 k u (by omega)
    · have hmem : r ∈ rrows d.n nv lv av wv NV LV AV WV := by
        rcases hr with rfl | rfl | rfl | rfl
        · simp [rrows]
        · exact absurd rfl hrl
        · simp [rrows]
        · simp [rrows]
      have hr' : r ∈ [(⟨30, 1, nv, d.n, NV⟩ : RowD), ⟨3, 1, av, AV.length, AV⟩, ⟨30, 1, wv, WV.length, WV⟩] := by
        rcases hr with rfl | rfl | rfl | rfl
        · simp
        · exact absurd rfl hrl
        · simp
        · simp
      exact row_keep (h.obj.rows r hmem) (fun y hy => hc.block y (World.ownsRow.lt (h.obj.rows r hmem) y hy).2 (by
        intro hm
        rw [List.mem_singleton.1 hm] at hy
        exact hne r hr' hy))
  · obtain ⟨h1, h2, h3⟩ := h.now j hj
    exact ⟨h1, h2.chg hcV (fun x hx => (h3 x hx).2), h3⟩
  · rcases List.mem_or_eq_of_mem_set hc with hc | hc
    · exact h.lasts c hc
    · rw [hc]; exact hu
  · by_cases hxg : x = g
    · rw [hxg]
      exact (h.no8 g hgV).set (h.lim g (h.sub g hgV)) hu
    · exact (h.no8 x hx).keep (hc.block x (h.lim x (h.sub x hx)) (by simp; exact hxg))
/-- Nothing waits any more. -/
theorem RDiskOk.calm {w : World} {m : Nat} {V F : List Nat} {d : DS} {nv lv av wv : Value} {NV LV AV WV : List Value} (h : RDiskOk w m V F d nv lv av wv NV LV AV WV) (la : Nat → List UInt8) :
    RDid w ((w.setCell ⟨m, 2, none⟩ (.slice none 0 0)).setCell ⟨m, 3, none⟩ (.slice none 0 0)) m V F { d with lasts := la, since := [] } := by
  have hobj : ObjAt w m 134 (rcs d nv lv av wv) ([⟨30, 1, nv, d.n, NV⟩, ⟨30, 1, lv, d.n, LV⟩] ++ (⟨3, 1, av, AV.length, AV⟩ : RowD) :: [⟨30, 1, wv, WV.length, WV⟩]) := h.obj
  have hg0 : ∀ r, w.grownBy w r := fun r => ⟨rfl, rfl, rfl, Nat.le_refl _, fun _ _ _ => rfl⟩
  obtain ⟨o1, o2, o3⟩ := hobj.field (r' := ⟨3, 1, .slice none 0 0, 0, []⟩) 2 (hg0 _) (World.ownsRow_nil _ _ _ _) (fun k hk => by cases hk)
  have o8 := hobj.field8 (fun y hy => h.no8 y (by rw [h.mem]; exact hy)) 2 (hg0 _) (r' := ⟨3, 1, .slice none 0 0, 0, []⟩) (fun k hk => by cases hk) (fun y hy => by cases hy) no8_slice
  have hV : V = blks m (rrows d.n nv lv av wv NV LV AV WV) := h.mem
  have o3 : Chg V w (w.setCell ⟨m, 2, none⟩ (.slice none 0 0)) := by rw [hV]; exact o3
  have hV1 : ∀ x ∈ blks m (rrows d.n nv lv (.slice none 0 0) wv NV LV [] WV), x ∈ V ∨ w.heap.size ≤ x := fun x hx => by rw [hV]; exact o2 x hx
  have h1 := h.turn (d' := d) (av' := .slice none 0 0) (wv' := wv) (AV' := []) (WV' := WV) o1 hV1 o3 o8 rfl rfl rfl ⟨by simp, by simp⟩ h.wrote
  have hw1 : (w.setCell ⟨m, 2, none⟩ (.slice none 0 0)).heap.size = w.heap.size := by simp [World.setCell]
  generalize w.setCell ⟨m, 2, none⟩ (.slice none 0 0) = w1 at *
  have hobj1 : ObjAt w1 m 134 (rcs d nv lv (.slice none 0 0) wv) ([⟨30, 1, nv, d.n, NV⟩, ⟨30, 1, lv, d.n, LV⟩, ⟨3, 1, .slice none 0 0, ([] : List Value).length, []⟩] ++ (⟨30, 1, wv, WV.length, WV⟩ : RowD) :: []) := h1.obj
  have hg1 : ∀ r, w1.grownBy w1 r := fun r => ⟨rfl, rfl, rfl, Nat.le_refl _, fun _ _ _ => rfl⟩
  obtain ⟨q1, q2, q3⟩ := hobj1.field (r' := ⟨30, 1, .slice none 0 0, 0, []⟩) 3 (hg1 _) (World.ownsRow_nil _ _ _ _) (fun k hk => by cases hk)
  have q8 := hobj1.field8 (fun y hy => h1.no8 y hy) 3 (hg1 _) (r' := ⟨30, 1, .slice none 0 0, 0, []⟩) (fun k hk => by cases hk) (fun y hy => by cases hy) no8_slice
  have q2' : ∀ x ∈ blks m (rrows d.n nv lv (.slice none 0 0) (.slice none 0 0) NV LV [] []), x ∈ blks m (rrows d.n nv lv (.slice none 0 0) wv NV LV [] WV) ∨ w1.heap.size ≤ x := q2
  have h2 := h1.turn (d' := { d with lasts := la, since := [] }) (av' := .slice none 0 0) (wv' := .slice none 0 0) (AV' := []) (WV' := []) q1 q2' q3 q8 rfl rfl rfl ⟨by simp, by simp⟩ ⟨by simp, by simp⟩
  have hV2 : ∀ x ∈ blks m (rrows d.n nv lv (.slice none 0 0) (.slice none 0 0) NV LV [] []), x ∈ V ∨ w.heap.size ≤ x := fun x hx => by
    rcases q2' x hx with h4 | h4
    · exact hV1 x h4
    · exact .inr (by omega)
  refine ⟨_, _, ⟨_, _, _, _, _, _, _, _, h2⟩, hV2, fun x hx => ?_, o3.trans q3 hV1⟩
  have hin : ∀ x, x ∈ V ∨ w.heap.size ≤ x → x ∈ F ∨ w.heap.size ≤ x := fun x hx => hx.imp (h.sub x) id
  rcases List.mem_append.1 hx with hx | hx
  · rcases List.mem_append.1 hx with hx | hx
    · exact .inl hx
    · exact hin x (hV1 x hx)
  · exact hin x (hV2 x hx)
end Go.Proofs.YtdkhmfcfihbjeaaGreatDoor.W

/- The reference's disk: Write. -/
namespace Go.Proofs.YtdkhmfcfihbjeaaGreatDoor.W
open Go.RowKit
set_option linter.unusedVariables false
set_option linter.unusedSimpArgs false

end Go.Proofs.YtdkhmfcfihbjeaaGreatDoor.W

/- The reference's disk: Write of whatever disk, Sync, Image. -/
namespace Go.Proofs.YtdkhmfcfihbjeaaGreatDoor.W
open Go.RowKit
set_option linter.unusedVariables false
set_option linter.unusedSimpArgs false

theorem RDiskOk.form {w : World} {m : Nat} {V F : List Nat} {d : DS} {nv lv av wv : Value} {NV LV AV WV : List Value} (h : RDiskOk w m V F d nv lv av wv NV LV AV WV) (hn : 0 < d.n) :
    (∃ g cap, nv = .slice (some ⟨g, 0, none⟩) d.n cap) ∧ ∃ g cap, lv = .slice (some ⟨g, 0, none⟩) d.n cap := by
  constructor
  · rcases h.row.1.2 with ⟨_, h0⟩ | ⟨g, cap, cur, h1, _⟩
    · omega
    · exact ⟨g, cap, h1⟩
  · rcases h.row.2.1.2 with ⟨_, h0⟩ | ⟨g, cap, cur, h1, _⟩
    · omega
    · exact ⟨g, cap, h1⟩
theorem own_cell {w : World} {base e g n cap : Nat} {xs : List Value} (h : w.ownsRow base e 1 (.slice (some ⟨g, 0, none⟩) n cap) n xs) (k : Nat) (hk : k < n) : xs.length = n ∧ w.cell? ⟨g, k, none⟩ = some (xs.getD k undef) ∧ w.frozen? ⟨g, k, none⟩ = false ∧ g < w.heap.size := by
  have hl : xs.length = n := by have := h.1; omega
  refine ⟨hl, ?_, ?_, (World.ownsRow.lt h g rfl).2⟩
  · have := h.cells (g := g) rfl k xs[k] (List.getElem?_eq_getElem (by omega))
    rw [add_none, Nat.zero_add] at this
    rw [this, List.getD_eq_getElem?_getD, List.getElem?_eq_getElem (by omega)]
    rfl
  · rcases h.2 with ⟨h1, _⟩ | ⟨g', cap', cur, hv, _, hg, _⟩
    · cases h1
    · obtain rfl : g = g' := by simp at hv; exact hv.1
      exact blk_frozen hg k

end Go.Proofs.YtdkhmfcfihbjeaaGreatDoor.W

/- The reference's slots in memory. -/
namespace Go.Proofs.YtdkhmfcfihbjeaaGreatDoor.W
open Go.RowKit
set_option linter.unusedVariables false
set_option linter.unusedSimpArgs false

def qcell (x : SRow × Value) : List Value := [.bool x.1.used, x.2, .int .i64 (x.1.n : Int)]
def qcells (R : List (SRow × Value)) : List Value := R.flatMap qcell
theorem qcells_at : ∀ (R : List (SRow × Value)) (i j : Nat) (x : SRow × Value), R[i]? = some x → j < 3 → (qcells R)[i * 3 + j]? = (qcell x)[j]?
  | [], i, j, x, h, _ => by simp at h
  | y :: R, i, j, x, h, hj => by
    have e : qcells (y :: R) = qcell y ++ qcells R := rfl
    have hy : (qcell y).length = 3 := rfl
    rw [e]
    cases i with
    | zero =>
      simp at h; subst h
      rw [Nat.zero_mul, Nat.zero_add, List.getElem?_append_left (by omega)]
    | succ i =>
      rw [List.getElem?_append_right (by omega), hy, show (i + 1) * 3 + j - 3 = i * 3 + j by omega]
      exact qcells_at R i j x (by simpa using h) hj
theorem qcells_set : ∀ (R : List (SRow × Value)) (i : Nat) (x : SRow × Value), i < R.length → qcells (R.set i x) = (((qcells R).set (i * 3) (.bool x.1.used)).set (i * 3 + 1) x.2).set (i * 3 + 2) (.int .i64 (x.1.n : Int))
  | [], i, x, h => by simp at h
  | y :: R, i, x, h => by
    have e : ∀ z, qcells (z :: R) = qcell z ++ qcells R := fun _ => rfl
    cases i with
    | zero => rw [List.set_cons_zero, e, e]; rfl
    | succ i =>
      have ih := qcells_set R i x (by simpa using h)
      have e2 : qcells (y :: R.set i x) = qcell y ++ qcells (R.set i x) := rfl
      rw [List.set_cons_succ, e2, ih, e]
      have h3 : (qcell y).length = 3 := rfl
      rw [List.set_append_right _ _ (by omega), List.set_append_right _ _ (by omega), List.set_append_right _ _ (by omega), h3, show (i + 1) * 3 - 3 = i * 3 by omega, show (i + 1) * 3 + 1 - 3 = i * 3 + 1 by omega, show (i + 1) * 3 + 2 - 3 = i * 3 + 2 by omega]
def rowQ (rv : Value) (R : List (SRow × Value)) : RowD := ⟨168, 3, rv, R.length, qcells R⟩

/-- The reference's slots in block q over its disk in block m; W: what may be written; A: all their blocks. -/
structure RSlotsOk (w : World) (q m : Nat) (V F W A : List Nat) (s : SS) (rv : Value) (R : List (SRow × Value)) : Prop where
  obj : ObjAt w q 166 #[.pointer (some ⟨m, 0, none⟩), .int .i64 (s.first : Int), rv] [rowQ rv R]
  disk : RDiskAt w m V F s.d
  rows : R.map (·.1) = s.rows
  sep : ∀ x ∈ blks q [rowQ rv R], x ∉ F
  keys : ∀ x ∈ R, BytesAt w x.2 x.1.key ∧ ∀ g, x.2.ownBlock = some g → g ∈ A ∧ g ∉ W
  mem : W = V ++ blks q [rowQ rv R]
  no8 : ∀ x ∈ blks q [rowQ rv R], NoU8 w x
  aF : ∀ x ∈ F, x ∈ A
  aB : ∀ x ∈ blks q [rowQ rv R], x ∈ A
  lim : ∀ x ∈ A, x < w.heap.size
  ok : s.Ok
def RSlotsAt (w : World) (q m : Nat) (W A : List Nat) (s : SS) : Prop := ∃ V F rv R, RSlotsOk w q m V F W A s rv R
theorem RSlotsOk.sub {w : World} {q m : Nat} {V F W A : List Nat} {s : SS} {rv : Value} {R : List (SRow × Value)} (h : RSlotsOk w q m V F W A s rv R) : (∀ x ∈ V, x ∈ W) ∧ (∀ x ∈ blks q [rowQ rv R], x ∈ W) ∧ (∀ x ∈ W, x ∈ A) ∧ (∀ x ∈ W, NoU8 w x) ∧ (∀ x ∈ V, x ∈ F) := by
  obtain ⟨hl, hs, h8⟩ := h.disk.lim
  refine ⟨fun x hx => by rw [h.mem]; exact List.mem_append_left _ hx, fun x hx => by rw [h.mem]; exact List.mem_append_right _ hx, fun x hx => ?_, fun x hx => ?_, hs⟩
  · rw [h.mem] at hx
    rcases List.mem_append.1 hx with hx | hx
    · exact h.aF x (hs x hx)
    · exact h.aB x hx
  · rw [h.mem] at hx
    rcases List.mem_append.1 hx with hx | hx
    · exact h8 x hx
    · exact h.no8 x hx
theorem RSlotsOk.keep {w w' : World} {q m : Nat} {V F W A T : List Nat} {s : SS} {rv : Value} {R : List (SRow × Value)} (h : RSlotsOk w q m V F W A s rv R) (hc : Chg T w w') (ha : ∀ x ∈ A, x ∉ T) : RSlotsOk w' q m V F W A s rv R := by
  refine ⟨h.obj.keep hc (fun x hx => ha x (h.aB x hx)), h.disk.keep hc (fun x hx => ha x (h.aF x hx)), h.rows, h.sep, fun x hx => ?_, h.mem, fun x hx => (h.no8 x hx).keep (hc.block x (h.lim x (h.aB x hx)) (ha x (h.aB x hx))), h.aF, h.aB, fun x hx => Nat.lt_of_lt_of_le (h.lim x hx) hc.size, h.ok⟩
  obtain ⟨h1, h2⟩ := h.keys x hx
  exact ⟨h1.chg hc (fun k hk => ha k (h2 k hk).1), h2⟩
theorem RSlotsAt.keep {w w' : World} {q m : Nat} {W A T : List Nat} {s : SS} (h : RSlotsAt w q m W A s) (hc : Chg T w w') (ha : ∀ x ∈ A, x ∉ T) : RSlotsAt w' q m W A s := by
  obtain ⟨V, F, rv, R, h⟩ := h
  exact ⟨V, F, rv, R, h.keep hc ha⟩
theorem RSlotsAt.lim {w : World} {q m : Nat} {W A : List Nat} {s : SS} (h : RSlotsAt w q m W A s) : (∀ x ∈ A, x < w.heap.size) ∧ (∀ x ∈ W, x ∈ A) ∧ ∀ x ∈ W, NoU8 w x := by
  obtain ⟨V, F, rv, R, h⟩ := h
  exact ⟨h.lim, h.sub.2.2.1, h.sub.2.2.2.1⟩
/-- What doing with them leaves. -/
def RSid (w w' : World) (q m : Nat) (W A : List Nat) (s : SS) : Prop := ∃ W' A', RSlotsAt w' q m W' A' s ∧ (∀ x ∈ W', x ∈ W ∨ w.heap.size ≤ x) ∧ (∀ x ∈ A', x ∈ A ∨ w.heap.size ≤ x) ∧ Chg W w w'
theorem RSid.same {w : World} {q m : Nat} {W A : List Nat} {s : SS} (h : RSlotsAt w q m W A s) : RSid w w q m W A s := ⟨W, A, h, fun x hx => .inl hx, fun x hx => .inl hx, Chg.refl _ _⟩
theorem RSid.glue {w w1 w2 : World} {q m : Nat} {W A W1 A1 : List Nat} {s : SS} (hv : ∀ x ∈ W1, x ∈ W ∨ w.heap.size ≤ x) (hf : ∀ x ∈ A1, x ∈ A ∨ w.heap.size ≤ x) (hc : Chg W w w1) (h : RSid w1 w2 q m W1 A1 s) : RSid w w2 q m W A s := by
  obtain ⟨V2, F2, b1, b2, b3, b4⟩ := h
  refine ⟨V2, F2, b1, fun x hx => ?_, fun x hx => ?_, hc.trans b4 hv⟩
  · rcases b2 x hx with h | h
    · exact hv x h
    · exact .inr (Nat.le_trans hc.size h)
  · rcases b3 x hx with h | h
    · exact hf x h
    · exact .inr (Nat.le_trans hc.size h)
theorem RSid.pre {w0 w w' : World} {q m : Nat} {W A : List Nat} {s : SS} (hc : Chg [] w0 w) (h : RSid w w' q m W A s) : RSid w0 w' q m W A s := RSid.glue (fun x hx => .inl hx) (fun x hx => .inl hx) (hc.mono (by simp)) h
theorem RSid.post {w w1 w' : World} {q m : Nat} {W A : List Nat} {s : SS} (h : RSid w w1 q m W A s) (hc : Chg [] w1 w') : RSid w w' q m W A s := by
  obtain ⟨W1, A1, a1, a2, a3, a4⟩ := h
  exact ⟨W1, A1, a1.keep hc (by simp), a2, a3, a4.trans hc (by simp)⟩
theorem RSid.trans {w w1 w2 : World} {q m : Nat} {W A : List Nat} {s1 s2 : SS} (h1 : RSid w w1 q m W A s1) (h2 : ∀ W1 A1, RSlotsAt w1 q m W1 A1 s1 → RSid w1 w2 q m W1 A1 s2) : RSid w w2 q m W A s2 := by
  obtain ⟨V1, F1, a1, a2, a3, a4⟩ := h1
  exact RSid.glue a2 a3 a4 (h2 V1 F1 a1)
/-- The disk has been worked on. -/
theorem RSlotsOk.did {w w' : World} {q m : Nat} {V F W A : List Nat} {s : SS} {rv : Value} {R : List (SRow × Value)} {d : DS} (h : RSlotsOk w q m V F W A s rv R) (hd : RDid w w' m V F d) (hn : d.n = s.d.n) : RSid w w' q m W A { s with d := d } := by
  obtain ⟨V', F', b1, b2, b3, b4⟩ := hd
  obtain ⟨s1, s2, s3, s4, s5⟩ := h.sub
  have hbV : ∀ x ∈ blks q [rowQ rv R], x ∉ V := fun x hx hm => h.sep x hx (s5 x hm)
  have hsz := b4.size
  refine ⟨V' ++ blks q [rowQ rv R], A ++ F', ⟨V', F', rv, R, h.obj.keep b4 hbV, b1, h.rows, fun x hx hm => ?_, fun x hx => ?_, rfl, fun x hx => (h.no8 x hx).keep (b4.block x (h.obj.lim x hx) (hbV x hx)), fun x hx => List.mem_append_right _ hx, fun x hx => List.mem_append_left _ (h.aB x hx), fun x hx => ?_, ⟨by show s.first + 8 * s.rows.length ≤ d.n; rw [hn]; exact h.ok.room, h.ok.rows⟩⟩, fun x hx => ?_, fun x hx => ?_, b4.mono (fun x hx => .inl (s1 x hx))⟩
  · rcases b3 x hm with h1 | h1
    · exact h.sep x hx h1
    · have := h.obj.lim x hx; omega
  · obtain ⟨k1, k2⟩ := h.keys x hx
    refine ⟨k1.chg b4 (fun k hk hm => (k2 k hk).2 (s1 k hm)), fun g hg => ⟨List.mem_append_left _ (k2 g hg).1, fun hm => ?_⟩⟩
    rcases List.mem_append.1 hm with hm | hm
    · rcases b2 g hm with h1 | h1
      · exact (k2 g hg).2 (s1 g h1)
      · have := h.lim g (k2 g hg).1; omega
    · exact (k2 g hg).2 (s2 g hm)
  · rcases List.mem_append.1 hx with hx | hx
    · exact Nat.lt_of_lt_of_le (h.lim x hx) hsz
    · exact b1.lim.1 x hx
  · rcases List.mem_append.1 hx with hx | hx
    · exact (b2 x hx).imp (s1 x) id
    · exact .inl (s2 x hx)
  · rcases List.mem_append.1 hx with hx | hx
    · exact .inl hx
    · exact (b3 x hx).imp (h.aF x) id
theorem RSlotsOk.len {w : World} {q m : Nat} {V F W A : List Nat} {s : SS} {rv : Value} {R : List (SRow × Value)} (h : RSlotsOk w q m V F W A s rv R) : R.length = s.rows.length := by rw [← h.rows, List.length_map]
theorem RSlotsOk.few {w : World} {q m : Nat} {V F W A : List Nat} {s : SS} {rv : Value} {R : List (SRow × Value)} (h : RSlotsOk w q m V F W A s rv R) : s.first + 8 * s.rows.length ≤ s.d.n ∧ s.d.n ≤ 4160 := by
  obtain ⟨_, _, _, _, _, _, _, _, hd⟩ := h.disk
  exact ⟨h.ok.room, hd.few⟩
theorem RSlotsOk.row {w : World} {q m : Nat} {V F W A : List Nat} {s : SS} {rv : Value} {R : List (SRow × Value)} (h : RSlotsOk w q m V F W A s rv R) : w.ownsRow 0 168 3 rv R.length (qcells R) := h.obj.rows _ (List.mem_singleton.2 rfl)
theorem RSlotsOk.form {w : World} {q m : Nat} {V F W A : List Nat} {s : SS} {rv : Value} {R : List (SRow × Value)} (h : RSlotsOk w q m V F W A s rv R) : ∃ a cap, rv = .slice a s.rows.length cap ∧ s.rows.length ≤ cap := by
  rw [← h.len]
  rcases h.row.2 with ⟨h1, h2⟩ | ⟨g, cap, cur, h1, _, _, h3, h4, _⟩
  · exact ⟨none, 0, by rw [h1, h2], by omega⟩
  · exact ⟨_, cap, h1, h3⟩
/-- A row that is there. -/
theorem RSlotsOk.at {w : World} {q m : Nat} {V F W A : List Nat} {s : SS} {rv : Value} {R : List (SRow × Value)} (h : RSlotsOk w q m V F W A s rv R) (i : Nat) (hi : i < s.rows.length) :
    ∃ g cap kv, rv = .slice (some ⟨g, 0, none⟩) s.rows.length cap ∧ s.rows.length ≤ cap ∧ cap ≤ maxLen ∧ w.cell? ⟨g, i * 3, none⟩ = some (.bool (s.rows.getD i noRow).used) ∧
      w.cell? ⟨g, i * 3 + 1, none⟩ = some kv ∧ w.cell? ⟨g, i * 3 + 2, none⟩ = some (.int .i64 ((s.rows.getD i noRow).n : Int)) ∧ BytesAt w kv (s.rows.getD i noRow).key ∧ ∀ k, kv.ownBlock = some k → k ∈ A ∧ k ∉ W := by
  have hl := h.len
  have hr := h.row
  have hiR : i < R.length := by omega
  have hri : s.rows.getD i noRow = (R[i]).1 := by
    rw [← h.rows, List.getD_eq_getElem?_getD, List.getElem?_map, List.getElem?_eq_getElem hiR]; rfl
  rcases hr.2 with ⟨h1, h2⟩ | ⟨g, cap, cur, h1, _, _, h3, h4, _⟩
  · omega
  · subst h1
    have hcell : ∀ j, j < 3 → ∀ u, (qcell R[i])[j]? = some u → w.cell? ⟨g, i * 3 + j, none⟩ = some u := fun j hj u hu => by
      have := hr.cells (g := g) rfl (i * 3 + j) u (by rw [qcells_at R i j R[i] (List.getElem?_eq_getElem hiR) hj]; exact hu)
      rwa [add_none, Nat.zero_add] at this
    refine ⟨g, cap, (R[i]).2, by rw [hl], by omega, h4, ?_, ?_, ?_, ?_⟩
    · rw [hri]; exact hcell 0 (by omega) _ rfl
    · exact hcell 1 (by omega) _ rfl
    · rw [hri]; exact hcell 2 (by omega) _ rfl
    · rw [hri]; exact h.keys _ (List.getElem_mem hiR)
theorem RSlotsOk.there {w : World} {q m : Nat} {V F W A : List Nat} {s : SS} {rv : Value} {R : List (SRow × Value)} (h : RSlotsOk w q m V F W A s rv R) (i : Nat) (hi : i < s.rows.length) (g cap : Nat) (hrv : rv = .slice (some ⟨g, 0, none⟩) s.rows.length cap) : w.there g (i * 3) 3 := by
  have hl := h.len
  rcases h.row.2 with ⟨h1, h2⟩ | ⟨g', cap', cur, h1, _, hb, h3, h4, h5, _⟩
  · omega
  · rw [hrv] at h1
    obtain ⟨rfl, -, rfl⟩ : g = g' ∧ s.rows.length = R.length ∧ cap = cap' := by simpa using h1
    intro j hj
    have hlt : i * 3 + j < cur.size := by
      have : (i + 1) * 3 ≤ cap * 3 := Nat.mul_le_mul_right _ (by omega)
      omega
    exact ⟨by rw [blk_cell hb _ _ (Array.getElem?_eq_getElem hlt)]; rfl, blk_frozen hb _⟩
theorem NoU8.set3 {w : World} {g i : Nat} {a b c : Value} (h : NoU8 w g) (hl : g < w.heap.size) (ha : No8 a) (hb : No8 b) (hc : No8 c) : NoU8 (w.setCells g i [a, b, c]) g := by
  have s1 : (w.setCell ⟨g, i, none⟩ a).heap.size = w.heap.size := by simp [World.setCell]
  have s2 : ((w.setCell ⟨g, i, none⟩ a).setCell ⟨g, i + 1, none⟩ b).heap.size = w.heap.size := by simp [World.setCell]
  exact ((h.set hl ha).set (by rw [s1]; exact hl) hb).set (by rw [s2]; exact hl) hc
/-- A row is set. -/
theorem RSlotsOk.setRow {w : World} {q m : Nat} {V F W A : List Nat} {s : SS} {rv : Value} {R : List (SRow × Value)} {N : Nat} (h : RSlotsOk w q m V F W A s rv R) (i : Nat) (hi : i < s.rows.length) (g cap : Nat) (hrv : rv = .slice (some ⟨g, 0, none⟩) s.rows.length cap)
    (r : SRow) (kv : Value) (hk : BytesAt w kv r.key) (hkU : ∀ k, kv.ownBlock = some k → k < w.heap.size ∧ k ∉ W) (hkA : ∀ k, kv.ownBlock = some k → k ∉ A → N ≤ k) (hN : N ≤ w.heap.size) (hr : r.n ≤ 448 ∧ r.key.length ≤ 40) :
    ∃ A', RSlotsAt (w.setCells g (i * 3) [.bool r.used, kv, .int .i64 (r.n : Int)]) q m W A' { s with rows := s.rows.set i r } ∧ (∀ x ∈ A', x ∈ A ∨ N ≤ x) ∧ Chg W w (w.setCells g (i * 3) [.bool r.used, kv, .int .i64 (r.n : Int)]) := by
  have hl := h.len
  obtain ⟨s1, s2, s3, s4, s5⟩ := h.sub
  have hC : Chg [g] w (w.setCells g (i * 3) [.bool r.used, kv, .int .i64 (r.n : Int)]) := (Chg.refl _ _).setCells (.inl (by simp)) _
  have hob : rv.ownBlock = some g := by rw [hrv]; rfl
  have hgb : g ∈ blks q [rowQ rv R] := blks_row (r := rowQ rv R) (List.mem_singleton.2 rfl) hob
  have hgW := s2 g hgb
  have hrow := h.row
  have hR' : (rowQ rv (R.set i (r, kv))).At (w.setCells g (i * 3) [.bool r.used, kv, .int .i64 (r.n : Int)]) := by
    show (w.setCells g (i * 3) [.bool r.used, kv, .int .i64 (r.n : Int)]).ownsRow 0 168 3 rv (R.set i (r, kv)).length (qcells (R.set i (r, kv)))
    rw [List.length_set, qcells_set R i _ (by omega)]
    rw [hrv, ← hl] at hrow ⊢
    exact row_set (row_set (row_set hrow (i * 3) _ (by omega)) (i * 3 + 1) _ (by omega)) (i * 3 + 2) _ (by omega)
  have hgr := ObjAt.grow (a := []) (b := []) h.obj (r' := rowQ rv (R.set i (r, kv))) (by rw [show (rowQ rv R).v.ownBlock = some g from hob]; exact hC.grownBy) hR' (fun k hk => .inl hk)
  have h8 := (h.no8 g hgb).set3 (i := i * 3) (h.obj.lim g hgb) (no8_bool (x := r.used)) hk.no8 (no8_i64 (x := (r.n : Int)))
  generalize w.setCells g (i * 3) [.bool r.used, kv, .int .i64 (r.n : Int)] = X at *
  have hgu : ∀ x ∈ [g], x ∈ W := fun x hx => (List.mem_singleton.1 hx) ▸ hgW
  have hnot : ∀ k, k ∉ W → k ∉ [g] := fun k hk hm => hk (hgu k hm)
  refine ⟨A ++ kv.ownBlock.toList, ⟨V, F, rv, R.set i (r, kv), hgr.1, h.disk.keep hC (fun x hx hm => ?_), ?_, h.sep, fun x hx => ?_, h.mem, fun x hx => ?_, fun x hx => List.mem_append_left _ (h.aF x hx), fun x hx => List.mem_append_left _ (h.aB x hx), fun x hx => ?_, ⟨?_, fun x hx => ?_⟩⟩, fun x hx => ?_, hC.mono (fun x hx => .inl (hgu x hx))⟩
  · exact h.sep _ hgb (by rw [← List.mem_singleton.1 hm]; exact hx)
  · rw [List.map_set, h.rows]
  · rcases List.mem_or_eq_of_mem_set hx with hx | rfl
    · obtain ⟨k1, k2⟩ := h.keys x hx
      exact ⟨k1.chg hC (fun k hk => hnot k (k2 k hk).2), fun g' hg' => ⟨List.mem_append_left _ (k2 g' hg').1, (k2 g' hg').2⟩⟩
    · exact ⟨hk.chg hC (fun k hk => hnot k (hkU k hk).2), fun g' hg' => ⟨List.mem_append_right _ (by rw [hg']; simp), (hkU g' hg').2⟩⟩
  · by_cases hxg : x = g
    · rw [hxg]; exact h8
    · exact (h.no8 x hx).keep (hC.block x (h.obj.lim x hx) (by simp; exact hxg))
  · rcases List.mem_append.1 hx with hx | hx
    · exact Nat.lt_of_lt_of_le (h.lim x hx) hC.size
    · exact Nat.lt_of_lt_of_le (hkU x (by simpa using hx)).1 hC.size
  · show s.first + 8 * (s.rows.set i r).length ≤ s.d.n
    rw [List.length_set]
    exact h.ok.room
  · rcases List.mem_or_eq_of_mem_set hx with hx | rfl
    · exact h.ok.rows x hx
    · exact hr
  · rcases List.mem_append.1 hx with hx | hx
    · exact .inl hx
    · by_cases hA : x ∈ A
      · exact .inl hA
      · exact .inr (hkA x (by simpa using hx) hA)
end Go.Proofs.YtdkhmfcfihbjeaaGreatDoor.W

/- The reference's slots: Free, Find. -/
namespace Go.Proofs.YtdkhmfcfihbjeaaGreatDoor.W
open Go.RowKit
set_option linter.unusedVariables false
set_option linter.unusedSimpArgs false

end Go.Proofs.YtdkhmfcfihbjeaaGreatDoor.W

/- The reference's eye: Num. -/
namespace Go.Proofs.YtdkhmfcfihbjeaaGreatDoor.W
open Go.RowKit
set_option linter.unusedVariables false
set_option linter.unusedSimpArgs false

def REyeV (w : World) (v : Value) (g : Nat) (l : List UInt8) : Prop :=
  (l = [] ∧ ∃ a cap, v = .slice a 0 cap) ∨ ∃ o cap, v = .slice (some ⟨g, o, none⟩) l.length cap ∧ l.length ≤ cap ∧ cap ≤ maxLen ∧ g < w.heap.size ∧ ∀ i, i < l.length → w.cell? ⟨g, o + i, none⟩ = some (bv (l.getD i 0))
theorem REyeV.keepC {w w' : World} {v : Value} {g : Nat} {l : List UInt8} {S : List Nat} (h : REyeV w v g l) (hc : Chg S w w') (hn : g ∉ S) : REyeV w' v g l := by
  rcases h with h | ⟨o, cap, rfl, h1, h2, h3, hcell⟩
  · exact .inl h
  · exact .inr ⟨o, cap, rfl, h1, h2, Nat.lt_of_lt_of_le h3 hc.size, fun i hi => hc.cell (hcell i hi) hn⟩
theorem REyeV.slice {w : World} {v : Value} {g : Nat} {l : List UInt8} (h : REyeV w v g l) : ∃ a cap, v = .slice a l.length cap := by
  rcases h with ⟨rfl, a, cap, rfl⟩ | ⟨o, cap, rfl, _⟩
  · exact ⟨_, _, rfl⟩
  · exact ⟨_, _, rfl⟩
/-- The reference's eye in block b, its bytes in block g. -/
def REyeAt (w : World) (b g : Nat) (l : List UInt8) (bad : Int) : Prop :=
  ∃ v, w.heap[b]? = some (.cells #[v, .int .i64 bad] 127 (0, 0)) ∧ REyeV w v g l ∧ g ≠ b ∧ l.length ≤ 1000000
theorem REyeAt.keep {w w' : World} {b g : Nat} {l : List UInt8} {bad : Int} {S : List Nat} (h : REyeAt w b g l bad) (hc : Chg S w w') (hb : b ∉ S) (hg : g ∉ S) : REyeAt w' b g l bad := by
  obtain ⟨v, h1, h2, h3, h4⟩ := h
  exact ⟨v, hc.keep h1 hb, h2.keepC hc hg, h3, h4⟩
theorem REyeV.dropped {w : World} {g o cap n : Nat} {l : List UInt8} (hl : l.length ≤ cap) (hc : cap ≤ maxLen) (hg : g < w.heap.size) (hcell : ∀ i, i < l.length → w.cell? ⟨g, o + i, none⟩ = some (bv (l.getD i 0))) (hn : n ≤ l.length) :
    REyeV w (.slice (some ⟨g, if cap = n then o else o + n, none⟩) (l.length - n) (cap - n)) g (l.drop n) := by
  right
  have hdl : (l.drop n).length = l.length - n := List.length_drop ..
  refine ⟨if cap = n then o else o + n, cap - n, by rw [hdl], by omega, by omega, hg, fun i hi => ?_⟩
  have h2 : ¬ (cap = n) := by omega
  rw [if_neg h2, getD_drop, Nat.add_assoc]
  exact hcell (n + i) (by omega)

set_option maxHeartbeats 4000000 in
set_option maxRecDepth 100000 in
theorem rnum_ok (b g o cap : Nat) (l : List UInt8) (n : Nat) (w : World) (h : w.heap[b]? = some (.cells #[.slice (some ⟨g, o, none⟩) l.length cap, .int .i64 0] 127 (0, 0)))
    (hl : l.length ≤ cap) (hc : cap ≤ maxLen) (hcell : ∀ i, i < l.length → w.cell? ⟨g, o + i, none⟩ = some (bv (l.getD i 0))) (h1 : 1 ≤ n) (h7 : n ≤ 7) (hn : n ≤ l.length) (hll : l.length ≤ 1000000) :
    Calls Tryz.prog 59 #[.pointer (some ⟨b, 0, none⟩), .int .i64 n] w fun e w' => e = .returned (.int .i64 (beNum (l.take n))) ∧
      w' = w.setCell ⟨b, 0, none⟩ (.slice (some ⟨g, if cap = n then o else o + n, none⟩) (l.length - n) (cap - n)) := by
  have b0 := blk_cell h 0 _ rfl
  have b1 := blk_cell h 1 _ rfl
  have f0 := blk_frozen h 0
  have hbl := blk_lt h
  have HC := Lib.hid hcell
  have HL := Lib.hid hl
  unfold maxLen at hc
  have hcapn : n ≤ cap := by omega
  have hn1 : ¬ ((n : Int) < 1) := by omega
  have hn7 : ¬ ((7 : Int) < (n : Int)) := by omega
  have q1 : decide ((n : Int) < 1) = false := by simpa using hn1
  have q7 : decide ((7 : Int) < (n : Int)) = false := by simpa using hn7
  have ql : decide (l.length < n) = false := by simp; omega
  clear h hcell
  obtain rfl | hcn := Decidable.em (n = cap)
  all_goals
    try (have hcn' : ¬ (cap = n) := fun h => hcn h.symm)
    try clear hcn
    go_enter Tryz.func59, Tryz.ntmps59
    go_wp2
    go_loop [5, 6] (fun x i => ∃ k : Nat, k ≤ n ∧ i = .int .i64 k ∧ x = .int .i64 (beNum (l.take k))) (fun _ i => n - (intOf i).toNat)
    case atStart => exact ⟨0, Nat.zero_le _, rfl, rfl⟩
    case round =>
      obtain ⟨k, hk, rfl, rfl⟩ := hrel
      by_cases hlt : k < n
      · have hcl := HC.out k (by omega)
        have hb := beNum_take_le l k (by omega)
        have hkz : (k : Int) < (n : Int) := by omega
        have hkl : (k : Int) < (l.length : Int) := by omega
        have hkz1 : (k : Int).toNat = k := by omega
        obtain ⟨c, hcc⟩ : ∃ c, c = l.getD k 0 := ⟨_, rfl⟩
        rw [← hcc] at hcl
        have hc8 := c.toNat_lt
        have HX : Hid (beNum (l.take (k + 1)) = beNum (l.take k) * 256 + c.toNat) := Lib.hid (by rw [take_snocU l k (by omega), beNum_snoc, hcc])
        clear hcc
        obtain ⟨x, hx⟩ : ∃ x, x = beNum (l.take k) := ⟨_, rfl⟩
        rw [← hx] at hb HX ⊢
        clear hx
        unfold bv at hcl
        have hor : bits .or .i64 ((x : Int) * 256) (c.toNat : Int) = ((x * 256 + c.toNat : Nat) : Int) := by
          have := i64_or_nat (x * 256) c.toNat (by omega) (by omega)
          rw [or_byte] at this
          simpa using this
        go_wp2
        go_round
        case rel => exact ⟨k + 1, by omega, by go_num, by rw [HX.out]; go_num⟩
        case measure => simp [intOf]; omega
      · have hk9 : k = n := by omega
        have HK := Lib.hid hk9
        clear hk9
        go_wp2
        go_ret
        exact ⟨by rw [HK.out]; rfl, rfl⟩

set_option maxHeartbeats 2000000 in
set_option maxRecDepth 100000 in
theorem rnum_short (b : Nat) (a : Option Addr) (L cap : Nat) (n : Nat) (w : World) (h : w.heap[b]? = some (.cells #[.slice a L cap, .int .i64 0] 127 (0, 0)))
    (h1 : 1 ≤ n) (h7 : n ≤ 7) (hn : L < n) :
    Calls Tryz.prog 59 #[.pointer (some ⟨b, 0, none⟩), .int .i64 n] w fun e w' => e = .returned (.int .i64 0) ∧ w' = w.setCell ⟨b, 1, none⟩ (.int .i64 2) := by
  have b0 := blk_cell h 0 _ rfl
  have b1 := blk_cell h 1 _ rfl
  have f1 := blk_frozen h 1
  have hbl := blk_lt h
  have q1 : decide ((n : Int) < 1) = false := by simp; omega
  have q7 : decide ((7 : Int) < (n : Int)) = false := by simp; omega
  have ql : decide (L < n) = true := by simp; omega
  clear h
  go_enter Tryz.func59, Tryz.ntmps59
  go_wp2
  go_ret
  exact ⟨rfl, rfl⟩

set_option maxHeartbeats 2000000 in
set_option maxRecDepth 100000 in
theorem rnum_bad (b : Nat) (v : Value) (bad n : Int) (w : World) (h : w.heap[b]? = some (.cells #[v, .int .i64 bad] 127 (0, 0))) (hb : bad ≠ 0) :
    Calls Tryz.prog 59 #[.pointer (some ⟨b, 0, none⟩), .int .i64 n] w fun e w' => e = .returned (.int .i64 0) ∧ w = w' := by
  have b1 := blk_cell h 1 _ rfl
  have hbl := blk_lt h
  have q1 : (bad == 0) = false := by simp [hb]
  have q2 : (bad != 0) = true := by simp [hb]
  clear h hb
  go_enter Tryz.func59, Tryz.ntmps59
  go_wp2
  go_ret
  exact ⟨rfl, rfl⟩

/-- The reference's Num. -/
theorem rnum_any (b g : Nat) (l : List UInt8) (bad : Int) (width : Int) (w : World) (h : REyeAt w b g l bad) (h1 : 1 ≤ width) (h7 : width ≤ 7) :
    Calls Tryz.prog 59 #[.pointer (some ⟨b, 0, none⟩), .int .i64 width] w fun e w' => e = .returned (.int .i64 (eyeNum l bad width.toNat).1) ∧
      REyeAt w' b g (eyeNum l bad width.toNat).2.1 (eyeNum l bad width.toNat).2.2 ∧ Chg [b] w w' := by
  obtain ⟨n, rfl⟩ := Int.eq_ofNat_of_zero_le (show 0 ≤ width by omega)
  rw [Int.toNat_natCast]
  have hE := h
  obtain ⟨v, hb, hv, hgb, hll⟩ := h
  by_cases hbad : bad = 0
  · subst hbad
    by_cases hlen : l.length < n
    · obtain ⟨a, cap, rfl⟩ := hv.slice
      rw [show eyeNum l 0 n = (0, l, 2) by unfold eyeNum; rw [if_neg (by simp), if_pos hlen]]
      refine (rnum_short b a _ cap n w hb (by omega) (by omega) hlen).mono ?_
      rintro e w' ⟨rfl, rfl⟩
      have hc := (Chg.refl [b] w).setCell (p := ⟨b, 1, none⟩) (.inl (by simp)) (.int .i64 2)
      exact ⟨rfl, ⟨_, set_blk hb, hv.keepC hc (by simp; exact hgb), hgb, hll⟩, hc⟩
    · rw [show eyeNum l 0 n = ((beNum (l.take n) : Int), l.drop n, 0) by unfold eyeNum; rw [if_neg (by simp), if_neg hlen]]
      rcases hv with ⟨rfl, _⟩ | ⟨o, cap, rfl, hlc, hcm, hg, hcell⟩
      · simp at hlen; omega
      refine (rnum_ok b g o cap l n w hb hlc hcm hcell (by omega) (by omega) (by omega) hll).mono ?_
      rintro e w' ⟨rfl, rfl⟩
      have hc := (Chg.refl [b] w).setCell (p := ⟨b, 0, none⟩) (.inl (by simp)) (.slice (some ⟨g, if cap = n then o else o + n, none⟩) (l.length - n) (cap - n))
      exact ⟨rfl, ⟨_, set_blk hb, (REyeV.dropped hlc hcm hg hcell (by omega)).keepC hc (by simp; exact hgb), hgb, by show (l.drop n).length ≤ _; rw [List.length_drop]; omega⟩, hc⟩
  · rw [show eyeNum l bad n = (0, l, bad) by unfold eyeNum; rw [if_pos hbad]]
    refine (rnum_bad b v bad n w hb hbad).mono ?_
    rintro e w' ⟨rfl, rfl⟩
    exact ⟨rfl, hE, Chg.refl _ _⟩

end Go.Proofs.YtdkhmfcfihbjeaaGreatDoor.W

/- The reference's eye: Raw. -/
namespace Go.Proofs.YtdkhmfcfihbjeaaGreatDoor.W
open Go.RowKit
set_option linter.unusedVariables false
set_option linter.unusedSimpArgs false

theorem REyeV.bytes {w : World} {v : Value} {g : Nat} {l : List UInt8} (h : REyeV w v g l) : ∃ a cap, v = .slice a l.length cap ∧ (l = [] ∨ ∃ o, a = some ⟨g, o, none⟩ ∧ l.length ≤ cap ∧ cap ≤ maxLen ∧ g < w.heap.size ∧ ∀ i, i < l.length → w.cell? ⟨g, o + i, none⟩ = some (bv (l.getD i 0))) := by
  rcases h with ⟨rfl, a, cap, rfl⟩ | ⟨o, cap, rfl, h1, h2, h3, hc⟩
  · exact ⟨a, cap, rfl, .inl rfl⟩
  · exact ⟨_, cap, rfl, .inr ⟨o, rfl, h1, h2, h3, hc⟩⟩

end Go.Proofs.YtdkhmfcfihbjeaaGreatDoor.W

/- The reference's noughts. -/
namespace Go.Proofs.YtdkhmfcfihbjeaaGreatDoor.W
open Go.RowKit
set_option linter.unusedVariables false
set_option linter.unusedSimpArgs false

end Go.Proofs.YtdkhmfcfihbjeaaGreatDoor.W

/- The reference's readHead. -/
namespace Go.Proofs.YtdkhmfcfihbjeaaGreatDoor.W
open Go.RowKit
set_option linter.unusedVariables false
set_option linter.unusedSimpArgs false

end Go.Proofs.YtdkhmfcfihbjeaaGreatDoor.W

/- The reference's slots: Get. -/
namespace Go.Proofs.YtdkhmfcfihbjeaaGreatDoor.W
open Go.RowKit
set_option linter.unusedVariables false
set_option linter.unusedSimpArgs false

/-- What is read of the disk. -/
theorem RDiskAt.read {w : World} {m : Nat} {V F : List Nat} {d : DS} (h : RDiskAt w m V F d) :
    w.cell? ⟨m, 6, none⟩ = some (.bool d.dead) ∧ d.n ≤ 4160 ∧ ∃ a cap, w.cell? ⟨m, 0, none⟩ = some (.slice a d.n cap) ∧ ∀ k, k < d.n → ∃ g ax cx, a = some ⟨g, 0, none⟩ ∧ w.cell? ⟨g, k, none⟩ = some (.slice ax 64 cx) ∧ BytesAt w (.slice ax 64 cx) (d.now k) ∧ (d.now k).length = 64 := by
  obtain ⟨nv, lv, av, wv, NV, LV, AV, WV, H⟩ := h
  have hrow := H.row.1
  have c0 : w.cell? ⟨m, 0, none⟩ = some nv := blk_cell H.head 0 _ rfl
  refine ⟨blk_cell H.head 6 _ rfl, H.few, ?_⟩
  by_cases hn : 0 < d.n
  · obtain ⟨⟨gn, cn, hnv⟩, _⟩ := H.form hn
    refine ⟨_, cn, by rw [c0, hnv], fun k hk => ?_⟩
    rw [hnv] at hrow
    obtain ⟨hNl, k0, _, _⟩ := own_cell hrow k hk
    obtain ⟨b1, b2, b3⟩ := H.now k hk
    obtain ⟨ax, cx, hx⟩ := b2.slice
    rw [b1] at hx
    rw [hx] at k0 b2
    exact ⟨gn, ax, cx, rfl, k0, b2, b1⟩
  · rcases hrow.2 with ⟨h1, h2⟩ | ⟨g, cap, cur, h1, _⟩
    · exact ⟨none, 0, by rw [c0, h1]; simp; omega, fun k hk => by omega⟩
    · exact ⟨_, cap, by rw [c0, h1], fun k hk => by omega⟩

end Go.Proofs.YtdkhmfcfihbjeaaGreatDoor.W

/- The reference's store: plainly; in memory; unkey. -/
namespace Go.Proofs.YtdkhmfcfihbjeaaGreatDoor.W
open Go.RowKit
set_option linter.unusedVariables false
set_option linter.unusedSimpArgs false

/-! ### Plainly -/
/-! ### In memory -/
structure RStOk (w : World) (q sp m : Nat) (W A : List Nat) (t : Sto) : Prop where
  head : w.heap[q]? = some (.cells #[.pointer (some ⟨m, 0, none⟩), .pointer (some ⟨sp, 0, none⟩), .bool t.whole] 141 (0, 0))
  slots : RSlotsAt w sp m W A t.s
  out : q ∉ A
  ok : keysOk t.s.rows
/-- The reference's store in block q, its disk in block m; U: what may be written; B: all its blocks. -/
def RStAt (w : World) (q m : Nat) (U B : List Nat) (t : Sto) : Prop := ∃ sp W A, RStOk w q sp m W A t ∧ U = q :: W ∧ B = q :: A
theorem RStOk.lt {w : World} {q sp m : Nat} {W A : List Nat} {t : Sto} (h : RStOk w q sp m W A t) : (∀ x ∈ q :: A, x < w.heap.size) ∧ (∀ x ∈ q :: W, x ∈ q :: A) ∧ ∀ x ∈ q :: W, NoU8 w x := by
  obtain ⟨h1, h2, h3⟩ := h.slots.lim
  refine ⟨fun x hx => ?_, fun x hx => ?_, fun x hx => ?_⟩
  · rcases List.mem_cons.1 hx with rfl | hx
    · exact blk_lt h.head
    · exact h1 x hx
  · rcases List.mem_cons.1 hx with rfl | hx
    · simp
    · exact List.mem_cons_of_mem _ (h2 x hx)
  · rcases List.mem_cons.1 hx with rfl | hx
    · exact NoU8.mk h.head (no8_list (by simp [no8_ptr, no8_bool]))
    · exact h3 x hx
theorem RStAt.lim {w : World} {q m : Nat} {U B : List Nat} {t : Sto} (h : RStAt w q m U B t) : (∀ x ∈ B, x < w.heap.size) ∧ (∀ x ∈ U, x ∈ B) ∧ ∀ x ∈ U, NoU8 w x := by
  obtain ⟨sp, W, A, h, rfl, rfl⟩ := h
  exact h.lt
theorem RStOk.keep {w w' : World} {q sp m : Nat} {W A T : List Nat} {t : Sto} (h : RStOk w q sp m W A t) (hc : Chg T w w') (ha : ∀ x ∈ q :: A, x ∉ T) : RStOk w' q sp m W A t :=
  ⟨hc.keep h.head (ha q (by simp)), h.slots.keep hc (fun x hx => ha x (List.mem_cons_of_mem _ hx)), h.out, h.ok⟩
theorem RStAt.keep {w w' : World} {q m : Nat} {U B T : List Nat} {t : Sto} (h : RStAt w q m U B t) (hc : Chg T w w') (ha : ∀ x ∈ B, x ∉ T) : RStAt w' q m U B t := by
  obtain ⟨sp, W, A, h, rfl, rfl⟩ := h
  exact ⟨sp, W, A, h.keep hc ha, rfl, rfl⟩
/-- What doing with it leaves. -/
def RStd (w w' : World) (q m : Nat) (U B : List Nat) (t : Sto) : Prop := ∃ U' B', RStAt w' q m U' B' t ∧ (∀ x ∈ U', x ∈ U ∨ w.heap.size ≤ x) ∧ (∀ x ∈ B', x ∈ B ∨ w.heap.size ≤ x) ∧ Chg U w w'
theorem RStd.same {w : World} {q m : Nat} {U B : List Nat} {t : Sto} (h : RStAt w q m U B t) : RStd w w q m U B t := ⟨U, B, h, fun x hx => .inl hx, fun x hx => .inl hx, Chg.refl _ _⟩
theorem RStd.glue {w w1 w2 : World} {q m : Nat} {U B U1 B1 : List Nat} {t : Sto} (hv : ∀ x ∈ U1, x ∈ U ∨ w.heap.size ≤ x) (hf : ∀ x ∈ B1, x ∈ B ∨ w.heap.size ≤ x) (hc : Chg U w w1) (h : RStd w1 w2 q m U1 B1 t) : RStd w w2 q m U B t := by
  obtain ⟨V2, F2, b1, b2, b3, b4⟩ := h
  refine ⟨V2, F2, b1, fun x hx => ?_, fun x hx => ?_, hc.trans b4 hv⟩
  · rcases b2 x hx with h | h
    · exact hv x h
    · exact .inr (Nat.le_trans hc.size h)
  · rcases b3 x hx with h | h
    · exact hf x h
    · exact .inr (Nat.le_trans hc.size h)
theorem RStd.pre {w0 w w' : World} {q m : Nat} {U B : List Nat} {t : Sto} (hc : Chg [] w0 w) (h : RStd w w' q m U B t) : RStd w0 w' q m U B t := RStd.glue (fun x hx => .inl hx) (fun x hx => .inl hx) (hc.mono (by simp)) h
theorem RStd.post {w w1 w' : World} {q m : Nat} {U B : List Nat} {t : Sto} (h : RStd w w1 q m U B t) (hc : Chg [] w1 w') : RStd w w' q m U B t := by
  obtain ⟨W1, A1, a1, a2, a3, a4⟩ := h
  exact ⟨W1, A1, a1.keep hc (by simp), a2, a3, a4.trans hc (by simp)⟩
/-- The slots have been worked on. -/
theorem RStOk.did {w w' : World} {q sp m : Nat} {W A : List Nat} {t : Sto} {s : SS} (h : RStOk w q sp m W A t) (hd : RSid w w' sp m W A s) (hk : keysOk s.rows) : RStd w w' q m (q :: W) (q :: A) { t with s := s } := by
  obtain ⟨W', A', a1, a2, a3, a4⟩ := hd
  have hl := h.lt
  have hq : q < w.heap.size := hl.1 q (by simp)
  have hW : q ∉ W := fun hm => h.out (h.slots.lim.2.1 q hm)
  refine ⟨q :: W', q :: A', ⟨sp, W', A', ⟨a4.keep h.head hW, a1, fun hm => ?_, hk⟩, rfl, rfl⟩, fun x hx => ?_, fun x hx => ?_, a4.mono (fun x hx => .inl (List.mem_cons_of_mem _ hx))⟩
  · rcases a3 q hm with h4 | h4
    · exact h.out h4
    · omega
  · rcases List.mem_cons.1 hx with rfl | hx
    · exact .inl (by simp)
    · rcases a2 x hx with h4 | h4
      · exact .inl (List.mem_cons_of_mem _ h4)
      · exact .inr h4
  · rcases List.mem_cons.1 hx with rfl | hx
    · exact .inl (by simp)
    · rcases a3 x hx with h4 | h4
      · exact .inl (List.mem_cons_of_mem _ h4)
      · exact .inr h4
theorem RStOk.cells {w : World} {q sp m : Nat} {W A : List Nat} {t : Sto} (h : RStOk w q sp m W A t) : w.cell? ⟨q, 0, none⟩ = some (.pointer (some ⟨m, 0, none⟩)) ∧ w.cell? ⟨q, 1, none⟩ = some (.pointer (some ⟨sp, 0, none⟩)) ∧ w.cell? ⟨q, 2, none⟩ = some (.bool t.whole) :=
  ⟨blk_cell h.head 0 _ rfl, blk_cell h.head 1 _ rfl, blk_cell h.head 2 _ rfl⟩
/-! ### unkey -/
/-- An eye of the reference that is read while an id is filled in block N. -/
structure REyeNew (w0 w : World) (b g N : Nat) (x : Id) (r : Int × List UInt8 × Int) : Prop where
  eye : REyeAt w b g r.2.1 r.2.2
  chg : Chg [] w0 w
  own : w0.heap.size ≤ b
  blk : w.heap[N]? = some (.cells (idC x) 38 (0, 0))
  own2 : w0.heap.size ≤ N
  ne : N ≠ b ∧ N ≠ g
theorem REyeNew.num {w0 w : World} {b g N : Nat} {x : Id} {r : Int × List UInt8 × Int} (h : REyeNew w0 w b g N x r) (n : Nat) (h1 : 1 ≤ n) (h7 : n ≤ 7) (r' : Int × List UInt8 × Int) (hr : r' = eyeNum r.2.1 r.2.2 n) :
    Calls Tryz.prog 59 #[.pointer (some ⟨b, 0, none⟩), .int .i64 n] w fun e w' => e = .returned (.int .i64 r'.1) ∧ REyeNew w0 w' b g N x r' := by
  subst hr
  refine (rnum_any b g r.2.1 r.2.2 n w h.eye (by omega) (by omega)).mono ?_
  rintro e w' ⟨rfl, h2, h3⟩
  refine ⟨rfl, h2, h.chg.trans h3 (fun x hx => .inr ?_), h.own, h3.keep h.blk (by simpa using h.ne.1), h.own2, h.ne⟩
  rw [List.mem_singleton.1 hx]; exact h.own
theorem REyeNew.set {w0 w : World} {b g N : Nat} {x y : Id} {r : Int × List UInt8 × Int} (h : REyeNew w0 w b g N x r) (j : Nat) (u : Value) (hy : (idC x).setIfInBounds j u = idC y) : REyeNew w0 (w.setCell ⟨N, j, none⟩ u) b g N y r := by
  have hc : Chg [N] w (w.setCell ⟨N, j, none⟩ u) := (Chg.refl [N] w).setCell (p := ⟨N, j, none⟩) (.inl (by simp)) u
  refine ⟨h.eye.keep hc (by simpa using Ne.symm h.ne.1) (by simpa using Ne.symm h.ne.2), h.chg.setCell (p := ⟨N, j, none⟩) (.inr h.own2) u, h.own, ?_, h.own2, h.ne⟩
  rw [← hy]; exact set_blk h.blk
theorem REyeNew.cells {w0 w : World} {b g N : Nat} {a c d e : Int} {r : Int × List UInt8 × Int} (h : REyeNew w0 w b g N ⟨a, c, d, e⟩ r) : (w.cell? ⟨N, 0, none⟩ = some (.int .i64 a) ∧ w.cell? ⟨N, 1, none⟩ = some (.int .i64 c) ∧ w.cell? ⟨N, 2, none⟩ = some (.int .i64 d) ∧ w.cell? ⟨N, 3, none⟩ = some (.int .i64 e)) ∧
    w.frozen? ⟨N, 0, none⟩ = false ∧ w.frozen? ⟨N, 1, none⟩ = false ∧ w.frozen? ⟨N, 2, none⟩ = false ∧ w.frozen? ⟨N, 3, none⟩ = false :=
  ⟨id_cells h.blk, blk_frozen h.blk 0, blk_frozen h.blk 1, blk_frozen h.blk 2, blk_frozen h.blk 3⟩
end Go.Proofs.YtdkhmfcfihbjeaaGreatDoor.W

/- The reference's slots: Clear. -/
namespace Go.Proofs.YtdkhmfcfihbjeaaGreatDoor.W
open Go.RowKit
set_option linter.unusedVariables false
set_option linter.unusedSimpArgs false

/-- What a change of the slots answers. -/
def RSidPost (w : World) (q m : Nat) (W A : List Nat) (r : Int × SS) (e : Ending) (w' : World) : Prop := e = .returned (.int .i64 r.1) ∧ RSid w w' q m W A r.2
theorem RSidPost.same {w : World} {q m : Nat} {W A : List Nat} {s : SS} {c : Int} (h : RSlotsAt w q m W A s) : RSidPost w q m W A (c, s) (.returned (.int .i64 c)) w := ⟨rfl, RSid.same h⟩
end Go.Proofs.YtdkhmfcfihbjeaaGreatDoor.W

/- The reference's padded. -/
namespace Go.Proofs.YtdkhmfcfihbjeaaGreatDoor.W
open Go.RowKit
set_option linter.unusedVariables false
set_option linter.unusedSimpArgs false

/-- Sectors in a row of rows. -/
structure PadAt (w0 w : World) (v : Value) (b : List UInt8) (j : Nat) (PV : List Value) : Prop where
  row : w.ownsRow 0 30 1 v j PV
  secs : ∀ k, k < j → BytesAt w (PV.getD k undef) (secAt b k) ∧ ∀ g, (PV.getD k undef).ownBlock = some g → w0.heap.size ≤ g ∧ v.ownBlock ≠ some g
  new : ∀ g, v.ownBlock = some g → w0.heap.size ≤ g
theorem PadAt.keep {w0 w w' : World} {v : Value} {b : List UInt8} {j : Nat} {PV : List Value} (h : PadAt w0 w v b j PV) (hc : Chg [] w w') : PadAt w0 w' v b j PV :=
  ⟨row_keep h.row (fun g hg => hc.block g (World.ownsRow.lt h.row g hg).2 (by simp)), fun k hk => ⟨(h.secs k hk).1.chg hc (by simp), (h.secs k hk).2⟩, h.new⟩
end Go.Proofs.YtdkhmfcfihbjeaaGreatDoor.W

/- The reference's slots: Put. -/
namespace Go.Proofs.YtdkhmfcfihbjeaaGreatDoor.W
open Go.RowKit
set_option linter.unusedVariables false
set_option linter.unusedSimpArgs false

theorem PadAt.form {w0 w : World} {v : Value} {b : List UInt8} {j : Nat} {PV : List Value} (h : PadAt w0 w v b j PV) : ∃ a cap, v = .slice a j cap := by
  rcases h.row.2 with ⟨h1, h2⟩ | ⟨g, cap, cur, h1, _⟩
  · exact ⟨none, 0, by rw [h1, h2]⟩
  · exact ⟨_, cap, h1⟩
theorem PadAt.at {w0 w : World} {v : Value} {b : List UInt8} {j : Nat} {PV : List Value} (h : PadAt w0 w v b j PV) (k : Nat) (hk : k < j) : ∃ g cap ax cx, v = .slice (some ⟨g, 0, none⟩) j cap ∧ w.cell? ⟨g, k, none⟩ = some (.slice ax 64 cx) ∧ BytesAt w (.slice ax 64 cx) (secAt b k) ∧ ∀ x, (Value.slice ax 64 cx).ownBlock = some x → w0.heap.size ≤ x := by
  rcases h.row.2 with ⟨h1, h2⟩ | ⟨g, cap, cur, h1, _⟩
  · omega
  · have hr := h.row
    rw [h1] at hr
    obtain ⟨_, k0, _⟩ := own_cell hr k hk
    obtain ⟨b1, b2⟩ := h.secs k hk
    obtain ⟨ax, cx, hx⟩ := b1.slice
    rw [secAt_len] at hx
    rw [hx] at k0 b1 b2
    exact ⟨g, cap, ax, cx, h1, k0, b1, fun x hx => (b2 x hx).1⟩
end Go.Proofs.YtdkhmfcfihbjeaaGreatDoor.W

/- The reference's store: Get, Put. -/
namespace Go.Proofs.YtdkhmfcfihbjeaaGreatDoor.W
open Go.RowKit
set_option linter.unusedVariables false
set_option linter.unusedSimpArgs false

end Go.Proofs.YtdkhmfcfihbjeaaGreatDoor.W

/- The reference's store: Delete, Room. -/
namespace Go.Proofs.YtdkhmfcfihbjeaaGreatDoor.W
open Go.RowKit
set_option linter.unusedVariables false
set_option linter.unusedSimpArgs false

/-- The rows of the reference's slots, to be read. -/
structure RLook (w : World) (sp : Nat) (s : SS) (a : Option Addr) (cap : Nat) : Prop where
  c2 : w.cell? ⟨sp, 2, none⟩ = some (.slice a s.rows.length cap)
  few : s.rows.length ≤ 1000
  big : s.rows.length ≤ cap
  row : ∀ i, i < s.rows.length → ∃ g kv, a = some ⟨g, 0, none⟩ ∧ w.cell? ⟨g, i * 3, none⟩ = some (.bool (s.rows.getD i noRow).used) ∧ w.cell? ⟨g, i * 3 + 1, none⟩ = some kv ∧ BytesAt w kv (s.rows.getD i noRow).key ∧ (s.rows.getD i noRow).key.length ≤ 40
theorem RSlotsAt.look {w : World} {sp m : Nat} {W A : List Nat} {s : SS} (h : RSlotsAt w sp m W A s) : ∃ a cap, RLook w sp s a cap := by
  obtain ⟨V, F, rv, R, H⟩ := h
  obtain ⟨a, cap, hrv, hcap⟩ := H.form
  have hfew := H.few
  refine ⟨a, cap, by rw [← hrv]; exact blk_cell H.obj.head 2 _ rfl, by omega, hcap, fun i hi => ?_⟩
  obtain ⟨g, cap', kv, h1, h2, _, h3, h4, _, h5, _⟩ := H.at i hi
  rw [hrv] at h1
  obtain ⟨rfl, _, _⟩ := Value.slice.inj h1
  refine ⟨g, kv, rfl, h3, h4, h5, ?_⟩
  rw [List.getD_eq_getElem?_getD, List.getElem?_eq_getElem hi]
  exact (H.ok.rows _ (List.getElem_mem hi)).2
theorem RLook.keep {w w' : World} {sp m : Nat} {W A : List Nat} {s : SS} {a : Option Addr} {cap : Nat} (h : RLook w sp s a cap) (hc : Chg [] w w') : RLook w' sp s a cap :=
  ⟨hc.cell h.c2 (by simp), h.few, h.big, fun i hi => by
    obtain ⟨g, kv, h1, h2, h3, h4, h5⟩ := h.row i hi
    exact ⟨g, kv, h1, hc.cell h2 (by simp), hc.cell h3 (by simp), h4.chg hc (by simp), h5⟩⟩

end Go.Proofs.YtdkhmfcfihbjeaaGreatDoor.W

/- The reference's List, plainly. -/
namespace Go.Proofs.YtdkhmfcfihbjeaaGreatDoor.W
open Go.RowKit
set_option linter.unusedVariables false
set_option linter.unusedSimpArgs false

def firstsTo (rows : List SRow) (i : Nat) : List Id := ((List.range i).filter (isFirst rows)).map (fun j => unId (rows.getD j noRow).key)
theorem firstsTo_succ (rows : List SRow) (i : Nat) : firstsTo rows (i + 1) = firstsTo rows i ++ if isFirst rows i then [unId (rows.getD i noRow).key] else [] := by
  unfold firstsTo
  rw [List.range_succ, List.filter_append, List.map_append]
  congr 1
  by_cases h : isFirst rows i = true
  · rw [if_pos h]; simp [h]
  · rw [if_neg h]; simp [h]
/-- What is known of the list so far. -/
structure Sorted (rows : List SRow) (i : Nat) (L : List Id) : Prop where
  rise : L.Pairwise idLt
  mem : ∀ x, x ∈ L ↔ x ∈ firstsTo rows i
  len : L.length ≤ i
theorem Sorted.zero (rows : List SRow) : Sorted rows 0 [] := ⟨List.Pairwise.nil, fun x => by simp [firstsTo], Nat.le_refl _⟩
theorem Sorted.skip {rows : List SRow} {i : Nat} {L : List Id} (h : Sorted rows i L) (hf : isFirst rows i = false) : Sorted rows (i + 1) L :=
  ⟨h.rise, fun x => by rw [firstsTo_succ, hf, h.mem]; simp, by have := h.len; omega⟩
theorem Sorted.fresh {rows : List SRow} (hk : keysOk rows) {i : Nat} (hi : i < rows.length) {L : List Id} (h : Sorted rows i L) (hf : isFirst rows i = true) : unId (rows.getD i noRow).key ∉ L := by
  intro hm
  have := (h.mem _).1 hm
  unfold firstsTo at this
  obtain ⟨j, hj, he⟩ := List.mem_map.1 this
  obtain ⟨h1, h2⟩ := List.mem_filter.1 hj
  have hji := List.mem_range.1 h1
  obtain ⟨hju, _⟩ := mem_isFirst.1 h2
  obtain ⟨hiu, hi3⟩ := mem_isFirst.1 hf
  have e1 := (un_back (hk _ (row_mem (show j < rows.length by omega)) hju)).2
  have e2 := (un_back (hk _ (row_mem hi) hiu)).2
  exact hi3 j hji ⟨hju, by rw [e1, e2, he]⟩
theorem Sorted.put {rows : List SRow} (hk : keysOk rows) {i : Nat} (hi : i < rows.length) {L : List Id} (h : Sorted rows i L) (hf : isFirst rows i = true) {k : Nat} (hkL : k ≤ L.length) (hgt : ∀ x ∈ L.drop k, idLt (unId (rows.getD i noRow).key) x)
    (hlt : ∀ x, 0 < k → L[k - 1]? = some x → ¬ idLt (unId (rows.getD i noRow).key) x) : Sorted rows (i + 1) (L.take k ++ unId (rows.getD i noRow).key :: L.drop k) := by
  have hfr := h.fresh hk hi hf
  obtain ⟨y, hy⟩ : ∃ y, y = unId (rows.getD i noRow).key := ⟨_, rfl⟩
  rw [← hy] at hgt hlt hfr ⊢
  have hsplit : L = L.take k ++ L.drop k := (List.take_append_drop k L).symm
  have hpw := h.rise
  have hlow : ∀ x ∈ L.take k, idLt x y := fun x hx => by
    have hxL : x ∈ L := List.mem_of_mem_take hx
    have hk0 : 0 < k := by
      rcases Nat.eq_zero_or_pos k with h0 | h0
      · rw [h0] at hx; simp at hx
      · exact h0
    obtain ⟨z, hz⟩ : ∃ z, L[k - 1]? = some z := ⟨_, List.getElem?_eq_getElem (by omega)⟩
    have h1 := hlt z hk0 hz
    have hzL : z ∈ L := List.mem_of_getElem? hz
    have hzy : idLt z y := by
      rcases idLt_or y z with h2 | h2 | h2
      · exact absurd h2 h1
      · rw [h2] at hfr; exact absurd hzL hfr
      · exact h2
    obtain ⟨j, hj, rfl⟩ := List.mem_iff_getElem.1 hx
    rw [List.length_take] at hj
    rw [List.getElem_take]
    by_cases hjk : j = k - 1
    · subst hjk
      have : L[k - 1] = z := by rw [List.getElem?_eq_getElem (by omega)] at hz; exact Option.some.inj hz
      rw [this]; exact hzy
    · have hlt2 := (List.pairwise_iff_getElem.1 hpw) j (k - 1) (by omega) (by omega) (by omega)
      have : L[k - 1] = z := by rw [List.getElem?_eq_getElem (by omega)] at hz; exact Option.some.inj hz
      rw [this] at hlt2
      exact idLt_trans hlt2 hzy
  refine ⟨?_, fun x => ?_, ?_⟩
  · rw [List.pairwise_append]
    rw [hsplit, List.pairwise_append] at hpw
    refine ⟨hpw.1, List.pairwise_cons.2 ⟨hgt, hpw.2.1⟩, fun a ha b hb => ?_⟩
    rcases List.mem_cons.1 hb with rfl | hb
    · exact hlow a ha
    · exact hpw.2.2 a ha b hb
  · rw [firstsTo_succ, if_pos hf, ← hy, List.mem_append, List.mem_append, ← h.mem]
    constructor
    · rintro (hx | hx)
      · exact .inl (List.mem_of_mem_take hx)
      · rcases List.mem_cons.1 hx with rfl | hx
        · exact .inr (by simp)
        · exact .inl (List.mem_of_mem_drop hx)
    · rintro (hx | hx)
      · rw [hsplit] at hx
        rcases List.mem_append.1 hx with hx | hx
        · exact .inl hx
        · exact .inr (List.mem_cons_of_mem _ hx)
      · rw [List.mem_singleton.1 hx]
        exact .inr (by simp)
  · have := h.len
    simp only [List.length_append, List.length_take, List.length_cons, List.length_drop]
    omega
theorem Sorted.done {t : Sto} (hk : keysOk t.s.rows) {L : List Id} (h : Sorted t.s.rows t.s.rows.length L) : L = t.ids := by
  have hn : L.Nodup := h.rise.imp (fun hab e => by rw [e] at hab; exact idLt_irrefl _ hab)
  have h1 : L.mergeSort leI = L := List.mergeSort_of_pairwise (h.rise.imp (fun hab => (leI_iff _ _).2 (.inl hab)))
  rw [← h1]
  exact sortedI_eq hn (firsts_nodup hk) (fun x => h.mem x)
/-! ### A row of ids that is set -/
end Go.Proofs.YtdkhmfcfihbjeaaGreatDoor.W

/- StoreOrder: ids that came in; Less; plainly. -/
namespace Go.Proofs.YtdkhmfcfihbjeaaGreatDoor.W
open Go.RowKit Go.ChangeShapes Go.WideShapes
set_option linter.unusedVariables false
set_option linter.unusedSimpArgs false

/-- Ids that came in. -/
def IdsIn (w : World) (a : Option Addr) (n : Nat) (f : Nat → Id) : Prop :=
  n = 0 ∨ ∃ g o, a = some ⟨g, o, none⟩ ∧ ∀ i, i < n → okD (f i) ∧ w.cell? ⟨g, o + i * 4, none⟩ = some (.int .i64 (f i).c) ∧ w.cell? ⟨g, o + i * 4 + 1, none⟩ = some (.int .i64 (f i).l) ∧ w.cell? ⟨g, o + i * 4 + 2, none⟩ = some (.int .i64 (f i).n) ∧ w.cell? ⟨g, o + i * 4 + 3, none⟩ = some (.int .i64 (f i).i)
theorem IdsIn.keep {w w' : World} {a : Option Addr} {n : Nat} {f : Nat → Id} (h : IdsIn w a n f) (hc : Chg [] w w') : IdsIn w' a n f := by
  rcases h with h | ⟨g, o, rfl, h⟩
  · exact .inl h
  · refine .inr ⟨g, o, rfl, fun i hi => ?_⟩
    obtain ⟨h1, h2, h3, h4, h5⟩ := h i hi
    exact ⟨h1, hc.cell h2 (by simp), hc.cell h3 (by simp), hc.cell h4 (by simp), hc.cell h5 (by simp)⟩
section
variable {H : Type} {enc : TypeId × Value → H} {w : World} {base : Nat} {held : Bool}
end
/-! ### Plainly -/
structure Ord (t : Sto) (F : Frag) (f : Nat → Id) (j : Nat) : Prop where
  kept : Kept t F
  one : ∀ x b, F x = some b → b = [1]
  has : ∀ i, i < j → mayId (f i) = true → F (f i) = some [1]
  room : 12 ≤ t.room + j
  small : t.s.d.ops ≤ 97 + 20 * j ∧ t.s.d.since.length = 0
theorem Ord.step {t : Sto} {F : Frag} {f : Nat → Id} {j : Nat} (h : Ord t F f j) (hj : j < 12) : ∃ F', Ord (t.put (f j) [1]).2 F' f (j + 1) := by
  obtain ⟨o1, o2, _⟩ := t.put_ok (f j) [1]
  have hsm := h.small
  cases hm : mayId (f j) with
  | false =>
    obtain ⟨_, h2⟩ := h.kept.put_bad (b := [1]) (.inl hm)
    refine ⟨F, ?_⟩
    rw [h2]
    refine ⟨h.kept, h.one, fun i hi hmi => ?_, by have := h.room; omega, by omega, hsm.2⟩
    rcases Nat.lt_or_ge i j with h3 | h3
    · exact h.has i h3 hmi
    · obtain rfl : i = j := by omega
      rw [hm] at hmi; cases hmi
  | true =>
    cases hF : F (f j) with
    | some b =>
      have hb := h.one _ _ hF
      have h2 := h.kept.put_there hF [1] (by simp)
      refine ⟨F, ?_⟩
      rw [h2]
      refine ⟨h.kept, h.one, fun i hi hmi => ?_, by have := h.room; show 12 ≤ t.room + (j + 1); omega, by show t.s.d.ops ≤ _; omega, hsm.2⟩
      rcases Nat.lt_or_ge i j with h3 | h3
      · exact h.has i h3 hmi
      · obtain rfl : i = j := by omega
        rw [hF, hb]
    | none =>
      have hr := h.room
      obtain ⟨p1, p2, p3⟩ := h.kept.put_new hm hF (b := [1]) (by simp) (by omega)
      refine ⟨_, p2, fun x b hx => ?_, fun i hi hmi => ?_, by omega, by omega, by rw [p2.since]; rfl⟩
      · unfold setF at hx
        split at hx
        · exact (Option.some.inj hx).symm
        · exact h.one _ _ hx
      · by_cases e : f i = f j
        · rw [e, setF_self]
        · rw [setF_other _ _ e]
          rcases Nat.lt_or_ge i j with h3 | h3
          · exact h.has i h3 hmi
          · obtain rfl : i = j := by omega
            exact absurd rfl e
theorem Ord.new : ∃ t d, (DS.new 97).format = ((0, some t), d) ∧ ∀ f, Ord t (fun _ => none) f 0 := by
  obtain ⟨t, d, h1, h2, h3, h4, h5, h6, _⟩ := Kept.new 97 (by omega)
  refine ⟨t, d, h1, fun f => ⟨h2, fun x b h => (by cases h), fun i hi => (by omega), ?_, by rw [h3]; omega, by rw [h2.since]; rfl⟩⟩
  unfold Sto.room
  rw [h4]
  decide
end Go.Proofs.YtdkhmfcfihbjeaaGreatDoor.W

/- The reference's List. -/
namespace Go.Proofs.YtdkhmfcfihbjeaaGreatDoor.W
open Go.RowKit Go.Sort
set_option linter.unusedVariables false
set_option linter.unusedSimpArgs false

end Go.Proofs.YtdkhmfcfihbjeaaGreatDoor.W

/- SameIds; the law's looks. -/
namespace Go.Proofs.YtdkhmfcfihbjeaaGreatDoor.W
open Go.RowKit
set_option linter.unusedVariables false
set_option linter.unusedSimpArgs false
variable {G : List Nat}

/-- A slice of ids, to be read. -/
def IdRow (w : World) (v : Value) (l : List Id) : Prop := ∃ a cap, v = .slice a l.length cap ∧ ∀ j, j < l.length → ∃ g x, a = some ⟨g, 0, none⟩ ∧ l[j]? = some x ∧ w.cell? ⟨g, j * 4, none⟩ = some (.int .i64 x.c) ∧ w.cell? ⟨g, j * 4 + 1, none⟩ = some (.int .i64 x.l) ∧ w.cell? ⟨g, j * 4 + 2, none⟩ = some (.int .i64 x.n) ∧ w.cell? ⟨g, j * 4 + 3, none⟩ = some (.int .i64 x.i)
theorem IdRow.of {w : World} {base : Nat} {v : Value} {l : List Id} (h : w.ownsRow base 38 4 v l.length (l.flatMap idE)) : IdRow w v l := by
  rcases h.2 with ⟨h1, h2⟩ | ⟨g, cap, cur, h1, _⟩
  · exact ⟨none, 0, by rw [h1, h2], fun j hj => by omega⟩
  · refine ⟨_, cap, h1, fun j hj => ⟨g, l[j], rfl, List.getElem?_eq_getElem hj, ?_⟩⟩
    rw [h1] at h
    exact id_row h j hj _ (List.getElem?_eq_getElem hj)
theorem IdRow.keep {w w' : World} {v : Value} {l : List Id} (h : IdRow w v l) (hc : Chg [] w w') : IdRow w' v l := by
  obtain ⟨a, cap, h1, h2⟩ := h
  refine ⟨a, cap, h1, fun j hj => ?_⟩
  obtain ⟨g, x, k1, k2, m0, m1, m2, m3⟩ := h2 j hj
  exact ⟨g, x, k1, k2, hc.cell m0 (by simp), hc.cell m1 (by simp), hc.cell m2 (by simp), hc.cell m3 (by simp)⟩

set_option maxHeartbeats 4000000 in
set_option maxRecDepth 100000 in
theorem rsameids_any (u v : Value) (l : List Id) (w : World) (hu : IdRow w u l) (hv : IdRow w v l) (hl : l.length ≤ 1000000) : Calls Tryz.prog 35 #[u, v] w fun e w' => e = .returned (.bool true) ∧ Chg [] w w' := by
  obtain ⟨a, ca, rfl, hA⟩ := hu
  obtain ⟨b, cb, rfl, hB⟩ := hv
  have HA := Lib.hid hA
  have HB := Lib.hid hB
  obtain ⟨n, hn⟩ : ∃ n, n = l.length := ⟨_, rfl⟩
  rw [← hn] at hl ⊢
  have HN := Lib.hid hn
  clear hA hB hn
  go_enter Tryz.func35, Tryz.ntmps35
  go_wp2
  go_loopg [5] n (fun g' s5 wr => ∃ (i : Nat), s5 = .int .i64 (i : Int) ∧ i ≤ n ∧ n ≤ i + g' ∧ Hid (Chg [] w wr))
  case atStart => exact ⟨0, rfl, by omega, by omega, Lib.hid (Chg.refl _ _)⟩
  case round =>
    obtain ⟨i, rfl, hi, hig, HC⟩ := hrel
    by_cases hlt : i < n
    · obtain ⟨g, ⟨xc, xl, xn, xi⟩, rfl, k1, m0, m1, m2, m3⟩ := HA.out i (by rw [← HN.out]; exact hlt)
      obtain ⟨g2, y, rfl, k2, n0, n1, n2, n3⟩ := HB.out i (by rw [← HN.out]; exact hlt)
      rw [k1] at k2
      obtain rfl := Option.some.inj k2
      have m0 := HC.out.cell m0 (by simp)
      have m1 := HC.out.cell m1 (by simp)
      have m2 := HC.out.cell m2 (by simp)
      have m3 := HC.out.cell m3 (by simp)
      have n0 := HC.out.cell n0 (by simp)
      have n1 := HC.out.cell n1 (by simp)
      have n2 := HC.out.cell n2 (by simp)
      have n3 := HC.out.cell n3 (by simp)
      have hiz : (i : Int) < (n : Int) := by omega
      have hiz1 : (i : Int).toNat = i := by omega
      clear k1 k2
      dsimp only at n0 n1 n2 n3 m0 m1 m2 m3
      go_wp2_with fail
      go_quiet (fail)
      have HCn := Lib.hid (HC.out.drewN nq)
      clear m0 m1 m2 m3 n0 n1 n2 n3
      go_wp2_with fail
      go_roundg (gk - 1)
      case measure => omega
      case rel => exact ⟨i + 1, by go_num, by omega, by omega, HCn⟩
    · have hiz : ¬ (i : Int) < (n : Int) := by omega
      go_wp2
      go_ret
      exact ⟨rfl, HC.out⟩

end Go.Proofs.YtdkhmfcfihbjeaaGreatDoor.W

/- The law's same, of two replies that are one. -/
namespace Go.Proofs.YtdkhmfcfihbjeaaGreatDoor.W
open Go.RowKit
set_option linter.unusedVariables false
set_option linter.unusedSimpArgs false

set_option maxHeartbeats 8000000 in
set_option maxRecDepth 100000 in
theorem same20_any (o : Rp) (a1 a2 b1 b2 : Option Addr) (c1 c2 d1 d2 : Nat) (w : World) (hb1 : BytesAt w (.slice a1 o.b.length c1) o.b) (hb2 : BytesAt w (.slice b1 o.b.length d1) o.b) (hi1 : IdRow w (.slice a2 o.ids.length c2) o.ids) (hi2 : IdRow w (.slice b2 o.ids.length d2) o.ids)
    (hl : o.b.length ≤ 1000000) (hl2 : o.ids.length ≤ 1000000) :
    Calls Tryz.prog 19 #[.agg #[.int .i64 o.e, .slice a1 o.b.length c1, .slice a2 o.ids.length c2, .int .i64 o.room, .bool o.whole], .agg #[.int .i64 o.e, .slice b1 o.b.length d1, .slice b2 o.ids.length d2, .int .i64 o.room, .bool o.whole]] w fun e w' => e = .returned (.bool true) ∧ Chg [] w w' := by
  obtain ⟨e0, b, ids, room, wh⟩ := o
  dsimp only at *
  obtain ⟨w2, hw2⟩ : ∃ w2, w2 = (w.alloc (.cells #[.int .i64 e0, .slice a1 b.length c1, .slice a2 ids.length c2, .int .i64 room, .bool wh] 32)).alloc (.cells #[.int .i64 e0, .slice b1 b.length d1, .slice b2 ids.length d2, .int .i64 room, .bool wh] 54) := ⟨_, rfl⟩
  have hc2 : Chg [] w w2 := by rw [hw2]; exact ((Chg.refl _ _).alloc _).alloc _
  have hA : w2.heap[w.heap.size]? = some (.cells #[.int .i64 e0, .slice a1 b.length c1, .slice a2 ids.length c2, .int .i64 room, .bool wh] 32 (0, 0)) := by rw [hw2]; exact blk_alloc (heap_alloc_new w _)
  have hB : w2.heap[w.heap.size + 1]? = some (.cells #[.int .i64 e0, .slice b1 b.length d1, .slice b2 ids.length d2, .int .i64 room, .bool wh] 54 (0, 0)) := by rw [hw2]; exact heap_at (by simp)
  have CS := Lib.hid (same_any (.slice a1 b.length c1) (.slice b1 b.length d1) b b w2 (hb1.chg hc2 (by simp)) (hb2.chg hc2 (by simp)) (by omega) (by omega))
  rw [decide_eq_true rfl] at CS
  have CI := Lib.hid (fun w' (hc : Chg [] w w') => rsameids_any (.slice a2 ids.length c2) (.slice b2 ids.length d2) ids w' (hi1.keep hc) (hi2.keep hc) hl2)
  have HA := Lib.hid hA
  have HB := Lib.hid hB
  have HC2 := Lib.hid hc2
  have HW2 := Lib.hid hw2
  clear hb1 hb2 hi1 hi2 hA hB hc2 hw2
  go_enter Tryz.func19, Tryz.ntmps19
  go_wp2_with fail
  rw [← HW2.out]
  refine CS.out.mono ?_
  rintro e w3 ⟨rfl, nn, hq⟩
  have HC3 : Hid (Chg [] w2 w3) := Lib.hid (by rw [hq]; exact (Chg.refl [] _).drewN nn)
  clear hq CS
  have CI3 := Lib.hid (CI.out w3 (HC2.out.trans HC3.out (by simp)))
  have HA3 := Lib.hid (HC3.out.keep HA.out (by simp))
  have HB3 := Lib.hid (HC3.out.keep HB.out (by simp))
  have p2 := blk_cell HA3.out 2 _ rfl
  have q2 := blk_cell HB3.out 2 _ rfl
  go_wp2_with fail
  refine CI3.out.mono ?_
  rintro e w4 ⟨rfl, hc4⟩
  have HA4 := Lib.hid (hc4.keep HA3.out (by simp))
  have HB4 := Lib.hid (hc4.keep HB3.out (by simp))
  clear p2 q2
  have p3 := blk_cell HA4.out 3 _ rfl
  have q3 := blk_cell HB4.out 3 _ rfl
  have p4 := blk_cell HA4.out 4 _ rfl
  have q4 := blk_cell HB4.out 4 _ rfl
  have HCF : Hid (Chg [] w w4) := Lib.hid ((HC2.out.trans HC3.out (by simp)).trans hc4 (by simp))
  clear hc4 CI3
  go_wp2_with fail
  go_ret
  exact ⟨by simp, HCF.out⟩
end Go.Proofs.YtdkhmfcfihbjeaaGreatDoor.W

/- ServerDead: the walk. -/
namespace Go.Proofs.YtdkhmfcfihbjeaaGreatDoor.W
open Go.RowKit
set_option linter.unusedVariables false
set_option linter.unusedSimpArgs false

theorem OwnS.back {X : List Nat} {w0 w1 w : World} {z q p : Nat} {t : Sto} (hc : Chg [] w0 w1) (h : OwnS X w1 w z q p t) : OwnS X w0 w z q p t := by
  obtain ⟨U, h1, h2⟩ := h.sv
  have hs := hc.size
  exact ⟨⟨U, h1, fun x hx => Nat.le_trans hs (h2 x hx)⟩, hc.trans h.chg (by simp), Nat.le_trans hs h.newz, h.outz⟩
structure Dead20 where
  t0 : Sto
  td : Sto
  d : DS
  fmt : (DS.new 25).format = ((0, some t0), d)
  lim0 : 1 ≤ t0.s.d.n ∧ t0.s.d.ops ≤ 25 ∧ t0.s.d.since.length = 0
  limd : 1 ≤ td.s.d.n ∧ td.s.d.ops ≤ 65 ∧ td.s.d.since.length ≤ 40
  set : Sto.run ⟨{ t0.s with d := t0.s.d.setFuse 0 }, t0.whole⟩ ⟨6, ⟨0, 0, 0, 0⟩, []⟩ = ((⟨0, [], [], 0, false⟩, 14), td)
  dead : td.s.d.dead = true
theorem dead20_is : Nonempty Dead20 := by
  obtain ⟨t, d, h1, h2, h3, h4, h5, h6⟩ := Keep.new 25 (by omega)
  have hr : t.s.rows.length ≤ 20 := by have := h2.kept.full.1; omega
  have hf := step_far ⟨{ t.s with d := t.s.d.setFuse 0 }, t.whole⟩ ⟨6, ⟨0, 0, 0, 0⟩, []⟩ hr
  have hd := fuse_dead h2 [] ⟨0, 0, 0, 0⟩
  have hrun : Sto.run ⟨{ t.s with d := t.s.d.setFuse 0 }, t.whole⟩ ⟨6, ⟨0, 0, 0, 0⟩, []⟩ = ((noRp, 14), (Sto.step ⟨{ t.s with d := t.s.d.setFuse 0 }, t.whole⟩ ⟨6, ⟨0, 0, 0, 0⟩, []⟩).2) := by
    unfold Sto.run at hd ⊢
    have ha : ({ t.s with d := t.s.d.setFuse 0 } : SS).d.dead = false := h2.alive
    rw [if_neg (by rw [ha]; simp)] at hd ⊢
    by_cases hx : (Sto.step ⟨{ t.s with d := t.s.d.setFuse 0 }, t.whole⟩ ⟨6, ⟨0, 0, 0, 0⟩, []⟩).2.s.d.dead = true
    · rw [if_pos hx]
    · rw [if_neg hx] at hd
      exact absurd hd hx
  rw [hrun] at hd
  have e1 : (t.s.d.setFuse 0).n = t.s.d.n := rfl
  have e2 : (t.s.d.setFuse 0).ops = t.s.d.ops := rfl
  have e3 : (t.s.d.setFuse 0).since = t.s.d.since := rfl
  have hs := h2.since
  refine ⟨⟨t, _, d, h1, ⟨by omega, by omega, by rw [hs]; rfl⟩, ⟨?_, ?_, ?_⟩, hrun, hd⟩⟩
  · exact Nat.le_trans (show 1 ≤ t.s.d.n by omega) (Nat.le_of_eq hf.n.symm)
  · exact Nat.le_trans hf.ops (show t.s.d.ops + 40 ≤ 65 by omega)
  · exact Nat.le_trans hf.since (show t.s.d.since.length + 40 ≤ 40 by rw [hs]; simp)
theorem open_new25 : (DS.new 25).stOpen = (4, none) := by
  unfold DS.stOpen
  rw [if_neg (by show ¬ (25 < 9); omega), if_neg (by show ¬ (false = true); simp), if_pos]
  left
  show (zeros 64).getD 0 0 ≠ 1 ∧ (zeros 64).getD 0 0 ≠ 2
  rw [zeros_getD]
  simp

set_option maxHeartbeats 16000000 in
set_option maxRecDepth 100000 in
theorem dead20_any (r : Rq) (bv : Value) (n : Nat) (hn : n < 256) (w : World) (hin : RqIn w r bv) : Calls Tryz.prog 4 #[rqV r bv, .int .u8 (n : Int)] w fun e w' => e = .returned (.bool true) ∧ Chg [] w w' := by
  obtain ⟨⟨t0, td, d, hfm, hl0, hld, hset, hdead⟩⟩ := dead20_is
  obtain ⟨w1, hw1⟩ : ∃ w1, w1 = w.alloc (.cells (rqL r bv).toArray 42) := ⟨_, rfl⟩
  have hc1 : Chg [] w w1 := by rw [hw1]; exact (Chg.refl _ _).alloc _
  have hb1 : w1.heap[w.heap.size]? = some (.cells (rqL r bv).toArray 42 (0, 0)) := by rw [hw1]; exact heap_alloc_new w _
  have CW := Lib.hid (awake20_any w1)
  have HIN := Lib.hid (hin.keep hc1)
  have hbn : ∃ a c, bv = .slice a r.b.length c := hin.came.1.slice
  have hbl : r.b.length ≤ 9223372036854775807 := by have := hin.long; unfold maxLen at this; omega
  obtain ⟨m, hm⟩ : ∃ m, m = 1 + n % 4 := ⟨_, rfl⟩
  have hmz : (1 : Int) + (n : Int) % 4 = (m : Int) := by omega
  have hm4 : m ≤ 4 := by omega
  obtain ⟨k, ⟨xc, xl, xn, xi⟩, b⟩ := r
  obtain ⟨ba, bc, rfl⟩ := hbn
  dsimp only at hbl
  have HB1 := Lib.hid hb1
  have HC1 := Lib.hid hc1
  have HW1 := Lib.hid hw1
  have HFM := Lib.hid hfm
  have HL0 := Lib.hid hl0
  have HLD := Lib.hid hld
  have HSET := Lib.hid hset
  have HDEAD := Lib.hid (run_dead td ⟨k, ⟨xc, xl, xn, xi⟩, b⟩ hdead)
  unfold rqL at HW1
  unfold rqV rqL
  dsimp only at HW1 ⊢
  clear hw1 hb1 hc1 hin hfm hl0 hld hset hdead hm
  go_enter Tryz.func4, Tryz.ntmps4
  go_wp2_with fail
  rw [← HW1.out]
  refine CW.out.mono ?_
  rintro e w2 ⟨rfl, hc2⟩
  have HC2 := Lib.hid hc2
  have HB2 := Lib.hid (hc2.keep HB1.out (by simp))
  obtain ⟨q0, ⟨q1, q2, q3, q4⟩, q5⟩ := rq_cells HB2.out
  have CN := Lib.hid (own_disk 25 w2 (by omega) (by omega))
  clear hc2 CW
  by_cases hb6 : 600 < b.length
  · have hz : (600 : Int) < (b.length : Int) := by omega
    go_wp2
    go_ret
    exact ⟨rfl, HC1.out.trans HC2.out (by simp)⟩
  have hz : ¬ (600 : Int) < (b.length : Int) := by omega
  go_wp2_with fail
  refine CN.out.mono ?_
  rintro e w3 ⟨pd, S, rfl, hd3, hS3, hc3⟩
  have HC3 := Lib.hid (HC2.out.trans hc3 (by simp))
  have HD3 := Lib.hid hd3
  have CNS := Lib.hid (own_newS (Chg.refl [] w3) 25 (by omega) (by omega) HFM.out)
  clear hd3 hS3 hc3 CN q0 q1 q2 q3 q4 q5 hz
  go_wp2_with fail
  refine CNS.out.mono ?_
  rintro e w4 ⟨z, q, p, rfl, ho4⟩
  have HO4 := Lib.hid (OwnS.back HC3.out ho4)
  have hc34 : Chg [] w3 w4 := ho4.chg
  have COF := Lib.hid (own_openF (HD3.out.keep hc34 (by simp)) open_new25 (by simp))
  clear ho4 CNS
  go_wp2_with fail
  refine COF.out.mono ?_
  rintro e w5 ⟨rfl, hc5⟩
  have HO5 := Lib.hid (HO4.out.keep0 hc5)
  have CST := Lib.hid (own_store HO5.out)
  have CDK := Lib.hid (owns_disk HO5.out)
  have CFU := Lib.hid (owns_fuse HO5.out 0 (by omega))
  clear hc5 COF hc34
  go_wp2_with fail
  refine CST.out.mono ?_
  rintro e w' ⟨rfl, hq⟩
  subst hq
  go_wp2_with fail
  refine CDK.out.mono ?_
  rintro e w' ⟨rfl, hq⟩
  subst hq
  go_wp2_with fail
  refine CFU.out.mono ?_
  rintro e w6 ⟨rfl, ho6, -⟩
  have CDO := Lib.hid (own_doI ho6 ⟨6, ⟨0, 0, 0, 0⟩, []⟩ (.slice none 0 0) HSET.out (by decide) (BytesAt.nil _) (by simp) (by simp) HL0.out.1 (by show t0.s.d.ops ≤ _; have := HL0.out.2.1; omega) (by show t0.s.d.since.length ≤ _; have := HL0.out.2.2; omega))
  dsimp only at CDO
  clear ho6 CST CDK CFU
  go_wp2_with fail
  refine CDO.out.mono ?_
  rintro e w7 ⟨a7, c7, a8, c8, he, -, -, -, ho7, -⟩
  dsimp only at he
  subst he
  have HO7 := Lib.hid ho7
  clear ho7 CDO HO4 HO5
  go_wp2_with fail
  go_loopg [11] m (fun g' s11 wr => ∃ i : Nat, s11 = .int .i64 (i : Int) ∧ i ≤ m ∧ m ≤ i + g' ∧ Hid (OwnS [] w1 wr z q p td))
  case atStart => exact ⟨0, rfl, by omega, by omega, HO7⟩
  case round =>
    obtain ⟨i, rfl, hi, hig, HR⟩ := hrel
    clear HO7
    by_cases hlt : i < m
    · have hiz : (i : Int) < (m : Int) := by omega
      have HBr := Lib.hid (HR.out.chg.keep HB1.out (by simp))
      obtain ⟨q0, ⟨q1, q2, q3, q4⟩, q5⟩ := rq_cells HBr.out
      have CQ := Lib.hid (request20_any ⟨k, ⟨xc, xl, xn, xi⟩, b⟩ ba b.length bc wr)
      dsimp only at CQ
      go_wp2_with fail
      refine CQ.out.mono ?_
      rintro e w8 ⟨rfl, hc8⟩
      have hi8 := (HIN.out.keep HR.out.chg).keep hc8
      have CD := Lib.hid (own_doI (HR.out.keep0 hc8) ⟨k, ⟨xc, xl, xn, xi⟩, b⟩ (.slice ba b.length bc) HDEAD.out HIN.out.wx hi8.came.1 (fun hne kk hkk => .inl (HIN.out.came.2 hne kk hkk)) (by show b.length ≤ _; omega) HLD.out.1 (by have := HLD.out.2.1; omega) (by have := HLD.out.2.2; omega))
      unfold noRp at CD
      dsimp only at CD
      clear hc8 hi8 CQ q0 q1 q2 q3 q4 q5
      go_wp2_with fail
      refine CD.out.mono ?_
      rintro e w9 ⟨a9, c9, a10, c10, he, hb9, hn9, hi9, ho9, -⟩
      dsimp only at he hb9 hi9
      subst he
      have hcA : Chg [] w9 (w9.alloc (.cells #[.int .i64 0, .slice a9 0 c9, .slice a10 0 c10, .int .i64 0, .bool false] 32)) := (Chg.refl _ _).alloc _
      have CS := Lib.hid (same20_any noRp a9 a10 none none c9 c10 0 0 _ (hb9.chg hcA (by simp)) (BytesAt.nil _) ((IdRow.of hi9).keep hcA) (IdRow.of (base := 0) (World.ownsRow_nil _ _ _ _)) (by simp [noRp]) (by simp [noRp]))
      unfold noRp at CS
      dsimp only at CS
      have HO9 := Lib.hid (ho9.keep0 hcA)
      clear hb9 hn9 hi9 ho9 hcA CD
      go_wp2_with fail
      refine CS.out.mono ?_
      rintro e w10 ⟨rfl, hc10⟩
      have HO10 := Lib.hid (HO9.out.keep0 hc10)
      clear hc10 CS HO9
      go_wp2_with fail
      go_roundg (gk - 1)
      case measure => omega
      case rel => exact ⟨i + 1, by go_num, by omega, by omega, HO10⟩
    · have hiz : ¬ (i : Int) < (m : Int) := by omega
      go_wp2
      go_ret
      exact ⟨rfl, HC1.out.trans HR.out.chg (by simp)⟩
end Go.Proofs.YtdkhmfcfihbjeaaGreatDoor.W

/- ServerDead: what the row asks. -/
namespace Go.Proofs.YtdkhmfcfihbjeaaGreatDoor.serverDead
set_option linter.unusedVariables false
open Go.RowKit Go.ChangeShapes Go.WideShapes
set_option maxRecDepth 100000 in
theorem walk {H : Type} {enc : TypeId × Value → H} {held : Bool} {base b0 : Nat} (v0 : Value) (d0 : DataW H) (p0 : List MemPlace) (z : Int) (X : World) (h0 : Value.okWide Tryz.prog X .any b0 42 v0) (k0 : DataW.Trod enc Tryz.prog X base (fun _ => true) held 42 v0 d0 p0)
    (hz : (Lit.int .u8 z).wf = true) : Calls Tryz.prog 4 #[v0, .int .u8 z] X fun e w' => e = .returned (.bool true) ∧ Below X.heap.size X w' := by
  obtain ⟨r, bv, hin, rfl⟩ := Go.Proofs.YtdkhmfcfihbjeaaGreatDoor.W.open_rq h0 k0
  have hfu : 0 ≤ z ∧ z ≤ 255 := by
    simp [Lit.wf, IntKind.min, IntKind.max, IntKind.signed, IntKind.bits] at hz
    omega
  obtain ⟨n, rfl⟩ := Int.eq_ofNat_of_zero_le hfu.1
  exact (Go.Proofs.YtdkhmfcfihbjeaaGreatDoor.W.dead20_any r bv n (by omega) X hin).mono fun e w' ⟨h1, h2⟩ => ⟨h1, h2.below (by simp)⟩
end Go.Proofs.YtdkhmfcfihbjeaaGreatDoor.serverDead
