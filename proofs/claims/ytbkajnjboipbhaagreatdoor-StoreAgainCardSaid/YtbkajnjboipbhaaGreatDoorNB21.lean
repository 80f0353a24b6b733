/- Texts laid together. -/
import Derived.Test.YtbkajnjboipbhaaGreatDoorBP
import Derived.Deep.Slices
import Derived.ChangeSlices
import Derived.Test.YtbkajnjboipbhaaGreatDoorBP6
/- Bytes that came in. -/
namespace Go.Proofs.YtbkajnjboipbhaaGreatDoor.W
open Go.RowKit Go.ChangeShapes Go.WideShapes
set_option linter.unusedVariables false
set_option linter.unusedSimpArgs false

/-- Bytes that came in. -/
def Came (w : World) (v : Value) (l : List UInt8) : Prop := BytesAt w v l ∧ (l ≠ [] → ∀ k, v.ownBlock = some k → k < w.heap.size)
theorem Came.chg {w w' : World} {v : Value} {l : List UInt8} (h : Came w v l) (hc : Chg [] w w') : Came w' v l := ⟨h.1.chg hc (by simp), fun hl k hk => Nat.lt_of_lt_of_le (h.2 hl k hk) hc.size⟩
theorem toU8 (z : Int) (h : (Lit.int .u8 z).wf = true) : .int .u8 z = bv (UInt8.ofNat z.toNat) := by
  simp [Lit.wf, IntKind.min, IntKind.max, IntKind.signed, IntKind.bits] at h
  unfold bv
  rw [UInt8.toNat_ofNat']
  congr 1
  omega

section
variable {H : Type} {enc : TypeId × Value → H} {w : World} {base : Nat} {held : Bool}
/-- A slice of bytes that came in. -/
theorem open_came {fuel : Nat} {cs : List Value} {x : DataW H × List MemPlace} (h : DataW.trod enc Tryz.prog w base (fun _ => true) held fuel 27 cs = some x) : ∃ v l, cs = [v] ∧ Came w v l ∧ l.length ≤ maxLen := by
  rcases open_ints Tryz.underlying27 Tryz.underlying5 (by kernel_rfl) h with ⟨rfl, _⟩ | ⟨a, len, cap, zs, rfl, _, hl, hm, hz, _, hcell, hwf⟩
  · exact ⟨_, [], rfl, ⟨BytesAt.nil _, by simp⟩, by unfold maxLen; simp⟩
  · replace hz : zs.length = cap := by simpa using hz
    have hlen : ((zs.take len).map (fun z => UInt8.ofNat z.toNat)).length = len := by rw [List.length_map, List.length_take]; omega
    have hg : ∀ i, i < len → ((zs.take len).map (fun z => UInt8.ofNat z.toNat)).getD i 0 = UInt8.ofNat (zs.getD i 0).toNat := by
      intro i hi
      rw [List.getD_eq_getElem?_getD, List.getElem?_map, List.getElem?_take, if_pos hi, List.getD_eq_getElem?_getD, List.getElem?_eq_getElem (by omega)]
      rfl
    have hw : ∀ i, i < zs.length → (Lit.int .u8 (zs.getD i 0)).wf = true := fun i hi => hwf _ (by
      rw [List.getD_eq_getElem?_getD, List.getElem?_eq_getElem hi]
      exact List.getElem_mem hi)
    refine ⟨_, (zs.take len).map (fun z => UInt8.ofNat z.toNat), rfl, ?_, by rw [hlen]; omega⟩
    by_cases hc0 : cap = 0
    · have h0 : len = 0 := by omega
      subst hc0; subst h0
      have hnil : (zs.take 0).map (fun z => UInt8.ofNat z.toNat) = [] := by simp
      rw [hnil]
      exact ⟨⟨some a, 0, rfl, Nat.le_refl _, by unfold maxLen; omega, .inl ⟨rfl, rfl⟩⟩, fun h => absurd rfl h⟩
    · obtain ⟨g, o, spot⟩ := a
      have hc := hcell 0 (by omega)
      have hspot : spot = none := by simpa [Addr.add] using World.cell?_spot hc
      subst hspot
      have hlt : g < w.heap.size := by
        have := World.block_lt_of_cell? w _ hc
        simpa [Addr.add] using this
      refine ⟨⟨some ⟨g, o, none⟩, cap, by rw [hlen], by omega, hm, .inr ⟨g, o, rfl, fun i hi => ?_⟩⟩, fun _ k hk => ?_⟩
      · rw [hlen] at hi
        have := hcell i (by omega)
        rw [add_none] at this
        rw [this, hg i hi, ← toU8 _ (hw i (by omega))]
      · obtain rfl : g = k := by simpa [Value.ownBlock] using hk
        exact hlt
end
theorem IsRow.came {w : World} {a : Option Addr} {len cap : Nat} {zs : List Int} (h : IsRow .u8 w a len cap zs) : ∃ l, l.length = len ∧ len ≤ maxLen ∧ Came w (.slice a len cap) l := by
  rcases h with ⟨rfl, rfl, rfl, rfl⟩ | ⟨x, rfl, h1, h2, h3, h4, h5⟩
  · exact ⟨[], rfl, by unfold maxLen; omega, BytesAt.nil w, by simp⟩
  · have hlen : ((zs.take len).map (fun z => UInt8.ofNat z.toNat)).length = len := by rw [List.length_map, List.length_take]; omega
    have hg : ∀ i, i < len → ((zs.take len).map (fun z => UInt8.ofNat z.toNat)).getD i 0 = UInt8.ofNat (zs.getD i 0).toNat := by
      intro i hi
      rw [List.getD_eq_getElem?_getD, List.getElem?_map, List.getElem?_take, if_pos hi, List.getD_eq_getElem?_getD, List.getElem?_eq_getElem (by omega)]
      rfl
    have hw : ∀ i, i < zs.length → (Lit.int .u8 (zs.getD i 0)).wf = true := fun i hi => h5 _ (by
      rw [List.getD_eq_getElem?_getD, List.getElem?_eq_getElem hi]
      exact List.getElem_mem hi)
    refine ⟨_, hlen, by omega, ?_⟩
    by_cases hl0 : len = 0
    · subst hl0
      have hnil : (zs.take 0).map (fun z => UInt8.ofNat z.toNat) = [] := by simp
      rw [hnil]
      by_cases hc0 : cap = 0
      · subst hc0
        exact ⟨⟨some x, 0, rfl, Nat.le_refl _, by unfold maxLen; omega, .inl ⟨rfl, rfl⟩⟩, by simp⟩
      · obtain ⟨g, o, spot⟩ := x
        have hc := h4 0 (by omega)
        have hspot : spot = none := by simpa [Addr.add] using World.cell?_spot hc
        subst hspot
        exact ⟨⟨some ⟨g, o, none⟩, cap, rfl, by simp, h2, .inr ⟨g, o, rfl, by simp⟩⟩, by simp⟩
    · obtain ⟨g, o, spot⟩ := x
      have hc := h4 0 (by omega)
      have hspot : spot = none := by simpa [Addr.add] using World.cell?_spot hc
      subst hspot
      have hlt : g < w.heap.size := by
        have := World.block_lt_of_cell? w _ hc
        simpa [Addr.add] using this
      refine ⟨⟨some ⟨g, o, none⟩, cap, by rw [hlen], by omega, h2, .inr ⟨g, o, rfl, fun i hi => ?_⟩⟩, fun _ k hk => ?_⟩
      · rw [hlen] at hi
        have := h4 i (by omega)
        rw [add_none] at this
        rw [this, hg i hi, ← toU8 _ (hw i (by omega))]
      · obtain rfl : g = k := by simpa [Value.ownBlock] using hk
        exact hlt
end Go.Proofs.YtbkajnjboipbhaaGreatDoor.W

/- A slice of deeds that came in: rows of seven cells, an id among them, the last a slice of bytes. -/
namespace Go.Proofs.YtbkajnjboipbhaaGreatDoor.W
open Go.RowKit Go.ChangeShapes Go.WideShapes
set_option linter.unusedVariables false
set_option linter.unusedSimpArgs false

structure Dd where
  k : Int
  n : Int
  x : Id
  bv : Value
  b : List UInt8
instance : Inhabited Dd := ⟨⟨0, 0, ⟨0, 0, 0, 0⟩, .slice none 0 0, []⟩⟩
structure DdAt (w : World) (g p : Nat) (r : Dd) : Prop where
  c0 : w.cell? ⟨g, p, none⟩ = some (.int .i64 r.k)
  c1 : w.cell? ⟨g, p + 1, none⟩ = some (.int .i64 r.n)
  c2 : w.cell? ⟨g, p + 2, none⟩ = some (.int .i64 r.x.c)
  c3 : w.cell? ⟨g, p + 3, none⟩ = some (.int .i64 r.x.l)
  c4 : w.cell? ⟨g, p + 4, none⟩ = some (.int .i64 r.x.n)
  c5 : w.cell? ⟨g, p + 5, none⟩ = some (.int .i64 r.x.i)
  c6 : w.cell? ⟨g, p + 6, none⟩ = some r.bv
  came : Came w r.bv r.b
  long : r.b.length ≤ maxLen
  wk : (Lit.int .i64 r.k).wf = true
  wn : (Lit.int .i64 r.n).wf = true
  wx : okD r.x
def DeedsAt (w : World) (a : Option Addr) (n : Nat) (f : Nat → Dd) : Prop := n = 0 ∨ ∃ g o, a = some ⟨g, o, none⟩ ∧ ∀ i, i < n → DdAt w g (o + i * 7) (f i)
theorem DdAt.keep {w w' : World} {g p : Nat} {r : Dd} (h : DdAt w g p r) (hc : Chg [] w w') : DdAt w' g p r :=
  ⟨hc.cell h.c0 (by simp), hc.cell h.c1 (by simp), hc.cell h.c2 (by simp), hc.cell h.c3 (by simp), hc.cell h.c4 (by simp), hc.cell h.c5 (by simp), hc.cell h.c6 (by simp), h.came.chg hc, h.long, h.wk, h.wn, h.wx⟩
theorem DeedsAt.keep {w w' : World} {a : Option Addr} {n : Nat} {f : Nat → Dd} (h : DeedsAt w a n f) (hc : Chg [] w w') : DeedsAt w' a n f := by
  rcases h with h | ⟨g, o, rfl, h⟩
  · exact .inl h
  · exact .inr ⟨g, o, rfl, fun i hi => (h i hi).keep hc⟩
section
variable {H : Type} {enc : TypeId × Value → H} {w : World} {base : Nat} {held : Bool}
theorem fieldsD : ∃ f0 f1 f2 f3 : Field, Tryz.prog.underlying 52 = some (.struct #[f0, f1, f2, f3]) ∧ f0.offset = 0 ∧ f1.offset = 1 ∧ f2.offset = 2 ∧ f3.offset = 6 ∧
    Tryz.prog.underlying f0.type = some (.int .i64) ∧ Tryz.prog.underlying f1.type = some (.int .i64) ∧ f2.type = 25 ∧ f3.type = 27 ∧
    Tryz.prog.cellsOf f0.type = 1 ∧ Tryz.prog.cellsOf f1.type = 1 ∧ Tryz.prog.cellsOf f3.type = 1 :=
  ⟨_, _, _, _, Tryz.underlying52, rfl, rfl, rfl, rfl, by kernel_rfl, by kernel_rfl, rfl, rfl, by kernel_rfl, by kernel_rfl, by kernel_rfl⟩
theorem cellsD : Tryz.prog.cellsOf 52 = 7 := by kernel_rfl
set_option maxRecDepth 100000 in
theorem open_deeds {fuel : Nat} {cs : List Value} {x : DataW H × List MemPlace} (h : DataW.trod enc Tryz.prog w base (fun _ => true) held fuel 48 cs = some x) :
    (cs = [.slice none 0 0]) ∨ ∃ (a : Addr) (len cap : Nat) (f : Nat → Dd), cs = [.slice (some a) len cap] ∧ len ≤ cap ∧ cap ≤ maxLen ∧ DeedsAt w (some a) len f := by
  rcases Go.Deep.open_slice Tryz.underlying48 h with ⟨h0, _⟩ | ⟨a, len, cap, m, n, D, Pl, rfl, hb, hl, hm, hmm, hx, hel⟩
  · exact .inl h0
  · right
    have hlm : len ≤ m := by rw [hmm]; split <;> omega
    obtain ⟨f0, f1, f2, f3, hs, o0, o1, o2, o3, t0, t1, t2, t3, c0, c1, c3⟩ := fieldsD
    have each : ∀ i, i < len → ∃ r : Dd, w.cell? (a.add (i * 7)) = some (.int .i64 r.k) ∧ w.cell? (a.add (i * 7 + 1)) = some (.int .i64 r.n) ∧ w.cell? (a.add (i * 7 + 2)) = some (.int .i64 r.x.c) ∧ w.cell? (a.add (i * 7 + 3)) = some (.int .i64 r.x.l) ∧ w.cell? (a.add (i * 7 + 4)) = some (.int .i64 r.x.n) ∧
        w.cell? (a.add (i * 7 + 5)) = some (.int .i64 r.x.i) ∧ w.cell? (a.add (i * 7 + 6)) = some r.bv ∧ Came w r.bv r.b ∧ r.b.length ≤ maxLen ∧ (Lit.int .i64 r.k).wf = true ∧ (Lit.int .i64 r.n).wf = true ∧ okD r.x := by
      intro i hi
      obtain ⟨cs', h1, h2⟩ := hel i (by omega)
      rw [cellsD] at h1
      obtain ⟨_, hlen, hcell⟩ := World.cells?_some h1
      obtain ⟨xs, k, hk, hxy, _, hxl, hf⟩ := DataW.trod_struct hs h2
      match xs, hxl, cs', hlen with
      | [y0, y1, y2, y3], _, [v0, v1, v2, v3, v4, v5, v6], _ =>
        have g0 := hf 0 f0 rfl
        have g1 := hf 1 f1 rfl
        have g2 := hf 2 f2 rfl
        have g3 := hf 3 f3 rfl
        rw [t2] at g2
        simp [o0, o1, o2, o3, c0, c1, c3, cells_id] at g0 g1 g2 g3
        rw [t3] at g3
        have e0 := hcell 0 (by omega)
        have e1 := hcell 1 (by omega)
        have e2 := hcell 2 (by omega)
        have e3 := hcell 3 (by omega)
        have e4 := hcell 4 (by omega)
        have e5 := hcell 5 (by omega)
        have e6 := hcell 6 (by omega)
        rw [Go.Deep.add_add] at e0 e1 e2 e3 e4 e5 e6
        obtain ⟨z0, q0, _, z0w⟩ := DataW.trod_int t0 g0
        obtain ⟨z1, q1, _, z1w⟩ := DataW.trod_int t1 g1
        obtain ⟨y, hy, rfl, rfl, rfl, rfl⟩ := open_idc g2
        obtain ⟨z3, l3, q3, m3, ml⟩ := open_came g3
        simp at q0 q1 q3
        subst q0; subst q1; subst q3
        refine ⟨⟨z0, z1, y, v6, l3⟩, by simpa using e0, by simpa using e1, by simpa using e2, by simpa using e3, by simpa using e4, by simpa using e5, by simpa using e6, m3, ml, ?_, ?_, hy⟩
        · first | exact z0w | exact z0w.1
        · first | exact z1w | exact z1w.1
    obtain ⟨f, hf⟩ := Go.Deep.choose_lt each
    refine ⟨a, len, cap, f, rfl, hl, hm, ?_⟩
    by_cases h0 : len = 0
    · exact .inl h0
    · right
      obtain ⟨g, o, spot⟩ := a
      have hc := (hf 0 (by omega)).1
      have hspot : spot = none := by simpa [Addr.add] using World.cell?_spot hc
      subst hspot
      refine ⟨g, o, rfl, fun i hi => ?_⟩
      obtain ⟨c0, c1, c2, c3, c4, c5, c6, c7, c8, c9, ca, cb⟩ := hf i hi
      rw [add_none] at c0 c1 c2 c3 c4 c5 c6
      exact ⟨c0, by simpa [Nat.add_assoc] using c1, by simpa [Nat.add_assoc] using c2, by simpa [Nat.add_assoc] using c3, by simpa [Nat.add_assoc] using c4, by simpa [Nat.add_assoc] using c5, by simpa [Nat.add_assoc] using c6, c7, c8, c9, ca, cb⟩
end
end Go.Proofs.YtbkajnjboipbhaaGreatDoor.W

/- StoreFull, plainly. -/
namespace Go.Proofs.YtbkajnjboipbhaaGreatDoor.W
set_option linter.unusedVariables false
set_option linter.unusedSimpArgs false

theorem range_getD (l : List SRow) : (List.range l.length).map (fun j => l.getD j noRow) = l := by
  apply List.ext_getElem (by simp)
  intro i h1 h2
  simp [List.getD_eq_getElem?_getD, List.getElem?_eq_getElem h2]
theorem used_len (l : List SRow) (P : Nat → Bool) (hP : ∀ j, j < l.length → P j = (l.getD j noRow).used) : ((List.range l.length).filter P).length + l.countP (fun r => !r.used) = l.length := by
  have h1 : ((List.range l.length).filter P).length = l.countP (fun r => r.used) := by
    rw [← List.countP_eq_length_filter]
    conv => rhs; rw [← range_getD l]
    rw [List.countP_map]
    refine List.countP_congr (fun j hj => ?_)
    rw [hP j (List.mem_range.1 hj)]
    rfl
  have h2 := List.length_eq_countP_add_countP (fun r : SRow => r.used) (l := l)
  rw [h1]
  have h3 : l.countP (fun r => decide ¬ r.used = true) = l.countP (fun r => !r.used) := List.countP_congr (fun r _ => by cases r.used <;> simp)
  omega
/-- How many ids there are. -/
theorem Kept.ids_len {t : Sto} {F : Frag} (h : Kept t F) : t.ids.length + t.room = t.s.rows.length := by
  unfold Sto.ids firsts Sto.room
  rw [List.length_mergeSort, List.length_map]
  refine used_len t.s.rows _ (fun j hj => ?_)
  cases hu : (t.s.rows.getD j noRow).used with
  | false => unfold isFirst; rw [hu]; rfl
  | true =>
    refine mem_isFirst.2 ⟨hu, fun k hk hh => ?_⟩
    obtain ⟨hm, he⟩ := un_back (h.keys _ (row_mem hj) hu)
    obtain ⟨u, v, _, h2⟩ := h.told
    have hjm : j ∈ t.at (unId (t.s.rows.getD j noRow).key) := by rw [Sto.at_may hm]; exact upto_mem.2 ⟨hj, hu, he⟩
    have hkm : k ∈ t.at (unId (t.s.rows.getD j noRow).key) := by rw [Sto.at_may hm]; exact upto_mem.2 ⟨by omega, hh.1, by rw [hh.2]; exact he⟩
    rcases h2 _ hm with ⟨_, h4⟩ | ⟨i, b, _, h4, _⟩
    · rw [h4] at hjm; cases hjm
    · rw [h4, List.mem_singleton] at hjm hkm
      omega
theorem SS.clears_ok : ∀ (l : List Nat) (s : SS), (s.clears l).2.d.ops ≤ s.d.ops + 2 * l.length ∧ (s.clears l).2.d.since.length ≤ s.d.since.length + l.length
  | [], s => ⟨Nat.le_refl _, Nat.le_refl _⟩
  | i :: r, s => by
    obtain ⟨h1, h2, _⟩ := s.clear_ok (i : Int)
    obtain ⟨g1, g2⟩ := SS.clears_ok r (s.clear (i : Int)).2
    rw [clears_cons, List.length_cons]
    split
    · exact ⟨by omega, by omega⟩
    · exact ⟨by omega, by omega⟩
theorem Sto.at_len (t : Sto) (x : Id) : (t.at x).length ≤ t.s.rows.length := by
  unfold Sto.at
  split
  · exact upto_len _ _ _
  · simp
theorem Sto.del_ok (t : Sto) (x : Id) : (t.del x).2.s.d.ops ≤ t.s.d.ops + 2 * t.s.rows.length ∧ (t.del x).2.s.d.since.length ≤ t.s.d.since.length + t.s.rows.length := by
  have hl := t.at_len x
  obtain ⟨h1, h2⟩ := SS.clears_ok (t.at x) t.s
  unfold Sto.del
  split
  · exact ⟨by dsimp only; omega, by dsimp only; omega⟩
  · exact ⟨by dsimp only; omega, by dsimp only; omega⟩
def idn (j : Nat) : Id := ⟨1, 0, (j : Int), 0⟩
theorem may_idn {j : Nat} (h : j ≤ 1000) : mayId (idn j) = true := may_iff.2 (by unfold idn; dsimp only; omega)
def fillF (b : List UInt8) (i : Nat) : Frag := fun x => if x.c = 1 ∧ x.l = 0 ∧ x.i = 0 ∧ 0 ≤ x.n ∧ x.n < i then some b else none
structure FullAt (t : Sto) (b : List UInt8) (n i : Nat) : Prop where
  kept : Kept t (fillF b i)
  room : t.room + i = n
  rows : t.s.rows.length = n
  small : t.s.d.ops ≤ 200 + 20 * i ∧ t.s.d.since.length = 0
theorem fillF_self (b : List UInt8) (i : Nat) : fillF b i (idn i) = none := if_neg (by unfold idn; dsimp only; omega)
theorem fillF_next (b : List UInt8) (i : Nat) : setF (fillF b i) (idn i) (some b) = fillF b (i + 1) := by
  funext x
  unfold setF
  by_cases e : x = idn i
  · subst e
    rw [if_pos rfl]
    exact (if_pos (by unfold idn; dsimp only; omega)).symm
  · rw [if_neg e]
    unfold fillF
    by_cases h : x.c = 1 ∧ x.l = 0 ∧ x.i = 0 ∧ 0 ≤ x.n ∧ x.n < i
    · rw [if_pos h, if_pos (by omega)]
    · rw [if_neg h, if_neg (fun h2 => ?_)]
      have : x.n = (i : Int) := by omega
      obtain ⟨a, b', c, d⟩ := x
      refine e ?_
      unfold idn
      simp only [Id.mk.injEq]
      dsimp only at *
      omega
theorem FullAt.step {t : Sto} {b : List UInt8} {n i : Nat} (h : FullAt t b n i) (hi : i < n) (hn : n ≤ 100) (hb : b.length ≤ 448) : (t.put (idn i) b).1 = 0 ∧ FullAt (t.put (idn i) b).2 b n (i + 1) := by
  obtain ⟨o1, o2, _, o4, _⟩ := t.put_ok (idn i) b
  have hr := h.room
  have hs := h.small
  obtain ⟨p1, p2, p3⟩ := h.kept.put_new (may_idn (by omega)) (fillF_self b i) hb (by omega)
  rw [fillF_next] at p2
  exact ⟨p1, p2, by omega, by rw [o4, h.rows], by omega, by rw [p2.since]; rfl⟩
theorem FullAt.new (b : List UInt8) (n : Nat) (h1 : 1 ≤ n) (h2 : n ≤ 12) : ∃ t d, (DS.new (1 + 8 * n)).format = ((0, some t), d) ∧ FullAt t b n 0 := by
  obtain ⟨t, d, f1, f2, f3, f4, f5, f6, _⟩ := Kept.new (1 + 8 * n) (by omega)
  have hrow : (1 + 8 * n - 1) / 8 = n := by omega
  rw [hrow] at f4
  refine ⟨t, d, f1, ?_, ?_, by rw [f4, List.length_replicate], by rw [f3]; omega, by rw [f2.since]; rfl⟩
  · have : fillF b 0 = fun _ => none := by
      funext x
      exact if_neg (by omega)
    rw [this]; exact f2
  · unfold Sto.room
    rw [f4]
    have := List.countP_replicate (p := fun r : SRow => !r.used) (a := noRow) (n := n)
    simp [noRow] at this ⊢
    first | omega | exact this
/-- When it is full. -/
theorem FullAt.after {t : Sto} {b : List UInt8} {n k : Nat} (h : FullAt t b n n) (hk : k < n) (hn : n ≤ 100) (hb : b.length ≤ 448) : t.put (idn n) b = (5, t) ∧ (t.del (idn k)).1 = 0 ∧ (((t.del (idn k)).2).put (idn n) b).1 = 0 ∧ (((t.del (idn k)).2).put (idn n) b).2.room = 0 ∧ (((t.del (idn k)).2).put (idn n) b).2.ids.length = n ∧ (t.del (idn k)).2.s.d.since.length = 0 := by
  have hr := h.room
  have e1 := h.kept.put_full (may_idn (by omega)) (fillF_self b n) hb (by omega)
  obtain ⟨d1, d2, d3, _, d5, d6⟩ := h.kept.del (may_idn (j := k) (by omega))
  have hF : fillF b n (idn k) = some b := if_pos (by unfold idn; dsimp only; omega)
  rw [hF] at d3
  simp only [Option.isSome_some, if_true] at d3
  have hne : idn n ≠ idn k := fun e => by
    have := congrArg Id.n e
    unfold idn at this
    dsimp only at this
    omega
  obtain ⟨p1, p2, p3⟩ := d2.put_new (may_idn (j := n) (by omega)) (by rw [setF_other _ _ hne]; exact fillF_self b n) hb (by omega)
  have hl := p2.ids_len
  obtain ⟨_, _, _, o4, _⟩ := ((t.del (idn k)).2).put_ok (idn n) b
  have hrows := h.rows
  exact ⟨e1, d1, p1, by omega, by omega, by rw [d2.since]; rfl⟩
end Go.Proofs.YtbkajnjboipbhaaGreatDoor.W

/- The laws' Room; Ops; plain steps. -/
namespace Go.Proofs.YtbkajnjboipbhaaGreatDoor.W
open Go.RowKit
set_option linter.unusedVariables false
set_option linter.unusedSimpArgs false

def Few (n most : Nat) (f : Nat → Dd) : Prop := n ≤ most ∧ ∀ i, i < n → (f i).b.length ≤ 600
set_option maxHeartbeats 8000000 in
set_option maxRecDepth 100000 in
theorem room6_any (a : Option Addr) (n cap most : Nat) (f : Nat → Dd) (w : World) (h : DeedsAt w a n f) (hm : most ≤ 1000) :
    Calls Tryz.prog 24 #[.slice a n cap, .int .i64 (most : Int)] w fun e w' => (e = .returned (.bool true) ∧ Few n most f ∨ e = .returned (.bool false)) ∧ w = w' := by
  by_cases hn : n ≤ most
  · have hz : ¬ (most : Int) < (n : Int) := by omega
    have HD := Lib.hid h
    clear h
    go_enter Tryz.func24, Tryz.ntmps24
    go_wp2
    go_loopg [5] n (fun g' s5 wr => ∃ k : Nat, s5 = .int .i64 k ∧ k ≤ n ∧ n ≤ k + g' ∧ w = wr ∧ Hid (∀ i, i < k → (f i).b.length ≤ 600))
    case atStart => exact ⟨0, rfl, by omega, by omega, rfl, Lib.hid (fun i hi => by omega)⟩
    case round =>
      obtain ⟨k, rfl, hk, hkg, rfl, HF⟩ := hrel
      by_cases hlt : k < n
      · obtain ⟨g, o, rfl, hc⟩ : ∃ g o, a = some ⟨g, o, none⟩ ∧ ∀ i, i < n → DdAt w g (o + i * 7) (f i) := by
          rcases HD.out with h | h
          · omega
          · exact h
        have hd := hc k hlt
        have c6 := hd.c6
        obtain ⟨a4, q4, e4⟩ := hd.came.1.slice
        have hll := hd.long
        rw [e4] at c6
        clear hc hd e4
        have hkz : (k : Int) < (n : Int) := by omega
        have hkz1 : (k : Int).toNat = k := by omega
        obtain ⟨l4, h4⟩ : ∃ l4, l4 = (f k).b.length := ⟨_, rfl⟩
        rw [← h4] at c6 hll
        have H4 := Lib.hid h4
        have hl5 : l4 ≤ 9223372036854775807 := by unfold maxLen at hll; omega
        clear h4
        by_cases hsb : l4 ≤ 600
        · have hz4 : ¬ (600 : Int) < (l4 : Int) := by omega
          go_wp2
          go_roundg (gk - 1)
          case measure => omega
          case rel => exact ⟨k + 1, by go_num, by omega, by omega, rfl, Lib.hid (fun i hi => by
            by_cases hik : i = k
            · subst hik; rw [← H4.out]; exact hsb
            · exact HF.out i (by omega))⟩
        · have hz4 : (600 : Int) < (l4 : Int) := by omega
          go_wp2
          go_ret
          exact ⟨.inr rfl, rfl⟩
      · have hkn : k = n := by omega
        go_wp2
        go_ret
        exact ⟨.inl ⟨rfl, hn, fun i hi => HF.out i (by omega)⟩, rfl⟩
  · have hz : (most : Int) < (n : Int) := by omega
    clear h
    go_enter Tryz.func24, Tryz.ntmps24
    go_wp2
    go_ret
    exact ⟨.inr rfl, rfl⟩

theorem own_ops {X : List Nat} {w0 w : World} {q p : Nat} {t : Sto} (h : Own6 X w0 w q p t) : Calls Tryz.prog 35 #[.pointer (some ⟨p, 0, none⟩)] w fun e w' => e = .returned (.int .i64 (t.s.d.ops : Int)) ∧ w = w' := by
  obtain ⟨U, ⟨sp, mb, Us, φ, N, hU, _⟩, _⟩ := h
  obtain ⟨S0, rv0, R0, H0⟩ := hU.slots
  exact dops_any p S0 t.s.d w H0.disk
theorem own_latest {X : List Nat} {w0 w : World} {q p : Nat} {t : Sto} (h : Own6 X w0 w q p t) (c : Int) : Calls Tryz.prog 22 #[.pointer (some ⟨q, 0, none⟩), .int .i64 c] w fun e w' => e = .returned (.tuple #[idV (t.latest c).1, .bool (t.latest c).2]) ∧ Own6 X w0 w' q p t ∧ Chg [] w w' := by
  have h' := h
  obtain ⟨U, hU, _⟩ := h
  have hl : t.ids.length ≤ 1000 := by
    have h1 := t.ids_len
    obtain ⟨sp, mb, Us, φ, N, hU', _⟩ := hU
    obtain ⟨S0, rv0, R0, H0⟩ := hU'.slots
    have := H0.few
    omega
  refine (stlatest_any q p U t c w hU hl).mono ?_
  rintro e w' ⟨rfl, hc⟩
  exact ⟨rfl, h'.keep0 hc, hc⟩

/-- A store of known fragments, after any Put. -/
theorem Kept.put_any {t : Sto} {F : Frag} (h : Kept t F) (x : Id) (b : List UInt8) : (∃ F', Kept (t.put x b).2 F') ∧ ((t.put x b).1 = 0 → (t.put x b).2.put x b = (0, (t.put x b).2)) := by
  by_cases hbad : mayId x = false ∨ 448 < b.length
  · obtain ⟨h1, h2⟩ := h.put_bad hbad
    exact ⟨⟨F, by rw [h2]; exact h⟩, fun h0 => absurd h0 h1⟩
  · have hm : mayId x = true := by
      cases hh : mayId x with
      | true => rfl
      | false => exact absurd (.inl hh) hbad
    have hl : b.length ≤ 448 := by
      rcases Nat.lt_or_ge 448 b.length with h1 | h1
      · exact absurd (.inr h1) hbad
      · exact h1
    cases hF : F x with
    | some c =>
      have e := h.put_there hF b hl
      rw [e]
      refine ⟨⟨F, h⟩, fun h0 => ?_⟩
      dsimp only at h0 ⊢
      rw [e]
      by_cases hc : c = b
      · rw [if_pos hc]
      · rw [if_neg hc] at h0; simp at h0
    | none =>
      by_cases hr : 0 < t.room
      · obtain ⟨p1, p2, p3⟩ := h.put_new hm hF hl hr
        refine ⟨⟨_, p2⟩, fun _ => ?_⟩
        rw [p2.put_there (setF_self _ _ _) b hl, if_pos rfl]
      · have e := h.put_full hm hF hl (by omega)
        rw [e]
        exact ⟨⟨F, h⟩, fun h0 => by simp at h0⟩
theorem Kept.del_any {t : Sto} {F : Frag} (h : Kept t F) (x : Id) : (∃ F', Kept (t.del x).2 F') ∧ ((t.del x).1 = 0 → (t.del x).2.del x = (0, (t.del x).2)) := by
  cases hm : mayId x with
  | false =>
    have e := Kept.del_bad (t := t) hm
    rw [e]
    exact ⟨⟨F, h⟩, fun h0 => by simp at h0⟩
  | true =>
    obtain ⟨d1, d2, _, _, _, _⟩ := h.del hm
    refine ⟨⟨_, d2⟩, fun _ => ?_⟩
    obtain ⟨e1, e2, e3, e4, _, _⟩ := d2.del hm
    exact Prod.ext e1 (e4 (setF_self _ _ _))
theorem Sto.del_rows (t : Sto) (x : Id) {F : Frag} (h : Kept t F) : (t.del x).2.s.rows.length = t.s.rows.length := by
  cases hm : mayId x with
  | false => rw [Kept.del_bad hm]
  | true => exact (h.del hm).2.2.2.2.2
structure AgainAt (t : Sto) (i : Nat) : Prop where
  kept : ∃ F, Kept t F
  rows : t.s.rows.length = 8
  small : t.s.d.ops ≤ 100 + 60 * i
theorem AgainAt.zero {t : Sto} {i : Nat} (h : AgainAt t i) : t.s.d.since.length = 0 := by obtain ⟨F, hF⟩ := h.kept; rw [hF.since]; rfl
theorem AgainAt.new : ∃ t d, (DS.new 65).format = ((0, some t), d) ∧ AgainAt t 0 := by
  obtain ⟨t, d, h1, h2, h3, h4, h5, h6, _⟩ := Kept.new 65 (by omega)
  exact ⟨t, d, h1, ⟨_, h2⟩, by rw [h4, List.length_replicate], by rw [h3]; omega⟩
theorem AgainAt.put {t : Sto} {i : Nat} (h : AgainAt t i) (x : Id) (b : List UInt8) : AgainAt (t.put x b).2 (i + 1) ∧ ((t.put x b).1 = 0 → (t.put x b).2.put x b = (0, (t.put x b).2)) := by
  obtain ⟨F, hF⟩ := h.kept
  obtain ⟨h1, h2⟩ := hF.put_any x b
  obtain ⟨o1, _, _, o4, _⟩ := t.put_ok x b
  have := h.small
  exact ⟨⟨h1, by rw [o4, h.rows], by omega⟩, h2⟩
theorem AgainAt.del {t : Sto} {i : Nat} (h : AgainAt t i) (x : Id) : AgainAt (t.del x).2 (i + 1) ∧ ((t.del x).1 = 0 → (t.del x).2.del x = (0, (t.del x).2)) := by
  obtain ⟨F, hF⟩ := h.kept
  obtain ⟨h1, h2⟩ := hF.del_any x
  obtain ⟨o1, _⟩ := t.del_ok x
  have hr := h.rows
  have := h.small
  exact ⟨⟨h1, by rw [t.del_rows x hF, hr], by omega⟩, h2⟩
theorem AgainAt.next {t : Sto} {i : Nat} (h : AgainAt t i) : AgainAt t (i + 1) := ⟨h.kept, h.rows, by have := h.small; omega⟩
end Go.Proofs.YtbkajnjboipbhaaGreatDoor.W

/- StoreAgain: the walk (printed by gen_again.py off AgW.head). -/
namespace Go.Proofs.YtbkajnjboipbhaaGreatDoor.W
open Go.RowKit
set_option linter.unusedVariables false
set_option linter.unusedSimpArgs false

set_option maxHeartbeats 16000000 in
set_option maxRecDepth 100000 in
theorem again_any (a : Option Addr) (n cap : Nat) (f : Nat → Dd) (y : Id) (w : World) (hin : DeedsAt w a n f) (hn : n ≤ maxLen) (hyo : okD y) : Calls Tryz.prog 8 #[.slice a n cap, idV y] w fun e w' => e = .returned (.bool true) ∧ Chg [] w w' := by
  obtain ⟨w1, hw1⟩ : ∃ w1, w1 = w.alloc (.cells (idC y) 25) := ⟨_, rfl⟩
  have hc1 : Chg [] w w1 := by rw [hw1]; exact (Chg.refl _ _).alloc _
  have HB1 : Hid (w1.heap[w.heap.size]? = some (.cells (idC y) 25 (0, 0))) := Lib.hid (by rw [hw1]; exact heap_alloc_new w _)
  have CW := Lib.hid (awake6_any w1)
  have HI := Lib.hid (hin.keep hc1)
  have HIW := Lib.hid hin
  have HC1 := Lib.hid hc1
  have HW1 := Lib.hid hw1
  have hnn : n ≤ 9223372036854775807 := by unfold maxLen at hn; omega
  obtain ⟨yc, yl, yn, yi⟩ := y
  clear hin hn hw1 hc1
  go_enter Tryz.func8, Tryz.ntmps8
  go_wp2_with fail
  rw [← HW1.out]
  refine CW.out.mono ?_
  rintro e w2 ⟨rfl, hc2⟩
  have CR := Lib.hid (room6_any a n cap 40 f w2 (HI.out.keep hc2) (by omega))
  have HC2 := Lib.hid hc2
  clear hc2 CW
  go_wp2_with fail
  refine CR.out.mono ?_
  rintro e w' ⟨hr, hq⟩
  subst hq
  rcases hr with ⟨rfl, hfew⟩ | rfl
  rotate_left
  · go_wp2
    go_ret
    exact ⟨rfl, HC1.out.trans HC2.out (by simp)⟩
  obtain ⟨t0, d0, hfm, hag0⟩ := AgainAt.new
  have HFM := Lib.hid hfm
  have HAG := Lib.hid hag0
  have HFEW := Lib.hid hfew
  have hn40 : n ≤ 40 := hfew.1
  have CN := Lib.hid (own_disk 65 w2 (by omega) (by omega))
  clear hfm hag0 hfew CR
  go_wp2_with fail
  refine CN.out.mono ?_
  rintro e w3 ⟨p, S, rfl, hd3, hS3, hc3⟩
  have CF := Lib.hid (own_format (w0 := w1) hd3 (fun x hx => Nat.le_trans HC2.out.size (hS3 x hx)) (HC2.out.trans hc3 (by simp)) HFM.out)
  clear hd3 hS3 hc3 CN
  go_wp2_with fail
  refine CF.out.mono ?_
  rintro e w4 ⟨q, rfl, ho4⟩
  have HO4 := Lib.hid ho4
  clear ho4 CF
  go_wp2_with fail
  go_loopg [9] n (fun g' s9 wr => ∃ (j : Nat) (t : Sto), s9 = .int .i64 (j : Int) ∧ j ≤ n ∧ n ≤ j + g' ∧ Hid (Own6 [] w1 wr q p t ∧ AgainAt t (2 * j)))
  case atStart => exact ⟨0, t0, rfl, by omega, by omega, Lib.hid ⟨HO4.out, HAG.out⟩⟩
  case round =>
    obtain ⟨j, t, rfl, hj, hjg, HJ⟩ := hrel
    by_cases hlt : j < n
    · have hjz : (j : Int) < (n : Int) := by omega
      rcases HI.out with h0 | ⟨g, o, rfl, hc⟩
      · omega
      have hd := hc j hlt
      have hbw : (f j).b ≠ [] → ∀ k, (f j).bv.ownBlock = some k → k < w1.heap.size := hd.came.2
      obtain ⟨ab, cb, hbv⟩ := hd.came.1.slice
      have HDC : Hid (∀ w', Chg [] w1 w' → (w'.cell? ⟨g, o + j * 7, none⟩ = some (.int .i64 (f j).k) ∧ (w'.cell? ⟨g, o + j * 7 + 2, none⟩ = some (.int .i64 (f j).x.c) ∧ w'.cell? ⟨g, o + j * 7 + 2 + 1, none⟩ = some (.int .i64 (f j).x.l) ∧ w'.cell? ⟨g, o + j * 7 + 2 + 2, none⟩ = some (.int .i64 (f j).x.n) ∧ w'.cell? ⟨g, o + j * 7 + 2 + 3, none⟩ = some (.int .i64 (f j).x.i)) ∧
          w'.cell? ⟨g, o + j * 7 + 6, none⟩ = some (.slice ab (f j).b.length cb))) := Lib.hid (fun w' hcw => by
        have hd' := hd.keep hcw
        exact ⟨hd'.c0, ⟨hd'.c2, hd'.c3, hd'.c4, hd'.c5⟩, by rw [← hbv]; exact hd'.c6⟩)
      have HBY : Hid (∀ w', Chg [] w1 w' → BytesAt w' (.slice ab (f j).b.length cb) (f j).b) := Lib.hid (fun w' hcw => by rw [← hbv]; exact hd.came.1.chg hcw (by simp))
      have HBK : Hid ((f j).b ≠ [] → ∀ k, (Value.slice ab (f j).b.length cb).ownBlock = some k → k < w1.heap.size) := Lib.hid (by rw [← hbv]; exact hbw)
      have hbl := HFEW.out.2 j hlt
      have hxo := hd.wx
      have hkw := hd.wk
      clear hc hd hbw hbv
      generalize f j = r at *
      obtain ⟨k, m, ⟨xc, xl, xn, xi⟩, bv0, b⟩ := r
      dsimp only at HDC HBY HBK hbl hxo hkw
      have HOr := Lib.hid HJ.out.1
      have HA := Lib.hid HJ.out.2
      have hsm := HJ.out.2.small
      have hzr := HJ.out.2.zero
      clear HJ
      by_cases hk : k ≤ 4
      · skip
        have hk4 : k ≤ 4 := hk
        have hk6 : (k == 6) = false := by simp; omega
        have CP := Lib.hid (own_put (HOr.out.keep0 (Chg.drew (Chg.refl [] wr))) ⟨xc, xl, xn, xi⟩ hxo (.slice ab b.length cb) b (HBY.out wr.drew (HOr.out.chg.drew)) (fun hne kk hkk => .inl (HBK.out hne kk hkk)) (by omega) (by omega) (by omega))
        have hst := HA.out.put ⟨xc, xl, xn, xi⟩ b
        obtain ⟨o1, _, _, _, _⟩ := t.put_ok ⟨xc, xl, xn, xi⟩ b
        have HST := Lib.hid hst
        clear hst
        generalize t.put ⟨xc, xl, xn, xi⟩ b = z at *
        obtain ⟨ze, t1⟩ := z
        dsimp only at CP HST o1
        obtain ⟨d0, d2, d6⟩ := HDC.out wr HOr.out.chg
        go_wp2_with fail
        refine wp_region_L [(18, fun w' => w'.cell? ⟨g, o + j * 7, none⟩ = some (.int .i64 k)), (18, fun w' => (w'.cell? ⟨g, o + j * 7 + 2, none⟩ = some (.int .i64 xc) ∧ w'.cell? ⟨g, o + j * 7 + 2 + 1, none⟩ = some (.int .i64 xl) ∧ w'.cell? ⟨g, o + j * 7 + 2 + 2, none⟩ = some (.int .i64 xn) ∧ w'.cell? ⟨g, o + j * 7 + 2 + 3, none⟩ = some (.int .i64 xi))), (18, fun w' => w'.cell? ⟨g, o + j * 7 + 6, none⟩ = some (.slice ab b.length cb))] (by kernel_rfl) ?_ (fun hHeld => ?_)
        · exact (HoldC.cons (d0) (HoldC.cons (d2) (HoldC.cons (d6) HoldC.nil)))
        refine wpAnyL_take (i := 0) (oi := _) (v := ?_) rfl (by kernel_rfl) (by kernel_rfl) (by kernel_rfl) (by kernel_rfl) (by kernel_rfl) (fun _ _ _ h => h) (Or.inl ⟨by rfl, ?_⟩) (by assumption) (fun hNew => ?_)
        rotate_left
        · intro w _
          go_simp
          try with_reducible rfl
        clear hHeld
        have hHeld := hNew
        clear hNew
        try simp only [List.getElem_toArray, List.getElem_cons_succ, List.getElem_cons_zero, Act.put, List.setIfInBounds_toArray, List.set_cons_zero, List.set_cons_succ]
        refine wpAnyL_take (i := 1) (oi := _) (v := ?_) rfl (by kernel_rfl) (by kernel_rfl) (by kernel_rfl) (by kernel_rfl) (by kernel_rfl) (fun _ _ _ h => h) (Or.inl ⟨by rfl, ?_⟩) (by assumption) (fun hNew => ?_)
        rotate_left
        · intro w _
          go_simp
          try with_reducible rfl
        clear hHeld
        have hHeld := hNew
        clear hNew
        try simp only [List.getElem_toArray, List.getElem_cons_succ, List.getElem_cons_zero, Act.put, List.setIfInBounds_toArray, List.set_cons_zero, List.set_cons_succ]
        refine wpAnyL_take (i := 2) (oi := _) (v := ?_) rfl (by kernel_rfl) (by kernel_rfl) (by kernel_rfl) (by kernel_rfl) (by kernel_rfl) (fun _ _ _ h => h) (Or.inl ⟨by rfl, ?_⟩) (by assumption) (fun hNew => ?_)
        rotate_left
        · intro w _
          go_simp
          try with_reducible rfl
        clear hHeld
        have hHeld := hNew
        clear hNew
        try simp only [List.getElem_toArray, List.getElem_cons_succ, List.getElem_cons_zero, Act.put, List.setIfInBounds_toArray, List.set_cons_zero, List.set_cons_succ]
        refine wpAnyL_take (i := 3) (oi := _) (v := ?_) rfl (by kernel_rfl) (by kernel_rfl) (by kernel_rfl) (by kernel_rfl) (by kernel_rfl) (fun _ _ _ h => h) (Or.inl ⟨by rfl, ?_⟩) (by assumption) (fun hNew => ?_)
        rotate_left
        · intro w _
          go_simp
          try with_reducible rfl
        clear hHeld
        have hHeld := hNew
        clear hNew
        try simp only [List.getElem_toArray, List.getElem_cons_succ, List.getElem_cons_zero, Act.put, List.setIfInBounds_toArray, List.set_cons_zero, List.set_cons_succ]
        refine wpAnyL_loadP 0 [6, 5] (i := 4) (oi := _) (v := ?_) rfl rfl (by kernel_rfl) (by kernel_rfl) (by kernel_rfl) (by kernel_rfl) (by kernel_rfl) (by kernel_rfl) (fun _ _ _ h => h) (Or.inl ⟨by rfl, ?_⟩) (by assumption) (fun hNew => ?_)
        rotate_left
        · intro w hSw
          (try dsimp only at hSw)
          go_simp
          try with_reducible rfl
        clear hHeld
        have hHeld := hNew
        clear hNew
        try simp only [List.getElem_toArray, List.getElem_cons_succ, List.getElem_cons_zero, Act.put, List.setIfInBounds_toArray, List.set_cons_zero, List.set_cons_succ]
        refine wpAnyL_take (i := 5) (oi := _) (v := ?_) rfl (by kernel_rfl) (by kernel_rfl) (by kernel_rfl) (by kernel_rfl) (by kernel_rfl) (fun _ _ _ h => h) (Or.inl ⟨by rfl, ?_⟩) (by assumption) (fun hNew => ?_)
        rotate_left
        · intro w _
          go_simp
          try with_reducible rfl
        clear hHeld
        have hHeld := hNew
        clear hNew
        try simp only [List.getElem_toArray, List.getElem_cons_succ, List.getElem_cons_zero, Act.put, List.setIfInBounds_toArray, List.set_cons_zero, List.set_cons_succ]
        refine wpAnyL_take (i := 6) (oi := _) (v := ?_) rfl (by kernel_rfl) (by kernel_rfl) (by kernel_rfl) (by kernel_rfl) (by kernel_rfl) (fun _ _ _ h => h) (Or.inl ⟨by rfl, ?_⟩) (by assumption) (fun hNew => ?_)
        rotate_left
        · intro w _
          go_simp
          try with_reducible rfl
        clear hHeld
        have hHeld := hNew
        clear hNew
        try simp only [List.getElem_toArray, List.getElem_cons_succ, List.getElem_cons_zero, Act.put, List.setIfInBounds_toArray, List.set_cons_zero, List.set_cons_succ]
        refine wpAnyL_take (i := 7) (oi := _) (v := ?_) rfl (by kernel_rfl) (by kernel_rfl) (by kernel_rfl) (by kernel_rfl) (by kernel_rfl) (fun _ _ _ h => h) (Or.inl ⟨by rfl, ?_⟩) (by assumption) (fun hNew => ?_)
        rotate_left
        · intro w _
          go_simp
          try with_reducible rfl
        clear hHeld
        have hHeld := hNew
        clear hNew
        try simp only [List.getElem_toArray, List.getElem_cons_succ, List.getElem_cons_zero, Act.put, List.setIfInBounds_toArray, List.set_cons_zero, List.set_cons_succ]
        refine wpAnyL_take (i := 8) (oi := _) (v := ?_) rfl (by kernel_rfl) (by kernel_rfl) (by kernel_rfl) (by kernel_rfl) (by kernel_rfl) (fun _ _ _ h => h) (Or.inl ⟨by rfl, ?_⟩) (by assumption) (fun hNew => ?_)
        rotate_left
        · intro w _
          go_simp
          try with_reducible rfl
        clear hHeld
        have hHeld := hNew
        clear hNew
        try simp only [List.getElem_toArray, List.getElem_cons_succ, List.getElem_cons_zero, Act.put, List.setIfInBounds_toArray, List.set_cons_zero, List.set_cons_succ]
        refine wpAnyL_take (i := 9) (oi := _) (v := ?_) rfl (by kernel_rfl) (by kernel_rfl) (by kernel_rfl) (by kernel_rfl) (by kernel_rfl) (fun _ _ _ h => h) (Or.inl ⟨by rfl, ?_⟩) (by assumption) (fun hNew => ?_)
        rotate_left
        · intro w _
          go_simp
          try with_reducible rfl
        clear hHeld
        have hHeld := hNew
        clear hNew
        try simp only [List.getElem_toArray, List.getElem_cons_succ, List.getElem_cons_zero, Act.put, List.setIfInBounds_toArray, List.set_cons_zero, List.set_cons_succ]
        refine wpAnyL_take (i := 10) (oi := _) (v := ?_) rfl (by kernel_rfl) (by kernel_rfl) (by kernel_rfl) (by kernel_rfl) (by kernel_rfl) (fun _ _ _ h => h) (Or.inl ⟨by rfl, ?_⟩) (by assumption) (fun hNew => ?_)
        rotate_left
        · intro w _
          go_simp
          try with_reducible rfl
        clear hHeld
        have hHeld := hNew
        clear hNew
        try simp only [List.getElem_toArray, List.getElem_cons_succ, List.getElem_cons_zero, Act.put, List.setIfInBounds_toArray, List.set_cons_zero, List.set_cons_succ]
        refine wpAnyL_take (i := 11) (oi := _) (v := ?_) rfl (by kernel_rfl) (by kernel_rfl) (by kernel_rfl) (by kernel_rfl) (by kernel_rfl) (fun _ _ _ h => h) (Or.inl ⟨by rfl, ?_⟩) (by assumption) (fun hNew => ?_)
        rotate_left
        · intro w _
          go_simp
          try with_reducible rfl
        clear hHeld
        have hHeld := hNew
        clear hNew
        try simp only [List.getElem_toArray, List.getElem_cons_succ, List.getElem_cons_zero, Act.put, List.setIfInBounds_toArray, List.set_cons_zero, List.set_cons_succ]
        refine wpAnyL_load 1 (i := 12) (oi := _) (v := ?_) rfl rfl (by kernel_rfl) (by kernel_rfl) (by kernel_rfl) (by kernel_rfl) (by kernel_rfl) (by kernel_rfl) (fun _ _ _ h => h) (Or.inl ⟨by rfl, ?_⟩) (by assumption) (fun hNew => ?_)
        rotate_left
        · intro w hSw
          (try dsimp only at hSw)
          go_simp
          try with_reducible rfl
        clear hHeld
        have hHeld := hNew
        clear hNew
        try simp only [List.getElem_toArray, List.getElem_cons_succ, List.getElem_cons_zero, Act.put, List.setIfInBounds_toArray, List.set_cons_zero, List.set_cons_succ]
        refine wpAnyL_take (i := 13) (oi := _) (v := ?_) rfl (by kernel_rfl) (by kernel_rfl) (by kernel_rfl) (by kernel_rfl) (by kernel_rfl) (fun _ _ _ h => h) (Or.inl ⟨by rfl, ?_⟩) (by assumption) (fun hNew => ?_)
        rotate_left
        · intro w _
          go_simp
          try with_reducible rfl
        clear hHeld
        have hHeld := hNew
        clear hNew
        try simp only [List.getElem_toArray, List.getElem_cons_succ, List.getElem_cons_zero, Act.put, List.setIfInBounds_toArray, List.set_cons_zero, List.set_cons_succ]
        refine wpAnyL_take (i := 14) (oi := _) (v := ?_) rfl (by kernel_rfl) (by kernel_rfl) (by kernel_rfl) (by kernel_rfl) (by kernel_rfl) (fun _ _ _ h => h) (Or.inl ⟨by rfl, ?_⟩) (by assumption) (fun hNew => ?_)
        rotate_left
        · intro w _
          go_simp
          try with_reducible rfl
        clear hHeld
        have hHeld := hNew
        clear hNew
        try simp only [List.getElem_toArray, List.getElem_cons_succ, List.getElem_cons_zero, Act.put, List.setIfInBounds_toArray, List.set_cons_zero, List.set_cons_succ]
        refine wpAnyL_take (i := 15) (oi := _) (v := ?_) rfl (by kernel_rfl) (by kernel_rfl) (by kernel_rfl) (by kernel_rfl) (by kernel_rfl) (fun _ _ _ h => h) (Or.inl ⟨by rfl, ?_⟩) (by assumption) (fun hNew => ?_)
        rotate_left
        · intro w _
          go_simp
          try with_reducible rfl
        clear hHeld
        have hHeld := hNew
        clear hNew
        try simp only [List.getElem_toArray, List.getElem_cons_succ, List.getElem_cons_zero, Act.put, List.setIfInBounds_toArray, List.set_cons_zero, List.set_cons_succ]
        refine wpAnyL_take (i := 16) (oi := _) (v := ?_) rfl (by kernel_rfl) (by kernel_rfl) (by kernel_rfl) (by kernel_rfl) (by kernel_rfl) (fun _ _ _ h => h) (Or.inl ⟨by rfl, ?_⟩) (by assumption) (fun hNew => ?_)
        rotate_left
        · intro w _
          go_simp
          try with_reducible rfl
        clear hHeld
        have hHeld := hNew
        clear hNew
        try simp only [List.getElem_toArray, List.getElem_cons_succ, List.getElem_cons_zero, Act.put, List.setIfInBounds_toArray, List.set_cons_zero, List.set_cons_succ]
        refine wpAnyL_load 2 (i := 17) (oi := _) (v := ?_) rfl rfl (by kernel_rfl) (by kernel_rfl) (by kernel_rfl) (by kernel_rfl) (by kernel_rfl) (by kernel_rfl) (fun _ _ _ h => h) (Or.inl ⟨by rfl, ?_⟩) (by assumption) (fun hNew => ?_)
        rotate_left
        · intro w hSw
          (try dsimp only at hSw)
          go_simp
          try with_reducible rfl
        clear hHeld
        have hHeld := hNew
        clear hNew
        try simp only [List.getElem_toArray, List.getElem_cons_succ, List.getElem_cons_zero, Act.put, List.setIfInBounds_toArray, List.set_cons_zero, List.set_cons_succ]
        refine wpAnyL_ready (rs := [18]) (by kernel_rfl) (by simp) ?_
        refine AllReadyL.cons (o := _) rfl (fun K hK => ?_) AllReadyL.nil
        try simp only [List.getElem_toArray, List.getElem_cons_succ, List.getElem_cons_zero]
        go_simp
        refine CP.out.mono ?_
        rintro e w4 ⟨rfl, ho4, _⟩
        have HO4 := Lib.hid ho4
        have HA4 := Lib.hid HST.out.1
        have hsm4 := HST.out.1.small
        have hz4 := HST.out.1.zero
        clear ho4 CP
        clear hHeld
        refine hK.out _ _ ?_ (fun hHeld => ?_)
        · exact (HoldC.past (by kernel_rfl) (HoldC.past (by kernel_rfl) (HoldC.past (by kernel_rfl) HoldC.nil)))
        clear hK K
        try simp only [List.getElem_toArray, List.getElem_cons_succ, List.getElem_cons_zero, Act.put, List.setIfInBounds_toArray, List.set_cons_zero, List.set_cons_succ]
        refine wpAnyL_take (i := 19) (oi := _) (v := ?_) rfl (by kernel_rfl) (by kernel_rfl) (by kernel_rfl) (by kernel_rfl) (by kernel_rfl) (fun _ _ _ h => h) (Or.inl ⟨by rfl, ?_⟩) (by assumption) (fun hNew => ?_)
        rotate_left
        · intro w _
          go_simp
          try with_reducible rfl
        clear hHeld
        have hHeld := hNew
        clear hNew
        try simp only [List.getElem_toArray, List.getElem_cons_succ, List.getElem_cons_zero, Act.put, List.setIfInBounds_toArray, List.set_cons_zero, List.set_cons_succ]
        refine wpAnyL_take (i := 20) (oi := _) (v := ?_) rfl (by kernel_rfl) (by kernel_rfl) (by kernel_rfl) (by kernel_rfl) (by kernel_rfl) (fun _ _ _ h => h) (Or.inl ⟨by rfl, ?_⟩) (by assumption) (fun hNew => ?_)
        rotate_left
        · intro w _
          go_simp
          try with_reducible rfl
        clear hHeld
        have hHeld := hNew
        clear hNew
        try simp only [List.getElem_toArray, List.getElem_cons_succ, List.getElem_cons_zero, Act.put, List.setIfInBounds_toArray, List.set_cons_zero, List.set_cons_succ]
        refine wpAnyL_done (by kernel_rfl) ?_ _
        clear hHeld
        by_cases hze : ze = 0
        · subst hze
          have hag := HST.out.2 rfl
          have COP := Lib.hid (own_ops HO4.out)
          have CP2 := Lib.hid (own_put (HO4.out.keep0 (Chg.drew (Chg.refl [] w4))) ⟨xc, xl, xn, xi⟩ hxo (.slice ab b.length cb) b (HBY.out w4.drew (HO4.out.chg.drew)) (fun hne kk hkk => .inl (HBK.out hne kk hkk)) (by omega) (by omega) (by omega))
          rw [hag] at CP2
          clear hag
          go_wp2_with fail
          refine COP.out.mono ?_
          rintro e w' ⟨rfl, hq⟩
          subst hq
          obtain ⟨d0, d2, d6⟩ := HDC.out w4 HO4.out.chg
          go_wp2_with fail
          refine wp_region_L [(11, fun w' => (w'.cell? ⟨g, o + j * 7 + 2, none⟩ = some (.int .i64 xc) ∧ w'.cell? ⟨g, o + j * 7 + 2 + 1, none⟩ = some (.int .i64 xl) ∧ w'.cell? ⟨g, o + j * 7 + 2 + 2, none⟩ = some (.int .i64 xn) ∧ w'.cell? ⟨g, o + j * 7 + 2 + 3, none⟩ = some (.int .i64 xi))), (11, fun w' => w'.cell? ⟨g, o + j * 7 + 6, none⟩ = some (.slice ab b.length cb))] (by kernel_rfl) ?_ (fun hHeld => ?_)
          · exact (HoldC.cons (d2) (HoldC.cons (d6) HoldC.nil))
          refine wpAnyL_take (i := 0) (oi := _) (v := ?_) rfl (by kernel_rfl) (by kernel_rfl) (by kernel_rfl) (by kernel_rfl) (by kernel_rfl) (fun _ _ _ h => h) (Or.inl ⟨by rfl, ?_⟩) (by assumption) (fun hNew => ?_)
          rotate_left
          · intro w _
            go_simp
            try with_reducible rfl
          clear hHeld
          have hHeld := hNew
          clear hNew
          try simp only [List.getElem_toArray, List.getElem_cons_succ, List.getElem_cons_zero, Act.put, List.setIfInBounds_toArray, List.set_cons_zero, List.set_cons_succ]
          refine wpAnyL_take (i := 1) (oi := _) (v := ?_) rfl (by kernel_rfl) (by kernel_rfl) (by kernel_rfl) (by kernel_rfl) (by kernel_rfl) (fun _ _ _ h => h) (Or.inl ⟨by rfl, ?_⟩) (by assumption) (fun hNew => ?_)
          rotate_left
          · intro w _
            go_simp
            try with_reducible rfl
          clear hHeld
          have hHeld := hNew
          clear hNew
          try simp only [List.getElem_toArray, List.getElem_cons_succ, List.getElem_cons_zero, Act.put, List.setIfInBounds_toArray, List.set_cons_zero, List.set_cons_succ]
          refine wpAnyL_take (i := 2) (oi := _) (v := ?_) rfl (by kernel_rfl) (by kernel_rfl) (by kernel_rfl) (by kernel_rfl) (by kernel_rfl) (fun _ _ _ h => h) (Or.inl ⟨by rfl, ?_⟩) (by assumption) (fun hNew => ?_)
          rotate_left
          · intro w _
            go_simp
            try with_reducible rfl
          clear hHeld
          have hHeld := hNew
          clear hNew
          try simp only [List.getElem_toArray, List.getElem_cons_succ, List.getElem_cons_zero, Act.put, List.setIfInBounds_toArray, List.set_cons_zero, List.set_cons_succ]
          refine wpAnyL_take (i := 3) (oi := _) (v := ?_) rfl (by kernel_rfl) (by kernel_rfl) (by kernel_rfl) (by kernel_rfl) (by kernel_rfl) (fun _ _ _ h => h) (Or.inl ⟨by rfl, ?_⟩) (by assumption) (fun hNew => ?_)
          rotate_left
          · intro w _
            go_simp
            try with_reducible rfl
          clear hHeld
          have hHeld := hNew
          clear hNew
          try simp only [List.getElem_toArray, List.getElem_cons_succ, List.getElem_cons_zero, Act.put, List.setIfInBounds_toArray, List.set_cons_zero, List.set_cons_succ]
          refine wpAnyL_take (i := 4) (oi := _) (v := ?_) rfl (by kernel_rfl) (by kernel_rfl) (by kernel_rfl) (by kernel_rfl) (by kernel_rfl) (fun _ _ _ h => h) (Or.inl ⟨by rfl, ?_⟩) (by assumption) (fun hNew => ?_)
          rotate_left
          · intro w _
            go_simp
            try with_reducible rfl
          clear hHeld
          have hHeld := hNew
          clear hNew
          try simp only [List.getElem_toArray, List.getElem_cons_succ, List.getElem_cons_zero, Act.put, List.setIfInBounds_toArray, List.set_cons_zero, List.set_cons_succ]
          refine wpAnyL_load 0 (i := 5) (oi := _) (v := ?_) rfl rfl (by kernel_rfl) (by kernel_rfl) (by kernel_rfl) (by kernel_rfl) (by kernel_rfl) (by kernel_rfl) (fun _ _ _ h => h) (Or.inl ⟨by rfl, ?_⟩) (by assumption) (fun hNew => ?_)
          rotate_left
          · intro w hSw
            (try dsimp only at hSw)
            go_simp
            try with_reducible rfl
          clear hHeld
          have hHeld := hNew
          clear hNew
          try simp only [List.getElem_toArray, List.getElem_cons_succ, List.getElem_cons_zero, Act.put, List.setIfInBounds_toArray, List.set_cons_zero, List.set_cons_succ]
          refine wpAnyL_take (i := 6) (oi := _) (v := ?_) rfl (by kernel_rfl) (by kernel_rfl) (by kernel_rfl) (by kernel_rfl) (by kernel_rfl) (fun _ _ _ h => h) (Or.inl ⟨by rfl, ?_⟩) (by assumption) (fun hNew => ?_)
          rotate_left
          · intro w _
            go_simp
            try with_reducible rfl
          clear hHeld
          have hHeld := hNew
          clear hNew
          try simp only [List.getElem_toArray, List.getElem_cons_succ, List.getElem_cons_zero, Act.put, List.setIfInBounds_toArray, List.set_cons_zero, List.set_cons_succ]
          refine wpAnyL_take (i := 7) (oi := _) (v := ?_) rfl (by kernel_rfl) (by kernel_rfl) (by kernel_rfl) (by kernel_rfl) (by kernel_rfl) (fun _ _ _ h => h) (Or.inl ⟨by rfl, ?_⟩) (by assumption) (fun hNew => ?_)
          rotate_left
          · intro w _
            go_simp
            try with_reducible rfl
          clear hHeld
          have hHeld := hNew
          clear hNew
          try simp only [List.getElem_toArray, List.getElem_cons_succ, List.getElem_cons_zero, Act.put, List.setIfInBounds_toArray, List.set_cons_zero, List.set_cons_succ]
          refine wpAnyL_take (i := 8) (oi := _) (v := ?_) rfl (by kernel_rfl) (by kernel_rfl) (by kernel_rfl) (by kernel_rfl) (by kernel_rfl) (fun _ _ _ h => h) (Or.inl ⟨by rfl, ?_⟩) (by assumption) (fun hNew => ?_)
          rotate_left
          · intro w _
            go_simp
            try with_reducible rfl
          clear hHeld
          have hHeld := hNew
          clear hNew
          try simp only [List.getElem_toArray, List.getElem_cons_succ, List.getElem_cons_zero, Act.put, List.setIfInBounds_toArray, List.set_cons_zero, List.set_cons_succ]
          refine wpAnyL_take (i := 9) (oi := _) (v := ?_) rfl (by kernel_rfl) (by kernel_rfl) (by kernel_rfl) (by kernel_rfl) (by kernel_rfl) (fun _ _ _ h => h) (Or.inl ⟨by rfl, ?_⟩) (by assumption) (fun hNew => ?_)
          rotate_left
          · intro w _
            go_simp
            try with_reducible rfl
          clear hHeld
          have hHeld := hNew
          clear hNew
          try simp only [List.getElem_toArray, List.getElem_cons_succ, List.getElem_cons_zero, Act.put, List.setIfInBounds_toArray, List.set_cons_zero, List.set_cons_succ]
          refine wpAnyL_load 1 (i := 10) (oi := _) (v := ?_) rfl rfl (by kernel_rfl) (by kernel_rfl) (by kernel_rfl) (by kernel_rfl) (by kernel_rfl) (by kernel_rfl) (fun _ _ _ h => h) (Or.inl ⟨by rfl, ?_⟩) (by assumption) (fun hNew => ?_)
          rotate_left
          · intro w hSw
            (try dsimp only at hSw)
            go_simp
            try with_reducible rfl
          clear hHeld
          have hHeld := hNew
          clear hNew
          try simp only [List.getElem_toArray, List.getElem_cons_succ, List.getElem_cons_zero, Act.put, List.setIfInBounds_toArray, List.set_cons_zero, List.set_cons_succ]
          refine wpAnyL_ready (rs := [11]) (by kernel_rfl) (by simp) ?_
          refine AllReadyL.cons (o := _) rfl (fun K hK => ?_) AllReadyL.nil
          try simp only [List.getElem_toArray, List.getElem_cons_succ, List.getElem_cons_zero]
          go_simp
          refine CP2.out.mono ?_
          rintro e w5 ⟨rfl, ho5, _⟩
          have HO5 := Lib.hid ho5
          have COP5 := Lib.hid (own_ops HO5.out)
          clear ho5 CP2
          clear hHeld
          refine hK.out _ _ ?_ (fun hHeld => ?_)
          · exact (HoldC.past (by kernel_rfl) (HoldC.past (by kernel_rfl) HoldC.nil))
          clear hK K
          try simp only [List.getElem_toArray, List.getElem_cons_succ, List.getElem_cons_zero, Act.put, List.setIfInBounds_toArray, List.set_cons_zero, List.set_cons_succ]
          refine wpAnyL_take (i := 12) (oi := _) (v := ?_) rfl (by kernel_rfl) (by kernel_rfl) (by kernel_rfl) (by kernel_rfl) (by kernel_rfl) (fun _ _ _ h => h) (Or.inl ⟨by rfl, ?_⟩) (by assumption) (fun hNew => ?_)
          rotate_left
          · intro w _
            go_simp
            try with_reducible rfl
          clear hHeld
          have hHeld := hNew
          clear hNew
          try simp only [List.getElem_toArray, List.getElem_cons_succ, List.getElem_cons_zero, Act.put, List.setIfInBounds_toArray, List.set_cons_zero, List.set_cons_succ]
          refine wpAnyL_take (i := 13) (oi := _) (v := ?_) rfl (by kernel_rfl) (by kernel_rfl) (by kernel_rfl) (by kernel_rfl) (by kernel_rfl) (fun _ _ _ h => h) (Or.inl ⟨by rfl, ?_⟩) (by assumption) (fun hNew => ?_)
          rotate_left
          · intro w _
            go_simp
            try with_reducible rfl
          clear hHeld
          have hHeld := hNew
          clear hNew
          try simp only [List.getElem_toArray, List.getElem_cons_succ, List.getElem_cons_zero, Act.put, List.setIfInBounds_toArray, List.set_cons_zero, List.set_cons_succ]
          refine wpAnyL_take (i := 14) (oi := _) (v := ?_) rfl (by kernel_rfl) (by kernel_rfl) (by kernel_rfl) (by kernel_rfl) (by kernel_rfl) (fun _ _ _ h => h) (Or.inl ⟨by rfl, ?_⟩) (by assumption) (fun hNew => ?_)
          rotate_left
          · intro w _
            go_simp
            try with_reducible rfl
          clear hHeld
          have hHeld := hNew
          clear hNew
          try simp only [List.getElem_toArray, List.getElem_cons_succ, List.getElem_cons_zero, Act.put, List.setIfInBounds_toArray, List.set_cons_zero, List.set_cons_succ]
          refine wpAnyL_take (i := 16) (oi := _) (v := ?_) rfl (by kernel_rfl) (by kernel_rfl) (by kernel_rfl) (by kernel_rfl) (by kernel_rfl) (fun _ _ _ h => h) (Or.inl ⟨by rfl, ?_⟩) (by assumption) (fun hNew => ?_)
          rotate_left
          · intro w _
            go_simp
            try with_reducible rfl
          clear hHeld
          have hHeld := hNew
          clear hNew
          try simp only [List.getElem_toArray, List.getElem_cons_succ, List.getElem_cons_zero, Act.put, List.setIfInBounds_toArray, List.set_cons_zero, List.set_cons_succ]
          refine wpAnyL_ready (rs := [15]) (by kernel_rfl) (by simp) ?_
          refine AllReadyL.cons (o := _) rfl (fun K hK => ?_) AllReadyL.nil
          try simp only [List.getElem_toArray, List.getElem_cons_succ, List.getElem_cons_zero]
          go_simp
          refine COP5.out.mono ?_
          rintro e w' ⟨rfl, hq⟩
          subst hq
          clear hHeld
          refine hK.out _ _ ?_ (fun hHeld => ?_)
          · exact (HoldC.past (by kernel_rfl) (HoldC.past (by kernel_rfl) HoldC.nil))
          clear hK K
          try simp only [List.getElem_toArray, List.getElem_cons_succ, List.getElem_cons_zero, Act.put, List.setIfInBounds_toArray, List.set_cons_zero, List.set_cons_succ]
          refine wpAnyL_take (i := 17) (oi := _) (v := ?_) rfl (by kernel_rfl) (by kernel_rfl) (by kernel_rfl) (by kernel_rfl) (by kernel_rfl) (fun _ _ _ h => h) (Or.inl ⟨by rfl, ?_⟩) (by assumption) (fun hNew => ?_)
          rotate_left
          · intro w _
            go_simp
            try with_reducible rfl
          clear hHeld
          have hHeld := hNew
          clear hNew
          try simp only [List.getElem_toArray, List.getElem_cons_succ, List.getElem_cons_zero, Act.put, List.setIfInBounds_toArray, List.set_cons_zero, List.set_cons_succ]
          refine wpAnyL_take (i := 18) (oi := _) (v := ?_) rfl (by kernel_rfl) (by kernel_rfl) (by kernel_rfl) (by kernel_rfl) (by kernel_rfl) (fun _ _ _ h => h) (Or.inl ⟨by rfl, ?_⟩) (by assumption) (fun hNew => ?_)
          rotate_left
          · intro w _
            go_simp
            try with_reducible rfl
          clear hHeld
          have hHeld := hNew
          clear hNew
          try simp only [List.getElem_toArray, List.getElem_cons_succ, List.getElem_cons_zero, Act.put, List.setIfInBounds_toArray, List.set_cons_zero, List.set_cons_succ]
          refine wpAnyL_done (by kernel_rfl) ?_ _
          clear hHeld
          have HN := Lib.hid (And.intro HO5.out HA4.out.next)
          obtain ⟨d0, d2, d6⟩ := HDC.out w5 HO5.out.chg
          go_wp2_with fail
          go_roundg (gk - 1)
          case measure => omega
          case rel => exact ⟨j + 1, t1, by go_num, by omega, by omega, HN⟩
        · have q0 : (ze == 0) = false := by simp [hze]
          have HN := Lib.hid (And.intro HO4.out HA4.out.next)
          obtain ⟨d0, d2, d6⟩ := HDC.out w4 HO4.out.chg
          go_wp2_with fail
          go_roundg (gk - 1)
          case measure => omega
          case rel => exact ⟨j + 1, t1, by go_num, by omega, by omega, HN⟩
      · by_cases hk6 : k = 6
        · skip
          have hk4 : ¬ k ≤ 4 := by omega
          subst hk6
          obtain ⟨d0, d2, d6⟩ := HDC.out wr HOr.out.chg
          go_wp2_with fail
          go_quiet (fail)
          have HOq := Lib.hid (HOr.out.keep0 ((Chg.refl [] wr).drewN nq))
          clear d0 d2 d6
          generalize wr.drewN nq = wq at *
          have CD := Lib.hid (own_del HOq.out ⟨xc, xl, xn, xi⟩ hxo (by omega) (by omega))
          have hst := HA.out.del ⟨xc, xl, xn, xi⟩
          have HST := Lib.hid hst
          have hsm4 := hst.1.small
          have hz4 := hst.1.zero
          clear hst
          generalize t.del ⟨xc, xl, xn, xi⟩ = z at *
          obtain ⟨ze, t1⟩ := z
          dsimp only at CD HST hsm4 hz4
          obtain ⟨d0, d2, d6⟩ := HDC.out wq HOq.out.chg
          go_wp2_with fail
          refine CD.out.mono ?_
          rintro e w4 ⟨rfl, ho4, _⟩
          have HO4 := Lib.hid ho4
          clear ho4 CD
          by_cases hze : ze = 0
          · subst hze
            have hag := HST.out.2 rfl
            have COP := Lib.hid (own_ops HO4.out)
            go_wp2_with fail
            refine COP.out.mono ?_
            rintro e w' ⟨rfl, hq⟩
            subst hq
            obtain ⟨d0, ⟨d2, d3, d4, d5⟩, d6⟩ := HDC.out w4 HO4.out.chg
            have CD2 := Lib.hid (own_del HO4.out ⟨xc, xl, xn, xi⟩ hxo (by omega) (by omega))
            rw [hag] at CD2
            clear hag
            go_wp2_with fail
            refine CD2.out.mono ?_
            rintro e w5 ⟨rfl, ho5, _⟩
            have HO5 := Lib.hid ho5
            have COP5 := Lib.hid (own_ops HO5.out)
            clear ho5 CD2
            go_wp2_with fail
            refine COP5.out.mono ?_
            rintro e w' ⟨rfl, hq⟩
            subst hq
            have HN := Lib.hid (And.intro HO5.out HST.out.1.next)
            go_wp2_with fail
            go_roundg (gk - 1)
            case measure => omega
            case rel => exact ⟨j + 1, t1, by go_num, by omega, by omega, HN⟩
          · have q0 : (ze == 0) = false := by simp [hze]
            have HN := Lib.hid (And.intro HO4.out HST.out.1.next)
            go_wp2_with fail
            go_roundg (gk - 1)
            case measure => omega
            case rel => exact ⟨j + 1, t1, by go_num, by omega, by omega, HN⟩
        · skip
          have hk4 : ¬ k ≤ 4 := hk
          have q6 : (k == 6) = false := by simp [hk6]
          have hk5 : 4 < k := by omega
          have hk7 : decide (k ≤ 4) = false := by simp; omega
          obtain ⟨d0, d2, d6⟩ := HDC.out wr HOr.out.chg
          go_wp2_with fail
          go_quiet (fail)
          have HOq := Lib.hid (HOr.out.keep0 ((Chg.refl [] wr).drewN nq))
          clear d0 d2 d6
          generalize wr.drewN nq = wq at *
          have HN := Lib.hid (And.intro HOq.out HA.out.next.next)
          obtain ⟨d0, d2, d6⟩ := HDC.out wq HOq.out.chg
          go_wp2_with fail
          go_roundg (gk - 1)
          case measure => omega
          case rel => exact ⟨j + 1, t, by go_num, by omega, by omega, HN⟩
    · have hjn : ¬ (j : Int) < (n : Int) := by omega
      have HOr := Lib.hid HJ.out.1
      have hsm := HJ.out.2.small
      have hzr := HJ.out.2.zero
      clear HJ
      have COP := Lib.hid (own_ops HOr.out)
      have CG := Lib.hid (own_get HOr.out ⟨yc, yl, yn, yi⟩ hyo)
      obtain ⟨m0, m1, m2, m3⟩ := id_cells (HOr.out.chg.keep HB1.out (by simp))
      go_wp2_with fail
      refine COP.out.mono ?_
      rintro e w' ⟨rfl, hq⟩
      subst hq
      go_wp2_with fail
      refine CG.out.mono ?_
      rintro e w5 ⟨⟨vg, rfl, _, _⟩, ho5, _, _⟩
      have HO5 := Lib.hid ho5
      have CL := Lib.hid (own_list HO5.out)
      clear ho5 CG COP m0 m1 m2 m3
      go_wp2_with fail
      refine CL.out.mono ?_
      rintro e w6 ⟨⟨vl, rfl, _⟩, ho6, _, _⟩
      have HO6 := Lib.hid ho6
      have CT := Lib.hid (own_latest HO6.out yc)
      obtain ⟨m0, m1, m2, m3⟩ := id_cells (HO6.out.chg.keep HB1.out (by simp))
      clear ho6 CL
      go_wp2_with fail
      refine CT.out.mono ?_
      rintro e w7 ⟨rfl, ho7, _⟩
      have HO7 := Lib.hid ho7
      have COP := Lib.hid (own_ops HO7.out)
      clear ho7 CT m0 m1 m2 m3
      go_wp2_with fail
      refine COP.out.mono ?_
      rintro e w' ⟨rfl, hq⟩
      subst hq
      go_wp2_with fail
      go_ret
      exact ⟨rfl, HC1.out.trans HO7.out.chg (by simp)⟩
end Go.Proofs.YtbkajnjboipbhaaGreatDoor.W

/- StoreAgain: what the row asks. -/
namespace Go.Proofs.YtbkajnjboipbhaaGreatDoor.storeAgain
set_option linter.unusedVariables false
open Go.RowKit Go.ChangeShapes Go.WideShapes
set_option maxRecDepth 100000 in
theorem walk {H : Type} {enc : TypeId × Value → H} {held : Bool} {base b0 : Nat} (v0 : Value) (d0 : DataW H) (p0 : List MemPlace) (v1 : Value) (d1 : DataW H) (p1 : List MemPlace) (X : World) (h0 : Value.okWide Tryz.prog X .any b0 48 v0) (k0 : DataW.Trod enc Tryz.prog X base (fun _ => true) held 48 v0 d0 p0)
    (h1 : Value.okWide Tryz.prog X .any b0 25 v1) (k1 : DataW.Trod enc Tryz.prog X base (fun _ => true) held 25 v1 d1 p1) : Calls Tryz.prog 8 #[v0, v1] X fun e w' => e = .returned (.bool true) ∧ Below X.heap.size X w' := by
  obtain ⟨y, hy, rfl⟩ := Go.Proofs.YtbkajnjboipbhaaGreatDoor.W.open_id h1 k1
  obtain ⟨a, n, cap, rfl⟩ := okWide_slice Tryz.underlying48 h0
  obtain ⟨f, hn, hin⟩ : ∃ f, n ≤ maxLen ∧ Go.Proofs.YtbkajnjboipbhaaGreatDoor.W.DeedsAt X a n f := by
    obtain ⟨fuel, hf⟩ := k0
    rcases Go.Proofs.YtbkajnjboipbhaaGreatDoor.W.open_deeds hf with hcs | ⟨x, l, c, f, hcs, hl, hm, hd⟩
    · simp [Value.cells] at hcs
      obtain ⟨rfl, rfl, rfl⟩ := hcs
      exact ⟨fun _ => default, by unfold maxLen; omega, .inl rfl⟩
    · simp [Value.cells] at hcs
      obtain ⟨rfl, rfl, rfl⟩ := hcs
      exact ⟨f, Nat.le_trans hl hm, hd⟩
  exact (Go.Proofs.YtbkajnjboipbhaaGreatDoor.W.again_any a n cap f y X hin hn hy).mono fun e w' ⟨h1, h2⟩ => ⟨h1, h2.below (by simp)⟩
end Go.Proofs.YtbkajnjboipbhaaGreatDoor.storeAgain
