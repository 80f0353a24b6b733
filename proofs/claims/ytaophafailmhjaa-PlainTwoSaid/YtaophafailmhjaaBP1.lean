/- Texts laid together. -/
import Derived.Test.YtaophafailmhjaaRows
import Derived.WalkKit
import Derived.WalkSpells
import Derived.WalkLawsBesides
import Derived.Lib.Hide
import Derived.Maps.AppendAt
import Derived.OwnWalk
import Derived.Laws.OwnMore
import Derived.Deep.LoopGhost
import Derived.Deep.QuietTactic
import Derived.BigQuiet
import Derived.Maps.OwnSet
import Derived.Maps.RangeWalk
import Derived.DeepKeys4
import Derived.Lib.Bytealg
import Derived.Shelf.SlSortCmp.NoneTotal
import Derived.Ground.SlsfProg
import Derived.Shelf.Strings.Builder1
import Derived.Shelf.Strings.Builder2
import Derived.Shelf.Strings.OnBuilder
import Derived.Shelf.Small.Bits
import Derived.Shelf.Small.Strs
import Derived.Shelf.Strconv.Itoa0
import Derived.Shelf.Strings.Search1
import Derived.Ground.SlbCloneProg
import Derived.Shelf.Bytes.SlClone
import Derived.Test.YtaophafailmhjaaProg
import Derived.Lib.Strings
import Derived.Lib.IndexBytes
import Derived.Lib.Join
import Derived.Deep.RegionHeld3
import Derived.StillTailTactics
import Derived.Sort.OwnSortedInts
import Derived.Sort.OwnSorted
/- How arguments that are slices come to a walk. -/
namespace Go.Proofs.Ytaophafailmhjaa
open Go.RowKit

/-- A slice of integers that came in: nil, or a row of 'cap' cells, the numbers 'zs' (the first 'len' are its elements). -/
def IsRow (k : IntKind) (w : World) (a : Option Addr) (len cap : Nat) (zs : List Int) : Prop :=
  (a = none ∧ len = 0 ∧ cap = 0 ∧ zs = []) ∨
  ∃ x, a = some x ∧ len ≤ cap ∧ cap ≤ maxLen ∧ zs.length = cap ∧ (∀ i, i < zs.length → w.cell? (x.add i) = some (.int k (zs.getD i 0))) ∧ ∀ n ∈ zs, (Lit.int k n).wf = true
/-- A slice of bools that came in. -/
def IsBools (w : World) (a : Option Addr) (len : Nat) (B : Nat → Bool) : Prop :=
  (a = none ∧ len = 0) ∨ ∃ x, a = some x ∧ len ≤ maxLen ∧ ∀ i, i < len → w.cell? (x.add i) = some (.bool (B i))

/-- Elements of one cell each, that lie below block 'top'. -/
def RowAt (w : World) (top : Nat) (a : Option Addr) (n : Nat) (f : Nat → Value) : Prop :=
  n = 0 ∨ ∃ b off, a = some ⟨b, off, none⟩ ∧ b < top ∧ ∀ i, i < n → w.cell? ⟨b, off + i, none⟩ = some (f i)

theorem add_none {b off i : Nat} : (⟨b, off, none⟩ : Addr).add i = ⟨b, off + i, none⟩ := by
  unfold Addr.add; split <;> simp_all

theorem rowAt_of_cells {w : World} {x : Addr} {n : Nat} {f : Nat → Value} (h : ∀ i, i < n → w.cell? (x.add i) = some (f i)) : RowAt w w.heap.size (some x) n f := by
  by_cases h0 : n = 0
  · exact .inl h0
  · right
    obtain ⟨b, off, spot⟩ := x
    have hc := h 0 (by omega)
    have hspot : spot = none := by simpa [Addr.add] using World.cell?_spot hc
    subst hspot
    refine ⟨b, off, rfl, ?_, fun i hi => ?_⟩
    · have := World.block_lt_of_cell? w _ hc
      simpa [Addr.add] using this
    · rw [← add_none]; exact h i hi

theorem IsRow.rowAt {k : IntKind} {w : World} {a : Option Addr} {len cap : Nat} {zs : List Int} (h : IsRow k w a len cap zs) :
    RowAt w w.heap.size a len (fun i => .int k (zs.getD i 0)) ∧ len ≤ maxLen ∧ len ≤ zs.length ∧ ∀ i, (Lit.int k (zs.getD i 0)).wf = true := by
  rcases h with ⟨rfl, rfl, rfl, rfl⟩ | ⟨x, rfl, h1, h2, h3, h4, h5⟩
  · exact ⟨.inl rfl, by unfold maxLen; omega, Nat.le_refl _, fun i => by cases k <;> rfl⟩
  · refine ⟨rowAt_of_cells (fun i hi => h4 i (by omega)), by omega, by omega, fun i => ?_⟩
    by_cases hi : i < zs.length
    · have : zs.getD i 0 ∈ zs := by
        rw [List.getD_eq_getElem?_getD, List.getElem?_eq_getElem hi]; exact List.getElem_mem hi
      exact h5 _ this
    · have : zs.getD i 0 = 0 := by rw [List.getD_eq_getElem?_getD, List.getElem?_eq_none (by omega)]; rfl
      rw [this]; cases k <;> rfl
theorem IsBools.rowAt {w : World} {a : Option Addr} {len : Nat} {B : Nat → Bool} (h : IsBools w a len B) : RowAt w w.heap.size a len (fun i => .bool (B i)) ∧ len ≤ maxLen := by
  rcases h with ⟨rfl, rfl⟩ | ⟨x, rfl, h1, h2⟩
  · exact ⟨.inl rfl, by unfold maxLen; omega⟩
  · exact ⟨rowAt_of_cells h2, h1⟩

theorem RowAt.below {w w' : World} {top : Nat} {a : Option Addr} {n : Nat} {f : Nat → Value} (h : RowAt w top a n f) (hb : Below top w w') : RowAt w' top a n f := by
  rcases h with h0 | ⟨b, off, rfl, hlt, hc⟩
  · exact .inl h0
  · exact .inr ⟨b, off, rfl, hlt, fun i hi => (hb.cell (p := ⟨b, off + i, none⟩) hlt).trans (hc i hi)⟩

theorem rowAt_own {w : World} {base : Nat} {e : TypeId} {v : Value} {n : Nat} {xs : List Value} (h : w.ownsRow base e 1 v n xs) :
    ∃ a c, v = .slice a n c ∧ RowAt w w.heap.size a n (fun i => xs.getD i undef) ∧ xs.length = n := by
  have hl : xs.length = n := by simpa using h.1
  rcases h.2 with ⟨rfl, rfl⟩ | ⟨g, cap, cur, rfl, hbg, hg, hnc, hcm, hcs, htake⟩
  · exact ⟨none, 0, rfl, .inl rfl, hl⟩
  · refine ⟨_, _, rfl, .inr ⟨g, 0, rfl, (Array.getElem?_eq_some_iff.1 hg).1, fun i hi => ?_⟩, hl⟩
    have := h.cells (g := g) rfl i (xs.getD i undef) (by rw [List.getD_eq_getElem?_getD, List.getElem?_eq_getElem (by omega)]; rfl)
    rwa [add_none] at this

theorem one1 {v : Value} (h : v.oneCell' = true) : ∀ u ∈ (#[v] : Array Value).toList, u.oneCell' = true := by
  intro u hu; simp at hu; subst hu; exact h
theorem grownBy_trans {a b c : World} {r : Option Nat} (h1 : a.grownBy b r) (h2 : b.grownBy c r) : a.grownBy c r :=
  ⟨h2.os.trans h1.os, h2.tape.trans h1.tape, h2.output.trans h1.output, Nat.le_trans h1.size h2.size, fun k hk hne => (h2.block k (Nat.lt_of_lt_of_le hk h1.size) hne).trans (h1.block k hk hne)⟩

theorem Below.of_grown {B base : Nat} {W0 w w' : World} {e : TypeId} {size : Nat} {v : Value} {n : Nat} {xs : List Value} (hown : w.ownsRow base e size v n xs) (hg : w.grownBy w' v.ownBlock) (hB : B ≤ base) (hs : B ≤ w.heap.size) (hb : Below B W0 w) : Below B W0 w' :=
  hb.grown hg hs (fun k hk => Nat.le_trans hB (hown.lt k hk).1)

/-- A slice type 't' and its element's row of the table. -/
def El (P : Program) (t e : TypeId) (z : Value) (size bytes : Nat) : Prop :=
  P.underlying t = some (.slice e) ∧ (∃ i, P.info? e = some i ∧ i.zero = some z ∧ i.size = size ∧ i.bytes = bytes) ∧ z.cells.size = size ∧ 0 < size
theorem El.mk {P : Program} {t e : TypeId} {z : Value} {size bytes : Nat} (ht : P.underlying t = some (.slice e)) (hi : (P.info? e).map (fun i => (i.zero, i.size, i.bytes)) = some (some z, size, bytes)) (h1 : z.cells.size = size) (h2 : 0 < size) : El P t e z size bytes := by
  obtain ⟨i, a, b, c, d⟩ := info_parts hi
  exact ⟨ht, ⟨i, a, b, c, d⟩, h1, h2⟩

/-- 'out = append(out, x)', out the call's own: the element has just been laid into a new block. -/
theorem wpList_app1 {P : Program} {w : World} {ops : Array Oper} {rest : List Oper} {o : Oper} {a : Act} {Q : Exit → Act → World → Prop} (hgd : o.guard = none) (s x : Operand) (t : TypeId)
    (ho : o.op = .call { callee := .builtin .append, args := #[s, x], argTypes := #[t, t] })
    (base : Nat) {e : TypeId} {z : Value} {size bytes : Nat} (hE : El P t e z size bytes)
    (v : Value) (n : Nat) (xs : List Value) (hs : a.eval s = v) (hown : w.ownsRow base e size v n xs)
    (c : Nat) (news : Array Value) (hx : a.eval x = .slice (some ⟨w.heap.size, 0, none⟩) 1 c) (hl : news.size = size) (h1 : ∀ u ∈ news.toList, u.oneCell' = true)
    (h63 : n + 1 ≤ maxLen) (hbytes : (n + 1) * bytes ≤ 140737488355328) (hbase : base ≤ w.heap.size)
    (h : ∀ v' w', w'.ownsRow base e size v' (n + 1) (xs ++ news.toList) → w.grownBy w' v.ownBlock → wpList P ops Q rest (a.put o.dst v') w') : wpList P ops Q (o :: rest) a (w.alloc (.cells news e)) := by
  obtain ⟨ht, ⟨i, hi, hz, hsize, hby⟩, hzs, hsz⟩ := hE
  refine wpList_append_own _ hgd s x t ho base e i z size bytes ht hi hz hsize hby hzs hsz v n xs hs (hown.alloc _) ⟨w.heap.size, 0, none⟩ 1 c news.toList hx (by simpa using hl) ?_ h1 h63 hbytes (by simp; omega) ?_
  · intro j u hj
    rw [add_none]
    simp only [Nat.zero_add]
    have hh : (w.alloc (.cells news e)).heap[w.heap.size]? = some (.cells news e (0, 0)) := heap_alloc_new w _
    simp only [World.cell?, hh]
    simpa using hj
  · intro v' w' h2 h3 _
    exact h v' w' h2 (grownBy_trans (World.grownBy_alloc w _ _) h3)
end Go.Proofs.Ytaophafailmhjaa

/- Frames by lists of blocks; rows of bytes in memory. -/
namespace Go.Proofs.Ytaophafailmhjaa.W
open Go.RowKit
set_option linter.unusedVariables false
set_option linter.unusedSimpArgs false

/-- w' is w but for the blocks of S, and new ones. -/
structure Chg (S : List Nat) (w w' : World) : Prop where
  os : w'.os = w.os
  tape : w'.tape = w.tape
  output : w'.output = w.output
  size : w.heap.size ≤ w'.heap.size
  block : ∀ k, k < w.heap.size → k ∉ S → w'.heap[k]? = w.heap[k]?
theorem Chg.refl (S : List Nat) (w : World) : Chg S w w := ⟨rfl, rfl, rfl, Nat.le_refl _, fun _ _ _ => rfl⟩
theorem Chg.trans {S T : List Nat} {a b c : World} (h : Chg S a b) (k : Chg T b c) (hT : ∀ x ∈ T, x ∈ S ∨ a.heap.size ≤ x) : Chg S a c :=
  ⟨k.os.trans h.os, k.tape.trans h.tape, k.output.trans h.output, Nat.le_trans h.size k.size, fun x hx hn => (k.block x (Nat.lt_of_lt_of_le hx h.size) (fun ht => by
    rcases hT x ht with h1 | h1
    · exact hn h1
    · omega)).trans (h.block x hx hn)⟩
theorem Chg.mono {S T : List Nat} {a b : World} (h : Chg S a b) (hT : ∀ x ∈ S, x ∈ T ∨ a.heap.size ≤ x) : Chg T a b :=
  ⟨h.os, h.tape, h.output, h.size, fun x hx hn => h.block x hx (fun hs => by
    rcases hT x hs with h1 | h1
    · exact hn h1
    · omega)⟩
theorem Chg.of_below {S : List Nat} {a b : World} (h : Below a.heap.size a b) : Chg S a b := ⟨h.os, h.tape, h.output, h.size, fun x hx _ => h.block x hx⟩
theorem Chg.to_below {S : List Nat} {a b c : World} {B : Nat} (h0 : Below B a b) (h : Chg S b c) (hB : B ≤ b.heap.size) (hS : ∀ x ∈ S, B ≤ x) : Below B a c :=
  ⟨h.os.trans h0.os, h.tape.trans h0.tape, h.output.trans h0.output, Nat.le_trans h0.size h.size, fun x hx => (h.block x (Nat.lt_of_lt_of_le hx hB) (fun hs => by have := hS x hs; omega)).trans (h0.block x hx)⟩
theorem Chg.below {S : List Nat} {a b : World} (h : Chg S a b) (hS : ∀ x ∈ S, a.heap.size ≤ x) : Below a.heap.size a b := Chg.to_below (Below.refl _ _) h (Nat.le_refl _) hS
theorem Chg.drew {S : List Nat} {a b : World} (h : Chg S a b) : Chg S a b.drew := ⟨h.os, h.tape, h.output, h.size, h.block⟩
theorem Chg.drewN {S : List Nat} {a b : World} (h : Chg S a b) (n : Nat) : Chg S a (b.drewN n) := ⟨h.os, h.tape, h.output, h.size, h.block⟩
theorem Chg.alloc {S : List Nat} {a b : World} (h : Chg S a b) (o : Obj) : Chg S a (b.alloc o) :=
  h.trans (T := []) (Chg.of_below ((Below.refl _ _).alloc (Nat.le_refl _) o)) (by simp)
theorem Chg.setCell {S : List Nat} {a b : World} (h : Chg S a b) {p : Addr} (hp : p.block ∈ S ∨ a.heap.size ≤ p.block) (u : Value) : Chg S a (b.setCell p u) :=
  ⟨h.os, h.tape, h.output, by simpa [World.setCell] using h.size, fun k hk hn => (Below.heap_setCell b p u k (by
    rintro rfl
    rcases hp with hp | hp
    · exact hn hp
    · omega)).trans (h.block k hk hn)⟩
theorem Chg.grown {S : List Nat} {a b c : World} {r : Option Nat} (h : Chg S a b) (hg : b.grownBy c r) (hr : ∀ k, r = some k → k ∈ S ∨ a.heap.size ≤ k) : Chg S a c :=
  ⟨hg.os.trans h.os, hg.tape.trans h.tape, hg.output.trans h.output, Nat.le_trans h.size hg.size, fun k hk hn => (hg.block k (Nat.lt_of_lt_of_le hk h.size) (fun e => by
    rcases hr k e.symm with h1 | h1
    · exact hn h1
    · omega)).trans (h.block k hk hn)⟩
theorem Chg.keep {S : List Nat} {a b : World} (h : Chg S a b) {k : Nat} {o : Obj} (hk : a.heap[k]? = some o) (hn : k ∉ S) : b.heap[k]? = some o :=
  (h.block k (Array.getElem?_eq_some_iff.1 hk).1 hn).trans hk
theorem Chg.cell {S : List Nat} {a b : World} (h : Chg S a b) {p : Addr} {v : Value} (hc : a.cell? p = some v) (hn : p.block ∉ S) : b.cell? p = some v :=
  (World.cell?_of_block (h.block p.block (World.block_lt_of_cell? a p hc) hn)).trans hc

theorem ret_bool {a b : Bool} (h : a = b) : Ending.returned (.bool a) = .returned (.bool b) := by rw [h]
theorem ret_int {k : IntKind} {a b : Int} (h : a = b) : Ending.returned (.int k a) = .returned (.int k b) := by rw [h]
theorem bt {w w1 w2 : World} (h1 : Below w.heap.size w w1) (h2 : Below w1.heap.size w1 w2) : Below w.heap.size w w2 := h1.trans (h2.mono h1.size)
theorem blk_lt {w : World} {b : Nat} {o : Obj} (h : w.heap[b]? = some o) : b < w.heap.size := (Array.getElem?_eq_some_iff.1 h).1
theorem blk_cell {w : World} {b t : Nat} {cs : Array Value} (h : w.heap[b]? = some (.cells cs t (0, 0))) (j : Nat) (v : Value) (hv : cs[j]? = some v) : w.cell? ⟨b, j, none⟩ = some v := by
  simp [World.cell?, h, hv]
theorem blk_frozen {w : World} {b t : Nat} {cs : Array Value} (h : w.heap[b]? = some (.cells cs t (0, 0))) (j : Nat) : w.frozen? ⟨b, j, none⟩ = false := by
  simp [World.frozen?, h]; try omega
theorem set_blk {w : World} {b t : Nat} {cs : Array Value} {j : Nat} {u : Value} (h : w.heap[b]? = some (.cells cs t (0, 0))) :
    (w.setCell ⟨b, j, none⟩ u).heap[b]? = some (.cells (cs.setIfInBounds j u) t (0, 0)) := by
  have hlt := blk_lt h
  have h' : w.heap[b] = .cells cs t (0, 0) := by simpa [Array.getElem?_eq_getElem hlt] using h
  show (w.heap.modify b _)[b]? = _
  rw [Array.getElem?_eq_getElem (by simpa using hlt), Array.getElem_modify_self, h']
  rfl
theorem blk_alloc {w : World} {b : Nat} {o o' : Obj} (h : w.heap[b]? = some o) : (w.alloc o').heap[b]? = some o :=
  ((Below.refl w.heap.size w).alloc (Nat.le_refl _) o').block b (Array.getElem?_eq_some_iff.1 h).1 |>.trans h
theorem blk_sets {w : World} {b b' j : Nat} {o : Obj} {u : Value} (h : w.heap[b]? = some o) (hne : b ≠ b') : (w.setCell ⟨b', j, none⟩ u).heap[b]? = some o :=
  (Below.heap_setCell w ⟨b', j, none⟩ u b hne).trans h

/-- A byte as a cell holds it. -/
def bv (x : UInt8) : Value := .int .u8 (x.toNat : Int)
def bvs (l : List UInt8) : List Value := l.map bv
theorem bvs_one (l : List UInt8) : ∀ u ∈ bvs l, u.oneCell' = true := by
  intro u hu
  obtain ⟨x, _, rfl⟩ := List.mem_map.1 hu
  rfl
theorem bvs_len (l : List UInt8) : (bvs l).length = l.length := by simp [bvs]
theorem bvs_at (l : List UInt8) (i : Nat) (hi : i < l.length) : (bvs l)[i]? = some (bv (l.getD i 0)) := by
  simp [bvs, List.getD_eq_getElem?_getD, List.getElem?_eq_getElem hi]

/-- A slice of bytes: what it reads as. -/
def BytesAt (w : World) (v : Value) (l : List UInt8) : Prop :=
  ∃ a cap, v = .slice a l.length cap ∧ l.length ≤ cap ∧ cap ≤ maxLen ∧ ((l = [] ∧ cap = 0) ∨ ∃ g o, a = some ⟨g, o, none⟩ ∧ ∀ i, i < l.length → w.cell? ⟨g, o + i, none⟩ = some (bv (l.getD i 0)))
theorem BytesAt.keep {w w' : World} {v : Value} {l : List UInt8} (h : BytesAt w v l) (hb : ∀ g, v.ownBlock = some g → w'.heap[g]? = w.heap[g]?) : BytesAt w' v l := by
  obtain ⟨a, cap, rfl, h1, h2, h3⟩ := h
  refine ⟨a, cap, rfl, h1, h2, ?_⟩
  rcases h3 with h3 | ⟨g, o, rfl, hc⟩
  · exact .inl h3
  · exact .inr ⟨g, o, rfl, fun i hi => (World.cell?_of_block (w := w) (a := ⟨g, o + i, none⟩) (hb g rfl)).trans (hc i hi)⟩
theorem BytesAt.nil (w : World) : BytesAt w (.slice none 0 0) [] := ⟨none, 0, rfl, by simp, by unfold maxLen; omega, .inl ⟨rfl, rfl⟩⟩

/-- The block that a slice lies in is g, if it lies in any. -/
def InBlk (v : Value) (g : Nat) : Prop := ∀ k, v.ownBlock = some k → k = g

/-- A row of bytes of our own: it may be appended to. -/
def BRow (w : World) (v : Value) (l : List UInt8) : Prop := w.ownsRow 0 5 1 v l.length (bvs l)
theorem BRow.nil (w : World) : BRow w (.slice none 0 0) [] := World.ownsRow_nil _ _ _ _
theorem BRow.lt {w : World} {v : Value} {l : List UInt8} (h : BRow w v l) : ∀ k, v.ownBlock = some k → k < w.heap.size := fun k hk => (World.ownsRow.lt h k hk).2
theorem row_keep {w w' : World} {base e size n : Nat} {v : Value} {xs : List Value} (h : w.ownsRow base e size v n xs) (hb : ∀ g, v.ownBlock = some g → w'.heap[g]? = w.heap[g]?) : w'.ownsRow base e size v n xs := by
  refine ⟨h.1, ?_⟩
  rcases h.2 with h | ⟨g, cap, cur, rfl, hbg, hg, rest⟩
  · exact .inl h
  · exact .inr ⟨g, cap, cur, rfl, hbg, (hb g rfl).trans hg, rest⟩
theorem row_base {w : World} {base e size n : Nat} {v : Value} {xs : List Value} (h : w.ownsRow base e size v n xs) (B : Nat) (hB : ∀ g, v.ownBlock = some g → B ≤ g) : w.ownsRow B e size v n xs := by
  refine ⟨h.1, ?_⟩
  rcases h.2 with h | ⟨g, cap, cur, rfl, hbg, hg, rest⟩
  · exact .inl h
  · exact .inr ⟨g, cap, cur, rfl, hB g rfl, hg, rest⟩
theorem BRow.keep {w w' : World} {v : Value} {l : List UInt8} (h : BRow w v l) (hb : ∀ g, v.ownBlock = some g → w'.heap[g]? = w.heap[g]?) : BRow w' v l := row_keep h hb
theorem BRow.bytes {w : World} {v : Value} {l : List UInt8} (h : BRow w v l) : BytesAt w v l := by
  rcases h.2 with ⟨rfl, h0⟩ | ⟨g, cap, cur, rfl, hbg, hg, hnc, hcm, hcs, htake⟩
  · obtain rfl := List.eq_nil_of_length_eq_zero h0
    exact BytesAt.nil w
  · refine ⟨_, cap, rfl, hnc, hcm, .inr ⟨g, 0, rfl, fun i hi => ?_⟩⟩
    have := h.cells (g := g) rfl i _ (bvs_at l i hi)
    rwa [add_none] at this

theorem elBytes : El Try.prog 22 5 (.int .u8 0) 1 1 := El.mk Try.underlying22 (by kernel_rfl) rfl (by decide)

theorem run_appB {w : World} (ty : TypeId) (v : Value) (l : List UInt8) (hown : BRow w v l) (u : Value) (m : List UInt8) (hm : BytesAt w u m) (hsz : l.length + m.length ≤ 140737488355328) :
    ∃ v' w', (Builtin.append_ #[22, 22] ty #[v, u]).run Try.prog w = .ok v' w' ∧ BRow w' v' (l ++ m) ∧ w.grownBy w' v.ownBlock ∧ (v'.ownBlock = v.ownBlock ∨ v'.ownBlock = some w.heap.size) := by
  obtain ⟨ht, ⟨i, hi, hz, hsize, hby⟩, hzs, hsp⟩ := elBytes
  have hsz' := hsz
  obtain ⟨a, cap, rfl, h1, h2, h3⟩ := hm
  have hrow : ∀ (v' : Value) (w' : World), w'.ownsRow 0 5 1 v' (l.length + m.length) (bvs l ++ bvs m) → BRow w' v' (l ++ m) := by
    intro v' w' h
    unfold BRow
    rw [List.length_append, show bvs (l ++ m) = bvs l ++ bvs m from List.map_append]
    exact h
  cases a with
  | none =>
    obtain ⟨rfl, rfl⟩ : m = [] ∧ cap = 0 := by
      rcases h3 with h3 | ⟨g, o, h, _⟩
      · exact h3
      · cases h
    have hr := run_append_owned_none (P := Try.prog) (w := w) 0 22 ty 5 i 1 ht hi v l.length (bvs l) hown
    exact ⟨v, w, hr, by rw [List.append_nil]; exact hown, ⟨rfl, rfl, rfl, Nat.le_refl _, fun _ _ _ => rfl⟩, .inl rfl⟩
  | some ad =>
    have hnews : ∀ j x, (bvs m)[j]? = some x → w.cell? (ad.add j) = some x := by
      intro j x hj
      rcases h3 with ⟨rfl, _⟩ | ⟨g, o, he, hc⟩
      · simp [bvs] at hj
      · obtain rfl : ad = ⟨g, o, none⟩ := by simpa using he
        have hjl : j < m.length := by
          have := (List.getElem?_eq_some_iff.1 hj).1
          simpa [bvs] using this
        rw [add_none, hc j hjl]
        rw [bvs_at m j hjl] at hj
        exact hj
    obtain ⟨v', w', hr, ho, hg, _, hat⟩ := run_append_own_at (P := Try.prog) w 0 22 ty 5 i _ 1 1 ht hi hz hsize hby hzs hsp v l.length (bvs l) hown ad m.length cap (bvs m) (by simp [bvs]) hnews (bvs_one m) (by unfold maxLen; omega) (by omega) (Nat.zero_le _)
    exact ⟨v', w', hr, hrow _ _ ho, hg, hat⟩
/-- 'out = append(out, src...)': out a row of bytes of our own, src any bytes. -/
theorem wpList_appB {w : World} {ops : Array Oper} {rest : List Oper} {o : Oper} {a : Act} {Q : Exit → Act → World → Prop} (hgd : o.guard = none) (s x : Operand)
    (ho : o.op = .call { callee := .builtin .append, args := #[s, x], argTypes := #[22, 22] })
    (v : Value) (l : List UInt8) (hs : a.eval s = v) (hown : BRow w v l) (u : Value) (m : List UInt8) (hx : a.eval x = u) (hm : BytesAt w u m)
    (hsz : l.length + m.length ≤ 140737488355328)
    (h : ∀ v' w', BRow w' v' (l ++ m) → w.grownBy w' v.ownBlock → (v'.ownBlock = v.ownBlock ∨ v'.ownBlock = some w.heap.size) → wpList Try.prog ops Q rest (a.put o.dst v') w') : wpList Try.prog ops Q (o :: rest) a w := by
  refine wpList_plain hgd fun K hK => ?_
  obtain ⟨v', w', hr, h2, h3, h4⟩ := run_appB o.type v l hown u m hm hsz
  unfold Oper.wp execOp
  simp only [ho, resolve, invoke, builtin, Sem.run_bind, Sem.run_pure, Result.andThen_ok, List.map_toArray, List.map_cons, List.map_nil, hs, hx, hr]
  exact hK _ _ (h v' w' h2 h3 h4)
end Go.Proofs.Ytaophafailmhjaa.W

/- Maps in memory, told key by key. -/
namespace Go.Proofs.Ytaophafailmhjaa.W
open Go.RowKit
open Go.Maps (Keyed)
set_option linter.unusedVariables false
set_option linter.unusedSimpArgs false

/-- An element as it stands. -/
def hv (v : Value) : Option (DataW Value × List MemPlace) := some (.held v, [])
/-- How the keys of a type read. -/
structure KE (k : TypeId) {κ : Type} (kv : κ → Value) (kl : κ → Lit) (ok : κ → Prop) : Prop where
  law : Keyed Try.prog k
  of : ∀ x, ok x → keyOf Try.prog k (kv x) = some (kl x)
  inj : ∀ x y, ok x → ok y → kl x = kl y → x = y
  inv : ∀ v l, keyOf Try.prog k v = some l → ∃ x, ok x ∧ v = kv x ∧ l = kl x
def okI (a : Int) : Prop := (Lit.int .i64 a).wf = true
def kvI (a : Int) : Value := .int .i64 a
def klI (a : Int) : Lit := .int .i64 a
theorem keInt : KE 3 kvI klI okI where
  law := Go.Maps.int_keyed Try.underlying3
  of x h := Go.Maps.keyOf_int_mk Try.underlying3 h
  inj x y _ _ h := by simpa [klI] using h
  inv v l h := by
    obtain ⟨x, h1, h2, h3⟩ := Go.Maps.keyOf_int_inv Try.underlying3 h
    exact ⟨x, h3, h1, h2⟩
def okS (l : List UInt8) : Prop := l.length ≤ maxLen
def kvS (l : List UInt8) : Value := .string ⟨l.toArray⟩
def klS (l : List UInt8) : Lit := .string l
theorem keStr : KE 9 kvS klS okS where
  law := Go.Maps.string_keyed Try.underlying9
  of x h := by
    have hs : (ByteArray.mk x.toArray).size ≤ maxLen := by
      have h' : x.length ≤ maxLen := h
      simpa [ByteArray.size] using h'
    simp [kvS, klS, keyOf, Try.underlying9, mapKey, hs]
  inj x y _ _ h := by simpa [klS] using h
  inv v l h := by
    cases v <;> simp [keyOf, Try.underlying9, mapKey] at h
    rename_i s
    obtain ⟨h1, rfl⟩ := h
    exact ⟨s.data.toList, by show s.data.toList.length ≤ maxLen; rw [Array.length_toList]; exact h1, rfl, rfl⟩

variable {κ : Type} {k : TypeId} {kv : κ → Value} {kl : κ → Lit} {ok : κ → Prop}
/-- Block b is a map of N entries: at each key what φ says. -/
def MapF (k : TypeId) (kl : κ → Lit) (ok : κ → Prop) (w : World) (b : Nat) (φ : κ → Option Value) (N : Nat) : Prop :=
  ∃ D : DataW Value, w.ownsMap Try.prog k hv b N D ∧ Maps.size D = N ∧ ∀ x, ok x → Maps.has D (kl x) = (φ x).isSome ∧ ∀ v, φ x = some v → ∀ z, D.atKey (kl x) z = .held v

theorem MapF.lt {w : World} {b N : Nat} {φ : κ → Option Value} (h : MapF k kl ok w b φ N) : b < w.heap.size := by obtain ⟨D, h, _⟩ := h; exact h.lt
theorem MapF.keep {w w' : World} {b N : Nat} {φ : κ → Option Value} (h : MapF k kl ok w b φ N) (hb : w'.heap[b]? = w.heap[b]?) : MapF k kl ok w' b φ N := by
  obtain ⟨D, ⟨es, clock, h1, r⟩, h2⟩ := h
  exact ⟨D, ⟨es, clock, hb.trans h1, r⟩, h2⟩
theorem MapF.chg {S : List Nat} {w w' : World} {b N : Nat} {φ : κ → Option Value} (h : MapF k kl ok w b φ N) (hc : Chg S w w') (hb : b ∉ S) : MapF k kl ok w' b φ N := h.keep (hc.block b h.lt hb)
theorem MapF.obj {w : World} {b N : Nat} {φ : κ → Option Value} (h : MapF k kl ok w b φ N) : ∃ es clock, w.heap[b]? = some (.map es clock) := by
  obtain ⟨D, ⟨es, clock, h1, r⟩, h2⟩ := h
  exact ⟨es, clock, h1⟩
theorem MapF.congr {w : World} {b N M : Nat} {φ ψ : κ → Option Value} (h : MapF k kl ok w b φ N) (hN : N = M) (he : ∀ x, ok x → φ x = ψ x) : MapF k kl ok w b ψ M := by
  subst hN
  obtain ⟨D, h1, h2, h3⟩ := h
  exact ⟨D, h1, h2, fun x hx => by rw [← he x hx]; exact h3 x hx⟩
theorem MapF.made (w : World) : MapF k kl ok (w.alloc (.map #[] 0)) w.heap.size (fun _ => none) 0 := ⟨.map [], World.ownsMap_made _ _ _ _, rfl, fun x hx => ⟨rfl, fun v h => by cases h⟩⟩
theorem MapF.few {w : World} {b N : Nat} {φ : κ → Option Value} (h : MapF k kl ok w b φ N) : N ≤ maxLen := by
  obtain ⟨D, ⟨es, clock, h1, F, h3, rfl⟩, h2, _⟩ := h
  have h4 := F.size
  have : es.size = N := by simpa [Maps.size, length_sorted] using h2
  omega

theorem atKey_held (E : KE k kv kl ok) {w : World} {b N : Nat} {φ : κ → Option Value} {D : DataW Value} (hf : ∀ x, ok x → Maps.has D (kl x) = (φ x).isSome ∧ ∀ v, φ x = some v → ∀ z, D.atKey (kl x) z = .held v)
    {x : κ} (hx : ok x) (z : Value) : D.atKey (kl x) (.held z) = .held ((φ x).getD z) := by
  cases hφ : φ x with
  | none =>
    have := (hf x hx).1
    rw [hφ] at this
    rw [Maps.atKey_of_not_has this]; rfl
  | some u => rw [(hf x hx).2 u hφ]; rfl
theorem hv_inj {v u : Value} {ps : List MemPlace} (h : hv v = some (.held u, ps)) : v = u := by
  simp only [hv, Option.some.injEq, Prod.mk.injEq, DataW.held.injEq] at h
  exact h.1

theorem MapF.look (E : KE k kv kl ok) {w : World} {b N : Nat} {φ : κ → Option Value} (h : MapF k kl ok w b φ N) {t e : TypeId} (ht : Try.prog.underlying t = some (.map k e)) {z : Value} (hz : ∀ w, (zeroValue e).run Try.prog w = .ok z w) {x : κ} (hx : ok x) :
    (Instr.lookup t (.map (some b)) (kv x) false).run Try.prog w = .ok ((φ x).getD z) w := by
  obtain ⟨D, ho, hs, hf⟩ := h
  obtain ⟨v, ps, hrun, hv'⟩ := ho.lookup E.law ht (hz w) (zd := .held z) (zp := []) rfl (E.of x hx)
  rw [atKey_held E (w := w) (b := b) (N := N) hf hx z] at hv'
  rw [hrun, hv_inj hv']
theorem MapF.lookOk (E : KE k kv kl ok) {w : World} {b N : Nat} {φ : κ → Option Value} (h : MapF k kl ok w b φ N) {t e : TypeId} (ht : Try.prog.underlying t = some (.map k e)) {z : Value} (hz : ∀ w, (zeroValue e).run Try.prog w = .ok z w) {x : κ} (hx : ok x) :
    (Instr.lookup t (.map (some b)) (kv x) true).run Try.prog w = .ok (.tuple #[(φ x).getD z, .bool (φ x).isSome]) w := by
  obtain ⟨D, ho, hs, hf⟩ := h
  obtain ⟨v, ps, hrun, hv'⟩ := ho.look_ok E.law ht (hz w) (zd := .held z) (zp := []) rfl (E.of x hx)
  rw [atKey_held E (w := w) (b := b) (N := N) hf hx z] at hv'
  rw [hrun, hv_inj hv', (hf x hx).1]
theorem MapF.len {w : World} {b N : Nat} {φ : κ → Option Value} (h : MapF k kl ok w b φ N) {t e : TypeId} (ht : Try.prog.underlying t = some (.map k e)) (ty : TypeId) : (Builtin.len_ #[t] ty #[.map (some b)]).run Try.prog w = .ok (.int .i64 N) w := by
  obtain ⟨D, ho, hs, hf⟩ := h
  rw [← hs]
  exact ho.len ht ty

noncomputable def updF (φ : κ → Option Value) (x : κ) (v : Value) : κ → Option Value := open Classical in fun y => if y = x then some v else φ y
noncomputable def delF (φ : κ → Option Value) (x : κ) : κ → Option Value := open Classical in fun y => if y = x then none else φ y
theorem updF_self (φ : κ → Option Value) (x : κ) (v : Value) : updF φ x v x = some v := by unfold updF; rw [if_pos rfl]
theorem updF_other (φ : κ → Option Value) {x y : κ} (v : Value) (h : y ≠ x) : updF φ x v y = φ y := by unfold updF; rw [if_neg h]
theorem delF_self (φ : κ → Option Value) (x : κ) : delF φ x x = none := by unfold delF; rw [if_pos rfl]
theorem delF_other (φ : κ → Option Value) {x y : κ} (h : y ≠ x) : delF φ x y = φ y := by unfold delF; rw [if_neg h]

theorem own_mono {w : World} {b n m : Nat} {D : DataW Value} (h : w.ownsMap Try.prog k hv b n D) (hm : Maps.size D = m) : w.ownsMap Try.prog k hv b m D := by
  obtain ⟨es, clock, h1, F, h3, rfl⟩ := h
  have : es.size = m := by simpa [Maps.size, length_sorted] using hm
  exact ⟨es, clock, h1, F, by omega, rfl⟩

theorem turned_chg {w w' : World} {b : Nat} (h : w.mapTurned w' b) : Chg [b] w w' ∧ w'.heap.size = w.heap.size := by
  refine ⟨(Chg.refl _ _).grown h.grown (by simp), ?_⟩
  obtain ⟨es, clock, es', clock', hb, rfl⟩ := h
  simp [ChangeMaps.setBlock]
theorem MapF.store (E : KE k kv kl ok) {w : World} {b N : Nat} {φ : κ → Option Value} (h : MapF k kl ok w b φ N) {t e : TypeId} (ht : Try.prog.underlying t = some (.map k e)) {x : κ} (hx : ok x) (v : Value) (hN : N < maxLen) :
    ∃ w', (Instr.mapUpdate t (.map (some b)) (kv x) v).run Try.prog w = .ok () w' ∧ MapF k kl ok w' b (updF φ x v) (if (φ x).isSome then N else N + 1) ∧ Chg [b] w w' ∧ w'.heap.size = w.heap.size := by
  obtain ⟨D, ho, hs, hf⟩ := h
  obtain ⟨w', hrun, h1, h2⟩ := ho.store E.law ht hN (E.of x hx) (d := .held v) (ps := []) rfl
  have hT := ho.tidy E.law
  have hk : WideAt.IsKeyLit (kl x) := E.law.key (E.of x hx)
  refine ⟨w', hrun, ⟨D.put (kl x) (.held v), own_mono h1 ?_, ?_, fun y hy => ?_⟩, turned_chg h2⟩
  · rw [Maps.size_put hT, (hf x hx).1, hs]
  · rw [Maps.size_put hT, (hf x hx).1, hs]
  · by_cases e : y = x
    · subst e
      rw [updF_self]
      refine ⟨Maps.has_put_same hT.isMap hk _, fun u hu z => ?_⟩
      cases hu
      exact Maps.atKey_put_same hT.isMap hk _ _
    · have hne : kl y ≠ kl x := fun h => e (E.inj y x hy hx h)
      rw [updF_other _ _ e, Maps.has_put_other hne]
      refine ⟨(hf y hy).1, fun u hu z => ?_⟩
      rw [Maps.atKey_put_other hne]
      exact (hf y hy).2 u hu z
theorem MapF.drop (E : KE k kv kl ok) {w : World} {b N : Nat} {φ : κ → Option Value} (h : MapF k kl ok w b φ N) {t e : TypeId} (ht : Try.prog.underlying t = some (.map k e)) {x : κ} (hx : ok x) (ty : TypeId) :
    ∃ w', (Builtin.delete_ #[t, k] ty #[.map (some b), kv x]).run Try.prog w = .ok (.tuple #[]) w' ∧ MapF k kl ok w' b (delF φ x) (if (φ x).isSome then N - 1 else N) ∧ Chg [b] w w' ∧ w'.heap.size = w.heap.size := by
  obtain ⟨D, ho, hs, hf⟩ := h
  obtain ⟨w', hrun, h1, h2⟩ := ho.drop E.law ht (E.of x hx) ty
  have hT := ho.tidy E.law
  have hsz := Maps.size_del (k := kl x) hT
  rw [(hf x hx).1, hs] at hsz
  have hsz' : Maps.size (D.del (kl x)) = if (φ x).isSome then N - 1 else N := by
    cases hφ : (φ x).isSome <;> simp [hφ] at hsz ⊢ <;> omega
  refine ⟨w', hrun, ⟨D.del (kl x), own_mono h1 hsz', hsz', fun y hy => ?_⟩, turned_chg h2⟩
  by_cases e : y = x
  · subst e
    rw [delF_self]
    exact ⟨Maps.has_del_same, fun u hu => by cases hu⟩
  · have hne : kl y ≠ kl x := fun h => e (E.inj y x hy hx h)
    rw [delF_other _ e, Maps.has_del_other hne]
    refine ⟨(hf y hy).1, fun u hu z => ?_⟩
    rw [Maps.atKey_del_other hne]
    exact (hf y hy).2 u hu z
theorem MapF.none_of_zero (E : KE k kv kl ok) {w : World} {b : Nat} {φ : κ → Option Value} (h : MapF k kl ok w b φ 0) {x : κ} (hx : ok x) : φ x = none := by
  obtain ⟨D, ho, hs, hf⟩ := h
  obtain ⟨es, rfl⟩ := ho.isMap
  have : es = [] := by simpa [Maps.size] using hs
  subst this
  have := (hf x hx).1
  cases hφ : φ x with
  | none => rfl
  | some u => rw [hφ] at this; cases this

theorem wpList_upd (E : KE k kv kl ok) (w : World) {ops : Array Oper} {rest : List Oper} {o : Oper} {a : Act} {Q : Exit → Act → World → Prop} (hg : o.guard = none) (m x v : Operand) (t : TypeId) (hop : o.op = Op.mapUpdate t m x v ∨ o.op = Op.insert t m x v) (e : TypeId)
    (ht : Try.prog.underlying t = some (.map k e)) (b N : Nat) (φ : κ → Option Value) (hm : a.eval m = .map (some b)) (h : MapF k kl ok w b φ N) (hN : N < maxLen) (y : κ) (hx : a.eval x = kv y) (hy : ok y) (u : Value) (hv : a.eval v = u)
    (hK : ∀ w', MapF k kl ok w' b (updF φ y u) (if (φ y).isSome then N else N + 1) → Chg [b] w w' → w'.heap.size = w.heap.size → wpList Try.prog ops Q rest (a.put o.dst undef) w') : wpList Try.prog ops Q (o :: rest) a w := by
  refine wpList_plain hg fun K' hK' => ?_
  obtain ⟨w', hrun, r1, r2, r3⟩ := h.store E ht hy u hN
  unfold Oper.wp
  rcases hop with hop | hop
  · simp [execOp, hop, hm, hx, hv, hrun, Result.andThen]
    exact hK' _ _ (hK w' r1 r2 r3)
  · simp [execOp, hop, hm, hx, hv, hrun, Result.andThen]
    exact hK' _ _ (hK w' r1 r2 r3)
theorem wpList_del (E : KE k kv kl ok) (w : World) {ops : Array Oper} {rest : List Oper} {o : Oper} {a : Act} {Q : Exit → Act → World → Prop} (hg : o.guard = none) (m x : Operand) (t : TypeId) (hop : o.op = Op.call { callee := Callee.builtin Builtin.delete, args := #[m, x], argTypes := #[t, k] }) (e : TypeId)
    (ht : Try.prog.underlying t = some (.map k e)) (b N : Nat) (φ : κ → Option Value) (hm : a.eval m = .map (some b)) (h : MapF k kl ok w b φ N) (y : κ) (hx : a.eval x = kv y) (hy : ok y)
    (hK : ∀ w', MapF k kl ok w' b (delF φ y) (if (φ y).isSome then N - 1 else N) → Chg [b] w w' → w'.heap.size = w.heap.size → wpList Try.prog ops Q rest (a.put o.dst (.tuple #[])) w') : wpList Try.prog ops Q (o :: rest) a w := by
  refine wpList_plain hg fun K' hK' => ?_
  obtain ⟨w', hrun, r1, r2, r3⟩ := h.drop E ht hy o.type
  unfold Oper.wp execOp
  simp only [hop, resolve, invoke, builtin, Sem.run_bind, Sem.run_pure, Result.andThen_ok, List.map_toArray, List.map_cons, List.map_nil, hm, hx, hrun]
  exact hK' _ _ (hK w' r1 r2 r3)

/-- 'range m' under way: what is left to come. -/
def Rng (k : TypeId) (kl : κ → Lit) (ok : κ → Prop) (w : World) (b r : Nat) (φ : κ → Option Value) (N : Nat) (left : κ → Bool) (cnt : Nat) : Prop :=
  ∃ (D : DataW Value) (lf : Lit → Bool), w.ranges Try.prog k hv b r N D lf cnt ∧ Maps.size D = N ∧ (∀ x, ok x → lf (kl x) = left x) ∧ ∀ x, ok x → Maps.has D (kl x) = (φ x).isSome ∧ ∀ v, φ x = some v → ∀ z, D.atKey (kl x) z = .held v
theorem Rng.map {w : World} {b r N cnt : Nat} {φ : κ → Option Value} {left : κ → Bool} (h : Rng k kl ok w b r φ N left cnt) : MapF k kl ok w b φ N := by
  obtain ⟨D, lf, h1, h2, h3, h4⟩ := h
  exact ⟨D, h1.owns, h2, h4⟩
theorem Rng.kept {S : List Nat} {w w' : World} {b r N cnt : Nat} {φ : κ → Option Value} {left : κ → Bool} (h : Rng k kl ok w b r φ N left cnt) (hc : Chg S w w') (hb : b ∉ S) (hr : r ∉ S) : Rng k kl ok w' b r φ N left cnt := by
  obtain ⟨D, lf, h1, h2, h3, h4⟩ := h
  refine ⟨D, lf, ?_, h2, h3, h4⟩
  have hbl := h1.owns.lt
  have hrl := h1.lt
  obtain ⟨es, clock, since, seen, c0, e1, F, e2, e3, e4, rest⟩ := h1
  exact ⟨es, clock, since, seen, c0, (hc.block b hbl hb).trans e1, F, e2, e3, (hc.block r hrl hr).trans e4, rest⟩
theorem Rng.lt {w : World} {b r N cnt : Nat} {φ : κ → Option Value} {left : κ → Bool} (h : Rng k kl ok w b r φ N left cnt) : r < w.heap.size := by obtain ⟨D, lf, h1, _⟩ := h; exact h1.lt
theorem Rng.ne {w : World} {b r N cnt : Nat} {φ : κ → Option Value} {left : κ → Bool} (h : Rng k kl ok w b r φ N left cnt) : r ≠ b := by obtain ⟨D, lf, h1, _⟩ := h; exact h1.ne
theorem wpList_rng (E : KE k kv kl ok) (w : World) {ops : Array Oper} {rest : List Oper} {o : Oper} {a : Act} {Q : Exit → Act → World → Prop} (hg : o.guard = none) (m : Operand) (t : TypeId) (hop : o.op = Op.range t m) (e : TypeId)
    (ht : Try.prog.underlying t = some (.map k e)) (b N : Nat) (φ : κ → Option Value) (hm : a.eval m = .map (some b)) (h : MapF k kl ok w b φ N)
    (hK : ∀ w', Rng k kl ok w' b w.heap.size φ N (fun x => (φ x).isSome) N → Chg [] w w' → w'.heap.size = w.heap.size + 1 → wpList Try.prog ops Q rest (a.put o.dst (.pointer (some ⟨w.heap.size, 0, none⟩))) w') :
    wpList Try.prog ops Q (o :: rest) a w := by
  obtain ⟨D, ho, hs, hf⟩ := h
  refine wpList_range_own w hg m t hop k e E.law ht hv b N D hm ho fun w' h1 h2 h3 => hK w' ⟨D, _, by rw [← hs] at h1 ⊢; exact h1, hs, fun x hx => (hf x hx).1, hf⟩ ?_ h3
  exact (Chg.refl _ _).grown h2 (by simp)
theorem wpList_nxt (E : KE k kv kl ok) (w : World) {ops : Array Oper} {rest : List Oper} {o : Oper} {a : Act} {Q : Exit → Act → World → Prop} (hg : o.guard = none) (it : Operand) (hop : o.op = Op.next it false) (b r N : Nat) (φ : κ → Option Value) (left : κ → Bool) (cnt : Nat)
    (hit : a.eval it = .pointer (some ⟨r, 0, none⟩)) (h : Rng k kl ok w b r φ N left cnt)
    (hDone : cnt = 0 → (∀ x, ok x → left x = false) → wpList Try.prog ops Q rest (a.put o.dst (.tuple #[.bool false])) w)
    (hMore : ∀ (x : κ) (v : Value) (w' : World) (cnt' : Nat), ok x → left x = true → φ x = some v → (∀ left', (∀ y, ok y → (y = x → left' y = false) ∧ (y ≠ x → left' y = left y)) → Rng k kl ok w' b r φ N left' cnt') → cnt' < cnt → Chg [r] w w' → w'.heap.size = w.heap.size →
      (Instr.entry (.pointer (some ⟨r, 0, none⟩))).run Try.prog w' = .ok (.tuple #[kv x, v]) w' → wpList Try.prog ops Q rest (a.put o.dst (.tuple #[.bool true, kv x, v])) w') :
    wpList Try.prog ops Q (o :: rest) a w := by
  obtain ⟨D, lf, h1, hs, hl, hf⟩ := h
  refine wpList_next_ranges (α := κ) (β := Value) w hg it hop k E.law hv kv id (fun key l hk => by obtain ⟨x, _, hx, _⟩ := E.inv key l hk; exact ⟨x, hx⟩) (fun v y _ => ⟨v, rfl⟩) b r N D lf cnt hit h1 (fun h0 hno => hDone h0 fun x hx => by rw [← hl x hx]; exact hno _) ?_
  intro x c l y w' cnt' hkey hlk hvy hat hrg hlt hg2 hsz hen
  obtain ⟨x', hx', e1, rfl⟩ := E.inv _ _ hkey
  have hkx : kv x = kv x' := e1
  have hphi : φ x' = some c := by
    have hx1 := hf x' hx'
    have hy : y.1 = .held c := by
      simp only [hv, id, Option.some.injEq] at hvy
      rw [← hvy]
    cases hφ : φ x' with
    | none =>
      rw [hφ] at hx1
      have h2 := Maps.atKey_of_not_has hx1.1 (.nil)
      rw [hat .nil, hy] at h2
      cases h2
    | some u =>
      have h2 := hx1.2 u hφ .nil
      rw [hat .nil, hy] at h2
      rw [← (DataW.held.injEq c u ▸ h2 : c = u)]
  have hen' := hen
  rw [hkx] at hen' ⊢
  refine hMore x' c w' cnt' hx' (by rw [← hl x' hx']; exact hlk) hphi (fun left' hleft => ⟨D, _, hrg, hs, fun y hy => ?_, hf⟩) hlt ((Chg.refl _ _).grown hg2 (by simp)) hsz hen'
  by_cases e : y = x'
  · subst e
    rw [(hleft y hy).1 rfl, WideAt.sameKey_self (E.law.key (E.of y hx'))]; simp
  · rw [(hleft y hy).2 e, hl y hy, Maps.sameKey_ne (fun h => e (E.inj y x' hy hx' h))]; simp
theorem wpList_nxtI (w : World) {ops : Array Oper} {rest : List Oper} {o : Oper} {a : Act} {Q : Exit → Act → World → Prop} (hg : o.guard = none) (it : Operand) (hop : o.op = Op.next it false) (b r N : Nat) (φ : Int → Option Value) (left : Int → Bool) (cnt : Nat)
    (hit : a.eval it = .pointer (some ⟨r, 0, none⟩)) (h : Rng 3 klI okI w b r φ N left cnt)
    (hDone : cnt = 0 → (∀ x, okI x → left x = false) → wpList Try.prog ops Q rest (a.put o.dst (.tuple #[.bool false])) w)
    (hMore : ∀ (x : Int) (v : Value) (w' : World) (cnt' : Nat), okI x → left x = true → φ x = some v → Rng 3 klI okI w' b r φ N (fun y => !decide (y = x) && left y) cnt' → cnt' < cnt → Chg [r] w w' → w'.heap.size = w.heap.size →
      (Instr.entry (.pointer (some ⟨r, 0, none⟩))).run Try.prog w' = .ok (.tuple #[.int .i64 x, v]) w' → wpList Try.prog ops Q rest (a.put o.dst (.tuple #[.bool true, .int .i64 x, v])) w') :
    wpList Try.prog ops Q (o :: rest) a w :=
  wpList_nxt keInt w hg it hop b r N φ left cnt hit h hDone fun x v w' cnt' h1 h2 h3 h4 => hMore x v w' cnt' h1 h2 h3 (h4 _ fun y _ => ⟨fun e => by simp [e], fun e => by simp [e]⟩)
theorem wpList_nxtS (w : World) {ops : Array Oper} {rest : List Oper} {o : Oper} {a : Act} {Q : Exit → Act → World → Prop} (hg : o.guard = none) (it : Operand) (hop : o.op = Op.next it false) (b r N : Nat) (φ : List UInt8 → Option Value) (left : List UInt8 → Bool) (cnt : Nat)
    (hit : a.eval it = .pointer (some ⟨r, 0, none⟩)) (h : Rng 9 klS okS w b r φ N left cnt)
    (hDone : cnt = 0 → (∀ x, okS x → left x = false) → wpList Try.prog ops Q rest (a.put o.dst (.tuple #[.bool false])) w)
    (hMore : ∀ (x : List UInt8) (v : Value) (w' : World) (cnt' : Nat), okS x → left x = true → φ x = some v → Rng 9 klS okS w' b r φ N (fun y => !decide (y = x) && left y) cnt' → cnt' < cnt → Chg [r] w w' → w'.heap.size = w.heap.size →
      (Instr.entry (.pointer (some ⟨r, 0, none⟩))).run Try.prog w' = .ok (.tuple #[.string ⟨x.toArray⟩, v]) w' → wpList Try.prog ops Q rest (a.put o.dst (.tuple #[.bool true, .string ⟨x.toArray⟩, v])) w') :
    wpList Try.prog ops Q (o :: rest) a w :=
  wpList_nxt keStr w hg it hop b r N φ left cnt hit h hDone fun x v w' cnt' h1 h2 h3 h4 => hMore x v w' cnt' h1 h2 h3 (h4 _ fun y _ => ⟨fun e => by simp [e], fun e => by simp [e]⟩)
end Go.Proofs.Ytaophafailmhjaa.W

/- Maps whose keys are pairs of numbers; a map's size; 'delete' in a range. -/
namespace Go.Proofs.Ytaophafailmhjaa.W
open Go.RowKit
open Go.Maps (Keyed)
set_option linter.unusedVariables false
set_option linter.unusedSimpArgs false

def okP (x : Int × Int) : Prop := (Lit.int .i64 x.1).wf = true ∧ (Lit.int .i64 x.2).wf = true
def kvP (x : Int × Int) : Value := .agg #[.int .i64 x.1, .int .i64 x.2]
def klP (x : Int × Int) : Lit := .string (keyBytes [.int .i64 x.1, .int .i64 x.2])
theorem laidP : laidOutB Try.prog = true := by kernel_rfl
theorem kePair_law : Keyed Try.prog 66 := Keyed.of_law (deep_law_laid laidP (m := 3) (by decide) (of_decide_eq_true (by kernel_rfl)) (by kernel_rfl) (by rw [Try.underlying66]))
theorem keyType_place : Try.prog.keyType 66 = true := by kernel_rfl
theorem cells_place : Try.prog.cellsOf 66 = 2 := by kernel_rfl
theorem lits_place (c : List Value) : Try.prog.keyLits (Try.prog.types.size + 1) 66 c = (match c with
    | [.int .i64 a, .int .i64 b] => if (Lit.int .i64 a).wf = true ∧ (Lit.int .i64 b).wf = true then some [.int .i64 a, .int .i64 b] else none
    | _ => none) := by
  obtain ⟨m, hm⟩ : ∃ m, Try.prog.types.size = m + 1 := Nat.exists_eq_add_one_of_ne_zero (of_decide_eq_true (by kernel_rfl))
  rw [hm]
  unfold Program.keyLits
  simp only [Try.underlying66, cells_place]
  match c with
  | [] => simp
  | [x] => simp
  | x :: y :: z :: r => simp
  | [x, y] =>
    rw [if_pos ⟨rfl, by kernel_rfl⟩]
    simp only [List.mapM_cons, List.mapM_nil]
    unfold Program.keyLits
    have hi : Try.prog.underlying 3 = some (.int .i64) := Try.underlying3
    have hc : Try.prog.cellsOf 3 = 1 := by kernel_rfl
    simp only [hi, hc, List.drop_zero, List.drop_succ_cons, List.take_succ_cons, List.take_zero]
    cases x <;> cases y <;> simp
    rename_i k1 a k2 b
    by_cases e1 : k1 = .i64
    · subst e1
      by_cases e2 : k2 = .i64
      · subst e2
        by_cases w1 : (Lit.int .i64 a).wf = true
        · by_cases w2 : (Lit.int .i64 b).wf = true
          · simp [w1, w2]
          · simp [w1, w2]
        · simp [w1]
      · simp [e2]
    · simp [e1]
theorem of_pair (x : Int × Int) (h : okP x) : keyOf Try.prog 66 (kvP x) = some (klP x) := by
  unfold keyOf
  rw [Try.underlying66]
  simp only [keyType_place, kvP, Value.formed, Try.underlying66, cells_place, Value.cells, lits_place]
  simp [h.1, h.2, klP]
theorem kePair : KE 66 kvP klP okP where
  law := kePair_law
  of := of_pair
  inj x y hx hy h := by
    have e1 := of_pair x hx
    have e2 := of_pair y hy
    rw [h] at e1
    have := kePair_law.inj e1 e2
    unfold kvP at this
    simp at this
    exact Prod.ext this.1 this.2
  inv v l h := by
    have hk : keyOf Try.prog 66 v = if v.formed Try.prog 66 = true then (Try.prog.keyLits (Try.prog.types.size + 1) 66 v.cells.toList).map fun ls => .string (keyBytes ls) else none := by
      unfold keyOf
      rw [Try.underlying66]
      simp only [keyType_place, Bool.true_and]
    rw [hk] at h
    clear hk
    by_cases hf : v.formed Try.prog 66 = true
    · rw [if_pos hf] at h
      cases v with
      | agg cs =>
        obtain ⟨ls, h2, h3⟩ := Option.map_eq_some_iff.1 h
        rw [lits_place] at h2
        simp only [Value.cells] at h2
        generalize hcs : cs.toList = cl at h2
        match cl, hcs, h2 with
        | [.int .i64 a, .int .i64 b], hcs, h2 =>
          simp only at h2
          by_cases hw : (Lit.int .i64 a).wf = true ∧ (Lit.int .i64 b).wf = true
          · rw [if_pos hw] at h2
            obtain rfl := Option.some.inj h2
            refine ⟨(a, b), hw, ?_, h3.symm⟩
            have : cs = #[.int .i64 a, .int .i64 b] := Array.ext' (by simpa using hcs)
            rw [this]; rfl
          · rw [if_neg hw] at h2; cases h2
      | _ => simp [Value.formed, Try.underlying66] at hf
    · rw [if_neg hf] at h; cases h

variable {κ : Type} {k : TypeId} {kv : κ → Value} {kl : κ → Lit} {ok : κ → Prop}
open Classical in
theorem nodup_len {α : Type} : ∀ {l L : List α}, l.Nodup → (∀ x ∈ l, x ∈ L) → l.length ≤ L.length
  | [], L, _, _ => Nat.zero_le _
  | a :: l, L, h, hs => by
    have h' := List.nodup_cons.1 h
    have ha := hs a (List.mem_cons_self ..)
    have := nodup_len (l := l) (L := L.erase a) h'.2 (fun x hx => (List.mem_erase_of_ne (fun e => h'.1 (by rw [← e]; exact hx))).2 (hs x (List.mem_cons_of_mem _ hx)))
    rw [List.length_erase_of_mem ha] at this
    have := List.length_pos_of_mem ha
    simp only [List.length_cons]
    omega
/-- How many entries a map may have. -/
theorem MapF.card (E : KE k kv kl ok) {w : World} {b N : Nat} {φ : κ → Option Value} (h : MapF k kl ok w b φ N) (L : List κ) (hL : ∀ x, ok x → (φ x).isSome = true → x ∈ L) : N ≤ L.length := by
  obtain ⟨D, ho, hs, hf⟩ := h
  have hkeys : ∃ es, D = .map es ∧ Go.Maps.Keys (Go.Maps.KeysOf Try.prog k) es := by
    obtain ⟨es, clock, hb, F, hn, rfl⟩ := ho
    refine ⟨_, rfl, ?_⟩
    exact fun p hp => Go.Maps.fit_keys F p ((Go.WideShapes.sorted_perm _).mem_iff.1 hp)
  obtain ⟨es, rfl, hk⟩ := hkeys
  obtain ⟨es', he, hp⟩ := ho.tidy E.law
  obtain rfl : es = es' := by simpa using he
  rw [← hs]
  show es.length ≤ L.length
  have hn : (es.map (·.1)).Nodup := by
    rw [List.Nodup, List.pairwise_map]
    exact hp
  have hm : ∀ l ∈ es.map (·.1), l ∈ L.map kl := by
    intro l hl
    obtain ⟨p, hp, rfl⟩ := List.mem_map.1 hl
    obtain ⟨v, hv⟩ := hk p hp
    obtain ⟨x, hx, _, e⟩ := E.inv v _ hv
    rw [e]
    refine List.mem_map_of_mem (hL x hx ?_)
    rw [← (hf x hx).1, Maps.has_eq, List.any_eq_true]
    exact ⟨p, hp, by rw [e]; exact WideAt.sameKey_self (E.law.key (E.of x hx))⟩
  have := nodup_len hn hm
  simpa using this

/-- 'delete(m, k)' in a range over m. -/
theorem Rng.drop (E : KE k kv kl ok) {w : World} {b r N cnt : Nat} {φ : κ → Option Value} {left : κ → Bool} (h : Rng k kl ok w b r φ N left cnt) {t e : TypeId} (ht : Try.prog.underlying t = some (.map k e)) {x : κ} (hx : ok x) (ty : TypeId) :
    ∃ w' cnt', (Builtin.delete_ #[t, k] ty #[.map (some b), kv x]).run Try.prog w = .ok (.tuple #[]) w' ∧ (∀ left', (∀ y, ok y → (y = x → left' y = false) ∧ (y ≠ x → left' y = left y)) → Rng k kl ok w' b r (delF φ x) (if (φ x).isSome then N - 1 else N) left' cnt') ∧ cnt' ≤ cnt ∧ Chg [b] w w' ∧ w'.heap.size = w.heap.size := by
  obtain ⟨D, lf, h1, hs, hl, hf⟩ := h
  obtain ⟨w', cnt', hrun, h2, h3, h4⟩ := h1.drop E.law ht (E.of x hx) ty
  have ho := h1.owns
  have hT := ho.tidy E.law
  have hsz := Maps.size_del (k := kl x) hT
  rw [(hf x hx).1, hs] at hsz
  have hsz' : Maps.size (D.del (kl x)) = if (φ x).isSome then N - 1 else N := by
    cases hφ : (φ x).isSome <;> simp [hφ] at hsz ⊢ <;> omega
  refine ⟨w', cnt', hrun, fun left' hleft => ⟨D.del (kl x), fun y => lf y && !y.sameKey (kl x), ?_, hsz', fun y hy => ?_, fun y hy => ?_⟩, h3, turned_chg h4⟩
  · obtain ⟨es, clock, since, seen, c0, e1, F, e2, e3, rest⟩ := h2
    refine ⟨es, clock, since, seen, c0, e1, F, ?_, e3, rest⟩
    have : es.size = Maps.size (D.del (kl x)) := by rw [e3]; simp [Maps.size, length_sorted]
    omega
  · show (lf (kl y) && !(kl y).sameKey (kl x)) = left' y
    by_cases e : y = x
    · subst e
      rw [(hleft y hy).1 rfl, WideAt.sameKey_self (E.law.key (E.of y hx))]; simp
    · rw [(hleft y hy).2 e, hl y hy, Maps.sameKey_ne (fun h => e (E.inj y x hy hx h))]; simp
  · by_cases e : y = x
    · subst e
      rw [delF_self]
      exact ⟨Maps.has_del_same, fun u hu => by cases hu⟩
    · have hne : kl y ≠ kl x := fun h => e (E.inj y x hy hx h)
      rw [delF_other _ e, Maps.has_del_other hne]
      refine ⟨(hf y hy).1, fun u hu z => ?_⟩
      rw [Maps.atKey_del_other hne]
      exact (hf y hy).2 u hu z
theorem wpList_delR (E : KE k kv kl ok) (w : World) {ops : Array Oper} {rest : List Oper} {o : Oper} {a : Act} {Q : Exit → Act → World → Prop} (hg : o.guard = none) (m x : Operand) (t : TypeId) (hop : o.op = Op.call { callee := Callee.builtin Builtin.delete, args := #[m, x], argTypes := #[t, k] }) (e : TypeId)
    (ht : Try.prog.underlying t = some (.map k e)) (b r N cnt : Nat) (φ : κ → Option Value) (left : κ → Bool) (hm : a.eval m = .map (some b)) (h : Rng k kl ok w b r φ N left cnt) (y : κ) (hx : a.eval x = kv y) (hy : ok y)
    (hK : ∀ w' cnt', (∀ left', (∀ z, ok z → (z = y → left' z = false) ∧ (z ≠ y → left' z = left z)) → Rng k kl ok w' b r (delF φ y) (if (φ y).isSome then N - 1 else N) left' cnt') → cnt' ≤ cnt → Chg [b] w w' → w'.heap.size = w.heap.size → wpList Try.prog ops Q rest (a.put o.dst (.tuple #[])) w') : wpList Try.prog ops Q (o :: rest) a w := by
  refine wpList_plain hg fun K' hK' => ?_
  obtain ⟨w', cnt', hrun, r1, r2, r3⟩ := h.drop E ht hy o.type
  unfold Oper.wp execOp
  simp only [hop, resolve, invoke, builtin, Sem.run_bind, Sem.run_pure, Result.andThen_ok, List.map_toArray, List.map_cons, List.map_nil, hm, hx, hrun]
  exact hK' _ _ (hK w' cnt' r1 r2 r3.1 r3.2)
end Go.Proofs.Ytaophafailmhjaa.W

/- Names and paths as lists of bytes: the plain law of chapter 9. No program in sight. -/
namespace Go.Proofs.Ytaophafailmhjaa.NM

abbrev Bs := List UInt8
/-- No byte 0, no stroke. -/
def okB (l : Bs) : Bool := l.all (fun c => c != 0 && c != 47)
/-- Whether a text may be a name. -/
def mayB (l : Bs) : Bool := decide (1 ≤ l.length) && decide (l.length ≤ 12) && (l != [46]) && (l != [46, 46]) && okB l
theorem okB_iff (l : Bs) : okB l = true ↔ ∀ c ∈ l, c ≠ 0 ∧ c ≠ 47 := by
  unfold okB
  simp only [List.all_eq_true, Bool.and_eq_true, bne_iff_ne, ne_eq]
/-- A text, cut at each stroke. -/
def cuts : Bs → List Bs
  | [] => [[]]
  | c :: r => if c = 47 then [] :: cuts r else match cuts r with | p :: ps => (c :: p) :: ps | [] => [[c]]
/-- A path's names; 'none': it is no path. -/
def splitB (l : Bs) : Option (List Bs) :=
  if l = [47] then some [] else match l with
  | [] => none
  | c :: r => if c = 47 && (cuts r).all mayB && decide ((cuts r).length ≤ 8) then some (cuts r) else none
/-- Names as a path. -/
def tailB : List Bs → Bs
  | [] => []
  | p :: ps => 47 :: (p ++ tailB ps)
def joinB (l : List Bs) : Bs := if l = [] then [47] else tailB l
def withinB (a b : Bs) : Bool := match splitB a, splitB b with
  | some l, some k => k.isPrefixOf l
  | _, _ => false
def parentB (l : Bs) : Option (Option (Bs × Bs)) := match splitB l with
  | none => none
  | some ls => if ls = [] then some none else some (some (joinB ls.dropLast, ls.getLastD []))

theorem cuts_ne (l : Bs) : cuts l ≠ [] := by
  induction l with
  | nil => simp [cuts]
  | cons c r ih =>
    unfold cuts
    split
    · simp
    · split <;> simp
theorem cuts_stroke (r : Bs) : cuts (47 :: r) = [] :: cuts r := by simp [cuts]
theorem cuts_other {c : UInt8} (h : c ≠ 47) (r : Bs) : ∃ p ps, cuts r = p :: ps ∧ cuts (c :: r) = (c :: p) :: ps := by
  obtain ⟨p, ps, e⟩ := List.exists_cons_of_ne_nil (cuts_ne r)
  refine ⟨p, ps, e, ?_⟩
  simp [cuts, h, e]
/-- A piece without a stroke, ahead of the end or of a stroke. -/
theorem cuts_end (p : Bs) (h : (47 : UInt8) ∉ p) : cuts p = [p] := by
  induction p with
  | nil => rfl
  | cons c r ih =>
    simp only [List.mem_cons, not_or] at h
    obtain ⟨q, qs, e1, e2⟩ := cuts_other (fun x => h.1 x.symm) r
    rw [ih h.2] at e1
    injection e1 with e1 e3
    subst e1; subst e3
    exact e2
theorem cuts_app (p : Bs) (h : (47 : UInt8) ∉ p) (r : Bs) : cuts (p ++ 47 :: r) = p :: cuts r := by
  induction p with
  | nil => exact cuts_stroke r
  | cons c q ih =>
    simp only [List.mem_cons, not_or] at h
    obtain ⟨p', ps', e1, e2⟩ := cuts_other (fun x => h.1 x.symm) (q ++ 47 :: r)
    rw [ih h.2] at e1
    injection e1 with e1 e3
    subst e1; subst e3
    exact e2
theorem tail_cuts (r : Bs) : tailB (cuts r) = 47 :: r := by
  induction r with
  | nil => rfl
  | cons c r ih =>
    by_cases h : c = 47
    · subst h; rw [cuts_stroke]; simp [tailB, ih]
    · obtain ⟨p, ps, e1, e2⟩ := cuts_other h r
      rw [e1] at ih
      rw [e2]
      simp only [tailB] at ih ⊢
      injection ih with _ ih
      rw [List.cons_append, ih]
theorem cuts_tail (l : List Bs) (hl : l ≠ []) (h : ∀ p ∈ l, (47 : UInt8) ∉ p) : ∃ r, tailB l = 47 :: r ∧ cuts r = l := by
  induction l with
  | nil => exact absurd rfl hl
  | cons p ps ih =>
    refine ⟨p ++ tailB ps, rfl, ?_⟩
    by_cases hp : ps = []
    · subst hp
      rw [tailB, List.append_nil]
      exact cuts_end p (h p (by simp))
    · obtain ⟨r, e1, e2⟩ := ih hp (fun q hq => h q (List.mem_cons_of_mem _ hq))
      rw [e1, cuts_app p (h p (by simp)), e2]

theorem may_stroke {p : Bs} (h : mayB p = true) : (47 : UInt8) ∉ p := by
  simp only [mayB, Bool.and_eq_true, okB_iff] at h
  intro hm
  exact (h.2 47 hm).2 rfl
theorem may_len {p : Bs} (h : mayB p = true) : 1 ≤ p.length ∧ p.length ≤ 12 := by
  simp only [mayB, Bool.and_eq_true, decide_eq_true_eq] at h
  exact ⟨h.1.1.1.1, h.1.1.1.2⟩

theorem split_join (l : List Bs) (h : ∀ p ∈ l, mayB p = true) (h8 : l.length ≤ 8) : splitB (joinB l) = some l := by
  unfold joinB
  by_cases hl : l = []
  · subst hl; rfl
  · rw [if_neg hl]
    obtain ⟨r, e1, e2⟩ := cuts_tail l hl (fun p hp => may_stroke (h p hp))
    rw [e1]
    have hr : r ≠ [] := by
      rintro rfl
      simp [cuts] at e2
      subst e2
      have := may_len (h [] (by simp))
      simp at this
    unfold splitB
    rw [if_neg (by simp [hr])]
    have : l.all mayB = true := List.all_eq_true.2 h
    simp [e2, this, h8]

theorem split_some {s : Bs} {l : List Bs} (h : splitB s = some l) : (∀ p ∈ l, mayB p = true) ∧ l.length ≤ 8 ∧ joinB l = s := by
  unfold splitB at h
  split at h
  · injection h with h; subst h
    rename_i e; subst e
    exact ⟨by simp, by simp, rfl⟩
  · split at h
    · cases h
    · rename_i c r
      split at h
      · rename_i hc
        injection h with h; subst h
        simp only [Bool.and_eq_true, decide_eq_true_eq, List.all_eq_true] at hc
        obtain ⟨⟨rfl, h2⟩, h3⟩ := hc
        refine ⟨h2, h3, ?_⟩
        unfold joinB
        rw [if_neg (cuts_ne _), tail_cuts]
      · cases h

theorem split_inj {a b : Bs} {l : List Bs} (h1 : splitB a = some l) (h2 : splitB b = some l) : a = b :=
  (split_some h1).2.2.symm.trans (split_some h2).2.2

theorem within_trans {a b c : Bs} (h1 : withinB a b = true) (h2 : withinB b c = true) : withinB a c = true := by
  unfold withinB at *
  cases ha : splitB a <;> cases hb : splitB b <;> cases hc : splitB c <;> simp_all
  exact List.IsPrefix.trans h2 h1
theorem within_both {a b : Bs} (h1 : withinB a b = true) (h2 : withinB b a = true) : a = b := by
  unfold withinB at *
  cases ha : splitB a <;> cases hb : splitB b <;> simp_all
  have : _ = _ := List.IsPrefix.eq_of_length_le h1 h2.length_le
  subst this
  exact split_inj ha hb
theorem within_self (a : Bs) : withinB a a = (splitB a).isSome := by
  unfold withinB
  cases splitB a <;> simp

theorem indexByte_neg (l : Bs) (c : UInt8) : Lib.indexByte l c < 0 ↔ c ∉ l := by
  induction l with
  | nil => simp [Lib.indexByte]
  | cons b l ih =>
    have hge := Lib.indexByte_ge l c
    unfold Lib.indexByte
    by_cases h : b = c
    · subst h; simp
    · have h' : ¬ c = b := fun x => h x.symm
      simp only [beq_iff_eq, h, if_false, List.mem_cons, h', false_or, ← ih]
      split <;> omega
end Go.Proofs.Ytaophafailmhjaa.NM

/- A tree, plainly. -/
namespace Go.Proofs.Ytaophafailmhjaa.W
open Go.Proofs.Ytaophafailmhjaa.NM
set_option linter.unusedVariables false
set_option linter.unusedSimpArgs false

/-- A thing. -/
structure Th where
  ino : Nat
  dir : Nat
  name : List UInt8
  isDir : Bool
  deriving DecidableEq
abbrev PT := List Th
def rootTh : Th := ⟨1, 0, [], true⟩
def tGet (T : PT) (a : Nat) : Option Th := T.find? (fun x => x.ino == a)
def tHas (T : PT) (a : Nat) : Bool := a == 1 || (tGet T a).isSome
def tIsDir (T : PT) (a : Nat) : Bool := a == 1 || (match tGet T a with | some x => x.isDir | none => false)
def tKidOf (T : PT) (d : Nat) (s : List UInt8) : Option Th := T.find? (fun x => x.dir == d && x.name == s)
def tKid (T : PT) (d : Nat) (s : List UInt8) : Nat := match tKidOf T d s with | some x => x.ino | none => 0
def tWalk (T : PT) : List (List UInt8) → Nat → Nat × Int
  | [], a => (a, 0)
  | s :: l, a => if tIsDir T a = false then (0, 10) else if tKid T a s = 0 then (0, 6) else tWalk T l (tKid T a s)
def tLook (T : PT) (p : List UInt8) : Nat × Bool × Int :=
  match splitB p with
  | none => (0, false, 12)
  | some l => if (tWalk T l 1).2 ≠ 0 then (0, false, (tWalk T l 1).2) else ((tWalk T l 1).1, tIsDir T (tWalk T l 1).1, 0)
def tPlace (T : PT) (p : List UInt8) : Nat × List UInt8 × Int :=
  match splitB p with
  | none => (0, [], 12)
  | some l => if l = [] then (0, [], 1) else if (tWalk T l.dropLast 1).2 ≠ 0 then (0, [], (tWalk T l.dropLast 1).2) else if tIsDir T (tWalk T l.dropLast 1).1 = false then (0, [], 10) else ((tWalk T l.dropLast 1).1, l.getLastD [], 0)
/-- The least number, from n on, that none of the rising ones has. -/
def tLeast : Nat → PT → Nat
  | n, [] => n
  | n, x :: r => if x.ino = n then tLeast (n + 1) r else n
def tIns (y : Th) : PT → PT
  | [] => [y]
  | x :: r => if y.ino < x.ino then y :: x :: r else x :: tIns y r
def tMake (T : PT) (p : List UInt8) (d : Bool) : (Nat × Int) × PT :=
  if p = [47] then ((0, 7), T) else if (tPlace T p).2.2 ≠ 0 then ((0, (tPlace T p).2.2), T) else
  if tKid T (tPlace T p).1 (tPlace T p).2.1 ≠ 0 then ((0, 7), T) else if 128 ≤ T.length + 1 then ((0, 5), T) else
  ((tLeast 2 T, 0), tIns ⟨tLeast 2 T, (tPlace T p).1, (tPlace T p).2.1, d⟩ T)
def tRemove (T : PT) (p : List UInt8) (d : Bool) : (Nat × Int) × PT :=
  if (tLook T p).2.2 ≠ 0 then ((0, (tLook T p).2.2), T) else if (tLook T p).1 = 1 then ((0, 8), T) else
  if (d && !(tLook T p).2.1) = true then ((0, 10), T) else if (!d && (tLook T p).2.1) = true then ((0, 9), T) else
  if T.any (fun x => x.dir == (tLook T p).1) = true then ((0, 11), T) else
  (((tLook T p).1, 0), T.filter (fun x => x.ino != (tLook T p).1))
def tRename (T : PT) (n d : Nat) (s : List UInt8) : PT := T.map (fun x => if x.ino = n then { x with dir := d, name := s } else x)
def tMove (T : PT) (p q : List UInt8) : Int × PT :=
  if (tLook T p).2.2 ≠ 0 then ((tLook T p).2.2, T) else if (tLook T p).1 = 1 then (8, T) else
  if splitB q = none then (12, T) else if (withinB q p || withinB p q) = true then (1, T) else
  if (tPlace T q).2.2 ≠ 0 then ((tPlace T q).2.2, T) else
  if tKid T (tPlace T q).1 (tPlace T q).2.1 ≠ 0 then (7, T) else
  (0, tRename T (tLook T p).1 (tPlace T q).1 (tPlace T q).2.1)

/-- A tree that may be. -/
structure TOk (T : PT) : Prop where
  rise : T.Pairwise (fun x y => x.ino < y.ino)
  nums : ∀ x ∈ T, 2 ≤ x.ino ∧ x.ino ≤ 128
  dirs : ∀ x ∈ T, tIsDir T x.dir = true
  apart : T.Pairwise (fun x y => ¬ (x.dir = y.dir ∧ x.name = y.name))
  may : ∀ x ∈ T, mayB x.name = true
theorem TOk.nil : TOk [] := ⟨.nil, by simp, by simp, .nil, by simp⟩

theorem get_mem {T : PT} (h : TOk T) {x : Th} (hx : x ∈ T) : tGet T x.ino = some x := by
  have h1 := h.rise
  clear h
  unfold tGet
  induction T with
  | nil => cases hx
  | cons y r ih =>
    rw [List.pairwise_cons] at h1
    rcases List.mem_cons.1 hx with rfl | hx'
    · simp
    · have := h1.1 x hx'
      rw [List.find?_cons_of_neg (by simp; omega)]
      exact ih hx' h1.2
theorem get_some {T : PT} {a : Nat} {x : Th} (h : tGet T a = some x) : x ∈ T ∧ x.ino = a := by
  unfold tGet at h
  exact ⟨List.mem_of_find?_eq_some h, by simpa using List.find?_some h⟩
theorem get_none {T : PT} {a : Nat} (h : tGet T a = none) : ∀ x ∈ T, x.ino ≠ a := by
  unfold tGet at h
  intro x hx
  simpa using List.find?_eq_none.1 h x hx
theorem kidOf_some {T : PT} {d : Nat} {s : List UInt8} {x : Th} (h : tKidOf T d s = some x) : x ∈ T ∧ x.dir = d ∧ x.name = s := by
  unfold tKidOf at h
  exact ⟨List.mem_of_find?_eq_some h, by simpa using List.find?_some h⟩
theorem kidOf_none {T : PT} {d : Nat} {s : List UInt8} (h : tKidOf T d s = none) : ∀ x ∈ T, ¬ (x.dir = d ∧ x.name = s) := by
  unfold tKidOf at h
  intro x hx
  simpa using List.find?_eq_none.1 h x hx
theorem kidOf_mem {T : PT} (h : TOk T) {x : Th} (hx : x ∈ T) : tKidOf T x.dir x.name = some x := by
  have h1 := h.apart
  clear h
  unfold tKidOf
  induction T with
  | nil => cases hx
  | cons y r ih =>
    rw [List.pairwise_cons] at h1
    rcases List.mem_cons.1 hx with rfl | hx'
    · simp
    · have := h1.1 x hx'
      rw [List.find?_cons_of_neg (by simpa using this)]
      exact ih hx' h1.2
theorem kid_zero {T : PT} (h : TOk T) {d : Nat} {s : List UInt8} : tKid T d s = 0 ↔ tKidOf T d s = none := by
  unfold tKid
  cases hk : tKidOf T d s with
  | none => simp
  | some x =>
    have := (h.nums x (kidOf_some hk).1).1
    simp; omega
theorem has_iff {T : PT} {a : Nat} : tHas T a = true ↔ a = 1 ∨ ∃ x ∈ T, x.ino = a := by
  unfold tHas
  simp only [Bool.or_eq_true, beq_iff_eq]
  refine or_congr Iff.rfl ?_
  constructor
  · intro h
    obtain ⟨x, hx⟩ := Option.isSome_iff_exists.1 h
    exact ⟨x, get_some hx⟩
  · rintro ⟨x, hx, rfl⟩
    cases hg : tGet T x.ino with
    | none => exact absurd rfl (get_none hg x hx)
    | some y => rfl
theorem dir_has {T : PT} {a : Nat} (h : tIsDir T a = true) : tHas T a = true := by
  unfold tIsDir at h
  unfold tHas
  simp only [Bool.or_eq_true, beq_iff_eq] at h ⊢
  rcases h with h | h
  · exact .inl h
  · right
    cases hg : tGet T a with
    | none => rw [hg] at h; cases h
    | some x => rfl
theorem kid_has {T : PT} {d : Nat} {s : List UInt8} (h : tKid T d s ≠ 0) : tHas T (tKid T d s) = true := by
  unfold tKid at h ⊢
  cases hk : tKidOf T d s with
  | none => rw [hk] at h; exact absurd rfl h
  | some x => exact has_iff.2 (.inr ⟨x, (kidOf_some hk).1, rfl⟩)
theorem walk_has {T : PT} : ∀ (l : List (List UInt8)) (a : Nat), tHas T a = true → (tWalk T l a).2 = 0 → tHas T (tWalk T l a).1 = true
  | [], a, h, _ => h
  | s :: l, a, h, h2 => by
    unfold tWalk at h2 ⊢
    by_cases h1 : tIsDir T a = false
    · rw [if_pos h1] at h2; cases h2
    · rw [if_neg h1] at h2 ⊢
      by_cases h3 : tKid T a s = 0
      · rw [if_pos h3] at h2; cases h2
      · rw [if_neg h3] at h2 ⊢
        exact walk_has l _ (kid_has h3) h2
theorem has_small {T : PT} (h : TOk T) {a : Nat} (ha : tHas T a = true) : 1 ≤ a ∧ a ≤ 128 := by
  rcases has_iff.1 ha with rfl | ⟨x, hx, rfl⟩
  · omega
  · have := h.nums x hx; omega
theorem walk_small {T : PT} (h : TOk T) : ∀ (l : List (List UInt8)) (a : Nat), tHas T a = true → (tWalk T l a).1 ≤ 128
  | [], a, ha => (has_small h ha).2
  | s :: l, a, ha => by
    unfold tWalk
    by_cases h1 : tIsDir T a = false
    · rw [if_pos h1]; simp
    · rw [if_neg h1]
      by_cases h3 : tKid T a s = 0
      · rw [if_pos h3]; simp
      · rw [if_neg h3]
        exact walk_small h l _ (kid_has h3)
theorem walk_err {T : PT} : ∀ (l : List (List UInt8)) (a : Nat), (tWalk T l a).2 = 0 ∨ (tWalk T l a).2 = 10 ∨ (tWalk T l a).2 = 6
  | [], a => .inl rfl
  | s :: l, a => by
    unfold tWalk
    by_cases h1 : tIsDir T a = false
    · rw [if_pos h1]; exact .inr (.inl rfl)
    · rw [if_neg h1]
      by_cases h3 : tKid T a s = 0
      · rw [if_pos h3]; exact .inr (.inr rfl)
      · rw [if_neg h3]
        exact walk_err l _
theorem has_one (T : PT) : tHas T 1 = true := rfl

/-! ### The least number -/
theorem least_ge : ∀ (T : PT) (n : Nat), n ≤ tLeast n T
  | [], n => Nat.le_refl _
  | x :: r, n => by
    unfold tLeast
    by_cases h : x.ino = n
    · rw [if_pos h]; have := least_ge r (n + 1); omega
    · rw [if_neg h]; exact Nat.le_refl _
theorem least_le : ∀ (T : PT) (n : Nat), tLeast n T ≤ n + T.length
  | [], n => Nat.le_refl _
  | x :: r, n => by
    unfold tLeast
    by_cases h : x.ino = n
    · rw [if_pos h]; have := least_le r (n + 1); simp; omega
    · rw [if_neg h]; omega
theorem least_free : ∀ (T : PT) (n : Nat), T.Pairwise (fun x y => x.ino < y.ino) → (∀ x ∈ T, n ≤ x.ino) → ∀ x ∈ T, x.ino ≠ tLeast n T
  | [], n, _, _ => by simp
  | y :: r, n, h1, h2 => by
    rw [List.pairwise_cons] at h1
    unfold tLeast
    by_cases h : y.ino = n
    · rw [if_pos h]
      intro x hx
      have h3 := least_ge r (n + 1)
      rcases List.mem_cons.1 hx with rfl | hx
      · omega
      · exact least_free r (n + 1) h1.2 (fun z hz => by have := h1.1 z hz; omega) x hx
    · rw [if_neg h]
      intro x hx
      have h3 := h2 y (List.mem_cons_self ..)
      rcases List.mem_cons.1 hx with rfl | hx
      · exact h
      · have := h1.1 x hx; omega
theorem least_taken : ∀ (T : PT) (n k : Nat), n ≤ k → k < tLeast n T → ∃ x ∈ T, x.ino = k
  | [], n, k, h1, h2 => by simp [tLeast] at h2; omega
  | y :: r, n, k, h1, h2 => by
    unfold tLeast at h2
    by_cases h : y.ino = n
    · rw [if_pos h] at h2
      by_cases e : k = n
      · exact ⟨y, List.mem_cons_self .., by omega⟩
      · obtain ⟨x, hx, e2⟩ := least_taken r (n + 1) k (by omega) h2
        exact ⟨x, List.mem_cons_of_mem _ hx, e2⟩
    · rw [if_neg h] at h2; omega
theorem mem_ins {y : Th} : ∀ (T : PT) (x : Th), x ∈ tIns y T ↔ x = y ∨ x ∈ T
  | [], x => by simp [tIns]
  | z :: r, x => by
    unfold tIns
    by_cases h : y.ino < z.ino
    · rw [if_pos h]; simp
    · rw [if_neg h, List.mem_cons, mem_ins r x, List.mem_cons]
      constructor
      · rintro (h | h | h)
        · exact .inr (.inl h)
        · exact .inl h
        · exact .inr (.inr h)
      · rintro (h | h | h)
        · exact .inr (.inl h)
        · exact .inl h
        · exact .inr (.inr h)
theorem ins_len (y : Th) : ∀ (T : PT), (tIns y T).length = T.length + 1
  | [] => rfl
  | z :: r => by
    unfold tIns
    by_cases h : y.ino < z.ino
    · rw [if_pos h]; rfl
    · rw [if_neg h, List.length_cons, ins_len y r]; rfl
theorem ins_perm (y : Th) : ∀ (T : PT), (tIns y T).Perm (y :: T)
  | [] => .refl _
  | z :: r => by
    unfold tIns
    by_cases h : y.ino < z.ino
    · rw [if_pos h]
    · rw [if_neg h]
      exact ((ins_perm y r).cons z).trans (.swap ..)
theorem ins_rise {y : Th} : ∀ (T : PT), T.Pairwise (fun x y => x.ino < y.ino) → (∀ x ∈ T, x.ino ≠ y.ino) → (tIns y T).Pairwise (fun x y => x.ino < y.ino)
  | [], _, _ => by simp [tIns]
  | z :: r, h1, h2 => by
    have h1' := List.pairwise_cons.1 h1
    unfold tIns
    by_cases h : y.ino < z.ino
    · rw [if_pos h]
      refine List.pairwise_cons.2 ⟨fun x hx => ?_, h1⟩
      rcases List.mem_cons.1 hx with rfl | hx
      · exact h
      · have := h1'.1 x hx; omega
    · rw [if_neg h]
      refine List.pairwise_cons.2 ⟨fun x hx => ?_, ins_rise r h1'.2 (fun x hx => h2 x (List.mem_cons_of_mem _ hx))⟩
      rcases (mem_ins r x).1 hx with rfl | hx
      · have := h2 z (List.mem_cons_self ..); omega
      · exact h1'.1 x hx
/-- What has one number, has it after as before. -/
theorem get_ins {T : PT} (h : TOk T) {y : Th} (hy : ∀ x ∈ T, x.ino ≠ y.ino) (a : Nat) : tGet (tIns y T) a = if a = y.ino then some y else tGet T a := by
  have hr := ins_rise T h.rise hy
  by_cases e : a = y.ino
  · rw [if_pos e]
    cases hg : tGet (tIns y T) a with
    | none => exact absurd e.symm (get_none hg y ((mem_ins T y).2 (.inl rfl)))
    | some z =>
      obtain ⟨h1, h2⟩ := get_some hg
      rcases (mem_ins T z).1 h1 with rfl | h3
      · rfl
      · exact absurd (by omega) (hy z h3)
  · rw [if_neg e]
    cases hg : tGet T a with
    | none =>
      cases hg2 : tGet (tIns y T) a with
      | none => rfl
      | some z =>
        obtain ⟨h1, h2⟩ := get_some hg2
        rcases (mem_ins T z).1 h1 with rfl | h3
        · exact absurd h2.symm e
        · exact absurd h2 (get_none hg z h3)
    | some x =>
      obtain ⟨hx, rfl⟩ := get_some hg
      cases hg2 : tGet (tIns y T) x.ino with
      | none => exact absurd rfl (get_none hg2 x ((mem_ins T x).2 (.inr hx)))
      | some z =>
        obtain ⟨h1, h2⟩ := get_some hg2
        rcases (mem_ins T z).1 h1 with rfl | h3
        · exact absurd h2.symm e
        · have := get_mem h h3
          rw [h2, hg] at this
          exact this.symm
theorem isDir_ins {T : PT} (h : TOk T) {y : Th} (hy : ∀ x ∈ T, x.ino ≠ y.ino) {a : Nat} (ha : a ≠ y.ino) : tIsDir (tIns y T) a = tIsDir T a := by
  unfold tIsDir
  rw [get_ins h hy, if_neg ha]
theorem isDir_ins_mono {T : PT} (h : TOk T) {y : Th} (hy : ∀ x ∈ T, x.ino ≠ y.ino) {a : Nat} (ha : tIsDir T a = true) : tIsDir (tIns y T) a = true := by
  by_cases e : a = y.ino
  · rcases has_iff.1 (dir_has ha) with h1 | ⟨x, hx, h1⟩
    · rw [h1]; rfl
    · exact absurd (h1.trans e) (hy x hx)
  · rw [isDir_ins h hy e]; exact ha
theorem TOk.ins {T : PT} (h : TOk T) {y : Th} (hy : ∀ x ∈ T, x.ino ≠ y.ino) (h2 : 2 ≤ y.ino ∧ y.ino ≤ 128) (hd : tIsDir T y.dir = true) (hk : tKidOf T y.dir y.name = none) (hm : mayB y.name = true) : TOk (tIns y T) where
  rise := ins_rise T h.rise hy
  nums x hx := by
    rcases (mem_ins T x).1 hx with rfl | hx
    · exact h2
    · exact h.nums x hx
  dirs x hx := by
    rcases (mem_ins T x).1 hx with rfl | hx
    · exact isDir_ins_mono h hy hd
    · exact isDir_ins_mono h hy (h.dirs x hx)
  apart := by
    refine ((ins_perm y T).pairwise_iff (fun {a b} hab h => hab ⟨h.1.symm, h.2.symm⟩)).2 (List.pairwise_cons.2 ⟨fun x hx hh => kidOf_none hk x hx ⟨hh.1.symm, hh.2.symm⟩, h.apart⟩)
  may x hx := by
    rcases (mem_ins T x).1 hx with rfl | hx
    · exact hm
    · exact h.may x hx
theorem kidOf_ins {T : PT} (h : TOk T) {y : Th} (hok : TOk (tIns y T)) (d : Nat) (s : List UInt8) : tKidOf (tIns y T) d s = if d = y.dir ∧ s = y.name then some y else tKidOf T d s := by
  by_cases e : d = y.dir ∧ s = y.name
  · rw [if_pos e, e.1, e.2]
    exact kidOf_mem hok ((mem_ins T y).2 (.inl rfl))
  · rw [if_neg e]
    cases hg : tKidOf T d s with
    | none =>
      cases hg2 : tKidOf (tIns y T) d s with
      | none => rfl
      | some z =>
        obtain ⟨h1, h2, h3⟩ := kidOf_some hg2
        rcases (mem_ins T z).1 h1 with rfl | h4
        · exact absurd ⟨h2.symm, h3.symm⟩ e
        · exact absurd ⟨h2, h3⟩ (kidOf_none hg z h4)
    | some x =>
      obtain ⟨hx, rfl, rfl⟩ := kidOf_some hg
      exact kidOf_mem hok ((mem_ins T x).2 (.inr hx))
/-! ### Removing -/
theorem TOk.del {T : PT} (h : TOk T) {n : Nat} (hn : n ≠ 1) (hno : ∀ x ∈ T, x.dir ≠ n) : TOk (T.filter (fun x => x.ino != n)) := by
  have hget : ∀ a, a ≠ n → tGet (T.filter (fun x => x.ino != n)) a = tGet T a := fun a ha => by
    unfold tGet
    rw [List.find?_filter]
    congr 1
    funext x
    by_cases e : x.ino = a
    · have : x.ino ≠ n := by omega
      simp [e]; omega
    · simp [e]
  exact {
    rise := h.rise.filter _
    nums := fun x hx => h.nums x (List.mem_filter.1 hx).1
    dirs := fun x hx => by
      have hx' := (List.mem_filter.1 hx).1
      have := h.dirs x hx'
      unfold tIsDir at this ⊢
      rw [hget _ (hno x hx')]
      exact this
    apart := h.apart.filter _
    may := fun x hx => h.may x (List.mem_filter.1 hx).1 }
theorem get_del {T : PT} (n a : Nat) : tGet (T.filter (fun x => x.ino != n)) a = if a = n then none else tGet T a := by
  by_cases e : a = n
  · rw [if_pos e]
    unfold tGet
    rw [List.find?_eq_none]
    intro x hx
    have := (List.mem_filter.1 hx).2
    simp at this ⊢
    omega
  · rw [if_neg e]
    unfold tGet
    rw [List.find?_filter]
    congr 1
    funext x
    by_cases e2 : x.ino = a
    · simp [e2]; omega
    · simp [e2]
theorem kidOf_del {T : PT} (h : TOk T) {n : Nat} (d : Nat) (s : List UInt8) : tKidOf (T.filter (fun x => x.ino != n)) d s = if tKid T d s = n then none else tKidOf T d s := by
  cases hg : tKidOf T d s with
  | none =>
    have : tKidOf (T.filter (fun x => x.ino != n)) d s = none := by
      cases hg2 : tKidOf (T.filter (fun x => x.ino != n)) d s with
      | none => rfl
      | some z =>
        obtain ⟨h1, h2⟩ := kidOf_some hg2
        exact absurd h2 (kidOf_none hg z (List.mem_filter.1 h1).1)
    rw [this]; simp
  | some x =>
    have hk : tKid T d s = x.ino := by unfold tKid; rw [hg]
    obtain ⟨hx, rfl, rfl⟩ := kidOf_some hg
    rw [hk]
    by_cases e : x.ino = n
    · rw [if_pos e]
      cases hg2 : tKidOf (T.filter (fun x => x.ino != n)) x.dir x.name with
      | none => rfl
      | some z =>
        obtain ⟨h1, h2, h3⟩ := kidOf_some hg2
        obtain ⟨h4, h5⟩ := List.mem_filter.1 h1
        have := kidOf_mem h h4
        rw [h2, h3, hg] at this
        cases this
        simp [e] at h5
    · rw [if_neg e]
      have hm : x ∈ T.filter (fun x => x.ino != n) := List.mem_filter.2 ⟨hx, by simpa using e⟩
      unfold tKidOf
      cases hg2 : (T.filter (fun x => x.ino != n)).find? (fun y => y.dir == x.dir && y.name == x.name) with
      | none => exact absurd ⟨rfl, rfl⟩ (kidOf_none hg2 x hm)
      | some z =>
        obtain ⟨h1, h2, h3⟩ := kidOf_some hg2
        have := kidOf_mem h (List.mem_filter.1 h1).1
        rw [h2, h3, hg] at this
        exact this.symm
/-! ### Moving -/
theorem mem_ren {T : PT} {n d : Nat} {s : List UInt8} {y : Th} : y ∈ tRename T n d s ↔ ∃ x ∈ T, (if x.ino = n then { x with dir := d, name := s } else x) = y := by
  unfold tRename; exact List.mem_map
theorem ren_ino (x : Th) (n d : Nat) (s : List UInt8) : (if x.ino = n then { x with dir := d, name := s } else x : Th).ino = x.ino ∧ (if x.ino = n then { x with dir := d, name := s } else x : Th).isDir = x.isDir := by
  by_cases e : x.ino = n
  · rw [if_pos e]; exact ⟨rfl, rfl⟩
  · rw [if_neg e]; exact ⟨rfl, rfl⟩
theorem get_ren {T : PT} (n d : Nat) (s : List UInt8) (a : Nat) : tGet (tRename T n d s) a = (tGet T a).map (fun x => if x.ino = n then { x with dir := d, name := s } else x) := by
  unfold tGet tRename
  rw [List.find?_map]
  congr 1
  congr 1
  funext x
  simp [Function.comp, (ren_ino x n d s).1]
theorem isDir_ren {T : PT} (n d : Nat) (s : List UInt8) (a : Nat) : tIsDir (tRename T n d s) a = tIsDir T a := by
  unfold tIsDir
  rw [get_ren]
  cases tGet T a with
  | none => rfl
  | some x => simp [(ren_ino x n d s).2]
theorem has_ren {T : PT} (n d : Nat) (s : List UInt8) (a : Nat) : tHas (tRename T n d s) a = tHas T a := by
  unfold tHas
  rw [get_ren]
  cases tGet T a <;> rfl
theorem TOk.ren {T : PT} (h : TOk T) {n d : Nat} {s : List UInt8} (hd : tIsDir T d = true) (hk : tKidOf T d s = none) (hm : mayB s = true) : TOk (tRename T n d s) where
  rise := by
    unfold tRename
    rw [List.pairwise_map]
    exact h.rise.imp fun {x y} hxy => by rw [(ren_ino x n d s).1, (ren_ino y n d s).1]; exact hxy
  nums y hy := by
    obtain ⟨x, hx, rfl⟩ := mem_ren.1 hy
    rw [(ren_ino x n d s).1]
    exact h.nums x hx
  dirs y hy := by
    obtain ⟨x, hx, rfl⟩ := mem_ren.1 hy
    rw [isDir_ren]
    by_cases e : x.ino = n
    · rw [if_pos e]; exact hd
    · rw [if_neg e]; exact h.dirs x hx
  apart := by
    unfold tRename
    rw [List.pairwise_map]
    refine List.Pairwise.imp_of_mem ?_ (h.apart.and h.rise)
    rintro x y hx hy ⟨h1, h2⟩
    by_cases e1 : x.ino = n
    · rw [if_pos e1, if_neg (by omega)]
      rintro ⟨h3, h4⟩
      exact kidOf_none hk y hy ⟨h3.symm, h4.symm⟩
    · rw [if_neg e1]
      by_cases e2 : y.ino = n
      · rw [if_pos e2]
        rintro ⟨h3, h4⟩
        exact kidOf_none hk x hx ⟨h3, h4⟩
      · rw [if_neg e2]; exact h1
  may y hy := by
    obtain ⟨x, hx, rfl⟩ := mem_ren.1 hy
    by_cases e : x.ino = n
    · rw [if_pos e]; exact hm
    · rw [if_neg e]; exact h.may x hx
end Go.Proofs.Ytaophafailmhjaa.W

/-
  DERIVED: THE SHELF's CONTRACTS AT THIS DUMP, IN PLAIN WORDS (tools/lay-plain.mjs out of 'TryShelf.lean', which tools/lay-shelf.mjs wrote): THE SAME DECLARATIONS UNDER THE SAME NAMES: 'import', 'namespace', 'open', 'def', 'theorem' AND NOTHING ELSE: no command of the shelf's: FOR A HAND-IN. Each laying: the table of numbers ('.._ren') and one theorem, a field a fact of the dump's own or the kernel's comparison; each contract: ONE APPLICATION.
-/
namespace Go.Proofs
open Go.Shelf
def Try.lays169_ren : Go.Shelf.Ren := ⟨fun | 169 => 100 | n => n, fun | 70 => 143 | 9 => 9 | 0 => 0 | 72 => 145 | 37 => 22 | 127 => 155 | 3 => 3 | 5 => 5 | n => n, fun | n => n⟩
theorem Try.lays169 : Go.Proofs.Lays.n169 Try.prog Try.lays169_ren := {
  mixed := by kernel_rfl
  f169 := Try.func100.trans (congrArg some (by kernel_rfl))
  t0 := Try.underlying0
  a0 := Try.isAgg0
  z0 := Try.sizeOf0
  v0 := Try.zeroValue0
  t3 := Try.underlying3
  a3 := Try.isAgg3
  z3 := Try.sizeOf3
  v3 := Try.zeroValue3
  t9 := Try.underlying9
  a9 := Try.isAgg9
  z9 := Try.sizeOf9
  v9 := Try.zeroValue9
  t37 := Try.underlying22
  a37 := Try.isAgg22
  z37 := Try.sizeOf22
  v37 := Try.zeroValue22
  t70 := Try.underlying143
  a70 := Try.isAgg143
  z70 := Try.sizeOf143
  v70 := Try.zeroValue143
  t72 := Try.underlying145
  a72 := Try.isAgg145
  z72 := Try.sizeOf145
  v72 := Try.zeroValue145
  t127 := Try.underlying155
  a127 := Try.isAgg155
  z127 := Try.sizeOf155
  v127 := Try.zeroValue155 }
theorem Try.Builder_Extra_169 : Builder.Extra Try.prog Try.lays169_ren := {
  sizeBuilder := by kernel_rfl
  liesBuilder := by kernel_rfl
  t5 := Try.underlying5
  a5 := Try.isAgg5
  z5 := Try.sizeOf5
  v5 := Try.zeroValue5
  infoByte := by kernel_rfl
  cellsByte := by kernel_rfl
  sizeByte := by kernel_rfl
  neB5 := by decide }
open Go.RowKit in
/-- (*strings.Builder).String: "String returns the accumulated string.": OF A BUILDER THAT HOLDS AT LEAST ONE BYTE. ✋ THE MODEL FREEZES THOSE BYTES IN THE BUFFER (unsafe.String): a later write INTO them ends the model's run without an answer; a later append BEHIND them goes on. The statement's order of evaluation is drawn: one draw. (LAID: no walk: one application.) -/
theorem Try.Builder_String (B b : Nat) (l : List UInt8) (w : World) (h : Lib.IsBuilder 145 5 B b (Lib.byteCells l) w) (h0 : l ≠ []) :
    Calls Try.prog 100 #[.pointer (some ⟨b, 0, none⟩)] w fun e w' => e = .returned (.string ⟨l.toArray⟩) ∧ Below B w w' := Any.Builder_String Try.lays169 Try.Builder_Extra_169 B b l w h h0
open Go.RowKit in
/-- (*strings.Builder).String OF A BUILDER THAT HOLDS NO BYTE: the empty string. (Its buffer is nil, or a row of which it has taken nothing yet; where that row has NO capacity the model lays one new block for unsafe.SliceData's 'some address'.) One draw. (LAID: no walk: one application.) -/
theorem Try.Builder_String_empty (B b : Nat) (w : World) (h : Lib.IsBuilder 145 5 B b [] w) (hBw : B ≤ w.heap.size) :
    Calls Try.prog 100 #[.pointer (some ⟨b, 0, none⟩)] w fun e w' => e = .returned (.string ⟨#[]⟩) ∧ Below B w w' := Any.Builder_String_empty Try.lays169 Try.Builder_Extra_169 B b w h hBw
open Go.RowKit in
/-- (*strings.Builder).String: "String returns the accumulated string.": WHATEVER THE BUILDER HOLDS. (LAID: no walk: one application.) -/
theorem Try.Builder_String_any (B b : Nat) (l : List UInt8) (w : World) (h : Lib.IsBuilder 145 5 B b (Lib.byteCells l) w) (hBw : B ≤ w.heap.size) :
    Calls Try.prog 100 #[.pointer (some ⟨b, 0, none⟩)] w fun e w' => e = .returned (.string ⟨l.toArray⟩) ∧ Below B w w' := Any.Builder_String_any Try.lays169 Try.Builder_Extra_169 B b l w h hBw
def Try.lays241_ren : Go.Shelf.Ren := ⟨fun | 241 => 104 | 277 => 106 | n => n, fun | 70 => 143 | 3 => 3 | 0 => 0 | 72 => 145 | 37 => 22 | 5 => 5 | n => n, fun | n => n⟩
theorem Try.lays241 : Go.Proofs.Lays.n241 Try.prog Try.lays241_ren := {
  mixed := by kernel_rfl
  f241 := Try.func104.trans (congrArg some (by kernel_rfl))
  f277 := Try.func106.trans (congrArg some (by kernel_rfl))
  t0 := Try.underlying0
  a0 := Try.isAgg0
  z0 := Try.sizeOf0
  v0 := Try.zeroValue0
  t3 := Try.underlying3
  a3 := Try.isAgg3
  z3 := Try.sizeOf3
  v3 := Try.zeroValue3
  t37 := Try.underlying22
  a37 := Try.isAgg22
  z37 := Try.sizeOf22
  v37 := Try.zeroValue22
  t70 := Try.underlying143
  a70 := Try.isAgg143
  z70 := Try.sizeOf143
  v70 := Try.zeroValue143
  t72 := Try.underlying145
  a72 := Try.isAgg145
  z72 := Try.sizeOf145
  v72 := Try.zeroValue145 }
theorem Try.Builder_Extra_241 : Builder.Extra Try.prog Try.lays241_ren := {
  sizeBuilder := by kernel_rfl
  liesBuilder := by kernel_rfl
  t5 := Try.underlying5
  a5 := Try.isAgg5
  z5 := Try.sizeOf5
  v5 := Try.zeroValue5
  infoByte := by kernel_rfl
  cellsByte := by kernel_rfl
  sizeByte := by kernel_rfl
  neB5 := by decide }
open Go.RowKit in
/-- (*strings.Builder).grow (no doc but "grow copies the buffer to a new, larger buffer so that there are at least n bytes of capacity beyond len(b.buf)."): AT A BUILDER WITHOUT A BUFFER: a new row of whatever bytes for its buffer, none of them its own yet. Three draws. (LAID: no walk: one application.) -/
theorem Try.Builder_grow_fresh (B b n : Nat) (w : World) (hB : B ≤ b) (hbk : w.heap[b]? = some (.cells #[.pointer (some ⟨b, 0, none⟩), .slice none 0 0] 145 (0, 0))) (hBw : B ≤ w.heap.size) (hn : n ≤ 281474976710656) :
    Calls Try.prog 104 #[.pointer (some ⟨b, 0, none⟩), .int .i64 n] w fun e w' => e = .returned (.tuple #[]) ∧ (Lib.BuilderAt 145 5 B b (.pointer (some ⟨b, 0, none⟩)) [] w' ∧ Below B w w') := Any.Builder_grow_fresh Try.lays241 Try.Builder_Extra_241 B b n w hB hbk hBw hn
def Try.lays165_ren : Go.Shelf.Ren := ⟨fun | 165 => 98 | 240 => 103 | 241 => 104 | 276 => 105 | 277 => 106 | n => n, fun | 70 => 143 | 3 => 3 | 0 => 0 | 4 => 4 | 9 => 9 | 20 => 20 | 72 => 145 | 37 => 22 | 164 => 156 | 5 => 5 | n => n, fun | n => n⟩
theorem Try.lays165 : Go.Proofs.Lays.n165 Try.prog Try.lays165_ren := {
  mixed := by kernel_rfl
  f165 := Try.func98.trans (congrArg some (by kernel_rfl))
  f240 := Try.func103.trans (congrArg some (by kernel_rfl))
  f241 := Try.func104.trans (congrArg some (by kernel_rfl))
  f276 := Try.func105.trans (congrArg some (by kernel_rfl))
  f277 := Try.func106.trans (congrArg some (by kernel_rfl))
  t0 := Try.underlying0
  a0 := Try.isAgg0
  z0 := Try.sizeOf0
  v0 := Try.zeroValue0
  t3 := Try.underlying3
  a3 := Try.isAgg3
  z3 := Try.sizeOf3
  v3 := Try.zeroValue3
  t4 := Try.underlying4
  a4 := Try.isAgg4
  z4 := Try.sizeOf4
  v4 := Try.zeroValue4
  t9 := Try.underlying9
  a9 := Try.isAgg9
  z9 := Try.sizeOf9
  v9 := Try.zeroValue9
  t20 := Try.underlying20
  a20 := Try.isAgg20
  z20 := Try.sizeOf20
  v20 := Try.zeroValue20
  t37 := Try.underlying22
  a37 := Try.isAgg22
  z37 := Try.sizeOf22
  v37 := Try.zeroValue22
  t70 := Try.underlying143
  a70 := Try.isAgg143
  z70 := Try.sizeOf143
  v70 := Try.zeroValue143
  t72 := Try.underlying145
  a72 := Try.isAgg145
  z72 := Try.sizeOf145
  v72 := Try.zeroValue145
  t164 := Try.underlying156
  a164 := Try.isAgg156
  z164 := Try.sizeOf156
  v164 := Try.zeroValue156 }
theorem Try.Builder_Extra_165 : Builder.Extra Try.prog Try.lays165_ren := {
  sizeBuilder := by kernel_rfl
  liesBuilder := by kernel_rfl
  t5 := Try.underlying5
  a5 := Try.isAgg5
  z5 := Try.sizeOf5
  v5 := Try.zeroValue5
  infoByte := by kernel_rfl
  cellsByte := by kernel_rfl
  sizeByte := by kernel_rfl
  neB5 := by decide }
open Go.RowKit in
/-- (*strings.Builder).Grow AT A BUILDER THAT HAS NOT BEEN WRITTEN ('var b strings.Builder; b.Grow(n)'): "Grow grows b's capacity, if necessary, to guarantee space for another n bytes.": it holds no byte behind it as before it. (LAID: no walk: one application.) -/
theorem Try.Builder_Grow_fresh (B b n : Nat) (w : World) (hB : B ≤ b) (hbk : w.heap[b]? = some (.cells #[.pointer none, .slice none 0 0] 145 (0, 0))) (hBw : B ≤ w.heap.size) (hn : n ≤ 281474976710656) :
    Calls Try.prog 98 #[.pointer (some ⟨b, 0, none⟩), .int .i64 n] w fun e w' => e = .returned (.tuple #[]) ∧ (Lib.BuilderAt 145 5 B b (.pointer (some ⟨b, 0, none⟩)) [] w' ∧ Below B w w') := Any.Builder_Grow_fresh Try.lays165 Try.Builder_Extra_165 B b n w hB hbk hBw hn
def Try.lays156_ren : Go.Shelf.Ren := ⟨fun | 156 => 90 | 165 => 98 | 166 => 99 | 169 => 100 | 240 => 103 | 241 => 104 | 276 => 105 | 277 => 106 | n => n, fun | 31 => 99 | 9 => 9 | 3 => 3 | 4 => 4 | 0 => 0 | 20 => 20 | 72 => 145 | 76 => 149 | 70 => 143 | 37 => 22 | 75 => 148 | 127 => 155 | 164 => 156 | 5 => 5 | 80 => 151 | n => n, fun | n => n⟩
theorem Try.lays156 : Go.Proofs.Lays.n156 Try.prog Try.lays156_ren := {
  mixed := by kernel_rfl
  f156 := Try.func90.trans (congrArg some (by kernel_rfl))
  f165 := Try.func98.trans (congrArg some (by kernel_rfl))
  f166 := Try.func99.trans (congrArg some (by kernel_rfl))
  f169 := Try.func100.trans (congrArg some (by kernel_rfl))
  f240 := Try.func103.trans (congrArg some (by kernel_rfl))
  f241 := Try.func104.trans (congrArg some (by kernel_rfl))
  f276 := Try.func105.trans (congrArg some (by kernel_rfl))
  f277 := Try.func106.trans (congrArg some (by kernel_rfl))
  t0 := Try.underlying0
  a0 := Try.isAgg0
  z0 := Try.sizeOf0
  v0 := Try.zeroValue0
  t3 := Try.underlying3
  a3 := Try.isAgg3
  z3 := Try.sizeOf3
  v3 := Try.zeroValue3
  t4 := Try.underlying4
  a4 := Try.isAgg4
  z4 := Try.sizeOf4
  v4 := Try.zeroValue4
  t9 := Try.underlying9
  a9 := Try.isAgg9
  z9 := Try.sizeOf9
  v9 := Try.zeroValue9
  t20 := Try.underlying20
  a20 := Try.isAgg20
  z20 := Try.sizeOf20
  v20 := Try.zeroValue20
  t31 := Try.underlying99
  a31 := Try.isAgg99
  z31 := Try.sizeOf99
  v31 := Try.zeroValue99
  t37 := Try.underlying22
  a37 := Try.isAgg22
  z37 := Try.sizeOf22
  v37 := Try.zeroValue22
  t70 := Try.underlying143
  a70 := Try.isAgg143
  z70 := Try.sizeOf143
  v70 := Try.zeroValue143
  t72 := Try.underlying145
  a72 := Try.isAgg145
  z72 := Try.sizeOf145
  v72 := Try.zeroValue145
  t75 := Try.underlying148
  a75 := Try.isAgg148
  z75 := Try.sizeOf148
  v75 := Try.zeroValue148
  t76 := Try.underlying149
  a76 := Try.isAgg149
  z76 := Try.sizeOf149
  v76 := Try.zeroValue149
  t127 := Try.underlying155
  a127 := Try.isAgg155
  z127 := Try.sizeOf155
  v127 := Try.zeroValue155
  t164 := Try.underlying156
  a164 := Try.isAgg156
  z164 := Try.sizeOf156
  v164 := Try.zeroValue156 }
theorem Try.Builder_Extra_156 : Builder.Extra Try.prog Try.lays156_ren := {
  sizeBuilder := by kernel_rfl
  liesBuilder := by kernel_rfl
  t5 := Try.underlying5
  a5 := Try.isAgg5
  z5 := Try.sizeOf5
  v5 := Try.zeroValue5
  infoByte := by kernel_rfl
  cellsByte := by kernel_rfl
  sizeByte := by kernel_rfl
  neB5 := by decide }
open Go.RowKit in
/-- No element: the empty string; the world is as it was. (Whatever the slice's address and capacity: a nil slice too.) (LAID: no walk: one application.) -/
theorem Try.strings_Join_none (a : Option Addr) (c : Nat) (sep : ByteArray) (w : World) :
    Calls Try.prog 90 #[.slice a 0 c, .string sep] w fun e w' => e = .returned (.string ⟨#[]⟩) ∧ w' = w := Any.strings_Join_none Try.lays156 Try.Builder_Extra_156 a c sep w
open Go.RowKit in
/-- strings.Join: "Join concatenates the elements of its first argument to create a single string. The separator string sep is placed between elements in the resulting string.": HOWEVER MANY ELEMENTS. Below the heap's end the world is as it was. (LAID: no walk: one application.) -/
theorem Try.strings_Join (bk o c : Nat) (xs : List ByteArray) (sep : ByteArray) (w : World) (hcells : ∀ (j : Nat) x, xs[j]? = some x → w.cell? ⟨bk, o + j, none⟩ = some (.string x)) (hbk : bk < w.heap.size) (hN : xs.length ≤ 140737488355328) (hcap : xs.length ≤ c) (hlen : (Lib.join (xs.map (·.data.toList)) sep.data.toList).length ≤ 140737488355328) :
    Calls Try.prog 90 #[.slice (some ⟨bk, o, none⟩) xs.length c, .string sep] w fun e w' => e = .returned (.string ⟨(Lib.join (xs.map (·.data.toList)) sep.data.toList).toArray⟩) ∧ Below w.heap.size w w' := Any.strings_Join Try.lays156 Try.Builder_Extra_156 bk o c xs sep w hcells hbk hN hcap hlen
def Try.lays128_ren : Go.Shelf.Ren := ⟨fun | 128 => 86 | n => n, fun | 51 => 132 | 3 => 3 | 4 => 4 | 46 => 119 | 5 => 5 | 9 => 9 | n => n, fun | n => n⟩
theorem Try.lays128 : Go.Proofs.Lays.n128 Try.prog Try.lays128_ren := {
  mixed := by kernel_rfl
  f128 := Try.func86.trans (congrArg some (by kernel_rfl))
  t3 := Try.underlying3
  a3 := Try.isAgg3
  z3 := Try.sizeOf3
  v3 := Try.zeroValue3
  t4 := Try.underlying4
  a4 := Try.isAgg4
  z4 := Try.sizeOf4
  v4 := Try.zeroValue4
  t5 := Try.underlying5
  a5 := Try.isAgg5
  z5 := Try.sizeOf5
  v5 := Try.zeroValue5
  t9 := Try.underlying9
  a9 := Try.isAgg9
  z9 := Try.sizeOf9
  v9 := Try.zeroValue9
  t46 := Try.underlying119
  a46 := Try.isAgg119
  z46 := Try.sizeOf119
  v46 := Try.zeroValue119
  t51 := Try.underlying132
  a51 := Try.isAgg132
  z51 := Try.sizeOf132
  v51 := Try.zeroValue132 }
/-- bits.Len32: "Len32 returns the minimum number of bits required to represent x; the result is 0 for x == 0.": IT RETURNS 'Lib.bitLen x'; the world is as it was. ('h0', 'h1': x is a uint32.) (LAID: no walk: one application.) -/
theorem Try.bits_Len32 (x : Int) (w : World) (h0 : 0 ≤ x) (h1 : x ≤ 4294967295) :
    Calls Try.prog 86 #[.int .u32 x] w fun e w' => e = .returned (.int .i64 (Lib.bitLen x.toNat)) ∧ w' = w := Any.bits_Len32 Try.lays128 x w h0 h1
def Try.lays125_ren : Go.Shelf.Ren := ⟨fun | 125 => 72 | 128 => 86 | 129 => 87 | n => n, fun | 46 => 119 | 3 => 3 | 51 => 132 | 53 => 134 | 4 => 4 | 5 => 5 | 9 => 9 | n => n, fun | n => n⟩
theorem Try.lays125 : Go.Proofs.Lays.n125 Try.prog Try.lays125_ren := {
  mixed := by kernel_rfl
  f125 := Try.func72.trans (congrArg some (by kernel_rfl))
  f128 := Try.func86.trans (congrArg some (by kernel_rfl))
  f129 := Try.func87.trans (congrArg some (by kernel_rfl))
  t3 := Try.underlying3
  a3 := Try.isAgg3
  z3 := Try.sizeOf3
  v3 := Try.zeroValue3
  t4 := Try.underlying4
  a4 := Try.isAgg4
  z4 := Try.sizeOf4
  v4 := Try.zeroValue4
  t5 := Try.underlying5
  a5 := Try.isAgg5
  z5 := Try.sizeOf5
  v5 := Try.zeroValue5
  t9 := Try.underlying9
  a9 := Try.isAgg9
  z9 := Try.sizeOf9
  v9 := Try.zeroValue9
  t46 := Try.underlying119
  a46 := Try.isAgg119
  z46 := Try.sizeOf119
  v46 := Try.zeroValue119
  t51 := Try.underlying132
  a51 := Try.isAgg132
  z51 := Try.sizeOf132
  v51 := Try.zeroValue132
  t53 := Try.underlying134
  a53 := Try.isAgg134
  z53 := Try.sizeOf134
  v53 := Try.zeroValue134 }
/-- bits.Len: "Len returns the minimum number of bits required to represent x; the result is 0 for x == 0.": IT RETURNS 'Lib.bitLen x'; the world is as it was. (A uint has 64 bits in the model.) ITS CALLEE bits.Len64 IS MET BY ITS OWN CONTRACT OFF THE SHELF (lay that first). (LAID: no walk: one application.) -/
theorem Try.bits_Len (x : Int) (w : World) (h0 : 0 ≤ x) (h1 : x ≤ 18446744073709551615) :
    Calls Try.prog 72 #[.int .u64 x] w fun e w' => e = .returned (.int .i64 (Lib.bitLen x.toNat)) ∧ w' = w := Any.bits_Len Try.lays125 x w h0 h1
def Try.lays213_ren : Go.Shelf.Ren := ⟨fun | 213 => 73 | 265 => 88 | n => n, fun | 9 => 9 | 3 => 3 | n => n, fun | n => n⟩
theorem Try.lays213 : Go.Proofs.Lays.n213 Try.prog Try.lays213_ren := {
  mixed := by kernel_rfl
  f213 := Try.func73.trans (congrArg some (by kernel_rfl))
  f265 := Try.func88.trans (congrArg some (by kernel_rfl))
  t3 := Try.underlying3
  a3 := Try.isAgg3
  z3 := Try.sizeOf3
  v3 := Try.zeroValue3
  t9 := Try.underlying9
  a9 := Try.isAgg9
  z9 := Try.sizeOf9
  v9 := Try.zeroValue9 }
open Go.RowKit in
/-- internal/bytealg.CompareString (what strings.Compare calls): IT RETURNS 'Lib.compareBytes a b'; the world is as it was. (LAID: no walk: one application.) -/
theorem Try.bytealg_CompareString (a b : ByteArray) (w : World) :
    Calls Try.prog 73 #[.string a, .string b] w fun e w' => e = .returned (.int .i64 (Lib.compareBytes a.data.toList b.data.toList)) ∧ w' = w := Any.bytealg_CompareString Try.lays213 a b w
def Try.lays106_ren : Go.Shelf.Ren := ⟨fun | 106 => 63 | 213 => 73 | 265 => 88 | n => n, fun | 9 => 9 | 3 => 3 | n => n, fun | n => n⟩
theorem Try.lays106 : Go.Proofs.Lays.n106 Try.prog Try.lays106_ren := {
  mixed := by kernel_rfl
  f106 := Try.func63.trans (congrArg some (by kernel_rfl))
  f213 := Try.func73.trans (congrArg some (by kernel_rfl))
  f265 := Try.func88.trans (congrArg some (by kernel_rfl))
  t3 := Try.underlying3
  a3 := Try.isAgg3
  z3 := Try.sizeOf3
  v3 := Try.zeroValue3
  t9 := Try.underlying9
  a9 := Try.isAgg9
  z9 := Try.sizeOf9
  v9 := Try.zeroValue9 }
open Go.RowKit in
/-- strings.Compare: "Compare returns an integer comparing two strings lexicographically. The result will be 0 if a == b, -1 if a < b, and +1 if a > b.": IT RETURNS 'Lib.compareBytes a b'; the world is as it was. (LAID: no walk: one application.) -/
theorem Try.strings_Compare (a b : ByteArray) (w : World) :
    Calls Try.prog 63 #[.string a, .string b] w fun e w' => e = .returned (.int .i64 (Lib.compareBytes a.data.toList b.data.toList)) ∧ w' = w := Any.strings_Compare Try.lays106 a b w
def Try.lays137_ren : Go.Shelf.Ren := ⟨fun | 137 => 77 | 217 => 91 | 266 => 101 | n => n, fun | 9 => 9 | 5 => 5 | 3 => 3 | n => n, fun | n => n⟩
theorem Try.lays137 : Go.Proofs.Lays.n137 Try.prog Try.lays137_ren := {
  mixed := by kernel_rfl
  f137 := Try.func77.trans (congrArg some (by kernel_rfl))
  f217 := Try.func91.trans (congrArg some (by kernel_rfl))
  f266 := Try.func101.trans (congrArg some (by kernel_rfl))
  t3 := Try.underlying3
  a3 := Try.isAgg3
  z3 := Try.sizeOf3
  v3 := Try.zeroValue3
  t5 := Try.underlying5
  a5 := Try.isAgg5
  z5 := Try.sizeOf5
  v5 := Try.zeroValue5
  t9 := Try.underlying9
  a9 := Try.isAgg9
  z9 := Try.sizeOf9
  v9 := Try.zeroValue9 }
open Go.RowKit in
/-- strings.IndexByte: "IndexByte returns the index of the first instance of c in s, or -1 if c is not present in s.": IT RETURNS 'Lib.indexByte s c'; the world is as it was. (LAID: no walk: one application.) -/
theorem Try.strings_IndexByte (s : ByteArray) (c : Int) (w : World) :
    Calls Try.prog 77 #[.string s, .int .u8 c] w fun e w' => e = .returned (.int .i64 (Lib.indexByte s.data.toList c.toNat.toUInt8)) ∧ w' = w := Any.strings_IndexByte Try.lays137 s c w
def Try.lays129_ren : Go.Shelf.Ren := ⟨fun | 129 => 87 | n => n, fun | 53 => 134 | 3 => 3 | 4 => 4 | 46 => 119 | 5 => 5 | 9 => 9 | n => n, fun | n => n⟩
theorem Try.lays129 : Go.Proofs.Lays.n129 Try.prog Try.lays129_ren := {
  mixed := by kernel_rfl
  f129 := Try.func87.trans (congrArg some (by kernel_rfl))
  t3 := Try.underlying3
  a3 := Try.isAgg3
  z3 := Try.sizeOf3
  v3 := Try.zeroValue3
  t4 := Try.underlying4
  a4 := Try.isAgg4
  z4 := Try.sizeOf4
  v4 := Try.zeroValue4
  t5 := Try.underlying5
  a5 := Try.isAgg5
  z5 := Try.sizeOf5
  v5 := Try.zeroValue5
  t9 := Try.underlying9
  a9 := Try.isAgg9
  z9 := Try.sizeOf9
  v9 := Try.zeroValue9
  t46 := Try.underlying119
  a46 := Try.isAgg119
  z46 := Try.sizeOf119
  v46 := Try.zeroValue119
  t53 := Try.underlying134
  a53 := Try.isAgg134
  z53 := Try.sizeOf134
  v53 := Try.zeroValue134 }
/-- bits.Len64: "Len64 returns the minimum number of bits required to represent x; the result is 0 for x == 0.": IT RETURNS 'Lib.bitLen x'; the world is as it was. ('h0', 'h1': x is a uint64.) (LAID: no walk: one application.) -/
theorem Try.bits_Len64 (x : Int) (w : World) (h0 : 0 ≤ x) (h1 : x ≤ 18446744073709551615) :
    Calls Try.prog 87 #[.int .u64 x] w fun e w' => e = .returned (.int .i64 (Lib.bitLen x.toNat)) ∧ w' = w := Any.bits_Len64 Try.lays129 x w h0 h1
def Try.lays217_ren : Go.Shelf.Ren := ⟨fun | 217 => 91 | 266 => 101 | n => n, fun | 9 => 9 | 5 => 5 | 3 => 3 | n => n, fun | n => n⟩
theorem Try.lays217 : Go.Proofs.Lays.n217 Try.prog Try.lays217_ren := {
  mixed := by kernel_rfl
  f217 := Try.func91.trans (congrArg some (by kernel_rfl))
  f266 := Try.func101.trans (congrArg some (by kernel_rfl))
  t3 := Try.underlying3
  a3 := Try.isAgg3
  z3 := Try.sizeOf3
  v3 := Try.zeroValue3
  t5 := Try.underlying5
  a5 := Try.isAgg5
  z5 := Try.sizeOf5
  v5 := Try.zeroValue5
  t9 := Try.underlying9
  a9 := Try.isAgg9
  z9 := Try.sizeOf9
  v9 := Try.zeroValue9 }
open Go.RowKit Go.Lib in
/-- internal/stringslite.IndexByte (what strings.IndexByte calls): IT RETURNS 'Lib.indexByte s c'; the world is as it was. (LAID: no walk: one application.) -/
theorem Try.stringslite_IndexByte (s : ByteArray) (c : Int) (w : World) :
    Calls Try.prog 91 #[.string s, .int .u8 c] w fun e w' => e = .returned (.int .i64 (Lib.indexByte s.data.toList c.toNat.toUInt8)) ∧ w' = w := Any.stringslite_IndexByte Try.lays217 s c w
def Try.laysSlK4_ren : Go.Shelf.Ren := ⟨fun | 4 => 23 | n => n, fun | 22 => 22 | 4 => 4 | 5 => 5 | n => n, fun | n => n⟩
theorem Try.laysSlK4 : Go.Proofs.SlLaysK.n4 Try.prog Try.laysSlK4_ren := {
  mixed := by kernel_rfl
  f4 := Try.func23.trans (congrArg some (by kernel_rfl))
  t4 := Try.underlying4
  a4 := Try.isAgg4
  z4 := Try.sizeOf4
  v4 := Try.zeroValue4
  t22 := Try.underlying22
  a22 := Try.isAgg22
  z22 := Try.sizeOf22
  v22 := Try.zeroValue22
  t5 := Try.underlying5
  i5 := by kernel_rfl }
open Go.RowKit Go.Lib in
/-- bytes.Clone: "Clone returns a copy of b[:len(b)]. The result may have additional unused capacity.": OF A SLICE THAT IS NOT nil IT RETURNS A SLICE THAT IS NOT nil, OF THE SAME BYTES, IN MEMORY OF THE CALL's OWN: in the how-to's words (6f): 'w'.ownsRow B e 1 v' n cells' · 'Below B w w'', B the heap's size at the call. b AT WHATEVER ADDRESS, its cells as 'open_ints' hands them ('a.add i'; the numbers 'xs'). No byte: no cell is asked for. (LAID: no walk: one application.) -/
theorem Try.bytes_Clone_at (a : Addr) (n c : Nat) (xs : List Int) (w : World) (hx : xs.length = n) (hbig : n ≤ 140737488355328) (hc : ∀ i, i < n → w.cell? (a.add i) = some (.int .u8 (xs.getD i 0))) :
    Calls Try.prog 23 #[.slice (some a) n c] w fun e w' => ∃ v', e = .returned v' ∧ w'.ownsRow w.heap.size 5 1 v' n (xs.map (Value.int .u8)) ∧ v' ≠ .slice none 0 0 ∧ Below w.heap.size w w' := Any.bytes_Clone_at Try.laysSlK4 a n c xs w hx hbig hc
open Go.RowKit Go.Lib in
/-- "Clone(nil) returns nil.": the world is as it was. (LAID: no walk: one application.) -/
theorem Try.bytes_Clone_nil (n c : Nat) (w : World) :
    Calls Try.prog 23 #[.slice none n c] w fun e w' => e = .returned (.slice none 0 0) ∧ w' = w := Any.bytes_Clone_nil Try.laysSlK4 n c w
def Try.laysSortE_ren : Go.Shelf.Ren := ⟨fun | 6 => 61 | 15 => 72 | 14 => 71 | 28 => 86 | 29 => 87 | 20 => 78 | 21 => 79 | 22 => 80 | 23 => 81 | 24 => 82 | 25 => 83 | 26 => 84 | 27 => 85 | 46 => 92 | 47 => 93 | 48 => 94 | 49 => 95 | 50 => 96 | 57 => 102 | n => n, fun | 22 => 28 | 24 => 106 | 25 => 109 | 3 => 3 | 39 => 119 | 0 => 0 | 53 => 132 | 55 => 134 | 4 => 4 | 46 => 126 | 45 => 125 | 50 => 97 | 5 => 5 | 9 => 9 | 66 => 136 | 70 => 140 | 76 => 152 | 77 => 153 | n => n, fun | n => n⟩
theorem Try.laysSortE : Go.Proofs.SlLaysF0.n6 Try.prog Try.laysSortE_ren := {
  mixed := by kernel_rfl
  f6 := ⟨Try.f61.name, by decide, Try.func61.trans (congrArg some (by kernel_rfl))⟩
  f14 := ⟨Try.f71.name, by decide, Try.func71.trans (congrArg some (by kernel_rfl))⟩
  f15 := Try.func72.trans (congrArg some (by kernel_rfl))
  f20 := ⟨Try.f78.name, by decide, Try.func78.trans (congrArg some (by kernel_rfl))⟩
  f21 := ⟨Try.f79.name, by decide, Try.func79.trans (congrArg some (by kernel_rfl))⟩
  f22 := ⟨Try.f80.name, by decide, Try.func80.trans (congrArg some (by kernel_rfl))⟩
  f23 := ⟨Try.f81.name, by decide, Try.func81.trans (congrArg some (by kernel_rfl))⟩
  f24 := ⟨Try.f82.name, by decide, Try.func82.trans (congrArg some (by kernel_rfl))⟩
  f25 := ⟨Try.f83.name, by decide, Try.func83.trans (congrArg some (by kernel_rfl))⟩
  f26 := ⟨Try.f84.name, by decide, Try.func84.trans (congrArg some (by kernel_rfl))⟩
  f27 := ⟨Try.f85.name, by decide, Try.func85.trans (congrArg some (by kernel_rfl))⟩
  f28 := Try.func86.trans (congrArg some (by kernel_rfl))
  f29 := Try.func87.trans (congrArg some (by kernel_rfl))
  f46 := ⟨Try.f92.name, by decide, Try.func92.trans (congrArg some (by kernel_rfl))⟩
  f47 := Try.func93.trans (congrArg some (by kernel_rfl))
  f48 := Try.func94.trans (congrArg some (by kernel_rfl))
  f49 := ⟨Try.f95.name, by decide, Try.func95.trans (congrArg some (by kernel_rfl))⟩
  f50 := ⟨Try.f96.name, by decide, Try.func96.trans (congrArg some (by kernel_rfl))⟩
  f57 := ⟨Try.f102.name, by decide, Try.func102.trans (congrArg some (by kernel_rfl))⟩
  t0 := Try.underlying0
  a0 := Try.isAgg0
  z0 := Try.sizeOf0
  v0 := Try.zeroValue0
  t3 := Try.underlying3
  a3 := Try.isAgg3
  z3 := Try.sizeOf3
  v3 := Try.zeroValue3
  t4 := Try.underlying4
  a4 := Try.isAgg4
  z4 := Try.sizeOf4
  v4 := Try.zeroValue4
  t5 := Try.underlying5
  a5 := Try.isAgg5
  z5 := Try.sizeOf5
  v5 := Try.zeroValue5
  t9 := Try.underlying9
  a9 := Try.isAgg9
  z9 := Try.sizeOf9
  v9 := Try.zeroValue9
  t22 := Try.underlying28
  a22 := Try.isAgg28
  z22 := Try.sizeOf28
  v22 := Try.zeroValue28
  t25 := Try.underlying109
  a25 := Try.isAgg109
  z25 := Try.sizeOf109
  v25 := Try.zeroValue109
  t39 := Try.underlying119
  a39 := Try.isAgg119
  z39 := Try.sizeOf119
  v39 := Try.zeroValue119
  t45 := Try.underlying125
  a45 := Try.isAgg125
  z45 := Try.sizeOf125
  v45 := Try.zeroValue125
  t46 := Try.underlying126
  a46 := Try.isAgg126
  z46 := Try.sizeOf126
  v46 := Try.zeroValue126
  t50 := Try.underlying97
  a50 := Try.isAgg97
  z50 := Try.sizeOf97
  v50 := Try.zeroValue97
  t53 := Try.underlying132
  a53 := Try.isAgg132
  z53 := Try.sizeOf132
  v53 := Try.zeroValue132
  t55 := Try.underlying134
  a55 := Try.isAgg134
  z55 := Try.sizeOf134
  v55 := Try.zeroValue134
  t66 := Try.underlying136
  a66 := Try.isAgg136
  z66 := Try.sizeOf136
  v66 := Try.zeroValue136
  t70 := Try.underlying140
  a70 := Try.isAgg140
  z70 := Try.sizeOf140
  v70 := Try.zeroValue140
  t76 := Try.underlying152
  a76 := Try.isAgg152
  z76 := Try.sizeOf152
  v76 := Try.zeroValue152
  t77 := Try.underlying153
  a77 := Try.isAgg153
  z77 := Try.sizeOf153
  v77 := Try.zeroValue153 }
end Go.Proofs

/- The small functions of chapter 9: whether a text may be a name. -/
namespace Go.Proofs.Ytaophafailmhjaa.NM
open Go.RowKit
set_option linter.unusedVariables false

theorem ret_bool {a b : Bool} (h : a = b) : Ending.returned (.bool a) = .returned (.bool b) := by rw [h]

theorem size_len (s : ByteArray) : s.size = s.data.toList.length := by rw [Array.length_toList]; rfl
theorem toList_data (s : ByteArray) : s.toList = s.data.toList := ByteArray.toList_eq s

theorem mayB_eq (s : ByteArray) : mayB s.data.toList = (decide (1 ≤ s.size) && decide (s.size ≤ 12) && (s.toList != [46]) && (s.toList != [46, 46]) && (decide (Lib.indexByte s.data.toList 0 < 0) && decide (Lib.indexByte s.data.toList 47 < 0))) := by
  rw [toList_data, size_len]
  unfold mayB
  congr 1
  rw [Bool.eq_iff_iff]
  simp only [okB_iff, Bool.and_eq_true, decide_eq_true_eq, indexByte_neg]
  constructor
  · intro h
    exact ⟨fun hm => (h 0 hm).1 rfl, fun hm => (h 47 hm).2 rfl⟩
  · rintro ⟨h1, h2⟩ x hx
    refine ⟨?_, ?_⟩
    · rintro rfl; exact h1 hx
    · rintro rfl; exact h2 hx

/-- The tests ahead of the look at each byte. -/
theorem no_len (s : ByteArray) (h : ¬ (1 ≤ s.size ∧ s.size ≤ 12)) : mayB s.data.toList = false := by
  rw [mayB_eq]
  by_cases h1 : 1 ≤ s.size
  · have h2 : ¬ s.size ≤ 12 := fun x => h ⟨h1, x⟩
    simp [h2]
  · simp [h1]
theorem no_dot (s : ByteArray) (h : s.toList = [46] ∨ s.toList = [46, 46]) : mayB s.data.toList = false := by
  rw [mayB_eq]
  rcases h with h | h <;> simp [h]
theorem dot_cases (s : ByteArray) : (s.toList = [46] ∧ (s.toList == [46, 46]) = false) ∨ (s.toList = [46, 46] ∧ (s.toList == [46]) = false) ∨ ((s.toList == [46]) = false ∧ (s.toList == [46, 46]) = false) := by
  by_cases h1 : s.toList = [46]
  · left; simp [h1]
  · by_cases h2 : s.toList = [46, 46]
    · right; left; simp [h2]
    · right; right; simp [h1, h2]
theorem yes_eq (s : ByteArray) (h1 : 1 ≤ s.size) (h2 : s.size ≤ 12) (h3 : (s.toList == [46]) = false) (h4 : (s.toList == [46, 46]) = false) :
    mayB s.data.toList = okB s.data.toList := by
  rw [beq_eq_false_iff_ne, toList_data] at h3 h4
  rw [size_len] at h1 h2
  unfold mayB
  generalize s.data.toList = l at *
  simp [h1, h2, h3, h4]
theorem yes_index (s : ByteArray) (h1 : 1 ≤ s.size) (h2 : s.size ≤ 12) (h3 : (s.toList == [46]) = false) (h4 : (s.toList == [46, 46]) = false) :
    mayB s.data.toList = (decide (Lib.indexByte s.data.toList 0 < 0) && decide (Lib.indexByte s.data.toList 47 < 0)) := by
  rw [beq_eq_false_iff_ne] at h3 h4
  rw [mayB_eq]
  simp [h1, h2, h3, h4]

set_option maxHeartbeats 1000000 in
theorem may_any (s : ByteArray) (w : World) : Calls Try.prog 70 #[.string s] w fun e w' => e = .returned (.bool (mayB s.data.toList)) ∧ w = w' := by
  by_cases hl : 1 ≤ s.size ∧ s.size ≤ 12
  · obtain ⟨h1, h2⟩ := hl
    rcases dot_cases s with ⟨h3, h4⟩ | ⟨h3, h4⟩ | ⟨h3, h4⟩
    · rw [no_dot s (.inl h3)]
      have h3' : (s.toList == [46]) = true := by simp [h3]
      clear h3
      go_enter Try.func70, Try.ntmps70
      go_wp2
      go_ret
      exact ⟨rfl, rfl⟩
    · rw [no_dot s (.inr h3)]
      have h3' : (s.toList == [46, 46]) = true := by simp [h3]
      clear h3
      go_enter Try.func70, Try.ntmps70
      go_wp2
      go_ret
      exact ⟨rfl, rfl⟩
    · rw [yes_index s h1 h2 h3 h4]
      go_enter Try.func70, Try.ntmps70
      go_wp2_with (first
        | (go_at_call 77; refine (Try.strings_IndexByte _ _ _).mono ?_; rintro e w' ⟨rfl, rfl⟩))
      all_goals
        go_ret
        refine ⟨ret_bool ?_, rfl⟩
        have : Lib.indexByte s.data.toList 0 < 0 ∨ 0 ≤ Lib.indexByte s.data.toList 0 := by omega
        simp <;> omega
  · rw [no_len s hl]
    by_cases h1 : 1 ≤ s.size
    · have h2 : 12 < s.size := by omega
      clear hl
      go_enter Try.func70, Try.ntmps70
      go_wp2
      go_ret
      exact ⟨rfl, rfl⟩
    · clear hl
      go_enter Try.func70, Try.ntmps70
      go_wp2
      go_ret
      exact ⟨rfl, rfl⟩

theorem take_snoc (s : ByteArray) (k : Nat) (h : k < s.size) : s.data.toList.take (k + 1) = s.data.toList.take k ++ [s[k]] := by
  rw [List.take_succ_eq_append_getElem (by simpa using h)]; rfl
theorem mem_at (s : ByteArray) (k : Nat) (h : k < s.size) : s[k] ∈ s.data.toList := by
  have : s[k] = s.data.toList[k]'(by simpa using h) := rfl
  rw [this]; exact List.getElem_mem _
theorem byte_eq (c : UInt8) (n : Nat) (hn : n < 256) : ((c.toNat : Int) = (n : Int)) ↔ c = n.toUInt8 := by
  constructor
  · intro h
    have : c.toNat = n := by omega
    rw [← this]; simp
  · rintro rfl
    simp; omega

end Go.Proofs.Ytaophafailmhjaa.NM

/- What Split's loop has still to give: the plain law of its rounds. -/
namespace Go.Proofs.Ytaophafailmhjaa.NM

/-- What comes of the names so far and of the rest of the path. -/
def contR (ls : List Bs) (r : Bs) : Option (List Bs) :=
  match r with
  | [] => if ls = [] then none else some ls
  | c :: q => if c = 47 && (cuts q).all mayB && decide (ls.length + (cuts q).length ≤ 8) then some (ls ++ cuts q) else none

theorem contR_cons (ls : List Bs) (q : Bs) : contR ls (47 :: q) = if (cuts q).all mayB && decide (ls.length + (cuts q).length ≤ 8) then some (ls ++ cuts q) else none := by
  simp [contR]
theorem contR_nil (ls : List Bs) : contR ls [] = if ls = [] then none else some ls := rfl
theorem contR_start (s : Bs) (h : s ≠ [47]) : contR [] s = splitB s := by
  unfold contR splitB
  rw [if_neg h]
  cases s with
  | nil => rfl
  | cons c q => simp
theorem contR_other {ls : List Bs} {c : UInt8} {q : Bs} (h : c ≠ 47) : contR ls (c :: q) = none := by simp [contR, h]
theorem contR_full {ls : List Bs} {c : UInt8} {q : Bs} (h : ls.length = 8) : contR ls (c :: q) = none := by
  have := cuts_ne q
  have hl : 1 ≤ (cuts q).length := by
    cases e : cuts q with
    | nil => exact absurd e this
    | cons a b => simp
  unfold contR
  simp [h]; omega
/-- The piece ends at a stroke. -/
theorem contR_stroke {ls : List Bs} {p q : Bs} (h : (47 : UInt8) ∉ p) : contR ls (47 :: (p ++ 47 :: q)) = if mayB p then contR (ls ++ [p]) (47 :: q) else none := by
  rw [contR_cons, contR_cons, cuts_app p h]
  by_cases hm : mayB p = true
  · simp only [hm, if_true, List.all_cons, Bool.true_and, List.length_cons, List.length_append, List.length_nil, List.append_assoc, List.cons_append, List.nil_append]
    have : (ls.length + ((cuts q).length + 1) ≤ 8) ↔ (ls.length + (0 + 1) + (cuts q).length ≤ 8) := by omega
    simp only [this]
  · simp [hm]
theorem contR_end {ls : List Bs} {p : Bs} (h : (47 : UInt8) ∉ p) (h8 : ls.length < 8) : contR ls (47 :: p) = if mayB p then contR (ls ++ [p]) [] else none := by
  rw [contR_cons, contR_nil, cuts_end p h]
  by_cases hm : mayB p = true
  · have : ls.length + 1 ≤ 8 := by omega
    simp [hm, this]
  · simp [hm]
end Go.Proofs.Ytaophafailmhjaa.NM

/- The walk of name.Split: it answers a path's names. -/
namespace Go.Proofs.Ytaophafailmhjaa.NM
open Go.RowKit
set_option linter.unusedVariables false

abbrev mk (l : Bs) : ByteArray := ⟨l.toArray⟩
theorem el24 : El Try.prog 99 9 (.string ByteArray.empty) 1 16 := El.mk Try.underlying99 (by kernel_rfl) rfl (by decide)

/-- A slice of texts that lies in memory. -/
def IsStrs (w : World) (v : Value) (l : List Bs) : Prop := ∃ a c, v = .slice a l.length c ∧ l.length ≤ c ∧ RowAt w w.heap.size a l.length (fun i => .string (mk (l.getD i [])))

/-- What Split answers. -/
def SplitPost (w : World) (o : Option (List Bs)) (e : Ending) (w' : World) : Prop :=
  Below w.heap.size w w' ∧ match o with
  | none => e = .returned (.tuple #[.slice none 0 0, .int .i64 12])
  | some l => ∃ v, e = .returned (.tuple #[v, .int .i64 0]) ∧ IsStrs w' v l

theorem mk_data (s : ByteArray) : mk s.data.toList = s := rfl
theorem data_mk (l : Bs) : (mk l).data.toList = l := rfl
theorem extract_take (s : ByteArray) (k : Nat) : s.extract 0 k = mk (s.data.toList.take k) := by
  have h := Lib.extract_data s 0 k
  rw [List.drop_zero, Nat.sub_zero] at h
  rw [← mk_data (s.extract 0 k), h]
theorem rowAt_ownc {w : World} {base : Nat} {e : TypeId} {v : Value} {n : Nat} {xs : List Value} (h : w.ownsRow base e 1 v n xs) :
    ∃ a c, v = .slice a n c ∧ RowAt w w.heap.size a n (fun i => xs.getD i undef) ∧ xs.length = n ∧ n ≤ c := by
  have hl : xs.length = n := by simpa using h.1
  rcases h.2 with ⟨rfl, rfl⟩ | ⟨g, cap, cur, rfl, hbg, hg, hnc, hcm, hcs, htake⟩
  · exact ⟨none, 0, rfl, .inl rfl, hl, Nat.le_refl _⟩
  · refine ⟨_, _, rfl, .inr ⟨g, 0, rfl, (Array.getElem?_eq_some_iff.1 hg).1, fun i hi => ?_⟩, hl, hnc⟩
    have := h.cells (g := g) rfl i (xs.getD i undef) (by rw [List.getD_eq_getElem?_getD, List.getElem?_eq_getElem (by omega)]; rfl)
    rwa [add_none] at this

theorem isStrs_own {w : World} {base : Nat} {v : Value} {ls : List Bs} (h : w.ownsRow base 9 1 v ls.length (ls.map (fun l => Value.string (mk l)))) : IsStrs w v ls := by
  obtain ⟨a, c, rfl, hr, hl, hc⟩ := rowAt_ownc h
  refine ⟨a, c, rfl, hc, ?_⟩
  rcases hr with h0 | ⟨b, off, e1, e2, e3⟩
  · exact .inl h0
  · refine .inr ⟨b, off, e1, e2, fun i hi => ?_⟩
    rw [e3 i hi]
    simp only [List.getD_eq_getElem?_getD, List.getElem?_map, List.getElem?_eq_getElem hi]
    rfl

theorem rest_split {r1 : ByteArray} {k : Nat} (hk : k < r1.size) (hc : r1[k] = 47) : r1.data.toList = r1.data.toList.take k ++ 47 :: r1.data.toList.drop (k + 1) := by
  have h : k < r1.data.toList.length := by rw [← size_len]; exact hk
  have e : r1.data.toList.drop k = r1.data.toList[k] :: r1.data.toList.drop (k + 1) := List.drop_eq_getElem_cons h
  have e2 : r1.data.toList[k] = 47 := hc
  rw [e2] at e
  rw [← e, List.take_append_drop]

set_option maxHeartbeats 4000000 in
set_option maxRecDepth 100000 in
theorem split_any (s : ByteArray) (w : World) (hs : s.size ≤ maxLen) : Calls Try.prog 56 #[.string s] w (SplitPost w (splitB s.data.toList)) := by
  unfold maxLen at hs
  by_cases hroot : s.data.toList = [47]
  · have hb : (s.toList == [47]) = true := by rw [toList_data, hroot]; rfl
    have hres : splitB s.data.toList = some [] := by rw [hroot]; rfl
    rw [hres]
    clear hroot hres
    go_enter Try.func56, Try.ntmps56
    go_wp2
    go_step3
    go_wp2
    try rw [Exit.noGoto_ret]
    go_ret2
    exact ⟨Below.refl _ _, _, rfl, none, 0, rfl, Nat.le_refl _, .inl rfl⟩
  · have hb : (s.toList == [47]) = false := by rw [toList_data, beq_eq_false_iff_ne]; exact hroot
    rw [← contR_start _ hroot]
    clear hroot
    go_enter Try.func56, Try.ntmps56
    go_wp2
    go_step3
    go_wp2
    go_step3
    go_wp2
    go_loopg [4, 5] s.size (fun g v5 v6 wr => ∃ (ls : List Bs) (rest : ByteArray), v6 = .string rest ∧ rest.size ≤ g ∧ g ≤ 9223372036854775807 ∧ ls.length ≤ 8 ∧ Hid (contR ls rest.data.toList = contR [] s.data.toList) ∧
      wr.ownsRow w.heap.size 9 1 v5 ls.length (ls.map (fun l => Value.string (mk l))) ∧ Below w.heap.size w wr)
    case atStart => exact ⟨[], s, rfl, Nat.le_refl _, hs, by simp, rfl, World.ownsRow_nil _ _ _ _, Below.refl _ _⟩
    case round =>
      obtain ⟨ls, rest, rfl, hrg, hg63, hl8, HC, hown, hbel⟩ := hrel
      have HI := Lib.hid (isStrs_own hown)
      obtain ⟨va, vc, rfl, hro⟩ := rowAt_own hown
      clear hro
      by_cases h0 : rest.size = 0
      · have hz : ¬ (0 : Int) < (rest.size : Int) := by omega
        have hnil : rest.data.toList = [] := List.eq_nil_of_length_eq_zero (by rw [← size_len]; exact h0)
        have HE := HC.out
        rw [hnil, contR_nil] at HE
        have HE' := Lib.hid HE
        clear HE hnil h0
        by_cases hl0 : ls = []
        · have hlb : ((ls.length : Int) == 0) = true := by rw [hl0]; rfl
          have HL := Lib.hid hl0
          clear hl0
          go_wp2
          try rw [Exit.noGoto_ret]
          go_ret2
          have := HE'.out
          rw [if_pos HL.out] at this
          rw [← this]
          exact ⟨hbel, rfl⟩
        · have hlb : ((ls.length : Int) == 0) = false := by
            rw [beq_eq_false_iff_ne]; intro x
            exact hl0 (List.eq_nil_of_length_eq_zero (by omega))
          have HL : Hid (ls ≠ []) := Lib.hid hl0
          clear hl0
          go_wp2
          try rw [Exit.noGoto_ret]
          go_ret2
          have := HE'.out
          rw [if_neg HL.out] at this
          rw [← this]
          exact ⟨hbel, _, rfl, HI.out⟩
      · have hpos : 0 < rest.size := by omega
        have hcons : rest.data.toList = rest[0] :: rest.data.toList.drop 1 := by
          rw [← List.drop_zero (l := rest.data.toList), List.drop_eq_getElem_cons (by simpa using hpos)]; rfl
        by_cases hc : rest[0] = 47
        · by_cases h8 : ls.length = 8
          · have hcb : ((rest[0].toNat : Int) != 47) = false := by rw [hc]; rfl
            have h8b : ((ls.length : Int) == 8) = true := by rw [h8]; rfl
            have HN : Hid (contR [] s.data.toList = none) := by
              have := HC.out
              rw [hcons, contR_full h8] at this
              exact this.symm
            clear hc h8 hcons
            go_wp2
            try rw [Exit.noGoto_ret]
            go_ret2
            rw [HN.out]
            exact ⟨hbel, rfl⟩
          · have hcb : ((rest[0].toNat : Int) != 47) = false := by rw [hc]; rfl
            have HC0 : Hid (rest[0] = 47) := Lib.hid hc
            have h8b : ((ls.length : Int) == 8) = false := by rw [beq_eq_false_iff_ne]; omega
            have hl7 : ls.length < 8 := by omega
            have HCN := Lib.hid hcons
            clear hc hcons
            go_wp2
            obtain ⟨r1, hr1⟩ : ∃ r1, rest.extract 1 rest.size = r1 := ⟨_, rfl⟩
            have hr1d : rest.data.toList = 47 :: r1.data.toList := by
              have e := Lib.extract_to_end rest 1
              rw [hr1] at e
              rw [HCN.out, ← e, HC0.out]
            have hr1s : rest.size - 1 = r1.size := by rw [← hr1, ByteArray.size_extract]; omega
            rw [hr1, hr1s]
            have HR := Lib.hid hr1d
            have hlt1 : r1.size < rest.size := by omega
            clear hr1 hr1d hr1s
            obtain ⟨wo, rfl⟩ : ∃ wo : World, wo = wr := ⟨_, rfl⟩
            obtain ⟨go, rfl⟩ : ∃ go : Nat, go = gk := ⟨_, rfl⟩
            go_loopg [4, 5, 25] r1.size (fun g v4 v5 v wx => ∃ k : Nat, v4 = .slice va ls.length vc ∧ v5 = .string r1 ∧ v = .int .i64 k ∧ k ≤ r1.size ∧ r1.size ≤ k + g ∧ Hid ((47 : UInt8) ∉ r1.data.toList.take k) ∧ wx = wo)
            case atStart => exact ⟨0, rfl, rfl, rfl, by omega, by omega, by simp [Hid], rfl⟩
            case round =>
              obtain ⟨k, rfl, rfl, rfl, hkl, hkg, HN, rfl⟩ := hrel
              by_cases hlt : k < r1.size
              · by_cases hck : r1[k] = 47
                · -- a stroke: the name is r1[:k]
                  have hcb2 : ((r1[k].toNat : Int) != 47) = false := by rw [hck]; rfl
                  have HCK : Hid (contR [] s.data.toList = if mayB (r1.data.toList.take k) then contR (ls ++ [r1.data.toList.take k]) (47 :: r1.data.toList.drop (k + 1)) else none) := by
                    have := HC.out
                    rw [HR.out, rest_split hlt hck, contR_stroke HN.out] at this
                    exact this.symm
                  have HDK : Hid (r1.data.toList.drop k = 47 :: r1.data.toList.drop (k + 1)) := by
                    have e := List.drop_eq_getElem_cons (l := r1.data.toList) (i := k) (by rw [← size_len]; exact hlt)
                    have e2 : r1.data.toList[k]'(by rw [← size_len]; exact hlt) = 47 := hck
                    rw [e2] at e
                    exact e
                  clear hck
                  cases hm : mayB (r1.data.toList.take k) with
                  | false =>
                    have HM := Lib.hid hm
                    go_wp2_with (first
                      | (go_at_call 70; refine (may_any _ _).mono ?_; rintro e w' ⟨rfl, rfl⟩))
                    try rw [Exit.noGoto_ret]
                    go_ret2
                    rw [HCK.out, HM.out]
                    exact ⟨hbel, rfl⟩
                  | true =>
                    have HM := Lib.hid hm
                    have hs0 := hbel.size
                    go_wp2_with (first
                      | (go_at_call 70; refine (may_any _ _).mono ?_; rintro e w' ⟨rfl, rfl⟩)
                      | (at_builtin; refine wpList_app1 rfl (.tmp 37) (.tmp 41) _ rfl w.heap.size el24 _ _ _ rfl hown _ _ rfl rfl (one1 rfl) (by unfold maxLen; omega) (by omega) hs0 ?_
                         intro v1 w1 hown1 hg1
                         have hbel1 := Below.of_grown hown hg1 (Nat.le_refl _) hs0 hbel))
                    have hsz : (r1.extract k r1.size).size = r1.size - k := by rw [ByteArray.size_extract]; omega
                    go_roundg (r1.size - k)
                    case measure => omega
                    case rel =>
                      refine ⟨ls ++ [r1.data.toList.take k], r1.extract k r1.size, rfl, by rw [hsz]; omega, by omega, by simp; omega, ?_, ?_, hbel1⟩
                      · show _ = _
                        rw [HCK.out, HM.out, Lib.extract_to_end, HDK.out]; rfl
                      · simpa [extract_take] using hown1
                · have hcb2 : ((r1[k].toNat : Int) != 47) = true := by
                    rw [bne_iff_ne]; intro x; exact hck ((byte_eq _ 47 (by omega)).1 x)
                  have HN2 : Hid ((47 : UInt8) ∉ r1.data.toList.take (k + 1)) := by
                    rw [take_snoc r1 k hlt]
                    intro hm
                    rcases List.mem_append.1 hm with hm | hm
                    · exact HN.out hm
                    · simp only [List.mem_singleton] at hm; exact hck hm.symm
                  clear hck
                  go_wp2
                  go_roundg (r1.size - (k + 1))
                  case measure => omega
                  case rel => exact ⟨k + 1, rfl, rfl, by go_num, by omega, by omega, HN2, rfl⟩
              · have HNA : Hid ((47 : UInt8) ∉ r1.data.toList) := by
                  have := HN.out
                  rw [List.take_of_length_le (by rw [← size_len]; omega)] at this
                  exact this
                have HCK : Hid (contR [] s.data.toList = if mayB r1.data.toList then contR (ls ++ [r1.data.toList]) [] else none) := by
                  have := HC.out
                  rw [HR.out, contR_end HNA.out hl7] at this
                  exact this.symm
                cases hm : mayB r1.data.toList with
                | false =>
                  have HM := Lib.hid hm
                  go_wp2_with (first
                    | (go_at_call 70; refine (may_any _ _).mono ?_; rintro e w' ⟨rfl, rfl⟩))
                  try rw [Exit.noGoto_ret]
                  go_ret2
                  rw [HCK.out, HM.out]
                  exact ⟨hbel, rfl⟩
                | true =>
                  have HM := Lib.hid hm
                  have hs0 := hbel.size
                  go_wp2_with (first
                    | (go_at_call 70; refine (may_any _ _).mono ?_; rintro e w' ⟨rfl, rfl⟩)
                    | (at_builtin; refine wpList_app1 rfl (.tmp 50) (.tmp 52) _ rfl w.heap.size el24 _ _ _ rfl hown _ _ rfl rfl (one1 rfl) (by unfold maxLen; omega) (by omega) hs0 ?_
                       intro v1 w1 hown1 hg1
                       have hbel1 := Below.of_grown hown hg1 (Nat.le_refl _) hs0 hbel))
                  go_roundg 0
                  case measure => omega
                  case rel =>
                    refine ⟨ls ++ [r1.data.toList], mk [], rfl, by exact Nat.le_refl _, by omega, by simp; omega, ?_, ?_, hbel1⟩
                    · show _ = _
                      rw [HCK.out, HM.out]; rfl
                    · simpa using hown1
        · have hcb : ((rest[0].toNat : Int) != 47) = true := by
            rw [bne_iff_ne]; intro x; exact hc ((byte_eq _ 47 (by omega)).1 x)
          have HN : Hid (contR [] s.data.toList = none) := by
            have := HC.out
            rw [hcons, contR_other hc] at this
            exact this.symm
          clear hc hcons
          go_wp2
          try rw [Exit.noGoto_ret]
          go_ret2
          rw [HN.out]
          exact ⟨hbel, rfl⟩
end Go.Proofs.Ytaophafailmhjaa.NM

/- The walks of name.Within and of Texts. -/
namespace Go.Proofs.Ytaophafailmhjaa.NM
open Go.RowKit
set_option linter.unusedVariables false

theorem IsStrs.below {w w' : World} {v : Value} {l : List Bs} (h : IsStrs w v l) (hb : Below w.heap.size w w') : IsStrs w' v l := by
  obtain ⟨a, c, e, hcap, hr⟩ := h
  refine ⟨a, c, e, hcap, ?_⟩
  have := hr.below hb
  rcases this with h0 | ⟨b, off, e1, e2, e3⟩
  · exact .inl h0
  · exact .inr ⟨b, off, e1, Nat.lt_of_lt_of_le e2 hb.size, e3⟩

theorem prefix_iff {k l : List Bs} (hl : k.length ≤ l.length) : k.isPrefixOf l = true ↔ ∀ i, i < k.length → k.getD i [] = l.getD i [] := by
  rw [List.isPrefixOf_iff_prefix]
  constructor
  · rintro ⟨t, rfl⟩ i hi
    simp only [List.getD_eq_getElem?_getD]
    rw [List.getElem?_append_left hi]
  · intro h
    refine ⟨l.drop k.length, ?_⟩
    refine List.ext_getElem? fun i => ?_
    by_cases hi : i < k.length
    · rw [List.getElem?_append_left hi]
      have := h i hi
      simp only [List.getD_eq_getElem?_getD, List.getElem?_eq_getElem hi, List.getElem?_eq_getElem (Nat.lt_of_lt_of_le hi hl)] at this
      rw [List.getElem?_eq_getElem hi, List.getElem?_eq_getElem (Nat.lt_of_lt_of_le hi hl)]
      simpa using this
    · rw [List.getElem?_append_right (by omega), List.getElem?_drop]
      congr 1; omega

/-- The first n elements of two lists of texts are the same. -/
def sameTo (k l : List Bs) (n : Nat) : Prop := ∀ i, i < n → k.getD i [] = l.getD i []
theorem str_ne {x y : Bs} : ((mk x).toList == (mk y).toList) = decide (x = y) := by
  rw [toList_data, toList_data, data_mk, data_mk]
  by_cases h : x = y <;> simp [h]

set_option maxHeartbeats 4000000 in
set_option maxRecDepth 100000 in
theorem within_any (a b : ByteArray) (w : World) (ha : a.size ≤ maxLen) (hb : b.size ≤ maxLen) :
    Calls Try.prog 60 #[.string a, .string b] w fun e w' => e = .returned (.bool (withinB a.data.toList b.data.toList)) ∧ Below w.heap.size w w' := by
  cases hsa : splitB a.data.toList with
  | none =>
    have hres : withinB a.data.toList b.data.toList = false := by simp [withinB, hsa]
    rw [hres]
    go_enter Try.func60, Try.ntmps60
    go_wp2_with fail
    refine (split_any a w ha).mono ?_
    rintro e w1 ⟨hb1, he⟩
    rw [hsa] at he
    subst he
    have HS := Lib.hid hsa
    clear hres hsa
    go_wp2_with fail
    refine (split_any b _ hb).mono ?_
    rintro e w2 ⟨hb2, he⟩
    have hbel : Below w.heap.size w w2 := hb1.trans (hb2.mono hb1.size)
    cases hsb : splitB b.data.toList with
    | none =>
      rw [hsb] at he; subst he
      clear hsb
      go_wp2
      go_ret
      exact ⟨rfl, hbel⟩
    | some k =>
      rw [hsb] at he
      obtain ⟨v, rfl, hv⟩ := he
      clear hsb
      go_wp2
      go_ret
      exact ⟨rfl, hbel⟩
  | some l =>
    have HRES : Hid (withinB a.data.toList b.data.toList = match splitB b.data.toList with | some k => k.isPrefixOf l | none => false) := by
      show _ = _
      unfold withinB
      rw [hsa]
      cases splitB b.data.toList <;> rfl
    go_enter Try.func60, Try.ntmps60
    go_wp2_with fail
    refine (split_any a w ha).mono ?_
    rintro e w1 ⟨hb1, he⟩
    rw [hsa] at he
    obtain ⟨v1, rfl, hv1⟩ := he
    have h8 := (split_some hsa).2.1
    clear hsa
    go_wp2_with fail
    refine (split_any b _ hb).mono ?_
    rintro e w2 ⟨hb2, he⟩
    have hbel : Below w.heap.size w w2 := hb1.trans (hb2.mono hb1.size)
    cases hsb : splitB b.data.toList with
    | none =>
      rw [hsb] at he; subst he
      have HB := Lib.hid hsb
      clear hsb
      go_wp2
      go_ret
      rw [HRES.out, HB.out]
      exact ⟨rfl, hbel⟩
    | some k =>
      rw [hsb] at he
      obtain ⟨v2, rfl, hv2⟩ := he
      have h8k := (split_some hsb).2.1
      have HB := Lib.hid hsb
      clear hsb
      obtain ⟨a1, c1, rfl, hcap1, hr1⟩ := hv1.below hb2
      obtain ⟨a2, c2, rfl, hcap2, hr2⟩ := hv2
      by_cases hlen : l.length < k.length
      · have hpf : k.isPrefixOf l = false := by
          rw [← Bool.not_eq_true, List.isPrefixOf_iff_prefix]
          intro h
          have := h.length_le; omega
        have HP := Lib.hid hpf
        clear hpf hr1 hr2
        go_wp2
        go_ret
        rw [HRES.out, HB.out]
        simp only [HP.out]
        exact ⟨rfl, hbel⟩
      · have hle : k.length ≤ l.length := by omega
        by_cases hk0 : k.length = 0
        · have HP : Hid (k.isPrefixOf l = true) := by
            have : k = [] := List.eq_nil_of_length_eq_zero hk0
            subst this; rfl
          have hz : ¬ (0 : Int) < (k.length : Int) := by omega
          clear hr1 hr2 hk0
          go_wp2
          refine wp_loop_rounds 1 ?_
          rw [rounds_succ]
          go_wp2
          go_ret
          rw [HRES.out, HB.out]
          simp only [HP.out]
          exact ⟨rfl, hbel⟩
        · rcases hr1 with h0 | ⟨x1, o1, rfl, hx1, hc1⟩
          · exact absurd h0 (by omega)
          · rcases hr2 with h0 | ⟨x2, o2, rfl, hx2, hc2⟩
            · exact absurd h0 (by omega)
            · have H1 := Lib.hid hc1
              have H2 := Lib.hid hc2
              clear hc1 hc2
              go_wp2
              go_loop [36] (fun i => ∃ j : Nat, j ≤ k.length ∧ i = .int .i64 j ∧ Hid (sameTo k l j)) (fun i => k.length - (intOf i).toNat)
              case atStart => exact ⟨0, Nat.zero_le _, rfl, fun i hi => absurd hi (by omega)⟩
              case round =>
                obtain ⟨j, hj, rfl, HS⟩ := hrel
                by_cases hlt : j < k.length
                · have hlt2 : j < l.length := by omega
                  obtain ⟨y, hy, hcy⟩ : ∃ y, k.getD j [] = y ∧ w2.cell? ⟨x2, o2 + j, none⟩ = some (.string (mk y)) := ⟨_, rfl, H2.out j hlt⟩
                  obtain ⟨x, hx, hcx⟩ : ∃ x, l.getD j [] = x ∧ w2.cell? ⟨x1, o1 + j, none⟩ = some (.string (mk x)) := ⟨_, rfl, H1.out j hlt2⟩
                  have HY := Lib.hid hy
                  have HX := Lib.hid hx
                  clear hy hx
                  by_cases hxy : x = y
                  · have hne : ((mk x).toList == (mk y).toList) = true := by rw [str_ne]; simp [hxy]
                    have HXY := Lib.hid hxy
                    clear hxy
                    generalize mk x = X at *
                    generalize mk y = Y at *
                    go_wp2
                    go_round
                    case rel =>
                      refine ⟨j + 1, by omega, by go_num, fun i hi => ?_⟩
                      by_cases e : i = j
                      · subst e; rw [HY.out, HX.out, HXY.out]
                      · exact HS.out i (by omega)
                    case measure => simp [intOf]; omega
                  · have hne : ((mk x).toList == (mk y).toList) = false := by rw [str_ne]; simp [hxy]
                    have HP : Hid (k.isPrefixOf l = false) := by
                      show _ = _
                      rw [← Bool.not_eq_true, prefix_iff hle]
                      intro h
                      have := h j hlt
                      rw [HY.out, HX.out] at this
                      exact hxy this.symm
                    clear hxy
                    generalize mk x = X at *
                    generalize mk y = Y at *
                    go_wp2
                    go_ret
                    rw [HRES.out, HB.out]
                    simp only [HP.out]
                    exact ⟨rfl, hbel⟩
                · have HP : Hid (k.isPrefixOf l = true) := by
                    show _ = _
                    rw [prefix_iff hle]
                    intro i hi
                    exact HS.out i (by omega)
                  go_wp2
                  go_ret
                  rw [HRES.out, HB.out]
                  simp only [HP.out]
                  exact ⟨rfl, hbel⟩
end Go.Proofs.Ytaophafailmhjaa.NM

/- The walks of Texts and of awake. -/
namespace Go.Proofs.Ytaophafailmhjaa.NM
open Go.RowKit
set_option linter.unusedVariables false

theorem same_iff {xs ys : List Bs} (h : xs.length = ys.length) : xs = ys ↔ sameTo xs ys xs.length := by
  constructor
  · rintro rfl; exact fun _ _ => rfl
  · intro hs
    refine List.ext_getElem? fun i => ?_
    by_cases hi : i < xs.length
    · have := hs i hi
      simp only [List.getD_eq_getElem?_getD, List.getElem?_eq_getElem hi, List.getElem?_eq_getElem (h ▸ hi)] at this
      rw [List.getElem?_eq_getElem hi, List.getElem?_eq_getElem (h ▸ hi)]
      simpa using this
    · rw [List.getElem?_eq_none (by omega), List.getElem?_eq_none (by omega)]

theorem cell_new (w : World) (cs : Array Value) (t : TypeId) (i : Nat) : (w.alloc (.cells cs t)).cell? ⟨w.heap.size, i, none⟩ = cs[i]? := by
  unfold World.cell?
  rw [heap_alloc_new]
  rfl
theorem below_drewN {B : Nat} {a w : World} (h : Below B a w) (n : Nat) : Below B a (w.drewN n) := ⟨h.os, h.tape, h.output, h.size, h.block⟩
end Go.Proofs.Ytaophafailmhjaa.NM

/- The walk of the reference's Split: it answers a path's names. -/
namespace Go.Proofs.Ytaophafailmhjaa.NM
open Go.RowKit
set_option linter.unusedVariables false

/-- What stands at the head of a round. -/
def RMode (s : ByteArray) (ls : List Bs) (a i : Nat) : Prop :=
  (1 ≤ a ∧ a ≤ i ∧ i ≤ s.size ∧ (47 : UInt8) ∉ (s.data.toList.drop a).take (i - a) ∧ contR ls (47 :: s.data.toList.drop a) = contR [] s.data.toList) ∨
  (i = s.size + 1 ∧ contR [] s.data.toList = some ls)

theorem extract_mid (s : ByteArray) (a k : Nat) : s.extract a k = mk ((s.data.toList.drop a).take (k - a)) := by
  rw [← mk_data (s.extract a k), Lib.extract_data]

theorem mid_step {s : ByteArray} {a i : Nat} (h1 : a ≤ i) (h2 : i < s.size) : (s.data.toList.drop a).take (i + 1 - a) = (s.data.toList.drop a).take (i - a) ++ [s[i]] := by
  have hl : i < s.data.toList.length := by rw [← size_len]; exact h2
  have e : i + 1 - a = (i - a) + 1 := by omega
  rw [e, List.take_succ_eq_append_getElem (by rw [List.length_drop]; omega), List.getElem_drop]
  congr 2
  have : a + (i - a) = i := by omega
  simp only [this]
  rfl
theorem mid_stroke {s : ByteArray} {a i : Nat} (h1 : a ≤ i) (h2 : i < s.size) (hc : s[i] = 47) : s.data.toList.drop a = (s.data.toList.drop a).take (i - a) ++ 47 :: s.data.toList.drop (i + 1) := by
  have hl : i < s.data.toList.length := by rw [← size_len]; exact h2
  have e : (s.data.toList.drop a).drop (i - a) = s.data.toList.drop i := by rw [List.drop_drop]; congr 1; omega
  have e2 : s.data.toList.drop i = s.data.toList[i] :: s.data.toList.drop (i + 1) := List.drop_eq_getElem_cons hl
  have e3 : s.data.toList[i] = 47 := hc
  conv => lhs; rw [← List.take_append_drop (i - a) (s.data.toList.drop a)]
  rw [e, e2, e3]

theorem mode_next {s : ByteArray} {ls : List Bs} {a i : Nat} (h1 : 1 ≤ a) (h2 : a ≤ i) (h3 : i < s.size) (h4 : (47 : UInt8) ∉ (s.data.toList.drop a).take (i - a)) (h5 : contR ls (47 :: s.data.toList.drop a) = contR [] s.data.toList)
    (hc : s[i] ≠ 47) : RMode s ls a (i + 1) := by
  refine .inl ⟨h1, by omega, by omega, ?_, h5⟩
  rw [mid_step h2 h3]
  intro hm
  rcases List.mem_append.1 hm with hm | hm
  · exact h4 hm
  · simp only [List.mem_singleton] at hm; exact hc hm.symm
theorem mode_stroke {s : ByteArray} {ls : List Bs} {a i : Nat} (h2 : a ≤ i) (h3 : i < s.size) (h4 : (47 : UInt8) ∉ (s.data.toList.drop a).take (i - a)) (h5 : contR ls (47 :: s.data.toList.drop a) = contR [] s.data.toList)
    (hc : s[i] = 47) : contR [] s.data.toList = if mayB ((s.data.toList.drop a).take (i - a)) then contR (ls ++ [(s.data.toList.drop a).take (i - a)]) (47 :: s.data.toList.drop (i + 1)) else none := by
  rw [← h5]
  conv => lhs; rw [mid_stroke h2 h3 hc]
  rw [contR_stroke h4]
theorem mode_go {s : ByteArray} {ls : List Bs} {i : Nat} {p : Bs} (h3 : i < s.size) (h : contR [] s.data.toList = if mayB p then contR (ls ++ [p]) (47 :: s.data.toList.drop (i + 1)) else none) (hm : mayB p = true) : RMode s (ls ++ [p]) (i + 1) (i + 1) := by
  rw [hm] at h
  refine .inl ⟨by omega, Nat.le_refl _, by omega, by simp, h.symm⟩
theorem mode_last {s : ByteArray} {ls : List Bs} {a : Nat} (h2 : a ≤ s.size) (h4 : (47 : UInt8) ∉ (s.data.toList.drop a).take (s.size - a)) (h5 : contR ls (47 :: s.data.toList.drop a) = contR [] s.data.toList) (h8 : ls.length < 8) :
    contR [] s.data.toList = if mayB ((s.data.toList.drop a).take (s.size - a)) then contR (ls ++ [(s.data.toList.drop a).take (s.size - a)]) [] else none := by
  have e : (s.data.toList.drop a).take (s.size - a) = s.data.toList.drop a := List.take_of_length_le (by rw [List.length_drop, ← size_len]; exact Nat.le_refl _)
  rw [e] at h4 ⊢
  rw [← h5, contR_end h4 h8]
theorem mode_end {s : ByteArray} {ls : List Bs} {p : Bs} (h : contR [] s.data.toList = if mayB p then contR (ls ++ [p]) [] else none) (hm : mayB p = true) : RMode s (ls ++ [p]) (s.size + 1) (s.size + 1) := by
  rw [hm, if_pos rfl, contR_nil, if_neg (by simp)] at h
  exact .inr ⟨rfl, h⟩

end Go.Proofs.Ytaophafailmhjaa.NM

/- The walks of Join and Parent. -/
namespace Go.Proofs.Ytaophafailmhjaa.NM
open Go.RowKit
set_option linter.unusedVariables false

theorem joinTail_eq (r : List Bs) : Lib.joinTail [47] r = tailB r := by
  induction r with
  | nil => rfl
  | cons p ps ih =>
    have : Lib.joinTail [47] (p :: ps) = [47] ++ p ++ Lib.joinTail [47] ps := by simp [Lib.joinTail]
    rw [this, ih]; simp [tailB]
theorem join_eq (l : List Bs) : 47 :: Lib.join l [47] = joinB l := by
  cases l with
  | nil => rfl
  | cons p ps =>
    rw [Lib.join_cons, joinTail_eq]
    simp [joinB, tailB]
theorem tail_len (l : List Bs) (h : ∀ p ∈ l, p.length ≤ 100) : (tailB l).length ≤ 101 * l.length := by
  induction l with
  | nil => simp [tailB]
  | cons p ps ih =>
    have h1 := h p (by simp)
    have h2 := ih (fun q hq => h q (List.mem_cons_of_mem _ hq))
    simp only [tailB, List.length_cons, List.length_append]
    omega
theorem joinB_len (l : List Bs) (h : ∀ p ∈ l, p.length ≤ 100) : (joinB l).length ≤ 101 * l.length + 1 := by
  unfold joinB
  split
  · simp
  · have := tail_len l h; omega

theorem mk_append (a b : Bs) : mk a ++ mk b = mk (a ++ b) := by
  apply Go.WideShapes.bytes_inj
  simp

set_option maxHeartbeats 4000000 in
theorem join_any (A : Option Addr) (l : List Bs) (c top : Nat) (w : World) (hr : RowAt w w.heap.size A l.length (fun i => .string (mk (l.getD i [])))) (hc : l.length ≤ c) (hn : l.length ≤ 100) (hl : ∀ p ∈ l, p.length ≤ 100) :
    Calls Try.prog 76 #[.slice A l.length c] w fun e w' => e = .returned (.string (mk (joinB l))) ∧ Below w.heap.size w w' := by
  rcases hr with h0 | ⟨b, off, rfl, hlt, hcells⟩
  · have e : l = [] := List.eq_nil_of_length_eq_zero h0
    subst e
    go_enter Try.func76, Try.ntmps76
    go_wp2_with fail
    refine (Try.strings_Join_none A c _ _).mono ?_
    rintro e w' ⟨rfl, rfl⟩
    go_wp2
    go_ret
    refine ⟨?_, Below.refl _ _⟩
    exact congrArg (fun b => Ending.returned (.string b)) (mk_append [47] [])
  · have hj := Try.strings_Join b off c (l.map mk) (mk [47]) w (by
        intro j x hx
        rw [List.getElem?_map] at hx
        obtain ⟨y, hy, rfl⟩ := Option.map_eq_some_iff.1 hx
        have hjl : j < l.length := (List.getElem?_eq_some_iff.1 hy).1
        rw [hcells j hjl]; simp only [List.getD_eq_getElem?_getD, hy, Option.getD_some]) hlt (by simp; omega) (by simpa using hc) (by
        have e : (l.map mk).map (·.data.toList) = l := by rw [List.map_map]; exact List.map_id l
        rw [e]
        have h1 := congrArg List.length (join_eq l)
        have h2 := joinB_len l hl
        simp only [List.length_cons] at h1
        show (Lib.join l [47]).length ≤ _
        omega)
    have e : (l.map mk).map (·.data.toList) = l := by rw [List.map_map]; exact List.map_id l
    rw [e, List.length_map] at hj
    have HJ := Lib.hid hj
    have hlen : (Lib.join l [47]).length ≤ 11000 := by
      have h1 := congrArg List.length (join_eq l)
      have h2 := joinB_len l hl
      simp only [List.length_cons] at h1
      omega
    have hje := join_eq l
    obtain ⟨X, hX⟩ : ∃ X, Lib.join l [47] = X := ⟨_, rfl⟩
    have hadd : ∀ W, (Op.stringOp .add ⟨#[47]⟩ (mk X)).run Try.prog W = .ok (.string (⟨#[47]⟩ ++ mk X)) W := fun W => run_string_add_sum W _ _ (by
      have h1 : (mk X).size = X.length := by rw [size_len, data_mk]
      have h2 : (ByteArray.mk #[47]).size = 1 := rfl
      rw [h1, h2, ← hX]; omega)
    rw [hX] at hje
    have HE := Lib.hid hje
    have HX := Lib.hid hX
    clear hj hcells e hlen hje hX
    go_enter Try.func76, Try.ntmps76
    go_wp2_with fail
    have hj := HJ.out
    rw [HX.out] at hj
    refine hj.mono ?_
    clear hj
    rintro e w' ⟨rfl, hb⟩
    go_wp2
    go_ret
    refine ⟨?_, hb⟩
    rw [← HE.out]
    exact congrArg (fun b => Ending.returned (.string b)) (mk_append [47] X)

theorem bt0 {w w1 w2 : World} (h1 : Below w.heap.size w w1) (h2 : Below w1.heap.size w1 w2) : Below w.heap.size w w2 := h1.trans (h2.mono h1.size)
/-- What Parent answers; 'ok' 0, 'arg' 1, 'name' 12. -/
def ParentPost (w : World) (s : Bs) (e : Ending) (w' : World) : Prop :=
  Below w.heap.size w w' ∧ match splitB s with
  | none => e = .returned (.tuple #[.string (mk []), .string (mk []), .int .i64 12])
  | some l => if l = [] then e = .returned (.tuple #[.string (mk []), .string (mk []), .int .i64 1])
    else e = .returned (.tuple #[.string (mk (joinB l.dropLast)), .string (mk (l.getLastD [])), .int .i64 0])

theorem dropLast_getD {l : List Bs} {m : Nat} (h : l.length = m + 1) : ∀ i, i < m → l.dropLast.getD i [] = l.getD i [] := by
  intro i hi
  simp only [List.getD_eq_getElem?_getD]
  rw [List.getElem?_dropLast, if_pos (by omega)]
theorem last_getD {l : List Bs} {m : Nat} (h : l.length = m + 1) : l.getD m [] = l.getLastD [] := by
  rw [List.getLastD_eq_getLast?, List.getLast?_eq_getElem?, List.getD_eq_getElem?_getD]
  have : l.length - 1 = m := by omega
  rw [this]

set_option maxHeartbeats 4000000 in
set_option maxRecDepth 100000 in
theorem parent_any (s : ByteArray) (w : World) (hs : s.size ≤ maxLen) : Calls Try.prog 69 #[.string s] w (ParentPost w s.data.toList) := by
  cases hsp : splitB s.data.toList with
  | none =>
    have HSP := Lib.hid hsp
    go_enter Try.func69, Try.ntmps69
    go_wp2_with fail
    refine (split_any s w hs).mono ?_
    rintro e w1 ⟨hb1, he⟩
    rw [hsp] at he
    subst he
    clear hsp
    go_wp2
    go_ret3
    refine ⟨hb1, ?_⟩
    rw [HSP.out]
    rfl
  | some l =>
    have h8 := (split_some hsp).2.1
    have HM := Lib.hid (split_some hsp).1
    go_enter Try.func69, Try.ntmps69
    go_wp2_with fail
    refine (split_any s w hs).mono ?_
    rintro e w1 ⟨hb1, he⟩
    rw [hsp] at he
    obtain ⟨v, rfl, a, c, rfl, hcap, hr⟩ := he
    have HSP := Lib.hid hsp
    clear hsp
    by_cases h0 : l.length = 0
    · have hzb : ((l.length : Int) == 0) = true := by rw [h0]; rfl
      have HL : Hid (l = []) := List.eq_nil_of_length_eq_zero h0
      clear h0 hr
      go_wp2
      go_ret3
      refine ⟨hb1, ?_⟩
      rw [HSP.out]
      simp only [HL.out, if_true]
      rfl
    · have hzb : ((l.length : Int) == 0) = false := by rw [beq_eq_false_iff_ne]; omega
      rcases hr with h | ⟨x, o, rfl, hx, hc⟩
      · exact absurd h h0
      have HC := Lib.hid hc
      clear hc
      go_wp2
      obtain ⟨m, hm⟩ : ∃ m, l.length = m + 1 := ⟨l.length - 1, by omega⟩
      have hcl := HC.out m (by omega)
      have e1 : (l.length : Int) - 1 = (m : Int) := by omega
      rw [e1]
      have hdl : l.dropLast.length = m := by rw [List.length_dropLast]; omega
      have hm0 : (0 : Int) ≤ (m : Int) := by omega
      have hm1 : (m : Int) < (l.length : Int) := by omega
      have hm2 : (m : Int) ≤ (c : Int) := by omega
      have hmc : m ≤ c := by omega
      have cj : ∀ C, m ≤ C → ∀ W, Below w1.heap.size w1 W → Calls Try.prog 76 #[.slice (some ⟨x, o, none⟩) m C] W fun e w' => e = .returned (.string (mk (joinB l.dropLast))) ∧ Below W.heap.size W w' := by
        intro C hC W hW
        have hrow : RowAt W W.heap.size (some ⟨x, o, none⟩) l.dropLast.length (fun i => .string (mk (l.dropLast.getD i []))) := by
          refine .inr ⟨x, o, rfl, Nat.lt_of_lt_of_le hx hW.size, fun i hi => ?_⟩
          show _ = some (Value.string (mk (l.dropLast.getD i [])))
          rw [dropLast_getD hm i (by omega)]
          exact (hW.cell (p := ⟨x, o + i, none⟩) hx).trans (HC.out i (by omega))
        have := join_any (some ⟨x, o, none⟩) l.dropLast C 0 W hrow (by omega) (by omega) (fun p hp => by
          have := (may_len (HM.out p (List.dropLast_subset l hp))).2; omega)
        rw [hdl] at this
        exact this
      have CJ := Lib.hid cj
      have HD := Lib.hid hm
      clear cj hm e1 hdl
      generalize hlv : l.getD m [] = lv at *
      have HLV := Lib.hid hlv
      clear hlv
      go_region_held3 (fun w' => w'.cell? ⟨x, o + m, none⟩ = some (.string (mk lv)))
        (first
          | go_keep
          | exact (hbj.cell (p := ⟨x, o + m, none⟩) hx).trans hcl)
        (first
          | (go_at_call 76; refine (CJ.out _ (by omega) _ (by first | exact Below.refl _ _ | exact (Below.refl _ _).drew)).mono ?_; rintro e wj ⟨rfl, hbj0⟩; have hbj : Below w1.heap.size w1 wj := by first | exact hbj0 | exact (Below.refl _ _).drew.trans hbj0))
      go_wp2
      go_ret3
      refine ⟨bt0 hb1 hbj, ?_⟩
      rw [HSP.out]
      have hne : ¬ l = [] := by intro e; exact h0 (by rw [e]; rfl)
      simp only [hne, if_false]
      rw [← last_getD HD.out, HLV.out]
      rfl
end Go.Proofs.Ytaophafailmhjaa.NM

/- A tree in memory; package tree: made, walk, Look, place. -/
namespace Go.Proofs.Ytaophafailmhjaa.W
open Go.RowKit
open Go.Proofs.Ytaophafailmhjaa.NM
set_option linter.unusedVariables false
set_option linter.unusedSimpArgs false

/-- What a number names. -/
def thOf (T : PT) (a : Nat) : Th := if a = 1 then rootTh else (tGet T a).getD rootTh
theorem thOf_mem {T : PT} (h : TOk T) {x : Th} (hx : x ∈ T) : thOf T x.ino = x := by
  have := (h.nums x hx).1
  unfold thOf
  rw [if_neg (by omega), get_mem h hx]; rfl
theorem isDir_thOf {T : PT} (a : Nat) (h : tHas T a = true) : tIsDir T a = (thOf T a).isDir := by
  unfold tIsDir thOf
  by_cases e : a = 1
  · subst e; rfl
  · rw [if_neg e]
    have e' : (a == 1) = false := by simpa using e
    rw [e', Bool.false_or]
    unfold tHas at h
    rw [e', Bool.false_or] at h
    obtain ⟨x, hx⟩ := Option.isSome_iff_exists.1 h
    rw [hx]; rfl
def pth (b : Nat) : Value := .pointer (some ⟨b, 0, none⟩)
def φT (T : PT) (f : Nat → Nat) : Int → Option Value := fun a => if 0 ≤ a ∧ tHas T a.toNat = true then some (pth (f a.toNat)) else none
def φK (T : PT) (d : Nat) : List UInt8 → Option Value := fun s => (tKidOf T d s).map (fun x => .int .i64 (x.ino : Int))
def nKids (T : PT) (d : Nat) : Nat := (T.filter (fun x => x.dir == d)).length
def thCells (x : Th) (m : Option Nat) : Array Value := #[.int .i64 (x.dir : Int), .string ⟨x.name.toArray⟩, .bool x.isDir, .map m]
/-- A tree in block t: bm: its things' map; f: where each thing lies; g: where what is in a directory lies. -/
structure TreeOk (w : World) (t : Nat) (S : List Nat) (T : PT) (bm : Nat) (f g : Nat → Nat) : Prop where
  head : w.heap[t]? = some (.cells #[.map (some bm)] 72 (0, 0))
  things : MapF 3 klI okI w bm (φT T f) (T.length + 1)
  each : ∀ a, tHas T a = true → w.heap[f a]? = some (.cells (thCells (thOf T a) (if tIsDir T a then some (g a) else none)) 79 (0, 0))
  ins : ∀ a, tIsDir T a = true → MapF 9 klS okS w (g a) (φK T a) (nKids T a)
  finj : ∀ a b, tHas T a = true → tHas T b = true → f a = f b → a = b
  ginj : ∀ a b, tIsDir T a = true → tIsDir T b = true → g a = g b → a = b
  gm : ∀ a, tIsDir T a = true → g a ≠ bm
  mem : t ∈ S ∧ bm ∈ S ∧ (∀ a, tHas T a = true → f a ∈ S) ∧ ∀ a, tIsDir T a = true → g a ∈ S
  lim : ∀ x ∈ S, x < w.heap.size
  ok : TOk T
def TreeAt (w : World) (t : Nat) (S : List Nat) (T : PT) : Prop := ∃ bm f g, TreeOk w t S T bm f g
theorem TreeOk.keep {w w' : World} {t : Nat} {S U : List Nat} {T : PT} {bm : Nat} {f g : Nat → Nat} (h : TreeOk w t S T bm f g) (hc : Chg U w w') (ha : ∀ x ∈ S, x ∉ U) : TreeOk w' t S T bm f g where
  head := hc.keep h.head (ha _ h.mem.1)
  things := h.things.chg hc (ha _ h.mem.2.1)
  each a ha' := hc.keep (h.each a ha') (ha _ (h.mem.2.2.1 a ha'))
  ins a ha' := (h.ins a ha').chg hc (ha _ (h.mem.2.2.2 a ha'))
  finj := h.finj
  ginj := h.ginj
  gm := h.gm
  mem := h.mem
  lim x hx := Nat.lt_of_lt_of_le (h.lim x hx) hc.size
  ok := h.ok
theorem TreeAt.keep {w w' : World} {t : Nat} {S U : List Nat} {T : PT} (h : TreeAt w t S T) (hc : Chg U w w') (ha : ∀ x ∈ S, x ∉ U) : TreeAt w' t S T := by
  obtain ⟨bm, f, g, h⟩ := h
  exact ⟨bm, f, g, h.keep hc ha⟩
theorem TreeAt.keep0 {w w' : World} {t : Nat} {S : List Nat} {T : PT} (h : TreeAt w t S T) (hc : Chg [] w w') : TreeAt w' t S T := h.keep hc (by simp)
theorem TreeAt.ok {w : World} {t : Nat} {S : List Nat} {T : PT} (h : TreeAt w t S T) : TOk T := by obtain ⟨bm, f, g, h⟩ := h; exact h.ok
theorem TreeAt.lim {w : World} {t : Nat} {S : List Nat} {T : PT} (h : TreeAt w t S T) : ∀ x ∈ S, x < w.heap.size := by obtain ⟨bm, f, g, h⟩ := h; exact h.lim
/-- What doing with a tree leaves. -/
def TDid (w w' : World) (t : Nat) (S : List Nat) (T : PT) : Prop := ∃ S', TreeAt w' t S' T ∧ (∀ x ∈ S', x ∈ S ∨ w.heap.size ≤ x) ∧ Chg S w w'
theorem TDid.same {w w' : World} {t : Nat} {S : List Nat} {T : PT} (h : TreeAt w t S T) (hc : Chg [] w w') : TDid w w' t S T := ⟨S, h.keep0 hc, fun x hx => .inl hx, hc.mono (by simp)⟩
theorem TDid.trans {w w1 w2 : World} {t : Nat} {S : List Nat} {T1 T2 : PT} (h1 : TDid w w1 t S T1) (h2 : ∀ S1, TreeAt w1 t S1 T1 → TDid w1 w2 t S1 T2) : TDid w w2 t S T2 := by
  obtain ⟨S1, a1, a2, a3⟩ := h1
  obtain ⟨S2, b1, b2, b3⟩ := h2 S1 a1
  refine ⟨S2, b1, fun x hx => ?_, a3.trans b3 a2⟩
  rcases b2 x hx with h | h
  · exact a2 x h
  · exact .inr (Nat.le_trans a3.size h)

theorem zeroPT (w : World) : (zeroValue 68).run Try.prog w = .ok (.pointer none) w := by kernel_rfl
theorem zeroInt (w : World) : (zeroValue 3).run Try.prog w = .ok (.int .i64 0) w := by kernel_rfl
theorem i64_ok {a : Int} (h1 : -9223372036854775808 ≤ a) (h2 : a ≤ 9223372036854775807) : okI a := by
  unfold okI; exact WalkArith.wf_i64 ⟨h1, h2⟩
theorem φT_has {T : PT} {f : Nat → Nat} {a : Nat} (h : tHas T a = true) : φT T f (a : Int) = some (pth (f a)) := by
  unfold φT; rw [if_pos ⟨by omega, by simpa using h⟩]; rfl
/-- 't.things[a]'. -/
theorem TreeOk.at {w : World} {t : Nat} {S : List Nat} {T : PT} {bm : Nat} {f g : Nat → Nat} (h : TreeOk w t S T bm f g) {a : Nat} (ha : tHas T a = true) :
    (Instr.lookup 70 (.map (some bm)) (.int .i64 (a : Int)) false).run Try.prog w = .ok (.pointer (some ⟨f a, 0, none⟩)) w := by
  have hs := has_small h.ok ha
  have := h.things.look keInt Try.underlying70 zeroPT (x := (a : Int)) (i64_ok (by omega) (by omega))
  rw [φT_has ha] at this
  exact this
/-- 'x.in[s]'. -/
theorem TreeOk.kid {w : World} {t : Nat} {S : List Nat} {T : PT} {bm : Nat} {f g : Nat → Nat} (h : TreeOk w t S T bm f g) {a : Nat} (ha : tIsDir T a = true) (s : List UInt8) (hs : s.length ≤ maxLen) :
    (Instr.lookup 77 (.map (some (g a))) (.string ⟨s.toArray⟩) true).run Try.prog w = .ok (.tuple #[.int .i64 (tKid T a s : Int), .bool (tKidOf T a s).isSome]) w := by
  have := (h.ins a ha).lookOk keStr Try.underlying77 zeroInt (x := s) hs
  have e1 : (φK T a s).getD (.int .i64 0) = .int .i64 (tKid T a s : Int) := by
    unfold φK tKid
    cases tKidOf T a s <;> rfl
  have e2 : (φK T a s).isSome = (tKidOf T a s).isSome := by
    unfold φK
    cases tKidOf T a s <;> rfl
  rw [e1, e2] at this
  exact this
theorem TreeOk.cells {w : World} {t : Nat} {S : List Nat} {T : PT} {bm : Nat} {f g : Nat → Nat} (h : TreeOk w t S T bm f g) {a : Nat} (ha : tHas T a = true) :
    w.cell? ⟨f a, 0, none⟩ = some (.int .i64 ((thOf T a).dir : Int)) ∧ w.cell? ⟨f a, 1, none⟩ = some (.string ⟨(thOf T a).name.toArray⟩) ∧ w.cell? ⟨f a, 2, none⟩ = some (.bool (tIsDir T a)) ∧ w.cell? ⟨f a, 3, none⟩ = some (.map (if tIsDir T a then some (g a) else none)) :=
  ⟨blk_cell (h.each a ha) 0 _ rfl, blk_cell (h.each a ha) 1 _ rfl, blk_cell (h.each a ha) 2 _ (by rw [isDir_thOf a ha]; rfl), blk_cell (h.each a ha) 3 _ rfl⟩

set_option maxHeartbeats 2000000 in
set_option maxRecDepth 100000 in
theorem tmade_any (t : Nat) (S : List Nat) (T : PT) (w : World) (h : TreeAt w t S T) : Calls Try.prog 53 #[.pointer (some ⟨t, 0, none⟩)] w fun e w' => e = .returned (.bool true) ∧ w = w' := by
  obtain ⟨bm, f, g, H⟩ := h
  have c0 := blk_cell H.head 0 _ rfl
  clear H
  have hq : ∀ w, (binOp .neq 70 (.map (some bm)) (.map none)).run Try.prog w = .ok (.bool true) w := fun w => run_neq_map_nil w 70 3 68 (some bm) Try.underlying70
  go_enter Try.func53, Try.ntmps53
  go_wp2
  go_ret
  exact ⟨rfl, rfl⟩

def WalkPost (w : World) (r : Nat × Int) (e : Ending) (w' : World) : Prop := e = .returned (.tuple #[.int .i64 (r.1 : Int), .int .i64 r.2]) ∧ w = w'
theorem walk_cons {T : PT} {s : List UInt8} {l : List (List UInt8)} {a : Nat} : tWalk T (s :: l) a = if tIsDir T a = false then (0, 10) else if tKid T a s = 0 then (0, 6) else tWalk T l (tKid T a s) := rfl

set_option maxHeartbeats 4000000 in
set_option maxRecDepth 100000 in
theorem twalk_any (t : Nat) (S : List Nat) (T : PT) (v : Value) (l : List (List UInt8)) (w : World) (h : TreeAt w t S T) (hv : IsStrs w v l) (hl : l.length ≤ 1000) (hn : ∀ s ∈ l, s.length ≤ 1000) :
    Calls Try.prog 57 #[.pointer (some ⟨t, 0, none⟩), v] w (WalkPost w (tWalk T l 1)) := by
  obtain ⟨bm, f, g, H⟩ := h
  obtain ⟨va, vc, rfl, hlc, hrow⟩ := hv
  have c0 := blk_cell H.head 0 _ rfl
  have HH := Lib.hid H
  have HR := Lib.hid hrow
  have HN := Lib.hid hn
  clear H hrow hn
  go_enter Try.func57, Try.ntmps57
  go_wp2
  go_loop [6, 14] (fun v6 v14 => ∃ (k a : Nat), v14 = .int .i64 k ∧ v6 = .int .i64 a ∧ k ≤ l.length ∧ a ≤ 128 ∧ Hid (tHas T a = true) ∧ Hid (tWalk T l 1 = tWalk T (l.drop k) a)) (fun _ v14 => l.length - (intOf v14).toNat)
  case atStart => exact ⟨0, 1, rfl, rfl, by omega, by omega, Lib.hid rfl, Lib.hid rfl⟩
  case round =>
    obtain ⟨k, a, rfl, rfl, hk, ha, HA, HW⟩ := hrel
    by_cases hlt : k < l.length
    · obtain ⟨b, off, rfl, hb, hcs⟩ : ∃ b off, va = some ⟨b, off, none⟩ ∧ b < w.heap.size ∧ ∀ i, i < l.length → w.cell? ⟨b, off + i, none⟩ = some (.string (mk (l.getD i []))) := by
        rcases HR.out with h0 | h0
        · omega
        · exact h0
      have ck := hcs k hlt
      have HD : Hid (l.drop k = l.getD k [] :: l.drop (k + 1)) := Lib.hid (by
        rw [List.drop_eq_getElem_cons hlt]
        simp [List.getD_eq_getElem?_getD, List.getElem?_eq_getElem hlt])
      have hsl : (l.getD k []).length ≤ maxLen := by
        have := HN.out (l.getD k []) (by simp [List.getD_eq_getElem?_getD, List.getElem?_eq_getElem hlt])
        unfold maxLen; omega
      generalize hs : l.getD k [] = s at ck hsl HD
      clear hs hcs
      have hlk := HH.out.at HA.out
      obtain ⟨d0, d1, d2, d3⟩ := HH.out.cells HA.out
      have HX : Hid (tWalk T l 1 = if tIsDir T a = false then (0, 10) else if tKid T a s = 0 then (0, 6) else tWalk T (l.drop (k + 1)) (tKid T a s)) := Lib.hid (by rw [HW.out, HD.out, walk_cons])
      clear d0 d1
      cases hd : tIsDir T a with
      | false =>
        have HE : Hid (tWalk T l 1 = (0, 10)) := Lib.hid (by rw [HX.out, if_pos hd])
        rw [hd] at d2 d3
        clear hd
        go_wp2
        go_ret2
        rw [HE.out]
        exact ⟨rfl, rfl⟩
      | true =>
        have hkd := HH.out.kid hd s hsl
        rw [hd] at d2 d3
        have d3' : w.cell? ⟨f a, 3, none⟩ = some (.map (some (g a))) := d3
        clear d3
        have HX' : Hid (tWalk T l 1 = if tKid T a s = 0 then (0, 6) else tWalk T (l.drop (k + 1)) (tKid T a s)) := Lib.hid (by rw [HX.out, if_neg (by rw [hd]; simp)])
        clear hd
        cases ho : tKidOf T a s with
        | none =>
          have HE : Hid (tWalk T l 1 = (0, 6)) := Lib.hid (by rw [HX'.out, if_pos ((kid_zero HH.out.ok).2 ho)])
          rw [ho] at hkd
          clear ho
          go_wp2
          go_ret2
          rw [HE.out]
          exact ⟨rfl, rfl⟩
        | some x =>
          have hk0 : tKid T a s ≠ 0 := fun h0 => by rw [(kid_zero HH.out.ok).1 h0] at ho; cases ho
          have HE : Hid (tWalk T l 1 = tWalk T (l.drop (k + 1)) (tKid T a s)) := Lib.hid (by rw [HX'.out, if_neg hk0])
          have HA2 := Lib.hid (kid_has hk0)
          have hks := has_small HH.out.ok HA2.out
          rw [ho] at hkd
          clear ho hk0
          generalize tKid T a s = c at *
          go_wp2
          go_round
          case rel => exact ⟨k + 1, c, by go_num, rfl, by omega, by omega, HA2, HE⟩
          case measure => simp [intOf]; omega
    · have HE : Hid (tWalk T l 1 = (a, 0)) := Lib.hid (by
        rw [HW.out, List.drop_of_length_le (by omega)]; rfl)
      go_wp2
      go_ret2
      rw [HE.out]
      exact ⟨rfl, rfl⟩
end Go.Proofs.Ytaophafailmhjaa.W

/- Package tree: Look, place. -/
namespace Go.Proofs.Ytaophafailmhjaa.W
open Go.RowKit
open Go.Proofs.Ytaophafailmhjaa.NM
set_option linter.unusedVariables false
set_option linter.unusedSimpArgs false

def LookPost (w : World) (r : Nat × Bool × Int) (e : Ending) (w' : World) : Prop := e = .returned (.tuple #[.int .i64 (r.1 : Int), .bool r.2.1, .int .i64 r.2.2]) ∧ Chg [] w w'
theorem chg_below {w w' : World} (h : Below w.heap.size w w') : Chg [] w w' := Chg.of_below h
theorem chg_tr {a b c : World} (h : Chg [] a b) (k : Chg [] b c) : Chg [] a c := h.trans k (by simp)
theorem split_names {s : List UInt8} {l : List (List UInt8)} (h : splitB s = some l) : l.length ≤ 8 ∧ ∀ p ∈ l, p.length ≤ 12 := by
  obtain ⟨h1, h2, _⟩ := split_some h
  exact ⟨h2, fun p hp => (may_len (h1 p hp)).2⟩

set_option maxHeartbeats 4000000 in
set_option maxRecDepth 100000 in
theorem tlook_any (t : Nat) (S : List Nat) (T : PT) (s : ByteArray) (w : World) (h : TreeAt w t S T) (hs : s.size ≤ maxLen) :
    Calls Try.prog 42 #[.pointer (some ⟨t, 0, none⟩), .string s] w (LookPost w (tLook T s.data.toList)) := by
  have H := Lib.hid h
  have HS := Lib.hid hs
  cases hsp : splitB s.data.toList with
  | none =>
    have HR : Hid (tLook T s.data.toList = (0, false, 12)) := Lib.hid (by unfold tLook; rw [hsp])
    have HSP := Lib.hid hsp
    rw [HR.out]
    clear hsp h hs
    go_enter Try.func42, Try.ntmps42
    go_wp2_with fail
    refine (tmade_any t S T w H.out).mono ?_
    rintro e w' ⟨rfl, rfl⟩
    go_wp2_with fail
    refine (split_any s w HS.out).mono ?_
    rintro e w1 ⟨hb, h2⟩
    rw [HSP.out] at h2
    subst h2
    have HB := Lib.hid hb
    clear hb
    go_wp2
    go_ret3
    exact ⟨rfl, chg_below HB.out⟩
  | some l =>
    have HR : Hid (tLook T s.data.toList = if (tWalk T l 1).2 ≠ 0 then (0, false, (tWalk T l 1).2) else ((tWalk T l 1).1, tIsDir T (tWalk T l 1).1, 0)) := Lib.hid (by unfold tLook; rw [hsp])
    have HSP := Lib.hid hsp
    obtain ⟨hl1, hl2⟩ := split_names hsp
    have HL := Lib.hid hl2
    clear hsp h hs hl2
    generalize hZ : tLook T s.data.toList = Z at HR ⊢
    have HZ := Lib.hid hZ
    clear hZ
    go_enter Try.func42, Try.ntmps42
    go_wp2_with fail
    refine (tmade_any t S T w H.out).mono ?_
    rintro e w' ⟨rfl, rfl⟩
    go_wp2_with fail
    refine (split_any s w HS.out).mono ?_
    rintro e w1 ⟨hb, h2⟩
    rw [HSP.out] at h2
    obtain ⟨v, rfl, hv⟩ := h2
    have HB := Lib.hid (chg_below hb)
    have H1 := Lib.hid (H.out.keep0 HB.out)
    have HV := Lib.hid hv
    clear hb hv
    go_wp2_with fail
    refine (twalk_any t S T v l w1 H1.out HV.out (by omega) (fun p hp => by have := HL.out p hp; omega)).mono ?_
    rintro e w2 ⟨rfl, rfl⟩
    by_cases h0 : (tWalk T l 1).2 = 0
    · have HR' : Hid (Z = ((tWalk T l 1).1, tIsDir T (tWalk T l 1).1, 0)) := Lib.hid (by rw [HR.out, if_neg (by simp [h0])])
      have HA : Hid (tHas T (tWalk T l 1).1 = true) := Lib.hid (walk_has l 1 rfl h0)
      have hsm := walk_small H.out.ok l 1 rfl
      rw [h0]
      clear h0
      generalize (tWalk T l 1).1 = a at *
      obtain ⟨bm, f, g, HT⟩ := H1.out
      have c0 := blk_cell HT.head 0 _ rfl
      have hlk : ∀ n, (Instr.lookup 70 (.map (some bm)) (.int .i64 (a : Int)) false).run Try.prog (w1.drewN n) = .ok (.pointer (some ⟨f a, 0, none⟩)) (w1.drewN n) := fun n => (HT.keep ((Chg.refl [] w1).drewN n) (by simp)).at HA.out
      obtain ⟨d0, d1, d2, d3⟩ := HT.cells HA.out
      clear d0 d1 d3 HT
      generalize tIsDir T a = dd at *
      go_wp2_with fail
      go_quiet (fail)
      go_wp2
      go_ret3
      rw [HR'.out]
      exact ⟨rfl, HB.out.drewN _⟩
    · have HR' : Hid (Z = (0, false, (tWalk T l 1).2)) := Lib.hid (by rw [HR.out, if_pos h0])
      have he := walk_err (T := T) l 1
      have hb0 : ((tWalk T l 1).2 != 0) = true := by simpa using h0
      clear h0
      generalize (tWalk T l 1).2 = er at *
      have HE := Lib.hid he
      clear he
      go_wp2
      go_ret3
      rw [HR'.out]
      exact ⟨rfl, HB.out⟩
end Go.Proofs.Ytaophafailmhjaa.W

/- Package tree: place, directory, New, put. -/
namespace Go.Proofs.Ytaophafailmhjaa.W
open Go.RowKit
open Go.Proofs.Ytaophafailmhjaa.NM
set_option linter.unusedVariables false
set_option linter.unusedSimpArgs false

def PlacePost (w : World) (r : Nat × List UInt8 × Int) (e : Ending) (w' : World) : Prop := e = .returned (.tuple #[.int .i64 (r.1 : Int), .string ⟨r.2.1.toArray⟩, .int .i64 r.2.2]) ∧ Chg [] w w'
theorem look_join {T : PT} {l : List (List UInt8)} (hm : ∀ p ∈ l, mayB p = true) (h8 : l.length ≤ 8) :
    tLook T (joinB l) = if (tWalk T l 1).2 ≠ 0 then (0, false, (tWalk T l 1).2) else ((tWalk T l 1).1, tIsDir T (tWalk T l 1).1, 0) := by
  unfold tLook
  rw [split_join l hm h8]

set_option maxHeartbeats 4000000 in
set_option maxRecDepth 100000 in
theorem tplace_any (t : Nat) (S : List Nat) (T : PT) (s : ByteArray) (w : World) (h : TreeAt w t S T) (hs : s.size ≤ maxLen) :
    Calls Try.prog 54 #[.pointer (some ⟨t, 0, none⟩), .string s] w (PlacePost w (tPlace T s.data.toList)) := by
  have H := Lib.hid h
  have HS := Lib.hid hs
  cases hsp : splitB s.data.toList with
  | none =>
    have HR : Hid (tPlace T s.data.toList = (0, [], 12)) := Lib.hid (by unfold tPlace; rw [hsp])
    have HSP := Lib.hid hsp
    rw [HR.out]
    clear hsp h hs
    go_enter Try.func54, Try.ntmps54
    go_wp2_with fail
    refine (parent_any s w HS.out).mono ?_
    rintro e w1 ⟨hb, h2⟩
    rw [HSP.out] at h2
    subst h2
    have HB := Lib.hid hb
    clear hb
    go_wp2
    go_ret3
    exact ⟨rfl, chg_below HB.out⟩
  | some l =>
    by_cases hl0 : l = []
    · subst hl0
      have HR : Hid (tPlace T s.data.toList = (0, [], 1)) := Lib.hid (by unfold tPlace; rw [hsp]; rfl)
      have HSP := Lib.hid hsp
      rw [HR.out]
      clear hsp h hs
      go_enter Try.func54, Try.ntmps54
      go_wp2_with fail
      refine (parent_any s w HS.out).mono ?_
      rintro e w1 ⟨hb, h2⟩
      rw [HSP.out] at h2
      have h2' : e = .returned (.tuple #[.string (mk []), .string (mk []), .int .i64 1]) := by simpa using h2
      clear h2
      subst h2'
      have HB := Lib.hid hb
      clear hb
      go_wp2
      go_ret3
      exact ⟨rfl, chg_below HB.out⟩
    · have HR : Hid (tPlace T s.data.toList = if (tWalk T l.dropLast 1).2 ≠ 0 then (0, [], (tWalk T l.dropLast 1).2) else if tIsDir T (tWalk T l.dropLast 1).1 = false then (0, [], 10) else ((tWalk T l.dropLast 1).1, l.getLastD [], 0)) :=
        Lib.hid (by unfold tPlace; rw [hsp]; simp only [if_neg hl0])
      have HSP := Lib.hid hsp
      have HL0 := Lib.hid hl0
      obtain ⟨hm, h8, _⟩ := split_some hsp
      have HM : Hid (∀ p ∈ l.dropLast, mayB p = true) := Lib.hid (fun p hp => hm p (List.dropLast_subset l hp))
      have h8' : l.dropLast.length ≤ 8 := by rw [List.length_dropLast]; omega
      have HK := Lib.hid (look_join (T := T) HM.out h8')
      have hjl : (mk (joinB l.dropLast)).size ≤ maxLen := by
        have h1 := joinB_len l.dropLast (fun p hp => by have := (may_len (HM.out p hp)).2; omega)
        have h2 : (mk (joinB l.dropLast)).size = (joinB l.dropLast).length := by rw [size_len, data_mk]
        rw [h2]; unfold maxLen; omega
      have HJ := Lib.hid hjl
      have hpar : Calls Try.prog 69 #[.string s] w (fun e w1 => Chg [] w w1 ∧ e = .returned (.tuple #[.string (mk (joinB l.dropLast)), .string (mk (l.getLastD [])), .int .i64 0])) :=
        (parent_any s w hs).mono fun e w1 ⟨hb, h2⟩ => ⟨chg_below hb, by rw [hsp] at h2; simpa only [if_neg hl0] using h2⟩
      have HP := Lib.hid hpar
      clear hsp h hs hl0 hm h8 h8' hjl hpar HSP HL0
      generalize hZ : tPlace T s.data.toList = Z at HR ⊢
      clear hZ
      generalize l.dropLast = dl at *
      generalize l.getLastD [] = la at *
      go_enter Try.func54, Try.ntmps54
      go_wp2_with fail
      refine HP.out.mono ?_
      rintro e w1 ⟨hb, rfl⟩
      have HB := Lib.hid hb
      have H1 := Lib.hid (H.out.keep0 hb)
      clear hb
      go_wp2_with fail
      refine (tlook_any t S T (mk (joinB dl)) w1 H1.out HJ.out).mono ?_
      rintro e w2 ⟨rfl, hb⟩
      have HB2 := Lib.hid (chg_tr HB.out hb)
      clear hb
      have HK2 : Hid (tLook T (mk (joinB dl)).data.toList = if (tWalk T dl 1).2 ≠ 0 then (0, false, (tWalk T dl 1).2) else ((tWalk T dl 1).1, tIsDir T (tWalk T dl 1).1, 0)) := HK
      by_cases h0 : (tWalk T dl 1).2 = 0
      · have HR' : Hid (Z = if tIsDir T (tWalk T dl 1).1 = false then (0, [], 10) else ((tWalk T dl 1).1, la, 0)) := Lib.hid (by rw [HR.out, if_neg (by simp [h0])])
        have HK3 : Hid (tLook T (mk (joinB dl)).data.toList = ((tWalk T dl 1).1, tIsDir T (tWalk T dl 1).1, 0)) := Lib.hid (by rw [HK2.out, if_neg (by simp [h0])])
        rw [HK3.out]
        clear h0
        generalize (tWalk T dl 1).1 = a at *
        cases hd : tIsDir T a with
        | false =>
          have HE : Hid (Z = (0, [], 10)) := Lib.hid (by rw [HR'.out, if_pos hd])
          clear hd
          go_wp2
          go_ret3
          rw [HE.out]
          exact ⟨rfl, HB2.out⟩
        | true =>
          have HE : Hid (Z = (a, la, 0)) := Lib.hid (by rw [HR'.out, if_neg (by rw [hd]; simp)])
          clear hd
          go_wp2
          go_ret3
          rw [HE.out]
          exact ⟨rfl, HB2.out⟩
      · have HR' : Hid (Z = (0, [], (tWalk T dl 1).2)) := Lib.hid (by rw [HR.out, if_pos h0])
        have HK3 : Hid (tLook T (mk (joinB dl)).data.toList = (0, false, (tWalk T dl 1).2)) := Lib.hid (by rw [HK2.out, if_pos h0])
        have hb0 : ((tWalk T dl 1).2 != 0) = true := by simpa using h0
        rw [HK3.out]
        clear h0
        generalize (tWalk T dl 1).2 = er at *
        go_wp2
        go_ret3
        rw [HR'.out]
        exact ⟨rfl, HB2.out⟩

set_option maxHeartbeats 2000000 in
set_option maxRecDepth 100000 in
theorem tdirectory_any (up : Int) (s : ByteArray) (w : World) : Calls Try.prog 27 #[.int .i64 up, .string s] w fun e w' =>
    e = .returned (pth (w.heap.size + 1)) ∧ w' = (w.alloc (.map #[] 0)).alloc (.cells #[.int .i64 up, .string s, .bool true, .map (some w.heap.size)] 79) := by
  have hmm := @run_makeMap Try.prog
  go_enter Try.func27, Try.ntmps27
  go_wp2
  go_ret
  exact ⟨rfl, rfl⟩

theorem ne_map {w : World} {k : TypeId} {κ : Type} {kl : κ → Lit} {ok : κ → Prop} {b N : Nat} {φ : κ → Option Value} (h : MapF k kl ok w b φ N) {p : Addr} {v : Value} (hc : w.cell? p = some v) : p.block ≠ b := by
  obtain ⟨es, clock, hb⟩ := h.obj
  rintro rfl
  simp [World.cell?, hb] at hc

def PutsTh (w : World) (bm ga : Nat) (φ : Int → Option Value) (N : Nat) (ψ : List UInt8 → Option Value) (M : Nat) (ino : Int) (px : Nat) (name : List UInt8) (w' : World) : Prop :=
  MapF 3 klI okI w' bm (updF φ ino (pth px)) (if (φ ino).isSome then N else N + 1) ∧ MapF 9 klS okS w' ga (updF ψ name (.int .i64 ino)) (if (ψ name).isSome then M else M + 1) ∧ Chg [bm, ga] w w' ∧ w'.heap.size = w.heap.size
set_option maxHeartbeats 4000000 in
set_option maxRecDepth 100000 in
theorem tput_any (t bm : Nat) (at_ ino : Int) (px pa ga : Nat) (φ : Int → Option Value) (N : Nat) (ψ : List UInt8 → Option Value) (M : Nat) (name : List UInt8) (w : World)
    (h0 : w.heap[t]? = some (.cells #[.map (some bm)] 72 (0, 0))) (hm : MapF 3 klI okI w bm φ N) (hN : N < maxLen) (hat : okI at_) (hino : okI ino)
    (hpa : updF φ ino (pth px) at_ = some (pth pa)) (ca : w.cell? ⟨pa, 3, none⟩ = some (.map (some ga))) (cx : w.cell? ⟨px, 1, none⟩ = some (.string ⟨name.toArray⟩))
    (hg : MapF 9 klS okS w ga ψ M) (hM : M < maxLen) (hnm : okS name) (hne : ga ≠ bm) :
    Calls Try.prog 55 #[.pointer (some ⟨t, 0, none⟩), .int .i64 at_, .int .i64 ino, .pointer (some ⟨px, 0, none⟩)] w fun e w' => e = .returned (.tuple #[]) ∧ PutsTh w bm ga φ N ψ M ino px name w' := by
  have c0 := blk_cell h0 0 _ rfl
  have n0 : t ≠ bm := ne_map hm c0
  have n1 : pa ≠ bm := ne_map hm ca
  have n2 : px ≠ bm := ne_map hm cx
  have HM := Lib.hid hm
  have HG := Lib.hid hg
  have HC := Lib.hid (And.intro h0 (And.intro ca cx))
  have HPA := Lib.hid hpa
  have HO := Lib.hid (And.intro hat (And.intro hino hnm))
  have HN := Lib.hid (And.intro hN hM)
  have HNE := Lib.hid (And.intro (And.intro n0 (And.intro n1 n2)) hne)
  clear h0 hm hg ca cx hpa hat hino hnm hN hM n0 n1 n2 hne
  go_enter Try.func55, Try.ntmps55
  go_wp2_with (at_mapUpdate; refine wpList_upd keInt _ rfl _ _ _ _ (.inl rfl) 68 Try.underlying70 bm N φ rfl HM.out HN.out.1 ino rfl HO.out.2.1 (pth px) rfl ?_; intro w1 hm1 hc1 hs1)
  have c0 := hc1.cell (blk_cell HC.out.1 0 _ rfl) (by simpa using HNE.out.1.1)
  have ca := hc1.cell HC.out.2.1 (by simpa using HNE.out.1.2.1)
  have cx := hc1.cell HC.out.2.2 (by simpa using HNE.out.1.2.2)
  have hlk := hm1.look keInt Try.underlying70 zeroPT HO.out.1
  rw [HPA.out] at hlk
  have HM1 := Lib.hid hm1
  have HG1 := Lib.hid (HG.out.chg hc1 (by simpa using HNE.out.2))
  have HC1 := Lib.hid (And.intro hc1 hs1)
  clear hm1 hc1 hs1
  have hlk' : (Instr.lookup 70 (.map (some bm)) (.int .i64 at_) false).run Try.prog w1 = .ok (.pointer (some ⟨pa, 0, none⟩)) w1 := hlk
  clear hlk
  have hlk2 : (Instr.lookup 70 (.map (some bm)) (.int .i64 at_) false).run Try.prog w1.drew = .ok (.pointer (some ⟨pa, 0, none⟩)) w1.drew := by
    have h := (show MapF 3 klI okI w1.drew bm _ _ from HM1.out).look keInt Try.underlying70 zeroPT HO.out.1
    rw [HPA.out] at h
    exact h
  go_still_tail 14, (by kernel_rfl)
  change wpList _ _ _ _ _ w1.drew
  have HG2 : Hid (MapF 9 klS okS w1.drew ga ψ M) := Lib.hid HG1.out
  have HM2 : Hid (MapF 3 klI okI w1.drew bm (updF φ ino (pth px)) (if (φ ino).isSome then N else N + 1)) := Lib.hid HM1.out
  have HC2 : Hid (Chg [bm] w w1.drew ∧ w1.drew.heap.size = w.heap.size) := Lib.hid ⟨HC1.out.1.drew, HC1.out.2⟩
  generalize w1.drew = w2 at *
  go_wp2_with (at_mapUpdate; refine wpList_upd keStr _ rfl _ _ _ _ (.inl rfl) 3 Try.underlying77 ga M ψ rfl HG2.out HN.out.2 name rfl HO.out.2.2 (.int .i64 ino) rfl ?_; intro w3 hm3 hc3 hs3)
  have HF : Hid (PutsTh w bm ga φ N ψ M ino px name w3) :=
    Lib.hid ⟨HM2.out.chg hc3 (by simpa using fun e => HNE.out.2 e.symm), hm3, (HC2.out.1.mono (by simp)).trans hc3 (by simp), hs3.trans HC2.out.2⟩
  clear hm3 hc3 hs3
  go_wp2
  go_end0
  exact ⟨rfl, HF.out⟩
end Go.Proofs.Ytaophafailmhjaa.W

/- Package tree: Inos. -/
namespace Go.Proofs.Ytaophafailmhjaa.W
open Go.RowKit
open Go.Proofs.Ytaophafailmhjaa.NM
set_option linter.unusedVariables false
set_option linter.unusedSimpArgs false

def inosL (T : PT) : List Int := 1 :: T.map (fun x => (x.ino : Int))
theorem inosL_len (T : PT) : (inosL T).length = T.length + 1 := by simp [inosL]
theorem inosL_rise {T : PT} (h : TOk T) : (inosL T).Pairwise (· < ·) := by
  unfold inosL
  refine List.pairwise_cons.2 ⟨fun a ha => ?_, ?_⟩
  · obtain ⟨x, hx, rfl⟩ := List.mem_map.1 ha
    have := (h.nums x hx).1; omega
  · rw [List.pairwise_map]
    exact h.rise.imp fun {a b} hab => by omega
theorem inosL_mem {T : PT} (k : Int) : k ∈ inosL T ↔ 0 ≤ k ∧ tHas T k.toNat = true := by
  unfold inosL
  rw [List.mem_cons, List.mem_map]
  constructor
  · rintro (rfl | ⟨x, hx, rfl⟩)
    · exact ⟨by omega, rfl⟩
    · exact ⟨by omega, has_iff.2 (.inr ⟨x, hx, by simp⟩)⟩
  · rintro ⟨h0, h⟩
    rcases has_iff.1 h with h1 | ⟨x, hx, h1⟩
    · left; omega
    · right; exact ⟨x, hx, by omega⟩
theorem φT_some {T : PT} {f : Nat → Nat} (k : Int) : (φT T f k).isSome = true ↔ k ∈ inosL T := by
  rw [inosL_mem]
  unfold φT
  by_cases h : 0 ≤ k ∧ tHas T k.toNat = true
  · rw [if_pos h]; simp [h]
  · rw [if_neg h]; exact ⟨(fun hh => by cases hh), (fun hh => absurd hh h)⟩
/-- What was met, sorted. -/
theorem sorted_inos {T : PT} (h : TOk T) {ks : List Int} (hn : ks.Nodup) (hm : ∀ k, k ∈ ks ↔ k ∈ inosL T) : ks.mergeSort (fun x y => decide (x ≤ y)) = inosL T := by
  have hr := inosL_rise h
  have hp : ks.Perm (inosL T) := (List.perm_ext_iff_of_nodup hn (hr.imp fun {a b} hab => by omega)).2 hm
  refine List.Perm.eq_of_pairwise (le := fun x y : Int => x ≤ y) ?_ ?_ (hr.imp fun {a b} hab => by omega) ((List.mergeSort_perm _ _).trans hp)
  · intro a b _ _ h1 h2; omega
  · have := List.pairwise_mergeSort (le := fun x y : Int => decide (x ≤ y)) (fun a b c h1 h2 => by simp at *; omega) (fun a b => by simp; omega) ks
    exact this.imp fun {a b} hab => by simpa using hab

def InosPost (w : World) (l : List Int) (e : Ending) (w' : World) : Prop := ∃ v, e = .returned v ∧ w'.ownsRow w.heap.size 3 1 v l.length (l.map (Value.int .i64)) ∧ Chg [] w w'
end Go.Proofs.Ytaophafailmhjaa.W

/- A row of elements of several cells, sorted by slices.SortFunc: what it owns behind it. -/
namespace Go.Proofs.Ytaophafailmhjaa.W
open Go.RowKit Go.Sort Go.Lib
set_option linter.unusedVariables false
set_option linter.unusedSimpArgs false

theorem flatMap_len {α : Type} (enc : α → List Value) {k : Nat} (hk : ∀ x, (enc x).length = k) : ∀ l : List α, (l.flatMap enc).length = l.length * k
  | [] => by simp
  | x :: r => by rw [List.flatMap_cons, List.length_append, hk, flatMap_len enc hk r, List.length_cons, Nat.add_mul]; omega
theorem flatMap_at {α : Type} [Inhabited α] (enc : α → List Value) {k : Nat} (hk : ∀ x, (enc x).length = k) : ∀ (l : List α) (i j : Nat), i < l.length → j < k → (l.flatMap enc)[i * k + j]? = (enc l[i]!)[j]?
  | [], i, j, h, _ => by simp at h
  | x :: r, 0, j, h, hj => by
    rw [List.flatMap_cons, Nat.zero_mul, Nat.zero_add, List.getElem?_append_left (by rw [hk]; exact hj)]; rfl
  | x :: r, i + 1, j, h, hj => by
    rw [List.flatMap_cons, List.getElem?_append_right (by rw [hk, Nat.add_mul]; omega), hk, show (i + 1) * k + j - k = i * k + j by rw [Nat.add_mul]; omega]
    exact flatMap_at enc hk r i j (by simpa using h) hj
theorem flat_eq {α : Type} [Inhabited α] (enc : α → List Value) {k : Nat} (hk : ∀ x, (enc x).length = k) (l : List α) : (flatK enc k l.toArray).toList = l.flatMap enc := by
  apply List.ext_getElem?
  intro t
  by_cases ht : t < l.length * k
  · have k0 : 0 < k := by
      rcases Nat.eq_zero_or_pos k with h | h
      · subst h; simp at ht
      · exact h
    have hi : t / k < l.length := (Nat.div_lt_iff_lt_mul k0).2 ht
    have hj : t % k < k := Nat.mod_lt _ k0
    have e : t = t / k * k + t % k := by rw [Nat.mul_comm]; exact (Nat.div_add_mod t k).symm
    rw [Array.getElem?_toList, Array.getElem?_eq_getElem (by simpa using ht)]
    have h1 := get_flatK enc k l.toArray t (by simpa using ht)
    rw [getElem!_pos _ t (by simpa using ht)] at h1
    rw [h1]
    conv => rhs; rw [e]
    rw [flatMap_at enc hk l _ _ hi hj]
    have h2 : l.toArray[t / k]! = l[t / k]! := by simp
    rw [h2, getElem!_pos _ (t % k) (by rw [hk]; exact hj), List.getElem?_eq_getElem]
  · rw [List.getElem?_eq_none (by simp; omega), List.getElem?_eq_none (by rw [flatMap_len enc hk]; omega)]

theorem holds_row {α : Type} [Inhabited α] (enc : α → List Value) {k : Nat} (hk : ∀ x, (enc x).length = k) {w : World} {g : Nat} {cur : Array Value} {e : TypeId} {ss : List α} (hb : w.heap[g]? = some (.cells cur e (0, 0))) (ht : cur.toList.take (ss.length * k) = ss.flatMap enc) : HoldsK enc k w g 0 ss.toArray := by
  intro j hj
  have hj' : j < ss.length * k := by simpa using hj
  rw [Nat.zero_add]
  have h1 : (flatK enc k ss.toArray)[j]! = (ss.flatMap enc)[j]'(by rw [flatMap_len enc hk]; exact hj') := by
    rw [getElem!_pos _ j hj]
    have := flat_eq enc hk ss
    rw [← Array.getElem_toList]
    simp only [this]
  have h2 : cur[j]? = some ((ss.flatMap enc)[j]'(by rw [flatMap_len enc hk]; exact hj')) := by
    rw [← Array.getElem?_toList, ← List.getElem?_take_of_lt hj', ht, List.getElem?_eq_getElem]
  refine ⟨?_, blk_frozen hb j⟩
  rw [blk_cell hb j _ h2, h1]; rfl
theorem heap_sortedK {w : World} {g n : Nat} {os : Array Obj} {cur : Array Value} {e : TypeId} {fr : Nat × Nat} (d : Array Value) (hb : w.heap[g]? = some (.cells cur e fr)) :
    (grow (putRow id (Sort.ahead w n) g 0 d) os).heap[g]? = some (.cells (putCells id 0 d cur) e fr) := by
  have hg : g < w.heap.size := (Array.getElem?_eq_some_iff.1 hb).1
  rw [heap_grow_old _ _ (by simpa using hg)]
  simp [putRow, mapBlock, Sort.ahead, Array.getElem?_modify, hb, onCells]
theorem chg_sortedK {α : Type} [Inhabited α] (enc : α → List Value) (k : Nat) {w : World} {g n : Nat} {os : Array Obj} (d : Array α) : Chg [g] w (sortWorldK enc k w g 0 n d os) := by
  refine ⟨rfl, rfl, rfl, by simp [sortWorldK, putRowK], fun j hj hne => ?_⟩
  unfold sortWorldK putRowK
  rw [heap_grow_old _ _ (by simpa using hj)]
  have : g ≠ j := fun e => hne (by simp [e])
  simp [putRow, mapBlock, Sort.ahead, Array.getElem?_modify, this]
theorem take_putK (cur : Array Value) (F : Array Value) (h : F.size ≤ cur.size) : (putCells id 0 F cur).toList.take F.size = F.toList := by
  apply List.ext_getElem?
  intro j
  by_cases hj : j < F.size
  · rw [List.getElem?_take_of_lt hj, Array.getElem?_toList, Array.getElem?_toList]
    simp [putCells, hj, show j < cur.size by omega]
  · rw [List.getElem?_take_eq_none (by omega), List.getElem?_eq_none (by simp; omega)]
theorem ownsRow_sortedK {α : Type} [Inhabited α] (enc : α → List Value) {k : Nat} (hk : ∀ x, (enc x).length = k) {w : World} {base g cap n : Nat} {e : TypeId} {os : Array Obj} {cur : Array Value} {m : Nat} {ts : List α} (hl : ts.length = m) (hbase : base ≤ g) (hb : w.heap[g]? = some (.cells cur e (0, 0)))
    (h1 : m ≤ cap) (h2 : cap ≤ maxLen) (h3 : cur.size = cap * k) :
    (sortWorldK enc k w g 0 n ts.toArray os).ownsRow base e k (.slice (some ⟨g, 0, none⟩) m cap) m (ts.flatMap enc) := by
  refine ⟨by rw [flatMap_len enc hk, hl], .inr ⟨g, cap, _, rfl, hbase, heap_sortedK _ hb, h1, h2, by simp [putCells, h3], ?_⟩⟩
  have hs : (flatK enc k ts.toArray).size = m * k := by simp [hl]
  rw [← hs, take_putK _ _ (by rw [hs, h3]; exact Nat.mul_le_mul_right k h1), flat_eq enc hk]

/-! ### Bytes in their order -/
theorem cmpB_self : ∀ a : List UInt8, compareBytes a a = 0
  | [] => rfl
  | x :: r => by
    unfold compareBytes
    rw [if_neg (by simp), if_neg (by simp), cmpB_self r]
theorem cmpB_zero : ∀ a b : List UInt8, compareBytes a b = 0 → a = b
  | [], [], _ => rfl
  | [], _ :: _, h => by simp [compareBytes] at h
  | _ :: _, [], h => by simp [compareBytes] at h
  | x :: r, y :: s, h => by
    unfold compareBytes at h
    by_cases h1 : x < y
    · rw [if_pos h1] at h; cases h
    · by_cases h2 : y < x
      · rw [if_neg h1, if_pos h2] at h; cases h
      · rw [if_neg h1, if_neg h2] at h
        have e : x = y := by
          have h3 := UInt8.not_lt.1 h1
          have h4 := UInt8.not_lt.1 h2
          exact UInt8.le_antisymm h4 h3
        rw [e, cmpB_zero r s h]
theorem cmpB_lt : ∀ a b : List UInt8, compareBytes a b < 0 ↔ a < b
  | [], [] => by simp [compareBytes]
  | [], _ :: _ => by simp [compareBytes]
  | _ :: _, [] => by simp [compareBytes]
  | x :: r, y :: s => by
    unfold compareBytes
    rw [List.cons_lt_cons_iff]
    by_cases h1 : x < y
    · rw [if_pos h1]; simp [h1]
    · by_cases h2 : y < x
      · rw [if_neg h1, if_pos h2]
        have : x ≠ y := fun e => by subst e; exact h1 h2
        simp [h1, this]
      · rw [if_neg h1, if_neg h2]
        have e : x = y := UInt8.le_antisymm (UInt8.not_lt.1 h2) (UInt8.not_lt.1 h1)
        subst e
        rw [cmpB_lt r s]; simp
theorem ltB (x y : List UInt8) : ltOf compareBytes x y = decide (x < y) := by
  unfold ltOf
  rw [Bool.eq_iff_iff]; simp [cmpB_lt]
theorem swoB : SWO (ltOf compareBytes) where
  irrefl x := by rw [ltB]; simp [List.lt_irrefl]
  trans x y z h1 h2 := by
    rw [ltB, decide_eq_true_eq] at *
    exact List.lt_trans h1 h2
  ntrans x y z h1 h2 := by
    rw [ltB, decide_eq_false_iff_not] at *
    rw [List.not_lt] at *
    exact List.le_trans h2 h1
theorem totB (x y : List UInt8) (h1 : ltOf compareBytes x y = false) (h2 : ltOf compareBytes y x = false) : x = y := by
  rw [ltB, decide_eq_false_iff_not, List.not_lt] at *
  exact List.le_antisymm h2 h1
theorem leB : (fun x y : List UInt8 => !ltOf compareBytes y x) = fun x y => decide (x ≤ y) := by
  funext x y
  rw [ltB, Bool.eq_iff_iff]
  simp [List.not_lt]
end Go.Proofs.Ytaophafailmhjaa.W
