/- Texts laid together. -/
import Derived.Test.YtdkhmfcfihbjeaaGreatDoorRows
import Derived.WalkKit
import Derived.WalkSpells
import Derived.WalkLawsBesides
import Derived.Lib.Hide
import Derived.Maps.AppendAt
import Derived.OwnWalk
import Derived.Laws.OwnMore
import Derived.Deep.LoopGhost
import Derived.Deep.QuietTactic
import Derived.BigQuiet
import Derived.Deep.RegionHeld
import Derived.Defers
import Derived.Recover
import Derived.RegionTactic
import Derived.ChangeAlike
import Derived.Laws.BitsLemmas
import Derived.Laws.BitsAllLaws
import Derived.IntWalk
import Derived.Shelf.Abstract
import Derived.Deep.MidRow
import Derived.Deep.OwnRows
import Derived.Great.BuildSlice
import Derived.Deep.WholeRow
import Derived.DeepKeys
import Derived.Laws.StructEq
import Derived.Deep.AppendLies
import Derived.Deep.RegionHeld3
import Derived.Laws.Cover3
import Derived.Great.Ranges
import Derived.RangeFuncNested
import Derived.RangeFuncBound
import Derived.RangeFuncCalls
import Derived.RangeFuncLeaves
import Derived.OwnWalkIn
import Derived.TacticsInMore
import Derived.LoopNIn
import Derived.LoopIn
/- How arguments that are slices come to a walk. -/
namespace Go.Proofs.YtdkhmfcfihbjeaaGreatDoor
open Go.RowKit

/-- A slice of integers that came in: nil, or a row of 'cap' cells, the numbers 'zs' (the first 'len' are its elements). -/
def IsRow (k : IntKind) (w : World) (a : Option Addr) (len cap : Nat) (zs : List Int) : Prop :=
  (a = none ∧ len = 0 ∧ cap = 0 ∧ zs = []) ∨
  ∃ x, a = some x ∧ len ≤ cap ∧ cap ≤ maxLen ∧ zs.length = cap ∧ (∀ i, i < zs.length → w.cell? (x.add i) = some (.int k (zs.getD i 0))) ∧ ∀ n ∈ zs, (Lit.int k n).wf = true
/-- Elements of one cell each, that lie below block 'top'. -/
def RowAt (w : World) (top : Nat) (a : Option Addr) (n : Nat) (f : Nat → Value) : Prop :=
  n = 0 ∨ ∃ b off, a = some ⟨b, off, none⟩ ∧ b < top ∧ ∀ i, i < n → w.cell? ⟨b, off + i, none⟩ = some (f i)

theorem add_none {b off i : Nat} : (⟨b, off, none⟩ : Addr).add i = ⟨b, off + i, none⟩ := by
  unfold Addr.add; split <;> simp_all

theorem RowAt.below {w w' : World} {top : Nat} {a : Option Addr} {n : Nat} {f : Nat → Value} (h : RowAt w top a n f) (hb : Below top w w') : RowAt w' top a n f := by
  rcases h with h0 | ⟨b, off, rfl, hlt, hc⟩
  · exact .inl h0
  · exact .inr ⟨b, off, rfl, hlt, fun i hi => (hb.cell (p := ⟨b, off + i, none⟩) hlt).trans (hc i hi)⟩

theorem grownBy_trans {a b c : World} {r : Option Nat} (h1 : a.grownBy b r) (h2 : b.grownBy c r) : a.grownBy c r :=
  ⟨h2.os.trans h1.os, h2.tape.trans h1.tape, h2.output.trans h1.output, Nat.le_trans h1.size h2.size, fun k hk hne => (h2.block k (Nat.lt_of_lt_of_le hk h1.size) hne).trans (h1.block k hk hne)⟩

/-- A slice type 't' and its element's row of the table. -/
def El (P : Program) (t e : TypeId) (z : Value) (size bytes : Nat) : Prop :=
  P.underlying t = some (.slice e) ∧ (∃ i, P.info? e = some i ∧ i.zero = some z ∧ i.size = size ∧ i.bytes = bytes) ∧ z.cells.size = size ∧ 0 < size
theorem El.mk {P : Program} {t e : TypeId} {z : Value} {size bytes : Nat} (ht : P.underlying t = some (.slice e)) (hi : (P.info? e).map (fun i => (i.zero, i.size, i.bytes)) = some (some z, size, bytes)) (h1 : z.cells.size = size) (h2 : 0 < size) : El P t e z size bytes := by
  obtain ⟨i, a, b, c, d⟩ := info_parts hi
  exact ⟨ht, ⟨i, a, b, c, d⟩, h1, h2⟩

/-- 'out = append(out, x)', out the call's own: the element has just been laid into a new block. -/
theorem wpList_app1 {P : Program} {w : World} {ops : Array Oper} {rest : List Oper} {o : Oper} {a : Act} {Q : Exit → Act → World → Prop} (hgd : o.guard = none) (s x : Operand) (t : TypeId)
    (ho : o.op = .call { callee := .builtin .append, args := #[s, x], argTypes := #[t, t] })
    (base : Nat) {e : TypeId} {z : Value} {size bytes : Nat} (hE : El P t e z size bytes)
    (v : Value) (n : Nat) (xs : List Value) (hs : a.eval s = v) (hown : w.ownsRow base e size v n xs)
    (c : Nat) (news : Array Value) (hx : a.eval x = .slice (some ⟨w.heap.size, 0, none⟩) 1 c) (hl : news.size = size) (h1 : ∀ u ∈ news.toList, u.oneCell' = true)
    (h63 : n + 1 ≤ maxLen) (hbytes : (n + 1) * bytes ≤ 140737488355328) (hbase : base ≤ w.heap.size)
    (h : ∀ v' w', w'.ownsRow base e size v' (n + 1) (xs ++ news.toList) → w.grownBy w' v.ownBlock → wpList P ops Q rest (a.put o.dst v') w') : wpList P ops Q (o :: rest) a (w.alloc (.cells news e)) := by
  obtain ⟨ht, ⟨i, hi, hz, hsize, hby⟩, hzs, hsz⟩ := hE
  refine wpList_append_own _ hgd s x t ho base e i z size bytes ht hi hz hsize hby hzs hsz v n xs hs (hown.alloc _) ⟨w.heap.size, 0, none⟩ 1 c news.toList hx (by simpa using hl) ?_ h1 h63 hbytes (by simp; omega) ?_
  · intro j u hj
    rw [add_none]
    simp only [Nat.zero_add]
    have hh : (w.alloc (.cells news e)).heap[w.heap.size]? = some (.cells news e (0, 0)) := heap_alloc_new w _
    simp only [World.cell?, hh]
    simpa using hj
  · intro v' w' h2 h3 _
    exact h v' w' h2 (grownBy_trans (World.grownBy_alloc w _ _) h3)
end Go.Proofs.YtdkhmfcfihbjeaaGreatDoor

/- Frames by lists of blocks; rows of bytes in memory. -/
namespace Go.Proofs.YtdkhmfcfihbjeaaGreatDoor.W
open Go.RowKit
set_option linter.unusedVariables false
set_option linter.unusedSimpArgs false

/-- w' is w but for the blocks of S, and new ones. -/
structure Chg (S : List Nat) (w w' : World) : Prop where
  os : w'.os = w.os
  tape : w'.tape = w.tape
  output : w'.output = w.output
  size : w.heap.size ≤ w'.heap.size
  block : ∀ k, k < w.heap.size → k ∉ S → w'.heap[k]? = w.heap[k]?
theorem Chg.refl (S : List Nat) (w : World) : Chg S w w := ⟨rfl, rfl, rfl, Nat.le_refl _, fun _ _ _ => rfl⟩
theorem Chg.trans {S T : List Nat} {a b c : World} (h : Chg S a b) (k : Chg T b c) (hT : ∀ x ∈ T, x ∈ S ∨ a.heap.size ≤ x) : Chg S a c :=
  ⟨k.os.trans h.os, k.tape.trans h.tape, k.output.trans h.output, Nat.le_trans h.size k.size, fun x hx hn => (k.block x (Nat.lt_of_lt_of_le hx h.size) (fun ht => by
    rcases hT x ht with h1 | h1
    · exact hn h1
    · omega)).trans (h.block x hx hn)⟩
theorem Chg.mono {S T : List Nat} {a b : World} (h : Chg S a b) (hT : ∀ x ∈ S, x ∈ T ∨ a.heap.size ≤ x) : Chg T a b :=
  ⟨h.os, h.tape, h.output, h.size, fun x hx hn => h.block x hx (fun hs => by
    rcases hT x hs with h1 | h1
    · exact hn h1
    · omega)⟩
theorem Chg.of_below {S : List Nat} {a b : World} (h : Below a.heap.size a b) : Chg S a b := ⟨h.os, h.tape, h.output, h.size, fun x hx _ => h.block x hx⟩
theorem Chg.to_below {S : List Nat} {a b c : World} {B : Nat} (h0 : Below B a b) (h : Chg S b c) (hB : B ≤ b.heap.size) (hS : ∀ x ∈ S, B ≤ x) : Below B a c :=
  ⟨h.os.trans h0.os, h.tape.trans h0.tape, h.output.trans h0.output, Nat.le_trans h0.size h.size, fun x hx => (h.block x (Nat.lt_of_lt_of_le hx hB) (fun hs => by have := hS x hs; omega)).trans (h0.block x hx)⟩
theorem Chg.below {S : List Nat} {a b : World} (h : Chg S a b) (hS : ∀ x ∈ S, a.heap.size ≤ x) : Below a.heap.size a b := Chg.to_below (Below.refl _ _) h (Nat.le_refl _) hS
theorem Chg.drew {S : List Nat} {a b : World} (h : Chg S a b) : Chg S a b.drew := ⟨h.os, h.tape, h.output, h.size, h.block⟩
theorem Chg.drewN {S : List Nat} {a b : World} (h : Chg S a b) (n : Nat) : Chg S a (b.drewN n) := ⟨h.os, h.tape, h.output, h.size, h.block⟩
theorem Chg.alloc {S : List Nat} {a b : World} (h : Chg S a b) (o : Obj) : Chg S a (b.alloc o) :=
  h.trans (T := []) (Chg.of_below ((Below.refl _ _).alloc (Nat.le_refl _) o)) (by simp)
theorem Chg.setCell {S : List Nat} {a b : World} (h : Chg S a b) {p : Addr} (hp : p.block ∈ S ∨ a.heap.size ≤ p.block) (u : Value) : Chg S a (b.setCell p u) :=
  ⟨h.os, h.tape, h.output, by simpa [World.setCell] using h.size, fun k hk hn => (Below.heap_setCell b p u k (by
    rintro rfl
    rcases hp with hp | hp
    · exact hn hp
    · omega)).trans (h.block k hk hn)⟩
theorem Chg.grown {S : List Nat} {a b c : World} {r : Option Nat} (h : Chg S a b) (hg : b.grownBy c r) (hr : ∀ k, r = some k → k ∈ S ∨ a.heap.size ≤ k) : Chg S a c :=
  ⟨hg.os.trans h.os, hg.tape.trans h.tape, hg.output.trans h.output, Nat.le_trans h.size hg.size, fun k hk hn => (hg.block k (Nat.lt_of_lt_of_le hk h.size) (fun e => by
    rcases hr k e.symm with h1 | h1
    · exact hn h1
    · omega)).trans (h.block k hk hn)⟩
theorem Chg.keep {S : List Nat} {a b : World} (h : Chg S a b) {k : Nat} {o : Obj} (hk : a.heap[k]? = some o) (hn : k ∉ S) : b.heap[k]? = some o :=
  (h.block k (Array.getElem?_eq_some_iff.1 hk).1 hn).trans hk
theorem Chg.cell {S : List Nat} {a b : World} (h : Chg S a b) {p : Addr} {v : Value} (hc : a.cell? p = some v) (hn : p.block ∉ S) : b.cell? p = some v :=
  (World.cell?_of_block (h.block p.block (World.block_lt_of_cell? a p hc) hn)).trans hc

theorem ret_bool {a b : Bool} (h : a = b) : Ending.returned (.bool a) = .returned (.bool b) := by rw [h]
theorem bt {w w1 w2 : World} (h1 : Below w.heap.size w w1) (h2 : Below w1.heap.size w1 w2) : Below w.heap.size w w2 := h1.trans (h2.mono h1.size)
theorem blk_lt {w : World} {b : Nat} {o : Obj} (h : w.heap[b]? = some o) : b < w.heap.size := (Array.getElem?_eq_some_iff.1 h).1
theorem blk_cell {w : World} {b t : Nat} {cs : Array Value} (h : w.heap[b]? = some (.cells cs t (0, 0))) (j : Nat) (v : Value) (hv : cs[j]? = some v) : w.cell? ⟨b, j, none⟩ = some v := by
  simp [World.cell?, h, hv]
theorem blk_frozen {w : World} {b t : Nat} {cs : Array Value} (h : w.heap[b]? = some (.cells cs t (0, 0))) (j : Nat) : w.frozen? ⟨b, j, none⟩ = false := by
  simp [World.frozen?, h]; try omega
theorem set_blk {w : World} {b t : Nat} {cs : Array Value} {j : Nat} {u : Value} (h : w.heap[b]? = some (.cells cs t (0, 0))) :
    (w.setCell ⟨b, j, none⟩ u).heap[b]? = some (.cells (cs.setIfInBounds j u) t (0, 0)) := by
  have hlt := blk_lt h
  have h' : w.heap[b] = .cells cs t (0, 0) := by simpa [Array.getElem?_eq_getElem hlt] using h
  show (w.heap.modify b _)[b]? = _
  rw [Array.getElem?_eq_getElem (by simpa using hlt), Array.getElem_modify_self, h']
  rfl
theorem blk_alloc {w : World} {b : Nat} {o o' : Obj} (h : w.heap[b]? = some o) : (w.alloc o').heap[b]? = some o :=
  ((Below.refl w.heap.size w).alloc (Nat.le_refl _) o').block b (Array.getElem?_eq_some_iff.1 h).1 |>.trans h
theorem blk_sets {w : World} {b b' j : Nat} {o : Obj} {u : Value} (h : w.heap[b]? = some o) (hne : b ≠ b') : (w.setCell ⟨b', j, none⟩ u).heap[b]? = some o :=
  (Below.heap_setCell w ⟨b', j, none⟩ u b hne).trans h

/-- A byte as a cell holds it. -/
def bv (x : UInt8) : Value := .int .u8 (x.toNat : Int)
def bvs (l : List UInt8) : List Value := l.map bv
theorem bvs_one (l : List UInt8) : ∀ u ∈ bvs l, u.oneCell' = true := by
  intro u hu
  obtain ⟨x, _, rfl⟩ := List.mem_map.1 hu
  rfl
theorem bvs_len (l : List UInt8) : (bvs l).length = l.length := by simp [bvs]
theorem bvs_at (l : List UInt8) (i : Nat) (hi : i < l.length) : (bvs l)[i]? = some (bv (l.getD i 0)) := by
  simp [bvs, List.getD_eq_getElem?_getD, List.getElem?_eq_getElem hi]

/-- A slice of bytes: what it reads as. -/
def BytesAt (w : World) (v : Value) (l : List UInt8) : Prop :=
  ∃ a cap, v = .slice a l.length cap ∧ l.length ≤ cap ∧ cap ≤ maxLen ∧ ((l = [] ∧ cap = 0) ∨ ∃ g o, a = some ⟨g, o, none⟩ ∧ ∀ i, i < l.length → w.cell? ⟨g, o + i, none⟩ = some (bv (l.getD i 0)))
theorem BytesAt.keep {w w' : World} {v : Value} {l : List UInt8} (h : BytesAt w v l) (hb : ∀ g, v.ownBlock = some g → w'.heap[g]? = w.heap[g]?) : BytesAt w' v l := by
  obtain ⟨a, cap, rfl, h1, h2, h3⟩ := h
  refine ⟨a, cap, rfl, h1, h2, ?_⟩
  rcases h3 with h3 | ⟨g, o, rfl, hc⟩
  · exact .inl h3
  · exact .inr ⟨g, o, rfl, fun i hi => (World.cell?_of_block (w := w) (a := ⟨g, o + i, none⟩) (hb g rfl)).trans (hc i hi)⟩
theorem BytesAt.nil (w : World) : BytesAt w (.slice none 0 0) [] := ⟨none, 0, rfl, by simp, by unfold maxLen; omega, .inl ⟨rfl, rfl⟩⟩

/-- A row of bytes of our own: it may be appended to. -/
def BRow (w : World) (v : Value) (l : List UInt8) : Prop := w.ownsRow 0 5 1 v l.length (bvs l)
theorem BRow.nil (w : World) : BRow w (.slice none 0 0) [] := World.ownsRow_nil _ _ _ _
theorem BRow.lt {w : World} {v : Value} {l : List UInt8} (h : BRow w v l) : ∀ k, v.ownBlock = some k → k < w.heap.size := fun k hk => (World.ownsRow.lt h k hk).2
theorem row_keep {w w' : World} {base e size n : Nat} {v : Value} {xs : List Value} (h : w.ownsRow base e size v n xs) (hb : ∀ g, v.ownBlock = some g → w'.heap[g]? = w.heap[g]?) : w'.ownsRow base e size v n xs := by
  refine ⟨h.1, ?_⟩
  rcases h.2 with h | ⟨g, cap, cur, rfl, hbg, hg, rest⟩
  · exact .inl h
  · exact .inr ⟨g, cap, cur, rfl, hbg, (hb g rfl).trans hg, rest⟩
theorem row_base {w : World} {base e size n : Nat} {v : Value} {xs : List Value} (h : w.ownsRow base e size v n xs) (B : Nat) (hB : ∀ g, v.ownBlock = some g → B ≤ g) : w.ownsRow B e size v n xs := by
  refine ⟨h.1, ?_⟩
  rcases h.2 with h | ⟨g, cap, cur, rfl, hbg, hg, rest⟩
  · exact .inl h
  · exact .inr ⟨g, cap, cur, rfl, hB g rfl, hg, rest⟩
theorem BRow.keep {w w' : World} {v : Value} {l : List UInt8} (h : BRow w v l) (hb : ∀ g, v.ownBlock = some g → w'.heap[g]? = w.heap[g]?) : BRow w' v l := row_keep h hb
theorem BRow.bytes {w : World} {v : Value} {l : List UInt8} (h : BRow w v l) : BytesAt w v l := by
  rcases h.2 with ⟨rfl, h0⟩ | ⟨g, cap, cur, rfl, hbg, hg, hnc, hcm, hcs, htake⟩
  · obtain rfl := List.eq_nil_of_length_eq_zero h0
    exact BytesAt.nil w
  · refine ⟨_, cap, rfl, hnc, hcm, .inr ⟨g, 0, rfl, fun i hi => ?_⟩⟩
    have := h.cells (g := g) rfl i _ (bvs_at l i hi)
    rwa [add_none] at this

theorem elBytes : El Tryz.prog 30 5 (.int .u8 0) 1 1 := El.mk Tryz.underlying30 (by kernel_rfl) rfl (by decide)

theorem run_appB {w : World} (ty : TypeId) (v : Value) (l : List UInt8) (hown : BRow w v l) (u : Value) (m : List UInt8) (hm : BytesAt w u m) (hsz : l.length + m.length ≤ 140737488355328) :
    ∃ v' w', (Builtin.append_ #[30, 30] ty #[v, u]).run Tryz.prog w = .ok v' w' ∧ BRow w' v' (l ++ m) ∧ w.grownBy w' v.ownBlock ∧ (v'.ownBlock = v.ownBlock ∨ v'.ownBlock = some w.heap.size) := by
  obtain ⟨ht, ⟨i, hi, hz, hsize, hby⟩, hzs, hsp⟩ := elBytes
  have hsz' := hsz
  obtain ⟨a, cap, rfl, h1, h2, h3⟩ := hm
  have hrow : ∀ (v' : Value) (w' : World), w'.ownsRow 0 5 1 v' (l.length + m.length) (bvs l ++ bvs m) → BRow w' v' (l ++ m) := by
    intro v' w' h
    unfold BRow
    rw [List.length_append, show bvs (l ++ m) = bvs l ++ bvs m from List.map_append]
    exact h
  cases a with
  | none =>
    obtain ⟨rfl, rfl⟩ : m = [] ∧ cap = 0 := by
      rcases h3 with h3 | ⟨g, o, h, _⟩
      · exact h3
      · cases h
    have hr := run_append_owned_none (P := Tryz.prog) (w := w) 0 30 ty 5 i 1 ht hi v l.length (bvs l) hown
    exact ⟨v, w, hr, by rw [List.append_nil]; exact hown, ⟨rfl, rfl, rfl, Nat.le_refl _, fun _ _ _ => rfl⟩, .inl rfl⟩
  | some ad =>
    have hnews : ∀ j x, (bvs m)[j]? = some x → w.cell? (ad.add j) = some x := by
      intro j x hj
      rcases h3 with ⟨rfl, _⟩ | ⟨g, o, he, hc⟩
      · simp [bvs] at hj
      · obtain rfl : ad = ⟨g, o, none⟩ := by simpa using he
        have hjl : j < m.length := by
          have := (List.getElem?_eq_some_iff.1 hj).1
          simpa [bvs] using this
        rw [add_none, hc j hjl]
        rw [bvs_at m j hjl] at hj
        exact hj
    obtain ⟨v', w', hr, ho, hg, _, hat⟩ := run_append_own_at (P := Tryz.prog) w 0 30 ty 5 i _ 1 1 ht hi hz hsize hby hzs hsp v l.length (bvs l) hown ad m.length cap (bvs m) (by simp [bvs]) hnews (bvs_one m) (by unfold maxLen; omega) (by omega) (Nat.zero_le _)
    exact ⟨v', w', hr, hrow _ _ ho, hg, hat⟩
/-- 'out = append(out, src...)': out a row of bytes of our own, src any bytes. -/
theorem wpList_appB {w : World} {ops : Array Oper} {rest : List Oper} {o : Oper} {a : Act} {Q : Exit → Act → World → Prop} (hgd : o.guard = none) (s x : Operand)
    (ho : o.op = .call { callee := .builtin .append, args := #[s, x], argTypes := #[30, 30] })
    (v : Value) (l : List UInt8) (hs : a.eval s = v) (hown : BRow w v l) (u : Value) (m : List UInt8) (hx : a.eval x = u) (hm : BytesAt w u m)
    (hsz : l.length + m.length ≤ 140737488355328)
    (h : ∀ v' w', BRow w' v' (l ++ m) → w.grownBy w' v.ownBlock → (v'.ownBlock = v.ownBlock ∨ v'.ownBlock = some w.heap.size) → wpList Tryz.prog ops Q rest (a.put o.dst v') w') : wpList Tryz.prog ops Q (o :: rest) a w := by
  refine wpList_plain hgd fun K hK => ?_
  obtain ⟨v', w', hr, h2, h3, h4⟩ := run_appB o.type v l hown u m hm hsz
  unfold Oper.wp execOp
  simp only [ho, resolve, invoke, builtin, Sem.run_bind, Sem.run_pure, Result.andThen_ok, List.map_toArray, List.map_cons, List.map_nil, hs, hx, hr]
  exact hK _ _ (h v' w' h2 h3 h4)
end Go.Proofs.YtdkhmfcfihbjeaaGreatDoor.W

/- Regions that draw their order: conditions on the world that need hold only up to the operation that uses what was loaded under them. -/
namespace Go.Proofs.YtdkhmfcfihbjeaaGreatDoor.W
open Go.RowKit
set_option linter.unusedVariables false
set_option linter.unusedSimpArgs false

section
variable {P : Program} {ops : Array Oper} {Q : Exit → Act → World → Prop} {md : Region.Mode} {cs : List (Nat × (World → Prop))}

/-- Each condition holds as long as its operation has not come up. -/
def HoldC (cs : List (Nat × (World → Prop))) (L : Array Bool) (w : World) : Prop := ∀ c ∈ cs, L.getD c.1 true = false → c.2 w
theorem HoldC.nil {L : Array Bool} {w : World} : HoldC [] L w := fun c hc => by cases hc
theorem HoldC.cons {L : Array Bool} {w : World} {d : Nat} {C : World → Prop} (h : C w) (hr : HoldC cs L w) : HoldC ((d, C) :: cs) L w := fun c hc h0 => by
  rcases List.mem_cons.1 hc with rfl | hc
  · exact h
  · exact hr c hc h0
theorem HoldC.past {L : Array Bool} {w : World} {d : Nat} {C : World → Prop} (h : L.getD d true = true) (hr : HoldC cs L w) : HoldC ((d, C) :: cs) L w := fun c hc h0 => by
  rcases List.mem_cons.1 hc with rfl | hc
  · rw [h] at h0; cases h0
  · exact hr c hc h0
theorem getD_set_false {L : Array Bool} {i j : Nat} (h : (L.setIfInBounds i true).getD j true = false) : L.getD j true = false := by
  by_cases hij : i = j
  · subst hij
    rw [Array.getD_eq_getD_getElem?] at h
    by_cases hl : i < L.size
    · simp [hl] at h
    · simp [Array.getElem?_eq_none (Nat.le_of_not_lt hl), hl] at h
  · rwa [getD_set_ne true hij] at h
theorem HoldC.set {L : Array Bool} {w : World} (h : HoldC cs L w) (i : Nat) : HoldC cs (L.setIfInBounds i true) w := fun c hc h0 => h c hc (getD_set_false h0)

/-- As 'wpAnyH', the conditions bound to the operations that have not come up. -/
def wpAnyL (P : Program) (md : Region.Mode) (ops : Array Oper) (Q : Exit → Act → World → Prop) (cs : List (Nat × (World → Prop))) : Nat → Array Bool → Act → World → Prop
  | 0, L, a, w => Region.ready md ops L = [] ∧ Q .normal a w
  | n + 1, L, a, w => (Region.ready md ops L = [] → Q .normal a w) ∧
    ∀ i ∈ Region.ready md ops L, wpOp P ops Q i (fun a' w' => HoldC cs (L.setIfInBounds i true) w' ∧ wpAnyL P md ops Q cs n (L.setIfInBounds i true) a' w') a w
theorem wpAny_of_L : ∀ (n : Nat) (L : Array Bool) (a : Act) (w : World), wpAnyL P md ops Q cs n L a w → wpAny P md ops Q n L a w
  | 0, _, _, _, h => h
  | n + 1, _, _, _, h => ⟨h.1, fun i hi => wpOp_mono (fun a' w' h' => wpAny_of_L n _ a' w' h'.2) (h.2 i hi)⟩

/-- What has come up has all that it waits for behind it. -/
def closedB (md : Region.Mode) (ops : Array Oper) (L : Array Bool) : Bool :=
  (List.range ops.size).all fun j => !(L.getD j true) || match ops[j]? with
    | none => true
    | some o => o.after.all fun e => !Region.binds md e || L.getD e.on false
def Closed (md : Region.Mode) (ops : Array Oper) (L : Array Bool) : Prop := ∀ j o, ops[j]? = some o → L.getD j true = true → ∀ e ∈ o.after, Region.binds md e = true → L.getD e.on false = true
theorem closed_of {L : Array Bool} (h : closedB md ops L = true) : Closed md ops L := fun j o hj hl e he hb => by
  unfold closedB at h
  rw [List.all_eq_true] at h
  have h1 := h j (List.mem_range.2 (Array.getElem?_eq_some_iff.1 hj).1)
  simp only [hj, hl, Bool.not_true, Bool.false_or] at h1
  have h2 := Array.all_eq_true_iff_forall_mem.1 h1 e he
  simpa [hb] using h2
theorem Closed.step {L : Array Bool} (h : Closed md ops L) {i : Nat} (hi : i ∈ Region.ready md ops L) : Closed md ops (L.setIfInBounds i true) := fun j o hj hl e he hb => by
  obtain ⟨h0, oi, ho, hall⟩ := mem_ready.1 hi
  by_cases hij : i = j
  · subst hij
    rw [ho] at hj; cases hj
    exact getD_set_true (hall e he hb)
  · rw [getD_set_ne true hij] at hl
    exact getD_set_true (h j o hj hl e he hb)
/-- Operation d waits for i, at whatever distance. -/
def ancB (md : Region.Mode) (ops : Array Oper) : Nat → Nat → Nat → Bool
  | 0, _, _ => false
  | n + 1, d, i => match ops[d]? with
    | none => false
    | some o => o.after.any fun e => Region.binds md e && (e.on == i || ancB md ops n e.on i)
theorem anc_open {L : Array Bool} (hc : Closed md ops L) {i : Nat} (hi : L.getD i true = false) : ∀ n d, ancB md ops n d i = true → L.getD d true = false := by
  intro n
  induction n with
  | zero => intro d h; cases h
  | succ n ih =>
    intro d h
    unfold ancB at h
    cases ho : ops[d]? with
    | none => rw [ho] at h; cases h
    | some o =>
      simp only [ho] at h
      obtain ⟨e, he, h1⟩ := Array.any_eq_true'.1 h
      simp only [Bool.and_eq_true, Bool.or_eq_true, beq_iff_eq] at h1
      cases hd : L.getD d true with
      | false => rfl
      | true =>
        have h2 := hc d o ho hd e he h1.1
        rcases h1.2 with rfl | h3
        · rw [Array.getD_eq_getD_getElem?] at hi h2
          cases hx : L[e.on]? with
          | none => rw [hx] at h2; cases h2
          | some b => rw [hx] at hi h2; simp at hi h2; rw [hi] at h2; cases h2
        · have h4 := ih e.on h3
          rw [Array.getD_eq_getD_getElem?] at h4 h2
          cases hx : L[e.on]? with
          | none => rw [hx] at h2; cases h2
          | some b => rw [hx] at h4 h2; simp at h4 h2; rw [h4] at h2; cases h2

theorem wpAnyL_first {i : Nat} {oi : Oper} {v : Value} {C : World → Prop} (hi : ops[i]? = some oi) (hsel : ∀ (j : Nat) (o : Oper) cs b, ops[j]? = some o → o.op ≠ .select cs b)
    (hQ : ∀ c a w, Q (.panic c) (a.put oi.dst v) w → Q (.panic c) a w) (hC : ∀ L w, Closed md ops L → L.getD i true = false → HoldC cs L w → C w) (hne : ∀ c ∈ cs, c.1 ≠ i) :
    ∀ (fuel : Nat) (L : Array Bool) (a : Act) (w : World), Closed md ops L →
      (∀ j oj, ops[j]? = some oj → j ≠ i → L.getD j true = false → (∀ e ∈ oj.after, Region.binds md e = true → e.on ≠ i) → oi.apart ops oj = true) →
      i ∈ Region.ready md ops L → YieldsIf P ops C oi v a → HoldC cs L w →
      wpAnyL P md ops Q cs fuel (L.setIfInBounds i true) (a.put oi.dst v) w → wpAnyL P md ops Q cs (fuel + 1) L a w := by
  intro fuel
  induction fuel with
  | zero =>
    intro L a w hcl _ hr hy hS H
    refine ⟨fun h => (by rw [h] at hr; cases hr), fun j hj => ?_⟩
    by_cases hji : j = i
    · subst hji; exact hy.wpOp hi (hC L w hcl (mem_ready.1 hr).1 hS) ⟨hS.set _, H⟩
    · have := ready_mono hj hji
      rw [H.1] at this
      cases this
  | succ fuel ih =>
    intro L a w hcl hfree hr hy hS H
    refine ⟨fun h => (by rw [h] at hr; cases hr), fun j hj => ?_⟩
    by_cases hji : j = i
    · subst hji; exact hy.wpOp hi (hC L w hcl (mem_ready.1 hr).1 hS) ⟨hS.set _, H⟩
    · have h1 := H.2 j (ready_mono hj hji)
      obtain ⟨hjun, oj, hoj, hall⟩ := mem_ready.1 hj
      have h0 := (mem_ready.1 hr).1
      have hnot : ∀ e ∈ oj.after, Region.binds md e = true → e.on ≠ i := fun e he hb heq => by
        have h1 := hall e he hb
        rw [heq] at h1
        rcases Nat.lt_or_ge i L.size with h' | h'
        · simp [h'] at h0 h1; rw [h0] at h1; cases h1
        · simp [Array.getElem?_eq_none h'] at h1
      have h2 := wpOp_putIf hoj (hfree j oj hoj hji hjun hnot) (fun cs b => hsel i oi cs b hi) (fun cs b => hsel j oj cs b hoj) hQ hy h1
      refine wpOp_mono (fun a' w' h3 => ?_) h2
      have hS' : HoldC cs (L.setIfInBounds j true) w' := fun c hc h4 => h3.2.1 c hc (by
        rw [Array.setIfInBounds_comm _ _ (Ne.symm hji), getD_set_ne true (Ne.symm (hne c hc))]
        exact h4)
      refine ⟨hS', ih (L.setIfInBounds j true) a' w' (hcl.step hj) (fun k ok hk hki hun hno => ?_) (ready_mono hr (Ne.symm hji)) h3.1 hS' ?_⟩
      · refine hfree k ok hk hki ?_ hno
        by_cases hjk : j = k
        · subst hjk; exact hjun
        · rw [getD_set_ne true hjk] at hun; exact hun
      · rw [Array.setIfInBounds_comm _ _ hji]
        exact h3.2.2

/-- Taken first: an operation that yields its value in whatever world. -/
theorem wpAnyL_take {i : Nat} {oi : Oper} {v : Value} {fuel : Nat} {L : Array Bool} {a : Act} {w : World} (hi : ops[i]? = some oi)
    (hs : Region.noSelect ops = true) (hcl : closedB md ops L = true) (hf : Region.free md ops L i = true) (hr : (Region.ready md ops L).contains i = true) (hne : cs.all (fun c => c.1 != i) = true)
    (hQ : ∀ c a w, Q (.panic c) (a.put oi.dst v) w → Q (.panic c) a w) (hy : YieldsIf P ops (fun _ => True) oi v a) (hS : HoldC cs L w)
    (h : HoldC cs (L.setIfInBounds i true) w → wpAnyL P md ops Q cs fuel (L.setIfInBounds i true) (a.put oi.dst v) w) : wpAnyL P md ops Q cs (fuel + 1) L a w :=
  wpAnyL_first hi (Region.noSelect_spec hs) hQ (fun _ _ _ _ _ => trivial) (fun c hc => by simpa using List.all_eq_true.1 hne c hc) fuel L a w (closed_of hcl) (Region.free_spec hi hf) (by simpa using hr) hy hS (h (hS.set _))
/-- Taken first: a load, under condition number k. -/
theorem wpAnyL_load (k : Nat) {i d : Nat} {C : World → Prop} {oi : Oper} {v : Value} {fuel : Nat} {L : Array Bool} {a : Act} {w : World} (hk : cs[k]? = some (d, C)) (hi : ops[i]? = some oi)
    (hs : Region.noSelect ops = true) (hcl : closedB md ops L = true) (hf : Region.free md ops L i = true) (hr : (Region.ready md ops L).contains i = true) (hne : cs.all (fun c => c.1 != i) = true) (hanc : ancB md ops ops.size d i = true)
    (hQ : ∀ c a w, Q (.panic c) (a.put oi.dst v) w → Q (.panic c) a w) (hy : YieldsIf P ops C oi v a) (hS : HoldC cs L w)
    (h : HoldC cs (L.setIfInBounds i true) w → wpAnyL P md ops Q cs fuel (L.setIfInBounds i true) (a.put oi.dst v) w) : wpAnyL P md ops Q cs (fuel + 1) L a w :=
  wpAnyL_first hi (Region.noSelect_spec hs) hQ (fun L w h1 h2 h3 => h3 _ (List.mem_of_getElem? hk) (anc_open h1 h2 _ _ hanc)) (fun c hc => by simpa using List.all_eq_true.1 hne c hc) fuel L a w (closed_of hcl) (Region.free_spec hi hf) (by simpa using hr) hy hS (h (hS.set _))
theorem wpAnyL_done {L : Array Bool} {a : Act} {w : World} (hr : Region.ready md ops L = []) (h : Q .normal a w) : ∀ fuel, wpAnyL P md ops Q cs fuel L a w
  | 0 => ⟨hr, h⟩
  | _ + 1 => ⟨fun _ => h, by rw [hr]; simp⟩
def AllReadyL (P : Program) (md : Region.Mode) (ops : Array Oper) (Q : Exit → Act → World → Prop) (cs : List (Nat × (World → Prop))) (fuel : Nat) (L : Array Bool) (a : Act) (w : World) (rs : List Nat) : Prop :=
  ∀ i ∈ rs, wpOp P ops Q i (fun a' w' => HoldC cs (L.setIfInBounds i true) w' ∧ wpAnyL P md ops Q cs fuel (L.setIfInBounds i true) a' w') a w
theorem AllReadyL.nil {fuel : Nat} {L : Array Bool} {a : Act} {w : World} : AllReadyL P md ops Q cs fuel L a w [] := fun _ h => by cases h
theorem AllReadyL.cons {fuel : Nat} {L : Array Bool} {a : Act} {w : World} {i : Nat} {o : Oper} {rs : List Nat} (ho : ops[i]? = some o)
    (h : ∀ K' : Act → World → Prop, Shut (∀ a w, HoldC cs (L.setIfInBounds i true) w → (HoldC cs (L.setIfInBounds i true) w → wpAnyL P md ops Q cs fuel (L.setIfInBounds i true) a w) → K' a w) → if Region.wanted o (yielded ops a.tmps) = true then Oper.wp P o a w K' Q else K' (a.put o.dst undef) w)
    (hs : AllReadyL P md ops Q cs fuel L a w rs) : AllReadyL P md ops Q cs fuel L a w (i :: rs) := fun j hj => by
  rcases List.mem_cons.1 hj with rfl | hj
  · exact wpOp_step ho (fun K' hK => h K' (fun a w hS hW => hK a w ⟨hS, hW hS⟩))
  · exact hs j hj
theorem wpAnyL_ready {rs : List Nat} {fuel : Nat} {L : Array Bool} {a : Act} {w : World} (hr : Region.ready md ops L = rs) (hne : rs ≠ [])
    (h : AllReadyL P md ops Q cs fuel L a w rs) : wpAnyL P md ops Q cs (fuel + 1) L a w := ⟨fun h0 => absurd (hr ▸ h0) hne, hr ▸ h⟩
/-- The beginning. -/
theorem wp_region_L {id : Nat} {a : Act} {w : World} (cs : List (Nat × (World → Prop))) (hm : P.follows .mixedOrders = true) (hS : HoldC cs (Array.replicate ops.size false) w.drew)
    (h : HoldC cs (Array.replicate ops.size false) w.drew → wpAnyL P .any ops Q cs ops.size (Array.replicate ops.size false) a w.drew) : (Code.region id ops true).wp P Q a w :=
  wp_region_any hm (wpAny_of_L _ _ _ _ (h hS))
end
end Go.Proofs.YtdkhmfcfihbjeaaGreatDoor.W

/- bytes.Trim of noughts; package slot's noughts. -/
namespace Go.Proofs.YtdkhmfcfihbjeaaGreatDoor.W
open Go.RowKit
set_option linter.unusedVariables false
set_option linter.unusedSimpArgs false

def ltrim (l : List UInt8) : List UInt8 := l.dropWhile (· == 0)
def rtrim (l : List UInt8) : List UInt8 := (l.reverse.dropWhile (· == 0)).reverse
def allZ (l : List UInt8) : Bool := l.all (· == 0)
theorem ltrim_nil (l : List UInt8) : (ltrim l = []) ↔ allZ l = true := by
  unfold ltrim allZ
  induction l with
  | nil => simp
  | cons a l ih =>
    rw [List.dropWhile_cons, List.all_cons]
    by_cases h : (a == 0) = true
    · rw [if_pos h, ih, h, Bool.true_and]
    · rw [if_neg h]
      simp at h
      simp [h]
theorem allZ_rtrim (l : List UInt8) : allZ (rtrim l) = allZ l := by
  unfold rtrim allZ
  rw [List.all_reverse, ← List.all_reverse (l := l)]
  generalize l.reverse = m
  induction m with
  | nil => rfl
  | cons a m ih =>
    rw [List.dropWhile_cons]
    by_cases h : (a == 0) = true
    · rw [if_pos h, ih, List.all_cons, h, Bool.true_and]
    · rw [if_neg h]
theorem trimmed_len (l : List UInt8) : (ltrim (rtrim l)).length = 0 ↔ allZ l = true := by
  rw [List.length_eq_zero_iff, ltrim_nil, allZ_rtrim]
theorem ltrim_at (l : List UInt8) (k : Nat) (hk : k ≤ l.length) (hz : ∀ q, q < k → l.getD q 0 = 0) (hs : k < l.length → l.getD k 0 ≠ 0) : ltrim l = l.drop k := by
  induction l generalizing k with
  | nil => simp at hk; subst hk; rfl
  | cons a l ih =>
    unfold ltrim
    rw [List.dropWhile_cons]
    cases k with
    | zero =>
      have := hs (by simp)
      simp at this
      rw [if_neg (by simpa using this)]
      rfl
    | succ k =>
      have h0 := hz 0 (by omega)
      simp at h0
      rw [if_pos (by simpa using h0)]
      exact ih k (by simpa using hk) (fun q hq => by simpa using hz (q + 1) (by omega)) (fun h => by simpa using hs (by simpa using h))
theorem rtrim_at (l : List UInt8) (k : Nat) (hk : k ≤ l.length) (hz : ∀ q, k ≤ q → q < l.length → l.getD q 0 = 0) (hs : 0 < k → l.getD (k - 1) 0 ≠ 0) : rtrim l = l.take k := by
  unfold rtrim
  have hr : ∀ q, q < l.length → l.reverse.getD q 0 = l.getD (l.length - 1 - q) 0 := by
    intro q hq
    simp only [List.getD_eq_getElem?_getD]
    rw [List.getElem?_reverse hq]
  have h := ltrim_at l.reverse (l.length - k) (by simp) (fun q hq => by
    rw [hr q (by omega)]
    exact hz _ (by omega) (by omega)) (fun h => by
    simp at h
    rw [hr _ (by omega)]
    have : l.length - 1 - (l.length - k) = k - 1 := by omega
    rw [this]
    exact hs (by omega))
  unfold ltrim at h
  rw [h, List.reverse_drop]
  simp
  congr 1
  omega

theorem bv_eq_zero (a : UInt8) : (((a.toNat : Int) == 0) = true) ↔ a = 0 := by
  rw [beq_iff_eq]
  constructor
  · intro h; exact UInt8.toNat_inj.1 (by simpa using h)
  · rintro rfl; rfl

set_option maxHeartbeats 4000000 in
set_option maxRecDepth 100000 in
theorem trimL_any (v : Value) (l : List UInt8) (w : World) (h : BytesAt w v l) (hl : l.length ≤ 1000000000) :
    Calls Tryz.prog 127 #[v, .int .u8 0] w fun e w' => (∃ v', e = .returned v' ∧ BytesAt w v' (ltrim l)) ∧ w = w' := by
  obtain ⟨a, cap, rfl, h1, h2, h3⟩ := h
  unfold maxLen at h2
  by_cases hn : l = []
  · subst hn
    go_enter Tryz.func127, Tryz.ntmps127
    go_wp2
    go_loopg [0] 0 (fun g' s0 wr => ∃ a cap, s0 = .slice a 0 cap ∧ wr = w)
    case atStart => exact ⟨_, _, rfl, rfl⟩
    case round =>
      obtain ⟨a1, cap1, rfl, rfl⟩ := hrel
      go_wp2
      go_ret
      exact ⟨⟨_, rfl, BytesAt.nil _⟩, rfl⟩
  · rcases h3 with ⟨rfl, _⟩ | ⟨g, o, rfl, hc⟩
    · exact absurd rfl hn
    have HC := Lib.hid hc
    have hpos : 0 < l.length := List.length_pos_iff.2 hn
    clear hc hn
    go_enter Tryz.func127, Tryz.ntmps127
    go_wp2
    go_loopg [0] l.length (fun g' s0 wr => ∃ (k o' : Nat), s0 = .slice (some ⟨g, o', none⟩) (l.length - k) (cap - k) ∧ k ≤ l.length ∧ l.length ≤ k + g' ∧ (k < l.length → o' = o + k) ∧ Hid (∀ q, q < k → l.getD q 0 = 0) ∧ wr = w)
    case atStart => exact ⟨0, o, rfl, by omega, by omega, fun _ => rfl, Lib.hid (fun q hq => absurd hq (by omega)), rfl⟩
    case round =>
      obtain ⟨k, o', rfl, hk, hkg, ho, HZ, rfl⟩ := hrel
      by_cases hlt : k < l.length
      · obtain rfl := ho hlt
        have hcell := HC.out k hlt
        obtain ⟨x, hx⟩ : ∃ x, x = l.getD k 0 := ⟨_, rfl⟩
        rw [← hx] at hcell
        unfold bv at hcell
        have HX := Lib.hid hx
        clear hx ho
        obtain ⟨m, hm⟩ : ∃ m, m = l.length - k := ⟨_, rfl⟩
        obtain ⟨c, hcc⟩ : ∃ c, c = cap - k := ⟨_, rfl⟩
        rw [← hm, ← hcc]
        have hm1 : 1 ≤ m := by omega
        have hm2 : m ≤ c := by omega
        have hm3 : c ≤ 9223372036854775807 := by omega
        have HM := Lib.hid hm
        have HCC := Lib.hid hcc
        clear hm hcc
        have hmz : (0 : Int) < (m : Int) := by omega
        have hmd : decide ((m : Int) > 0) = true := decide_eq_true (by omega)
        have hmd2 : decide (0 < m) = true := decide_eq_true (by omega)
        by_cases hx0 : x = 0
        · have hq : (((x.toNat : Int)) == 0) = true := (bv_eq_zero x).2 hx0
          have HZ1 : Hid (∀ q, q < k + 1 → l.getD q 0 = 0) := Lib.hid (fun q hq => by
            rcases Nat.lt_or_ge q k with h | h
            · exact HZ.out q h
            · obtain rfl : q = k := by omega
              rw [← HX.out, hx0])
          clear hx0
          by_cases hc1 : c = 1
          · obtain rfl : m = 1 := by omega
            subst hc1
            go_wp2
            go_roundg (gk - 1)
            case measure => have := HM.out; omega
            case rel => exact ⟨k + 1, o + k, by rw [show l.length - (k + 1) = 0 by (have := HM.out; omega), show cap - (k + 1) = 0 by (have := HCC.out; omega)], by omega, by omega, fun h => by (have := HM.out; omega), HZ1, rfl⟩
          · go_wp2
            go_roundg (gk - 1)
            case measure => have := HM.out; omega
            case rel => exact ⟨k + 1, o + k + 1, by rw [show l.length - (k + 1) = m - 1 by (have := HM.out; omega), show cap - (k + 1) = c - 1 by (have := HCC.out; omega)], by omega, by omega, fun h => by omega, HZ1, rfl⟩
        · have hq : (((x.toNat : Int)) == 0) = false := by
            cases h : ((x.toNat : Int) == 0)
            · rfl
            · exact absurd ((bv_eq_zero x).1 h) hx0
          have HT : Hid (ltrim l = l.drop k) := Lib.hid (ltrim_at l k hk HZ.out (fun _ => by rw [← HX.out]; exact hx0))
          have hm0 : ((m : Int) == 0) = false := by simp; omega
          clear hx0
          go_wp2
          go_ret
          refine ⟨⟨_, rfl, ?_⟩, rfl⟩
          rw [HT.out, HM.out, HCC.out]
          refine ⟨_, cap - k, by rw [List.length_drop]; rfl, by rw [List.length_drop]; omega, by unfold maxLen; omega, .inr ⟨g, o + k, rfl, fun i hi => ?_⟩⟩
          rw [List.length_drop] at hi
          have hg : (l.drop k).getD i 0 = l.getD (k + i) 0 := by simp [List.getD_eq_getElem?_getD, List.getElem?_drop]
          rw [hg, Nat.add_assoc]
          exact HC.out (k + i) (by omega)
      · obtain rfl : k = l.length := by omega
        have HT : Hid (ltrim l = []) := Lib.hid (by rw [ltrim_at l l.length (Nat.le_refl _) HZ.out (fun h => absurd h (by omega))]; simp)
        rw [Nat.sub_self]
        clear ho
        go_wp2
        go_ret
        exact ⟨⟨_, rfl, by rw [HT.out]; exact BytesAt.nil _⟩, rfl⟩

set_option maxHeartbeats 4000000 in
set_option maxRecDepth 100000 in
theorem trimR_any (v : Value) (l : List UInt8) (w : World) (h : BytesAt w v l) (hl : l.length ≤ 1000000000) :
    Calls Tryz.prog 128 #[v, .int .u8 0] w fun e w' => (∃ v', e = .returned v' ∧ BytesAt w v' (rtrim l)) ∧ w = w' := by
  obtain ⟨a, cap, rfl, h1, h2, h3⟩ := h
  have HB := Lib.hid (show BytesAt w (.slice a l.length cap) l from ⟨a, cap, rfl, h1, h2, h3⟩)
  unfold maxLen at h2
  by_cases hn : l = []
  · subst hn
    go_enter Tryz.func128, Tryz.ntmps128
    go_wp2
    go_loopg [0] 0 (fun g' s0 wr => s0 = .slice a 0 cap ∧ wr = w)
    case atStart => exact ⟨rfl, rfl⟩
    case round =>
      obtain ⟨rfl, rfl⟩ := hrel
      go_wp2
      go_ret
      exact ⟨⟨_, rfl, HB.out⟩, rfl⟩
  · rcases h3 with ⟨rfl, _⟩ | ⟨g, o, rfl, hc⟩
    · exact absurd rfl hn
    have HC := Lib.hid hc
    have hpos : 0 < l.length := List.length_pos_iff.2 hn
    clear hc hn
    go_enter Tryz.func128, Tryz.ntmps128
    go_wp2
    go_loopg [0] l.length (fun g' s0 wr => ∃ (k : Nat), s0 = .slice (some ⟨g, o, none⟩) k cap ∧ k ≤ l.length ∧ k ≤ g' ∧ Hid (∀ q, k ≤ q → q < l.length → l.getD q 0 = 0) ∧ wr = w)
    case atStart => exact ⟨l.length, rfl, by omega, by omega, Lib.hid (fun q hq hq2 => absurd hq2 (by omega)), rfl⟩
    case round =>
      obtain ⟨k, rfl, hk, hkg, HZ, rfl⟩ := hrel
      cases k with
      | zero =>
        have HT : Hid (rtrim l = []) := Lib.hid (by rw [rtrim_at l 0 (by omega) HZ.out (fun h => absurd h (by omega))]; simp)
        go_wp2
        go_ret
        refine ⟨⟨_, rfl, ?_⟩, rfl⟩
        rw [HT.out]
        exact ⟨_, cap, rfl, by simp, by unfold maxLen; omega, .inr ⟨g, o, rfl, fun i hi => absurd hi (by simp)⟩⟩
      | succ k =>
        have hcell := HC.out k (by omega)
        obtain ⟨x, hx⟩ : ∃ x, x = l.getD k 0 := ⟨_, rfl⟩
        rw [← hx] at hcell
        unfold bv at hcell
        have HX := Lib.hid hx
        clear hx
        have hkz : ((k + 1 : Nat) : Int) - 1 = (k : Int) := by omega
        have hkc : k ≤ cap := by omega
        have hkt : (k : Int).toNat = k := by omega
        by_cases hx0 : x = 0
        · have hq : (((x.toNat : Int)) == 0) = true := (bv_eq_zero x).2 hx0
          have HZ1 : Hid (∀ q, k ≤ q → q < l.length → l.getD q 0 = 0) := Lib.hid (fun q hq hql => by
            rcases Nat.lt_or_ge k q with h | h
            · exact HZ.out q h hql
            · obtain rfl : q = k := by omega
              rw [← HX.out, hx0])
          clear hx0
          go_wp2
          go_roundg k
          case measure => omega
          case rel => exact ⟨k, rfl, by omega, by omega, HZ1, rfl⟩
        · have hq : (((x.toNat : Int)) == 0) = false := by
            cases h : ((x.toNat : Int) == 0)
            · rfl
            · exact absurd ((bv_eq_zero x).1 h) hx0
          have HT : Hid (rtrim l = l.take (k + 1)) := Lib.hid (rtrim_at l (k + 1) hk HZ.out (fun _ => by rw [show k + 1 - 1 = k by omega, ← HX.out]; exact hx0))
          clear hx0
          go_wp2
          go_ret
          refine ⟨⟨_, rfl, ?_⟩, rfl⟩
          rw [HT.out]
          have hlen : (l.take (k + 1)).length = k + 1 := by rw [List.length_take]; omega
          refine ⟨some ⟨g, o, none⟩, cap, by rw [hlen]; rfl, by omega, by unfold maxLen; omega, .inr ⟨g, o, rfl, fun i hi => ?_⟩⟩
          rw [hlen] at hi
          have hg : (l.take (k + 1)).getD i 0 = l.getD i 0 := by simp [List.getD_eq_getElem?_getD, List.getElem?_take, hi]
          rw [hg]
          exact HC.out i (by omega)

set_option maxHeartbeats 4000000 in
set_option maxRecDepth 100000 in
theorem trim_any (v : Value) (l : List UInt8) (w : World) (h : BytesAt w v l) (hl : l.length ≤ 1000000000) :
    Calls Tryz.prog 90 #[v, .string { data := #[0] }] w fun e w' => (∃ v', e = .returned v' ∧ BytesAt w v' (ltrim (rtrim l))) ∧ ∃ n, w' = w.drewN n := by
  have hdr : ∀ {u : Value} {m : List UInt8}, BytesAt w u m → BytesAt w.drew u m := fun h => h.keep (fun _ _ => rfl)
  have CR := Lib.hid (trimR_any v l w.drew (hdr h) hl)
  have hrl : (rtrim l).length ≤ l.length := by
    unfold rtrim
    rw [List.length_reverse]
    exact Nat.le_trans (List.Sublist.length_le (List.dropWhile_sublist _)) (by simp)
  have CL := Lib.hid (fun u (hu : BytesAt w.drew u (rtrim l)) => trimL_any u (rtrim l) w.drew hu (by omega))
  obtain ⟨a, cap, rfl, h1, h2, h3⟩ := h
  by_cases hn : l = []
  · subst hn
    go_enter Tryz.func90, Tryz.ntmps90
    go_wp2
    go_ret
    exact ⟨⟨_, rfl, by rw [show ltrim (rtrim []) = [] from rfl]; exact BytesAt.nil _⟩, 0, rfl⟩
  · have hpos : 0 < l.length := List.length_pos_iff.2 hn
    have hl0 : ((l.length : Int) == 0) = false := by simp; omega
    clear h3 hn hdr hrl
    go_enter Tryz.func90, Tryz.ntmps90
    go_wp2_with fail
    refine wp_region_L [] (by kernel_rfl) ?_ (fun hHeld => ?_)
    · exact HoldC.nil
    refine wpAnyL_take (i := 0) (oi := _) (v := ?_) rfl (by kernel_rfl) (by kernel_rfl) (by kernel_rfl) (by kernel_rfl) (by kernel_rfl) (fun _ _ _ h => h) (Or.inl ⟨by rfl, ?_⟩) (by assumption) (fun hNew => ?_)
    rotate_left
    · intro w _
      go_simp
      try with_reducible rfl
    clear hHeld
    have hHeld := hNew
    clear hNew
    try simp only [List.getElem_toArray, List.getElem_cons_succ, List.getElem_cons_zero, Act.put, List.setIfInBounds_toArray, List.set_cons_zero, List.set_cons_succ]
    refine wpAnyL_take (i := 1) (oi := _) (v := ?_) rfl (by kernel_rfl) (by kernel_rfl) (by kernel_rfl) (by kernel_rfl) (by kernel_rfl) (fun _ _ _ h => h) (Or.inl ⟨by rfl, ?_⟩) (by assumption) (fun hNew => ?_)
    rotate_left
    · intro w _
      go_simp
      try with_reducible rfl
    clear hHeld
    have hHeld := hNew
    clear hNew
    try simp only [List.getElem_toArray, List.getElem_cons_succ, List.getElem_cons_zero, Act.put, List.setIfInBounds_toArray, List.set_cons_zero, List.set_cons_succ]
    refine wpAnyL_take (i := 2) (oi := _) (v := ?_) rfl (by kernel_rfl) (by kernel_rfl) (by kernel_rfl) (by kernel_rfl) (by kernel_rfl) (fun _ _ _ h => h) (Or.inl ⟨by rfl, ?_⟩) (by assumption) (fun hNew => ?_)
    rotate_left
    · intro w _
      go_simp
      try with_reducible rfl
    clear hHeld
    have hHeld := hNew
    clear hNew
    try simp only [List.getElem_toArray, List.getElem_cons_succ, List.getElem_cons_zero, Act.put, List.setIfInBounds_toArray, List.set_cons_zero, List.set_cons_succ]
    refine wpAnyL_take (i := 4) (oi := _) (v := ?_) rfl (by kernel_rfl) (by kernel_rfl) (by kernel_rfl) (by kernel_rfl) (by kernel_rfl) (fun _ _ _ h => h) (Or.inl ⟨by rfl, ?_⟩) (by assumption) (fun hNew => ?_)
    rotate_left
    · intro w _
      go_simp
      try with_reducible rfl
    clear hHeld
    have hHeld := hNew
    clear hNew
    try simp only [List.getElem_toArray, List.getElem_cons_succ, List.getElem_cons_zero, Act.put, List.setIfInBounds_toArray, List.set_cons_zero, List.set_cons_succ]
    refine wpAnyL_take (i := 5) (oi := _) (v := ?_) rfl (by kernel_rfl) (by kernel_rfl) (by kernel_rfl) (by kernel_rfl) (by kernel_rfl) (fun _ _ _ h => h) (Or.inl ⟨by rfl, ?_⟩) (by assumption) (fun hNew => ?_)
    rotate_left
    · intro w _
      go_simp
      try with_reducible rfl
    clear hHeld
    have hHeld := hNew
    clear hNew
    try simp only [List.getElem_toArray, List.getElem_cons_succ, List.getElem_cons_zero, Act.put, List.setIfInBounds_toArray, List.set_cons_zero, List.set_cons_succ]
    refine wpAnyL_ready (rs := [3]) (by kernel_rfl) (by simp) ?_
    refine AllReadyL.cons (o := _) rfl (fun K hK => ?_) AllReadyL.nil
    try simp only [List.getElem_toArray, List.getElem_cons_succ, List.getElem_cons_zero]
    go_simp
    refine CR.out.mono ?_
    rintro e w' ⟨⟨v1, rfl, hv1⟩, hq⟩
    subst hq
    try go_wp2_with fail
    clear hHeld
    refine hK.out _ _ ?_ (fun hHeld => ?_)
    · exact HoldC.nil
    clear hK K
    try simp only [List.getElem_toArray, List.getElem_cons_succ, List.getElem_cons_zero, Act.put, List.setIfInBounds_toArray, List.set_cons_zero, List.set_cons_succ]
    refine wpAnyL_ready (rs := [6]) (by kernel_rfl) (by simp) ?_
    refine AllReadyL.cons (o := _) rfl (fun K hK => ?_) AllReadyL.nil
    try simp only [List.getElem_toArray, List.getElem_cons_succ, List.getElem_cons_zero]
    go_simp
    refine (CL.out v1 hv1).mono ?_
    rintro e w' ⟨⟨v2, rfl, hv2⟩, hq⟩
    subst hq
    try go_wp2_with fail
    clear hHeld
    refine hK.out _ _ ?_ (fun hHeld => ?_)
    · exact HoldC.nil
    clear hK K
    try simp only [List.getElem_toArray, List.getElem_cons_succ, List.getElem_cons_zero, Act.put, List.setIfInBounds_toArray, List.set_cons_zero, List.set_cons_succ]
    refine wpAnyL_take (i := 7) (oi := _) (v := ?_) rfl (by kernel_rfl) (by kernel_rfl) (by kernel_rfl) (by kernel_rfl) (by kernel_rfl) (fun _ _ _ h => h) (Or.inl ⟨by rfl, ?_⟩) (by assumption) (fun hNew => ?_)
    rotate_left
    · intro w _
      go_simp
      try with_reducible rfl
    clear hHeld
    have hHeld := hNew
    clear hNew
    try simp only [List.getElem_toArray, List.getElem_cons_succ, List.getElem_cons_zero, Act.put, List.setIfInBounds_toArray, List.set_cons_zero, List.set_cons_succ]
    refine wpAnyL_done (by kernel_rfl) ?_ _
    clear hHeld
    have HV2 := Lib.hid hv2
    clear hv1 hv2 CR CL
    go_wp2
    go_ret
    exact ⟨⟨v2, rfl, HV2.out.keep (fun _ _ => rfl)⟩, 1, rfl⟩

set_option maxHeartbeats 4000000 in
set_option maxRecDepth 100000 in
theorem noughts_any (v : Value) (l : List UInt8) (w : World) (h : BytesAt w v l) (hl : l.length ≤ 1000000000) :
    Calls Tryz.prog 157 #[v] w fun e w' => e = .returned (.bool (allZ l)) ∧ ∃ n, w' = w.drewN n := by
  have CT := Lib.hid (trim_any v l w h hl)
  have hz := trimmed_len l
  have HZ : Hid ((((ltrim (rtrim l)).length : Int) == 0) = allZ l) := Lib.hid (by
    rw [Bool.eq_iff_iff, ← hz]
    simp)
  clear hz h
  go_enter Tryz.func157, Tryz.ntmps157
  go_wp2_with fail
  refine CT.out.mono ?_
  rintro e w' ⟨⟨v1, rfl, a, cap, rfl, _⟩, n, rfl⟩
  clear CT
  go_wp2
  go_ret
  exact ⟨by rw [← HZ.out]; rfl, n, rfl⟩
end Go.Proofs.YtdkhmfcfihbjeaaGreatDoor.W

/- What the deferred closure of package wire's read does. -/
namespace Go.Proofs.YtdkhmfcfihbjeaaGreatDoor.W
open Go.RowKit
set_option linter.unusedVariables false
set_option linter.unusedSimpArgs false

theorem assert_nil (w : World) : (Instr.typeAssert .nilIface 20 162 true).run Tryz.prog w = .ok (.tuple #[.agg #[.int .i64 0], .bool false]) w := by kernel_rfl
theorem assert_give (x : Int) (w : World) : (Instr.typeAssert (.iface 162 (.agg #[.int .i64 x])) 20 162 true).run Tryz.prog w = .ok (.tuple #[.agg #[.int .i64 x], .bool true]) w := by kernel_rfl

set_option maxHeartbeats 2000000 in
set_option maxRecDepth 100000 in
theorem catch_idle (pa pb : Value) (w : World) :
    CallsD Tryz.prog 139 #[pa, pb] .returning w fun e u' w' => e = .returned (.tuple #[]) ∧ u' = .returning ∧ w' = w.alloc (.cells #[.int .i64 0] 162) := by
  have hta := assert_nil
  refine callsD_of_wpS Tryz.func139 rfl fun c₀ cs hu => ?_
  rw [Tryz.ntmps139]
  change Code.wpS Tryz.prog _ _ ⟨#[pa, pb, undef, undef, undef, undef, undef, undef, undef, undef, undef, undef, undef, undef, undef, undef, undef, undef, undef], []⟩ _ _
  apply wpS_seq
  apply wpS_region
  simp [wpOpsS, go_sem, recoverD, hu, Exit.thenS, hta]
  apply wpS_seq
  apply wpS_region
  simp [wpOpsS, go_sem, Exit.thenS]
  refine wpS_cond (t := false) (by simp [Act.eval]) ?_
  simp only [Bool.false_eq_true, if_false]
  refine wpS_of_wp (wp_skip ?_)
  cases c₀
  simp_all [bodyPostS, results, Tryz.results139]

set_option maxHeartbeats 2000000 in
set_option maxRecDepth 100000 in
theorem catch_panic (b pa pb : Nat) (av : Option Addr) (L cap : Nat) (v1 bad : Value) (x : Int) (older : List PanicEntry) (w : World) (ha : w.heap[pa]? = some (.cells #[.slice av L cap] 30 (0, 0))) (hp : w.heap[pb]? = some (.cells #[.pointer (some ⟨b, 0, none⟩)] 120 (0, 0)))
    (hb : w.heap[b]? = some (.cells #[.bool true, v1, bad] 159 (0, 0))) :
    CallsD Tryz.prog 139 #[.pointer (some ⟨pa, 0, none⟩), .pointer (some ⟨pb, 0, none⟩)] (.panicking ({ v := .iface 162 (.agg #[.int .i64 x]), recovered := false } :: older)) w fun e u' w' =>
      e = .returned (.tuple #[]) ∧ u' = .panicking ({ v := .iface 162 (.agg #[.int .i64 x]), recovered := true } :: older) ∧ Chg [b] w w' ∧ w'.heap[b]? = some (.cells #[.bool true, .slice av L cap, .int .i64 x] 159 (0, 0)) := by
  have hta := assert_give x
  have ha0 := blk_cell ha 0 _ rfl
  have hp0 := blk_cell hp 0 _ rfl
  have hf1 := blk_frozen hb 1
  have hf2 := blk_frozen hb 2
  have hb1 := blk_cell hb 1 _ rfl
  have hb2 := blk_cell hb 2 _ rfl
  have l1 := blk_lt ha
  have l2 := blk_lt hp
  have l3 := blk_lt hb
  have l4 : ¬ (b = w.heap.size) := Nat.ne_of_lt l3
  have HB := Lib.hid hb
  clear ha hp hb
  refine callsD_of_wpS Tryz.func139 rfl fun c₀ cs hu => ?_
  rw [Tryz.ntmps139]
  change Code.wpS Tryz.prog _ _ ⟨#[_, _, undef, undef, undef, undef, undef, undef, undef, undef, undef, undef, undef, undef, undef, undef, undef, undef, undef], []⟩ _ _
  apply wpS_seq
  apply wpS_region
  simp [wpOpsS, go_sem, recoverD, hu, Exit.thenS, hta]
  apply wpS_seq
  apply wpS_region
  simp [wpOpsS, go_sem, Exit.thenS]
  refine wpS_cond (t := true) (by simp [Act.eval]) ?_
  simp only [if_true]
  refine wpS_of_wp ?_
  go_region
  refine ⟨rfl, _, rfl, .tuple #[], by simp [results, Tryz.results139], rfl, rfl, ?_, ?_⟩
  · exact ((((Chg.refl [b] w).setCell (p := ⟨b, 1, none⟩) (.inl (by simp)) _).setCell (p := ⟨b, 2, none⟩) (.inl (by simp)) _).alloc _).drew
  · exact blk_alloc (set_blk (set_blk HB.out))
end Go.Proofs.YtdkhmfcfihbjeaaGreatDoor.W

/- Plain: what chapter 1's eyes and pens compute. -/
namespace Go.Proofs.YtdkhmfcfihbjeaaGreatDoor.W
set_option linter.unusedVariables false
set_option linter.unusedSimpArgs false

def beNum (l : List UInt8) : Nat := l.foldl (fun x c => x * 256 + c.toNat) 0
theorem beNum_snoc (l : List UInt8) (c : UInt8) : beNum (l ++ [c]) = beNum l * 256 + c.toNat := by simp [beNum]
theorem beNum_from (l : List UInt8) : ∀ x : Nat, l.foldl (fun x c => x * 256 + c.toNat) x < (x + 1) * 256 ^ l.length := by
  induction l with
  | nil => intro x; simp
  | cons c l ih =>
    intro x
    have h := ih (x * 256 + c.toNat)
    rw [List.foldl_cons, List.length_cons, Nat.pow_succ']
    have hc := c.toNat_lt
    have h2 : (x * 256 + c.toNat + 1) * 256 ^ l.length ≤ ((x + 1) * 256) * 256 ^ l.length := Nat.mul_le_mul_right _ (by omega)
    rw [← Nat.mul_assoc]
    omega
theorem beNum_lt (l : List UInt8) : beNum l < 256 ^ l.length := by
  have := beNum_from l 0
  simpa [beNum] using this
theorem take_snocU (l : List UInt8) (k : Nat) (h : k < l.length) : l.take (k + 1) = l.take k ++ [l.getD k 0] := by
  rw [List.take_succ_eq_append_getElem h, List.getD_eq_getElem?_getD, List.getElem?_eq_getElem h]; rfl
theorem getD_take (l : List UInt8) (n k : Nat) (h : k < n) : (l.take n).getD k 0 = l.getD k 0 := by
  simp [List.getD_eq_getElem?_getD, List.getElem?_take, h]
theorem getD_drop (l : List UInt8) (n k : Nat) : (l.drop n).getD k 0 = l.getD (n + k) 0 := by
  simp [List.getD_eq_getElem?_getD, List.getElem?_drop]
theorem pow6 (k : Nat) (h : k ≤ 6) : 256 ^ k ≤ 281474976710656 := by
  have : 256 ^ k ≤ 256 ^ 6 := Nat.pow_le_pow_right (by omega) h
  simpa using this
theorem beNum_take_le (l : List UInt8) (k : Nat) (h : k ≤ 6) : beNum (l.take k) < 281474976710656 := by
  refine Nat.lt_of_lt_of_le (beNum_lt _) (pow6 _ ?_)
  exact Nat.le_trans (List.length_take_le _ _) h
theorem or_byte (a : Nat) (c : UInt8) : a * 256 ||| c.toNat = a * 256 + c.toNat := by
  have h := Nat.shiftLeft_add_eq_or_of_lt (show c.toNat < 2 ^ 8 from c.toNat_lt) a
  rw [Nat.shiftLeft_eq] at h
  exact h.symm

/-- Num: the number, the bytes that are left, the error. -/
def eyeNum (l : List UInt8) (bad : Int) (n : Nat) : Int × List UInt8 × Int :=
  if bad ≠ 0 then (0, l, bad) else if l.length < n then (0, l, 2) else ((beNum (l.take n) : Int), l.drop n, 0)
end Go.Proofs.YtdkhmfcfihbjeaaGreatDoor.W

/- The eye of package wire. -/
namespace Go.Proofs.YtdkhmfcfihbjeaaGreatDoor.W
open Go.RowKit
set_option linter.unusedVariables false
set_option linter.unusedSimpArgs false

set_option maxHeartbeats 1000000 in
theorem take_ok (b g o cap : Nat) (l : List UInt8) (bad : Value) (n : Nat) (w : World) (h : w.heap[b]? = some (.cells #[.bool true, .slice (some ⟨g, o, none⟩) l.length cap, bad] 159 (0, 0)))
    (hl : l.length ≤ cap) (hc : cap ≤ maxLen) (hn : n ≤ l.length) :
    Calls Tryz.prog 105 #[.pointer (some ⟨b, 0, none⟩), .int .i64 n] w fun e w' => e = .returned (.slice (some ⟨g, o, none⟩) n n) ∧
      w' = w.setCell ⟨b, 1, none⟩ (.slice (some ⟨g, if cap = n then o else o + n, none⟩) (l.length - n) (cap - n)) := by
  have c1 := blk_cell h 1 _ rfl
  have f1 := blk_frozen h 1
  have hlt := blk_lt h
  unfold maxLen at hc
  clear h
  by_cases hcn : cap = n
  · go_enter Tryz.func105, Tryz.ntmps105
    go_wp2
    go_ret
    exact ⟨rfl, rfl⟩
  · go_enter Tryz.func105, Tryz.ntmps105
    go_wp2
    go_ret
    exact ⟨rfl, rfl⟩

/-- The panic of an eye that gives up. -/
def gaveUp (x : Int) : Ending := .panicked [{ v := .iface 162 (.agg #[.int .i64 x]), recovered := false }]

set_option maxHeartbeats 1000000 in
theorem take_short (b : Nat) (a : Option Addr) (L cap : Nat) (bad : Value) (n : Int) (w : World) (h : w.heap[b]? = some (.cells #[.bool true, .slice a L cap, bad] 159 (0, 0)))
    (hL : L ≤ 1000000000000) (hn : (L : Int) < n) :
    Calls Tryz.prog 105 #[.pointer (some ⟨b, 0, none⟩), .int .i64 n] w fun e w' => e = gaveUp 2 ∧ w = w' := by
  have c1 := blk_cell h 1 _ rfl
  have f1 := blk_frozen h 1
  have hlt := blk_lt h
  clear h
  unfold gaveUp
  go_enter Tryz.func105, Tryz.ntmps105
  go_wp2
  exact ⟨rfl, rfl, rfl⟩

theorem wmay_yes (n : Int) (w : World) (h1 : 1 ≤ n) (h7 : n ≤ 7) : Calls Tryz.prog 97 #[.int .i64 n] w fun e w' => e = .returned (.bool true) ∧ w = w' := by
  go_enter Tryz.func97, Tryz.ntmps97
  go_wp2
  go_ret
  exact ⟨rfl, rfl⟩

end Go.Proofs.YtdkhmfcfihbjeaaGreatDoor.W

/- Package wire's read: a step that ends, and a step that gives up. -/
namespace Go.Proofs.YtdkhmfcfihbjeaaGreatDoor.W
open Go.RowKit
set_option linter.unusedVariables false
set_option linter.unusedSimpArgs false

set_option maxHeartbeats 2000000 in
set_option maxRecDepth 100000 in
theorem read_done (b : Nat) (v : Value) (bad : Int) (k : FuncId) (cap : Array Value) (w : World) (h : w.heap[b]? = some (.cells #[.bool true, v, .int .i64 bad] 159 (0, 0))) (hbad : bad ≠ 0) :
    Calls Tryz.prog 101 #[.pointer (some ⟨b, 0, none⟩), .func (.func k) #[] cap] w fun e w' => e = .returned (.tuple #[]) ∧ w' = w.alloc (.cells #[.pointer (some ⟨b, 0, none⟩)] 120) := by
  have h0 := blk_cell h 0 _ rfl
  have h2 := blk_cell h 2 _ rfl
  have hl := blk_lt h
  have hz : (bad != 0) = true := by simp [hbad]
  have HB := Lib.hid hbad
  clear h hbad
  go_enter_defers Tryz.func101, Tryz.ntmps101
  go_wp2
  exact ⟨.tuple #[], by simp [results, Tryz.results101], rfl, rfl⟩

set_option maxHeartbeats 2000000 in
set_option maxRecDepth 100000 in
theorem read_ret (b : Nat) (v : Value) (k : FuncId) (cap : Array Value) (w : World) (ent : ∀ args w, (callFunc k args).run Tryz.prog w = .ok (.enter k args) w) (a : Option Addr) (L c : Nat) (hv : v = .slice a L c)
    (h : w.heap[b]? = some (.cells #[.bool true, v, .int .i64 0] 159 (0, 0))) (Q : World → Prop) (HS : Hid (Calls Tryz.prog k cap ((w.alloc (.cells #[.pointer (some ⟨b, 0, none⟩)] 120)).alloc (.cells #[v] 30)) fun e w' => e = .returned (.tuple #[]) ∧ Q w')) :
    Calls Tryz.prog 101 #[.pointer (some ⟨b, 0, none⟩), .func (.func k) #[] cap] w fun e w' => e = .returned (.tuple #[]) ∧ ∃ w1, Q w1 ∧ w' = w1.alloc (.cells #[.int .i64 0] 162) := by
  subst hv
  have h0 := blk_cell h 0 _ rfl
  have h1 := blk_cell h 1 _ rfl
  have h2 := blk_cell h 2 _ rfl
  have hl := blk_lt h
  have hmf : ∀ (fn : Fn) (first cap : Array Value) (w : World), (Instr.makeFunc fn first cap).run Tryz.prog w = .ok (.func fn first cap) w := fun _ _ _ _ => rfl
  clear h
  go_enter_defers Tryz.func101, Tryz.ntmps101
  go_wp2
  refine HS.out.mono ?_
  rintro e w1 ⟨rfl, hq⟩
  have HQ := Lib.hid hq
  clear hq HS
  go_wp2
  refine leaves_cons (f := 139) (args := #[.pointer (some ⟨w.heap.size + 1, 0, none⟩), .pointer (some ⟨w.heap.size, 0, none⟩)]) (by simp) (by simp [go_sem]) ?_
  refine (catch_idle _ _ _).mono ?_
  rintro e u' w'' ⟨rfl, rfl, rfl⟩
  exact ⟨.tuple #[], by simp [results, Tryz.results101], rfl, _, HQ.out, rfl⟩

set_option maxHeartbeats 2000000 in
set_option maxRecDepth 100000 in
theorem read_panic (b : Nat) (v : Value) (k : FuncId) (cap : Array Value) (w : World) (ent : ∀ args w, (callFunc k args).run Tryz.prog w = .ok (.enter k args) w) (a : Option Addr) (L c : Nat) (hv : v = .slice a L c) (x : Int)
    (h : w.heap[b]? = some (.cells #[.bool true, v, .int .i64 0] 159 (0, 0))) (S : List Nat) (hS : ∀ k ∈ S, k < w.heap.size)
    (HS : Hid (Calls Tryz.prog k cap ((w.alloc (.cells #[.pointer (some ⟨b, 0, none⟩)] 120)).alloc (.cells #[v] 30)) fun e w' => e = gaveUp x ∧ ∃ v1, Chg S ((w.alloc (.cells #[.pointer (some ⟨b, 0, none⟩)] 120)).alloc (.cells #[v] 30)) w' ∧ w'.heap[b]? = some (.cells #[.bool true, v1, .int .i64 0] 159 (0, 0)))) :
    Calls Tryz.prog 101 #[.pointer (some ⟨b, 0, none⟩), .func (.func k) #[] cap] w fun e w' => e = .returned (.tuple #[]) ∧ Chg (b :: S) w w' ∧ w'.heap[b]? = some (.cells #[.bool true, v, .int .i64 x] 159 (0, 0)) := by
  subst hv
  have h0 := blk_cell h 0 _ rfl
  have h1 := blk_cell h 1 _ rfl
  have h2 := blk_cell h 2 _ rfl
  have hl := blk_lt h
  have HSS := Lib.hid hS
  have hmf : ∀ (fn : Fn) (first cap : Array Value) (w : World), (Instr.makeFunc fn first cap).run Tryz.prog w = .ok (.func fn first cap) w := fun _ _ _ _ => rfl
  clear h hS
  go_enter_defers Tryz.func101, Tryz.ntmps101
  go_wp2
  refine HS.out.mono ?_
  rintro e w1 ⟨rfl, v1, hch, hb⟩
  have hA : w1.heap[w.heap.size]? = some (.cells #[.pointer (some ⟨b, 0, none⟩)] 120 (0, 0)) :=
    hch.keep (blk_alloc (heap_alloc_new w _)) (fun hm => by have := HSS.out _ hm; omega)
  have hB : w1.heap[w.heap.size + 1]? = some (.cells #[.slice a L c] 30 (0, 0)) := by
    refine hch.keep ?_ (fun hm => by have := HSS.out _ hm; omega)
    have := heap_alloc_new (w.alloc (.cells #[.pointer (some ⟨b, 0, none⟩)] 120)) (.cells #[.slice a L c] 30)
    simpa using this
  have CP := Lib.hid (catch_panic b (w.heap.size + 1) w.heap.size a L c v1 _ x [] w1 hB hA hb)
  have HC := Lib.hid hch
  clear hch hA hB hb HS
  refine leaves_cons (f := 139) (args := #[.pointer (some ⟨w.heap.size + 1, 0, none⟩), .pointer (some ⟨w.heap.size, 0, none⟩)]) (by simp) (by simp [go_sem]) ?_
  refine CP.out.mono ?_
  rintro e u' w'' ⟨rfl, rfl, hc2, hb2⟩
  refine ⟨.tuple #[], by simp [results, Tryz.results101], rfl, ?_, hb2⟩
  have h3 : Chg S w w1 := (((Chg.refl S w).alloc _).alloc _).trans HC.out (fun x hx => .inl hx)
  exact (h3.mono (fun x hx => .inl (List.mem_cons_of_mem _ hx))).trans hc2 (fun x hx => .inl (by simp at hx; simp [hx]))
end Go.Proofs.YtdkhmfcfihbjeaaGreatDoor.W

/- Package wire's eye: number, Num. -/
namespace Go.Proofs.YtdkhmfcfihbjeaaGreatDoor.W
open Go.RowKit
set_option linter.unusedVariables false
set_option linter.unusedSimpArgs false

theorem ofInt_i64 (a : Nat) (ha : a < 9223372036854775808) : (BitVec.ofInt 64 (a : Int)).toNat = a := by
  rw [BitVec.ofInt_natCast, BitVec.toNat_ofNat]; exact Nat.mod_eq_of_lt (by omega)
theorem i64_or_nat (a b : Nat) (ha : a < 9223372036854775808) (hb : b < 9223372036854775808) : bits .or .i64 (a : Int) (b : Int) = ((a ||| b : Nat) : Int) := by
  have hx : a ||| b < 2 ^ 63 := Nat.or_lt_two_pow (by omega) (by omega)
  show IntKind.i64.wrap ((BitVec.ofInt 64 (a : Int) ||| BitVec.ofInt 64 (b : Int)).toNat : Int) = _
  rw [BitVec.toNat_or, ofInt_i64 a ha, ofInt_i64 b hb, IntKind.wrap_i64]
  omega

set_option maxHeartbeats 2000000 in
set_option maxRecDepth 100000 in
theorem number_ok (b g o cap : Nat) (l : List UInt8) (bad : Value) (n : Nat) (w : World) (h : w.heap[b]? = some (.cells #[.bool true, .slice (some ⟨g, o, none⟩) l.length cap, bad] 159 (0, 0)))
    (hgb : g ≠ b) (hl : l.length ≤ cap) (hc : cap ≤ maxLen) (hcell : ∀ i, i < l.length → w.cell? ⟨g, o + i, none⟩ = some (bv (l.getD i 0))) (h1 : 1 ≤ n) (h7 : n ≤ 7) (hn : n ≤ l.length) :
    Calls Tryz.prog 103 #[.pointer (some ⟨b, 0, none⟩), .int .i64 n] w fun e w' => e = .returned (.int .i64 (beNum (l.take n))) ∧
      w' = w.setCell ⟨b, 1, none⟩ (.slice (some ⟨g, if cap = n then o else o + n, none⟩) (l.length - n) (cap - n)) := by
  have CT := Lib.hid (take_ok b g o cap l bad n w h hl hc hn)
  obtain ⟨w1, hw1⟩ : ∃ w1, w1 = w.setCell ⟨b, 1, none⟩ (.slice (some ⟨g, if cap = n then o else o + n, none⟩) (l.length - n) (cap - n)) := ⟨_, rfl⟩
  rw [← hw1] at CT ⊢
  have HC : Hid (∀ i, i < n → w1.cell? ⟨g, o + i, none⟩ = some (bv (l.getD i 0))) := by
    intro i hi
    rw [hw1]
    exact (World.cell?_of_block (w := w) (a := ⟨g, o + i, none⟩) (Below.heap_setCell w _ _ g (by simpa using hgb))).trans (hcell i (by omega))
  clear h hl hc hcell hw1
  go_enter Tryz.func103, Tryz.ntmps103
  go_wp2_with (go_at_call 105; refine CT.out.mono ?_; rintro e w2 ⟨rfl, rfl⟩)
  go_loop [5, 12] (fun x i => ∃ k : Nat, k ≤ n ∧ i = .int .i64 k ∧ x = .int .i64 (beNum (l.take k))) (fun _ i => n - (intOf i).toNat)
  case atStart => exact ⟨0, Nat.zero_le _, rfl, rfl⟩
  case round =>
    obtain ⟨k, hk, rfl, rfl⟩ := hrel
    by_cases hlt : k < n
    · have hcl := HC.out k hlt
      have hb := beNum_take_le l k (by omega)
      have hkz : (k : Int) < (n : Int) := by omega
      have hkz1 : (k : Int).toNat = k := by omega
      obtain ⟨c, hc⟩ : ∃ c, c = l.getD k 0 := ⟨_, rfl⟩
      rw [← hc] at hcl
      have hc8 := c.toNat_lt
      have HX : Hid (beNum (l.take (k + 1)) = beNum (l.take k) * 256 + c.toNat) := Lib.hid (by rw [take_snocU l k (by omega), beNum_snoc, hc])
      clear hc
      obtain ⟨x, hx⟩ : ∃ x, x = beNum (l.take k) := ⟨_, rfl⟩
      rw [← hx] at hb HX ⊢
      clear hx
      unfold bv at hcl
      have hor : bits .or .i64 ((x : Int) * 256) (c.toNat : Int) = ((x * 256 + c.toNat : Nat) : Int) := by
        have := i64_or_nat (x * 256) c.toNat (by omega) (by omega)
        rw [or_byte] at this
        simpa using this
      go_wp2
      go_round
      case rel => exact ⟨k + 1, by omega, by go_num, by rw [HX.out]; go_num⟩
      case measure => simp [intOf]; omega
    · go_wp2
      go_ret
      obtain rfl : k = n := by omega
      exact ⟨rfl, rfl⟩

set_option maxHeartbeats 2000000 in
theorem number_short (b : Nat) (a : Option Addr) (L cap : Nat) (bad : Value) (n : Int) (w : World) (h : w.heap[b]? = some (.cells #[.bool true, .slice a L cap, bad] 159 (0, 0)))
    (hL : L ≤ 1000000000000) (hn : (L : Int) < n) :
    Calls Tryz.prog 103 #[.pointer (some ⟨b, 0, none⟩), .int .i64 n] w fun e w' => e = gaveUp 2 ∧ w = w' := by
  have CT := Lib.hid (take_short b a L cap bad n w h hL hn)
  clear h
  unfold gaveUp at *
  go_enter Tryz.func103, Tryz.ntmps103
  go_wp2_with fail
  refine CT.out.mono ?_
  rintro e w1 ⟨rfl, rfl⟩
  exact ⟨rfl, rfl, rfl⟩

/-- Bytes of an eye: nil, or in block g. -/
def EyeV (w : World) (v : Value) (g : Nat) (l : List UInt8) : Prop :=
  (v = .slice none 0 0 ∧ l = []) ∨ ∃ o cap, v = .slice (some ⟨g, o, none⟩) l.length cap ∧ l.length ≤ cap ∧ cap ≤ maxLen ∧ ∀ i, i < l.length → w.cell? ⟨g, o + i, none⟩ = some (bv (l.getD i 0))
theorem EyeV.keep {w w' : World} {v : Value} {g : Nat} {l : List UInt8} (h : EyeV w v g l) (hb : w'.heap[g]? = w.heap[g]?) : EyeV w' v g l := by
  rcases h with h | ⟨o, cap, rfl, h1, h2, hc⟩
  · exact .inl h
  · exact .inr ⟨o, cap, rfl, h1, h2, fun i hi => (World.cell?_of_block (w := w) (a := ⟨g, o + i, none⟩) hb).trans (hc i hi)⟩
theorem EyeV.keepC {w w' : World} {v : Value} {g : Nat} {l : List UInt8} {S : List Nat} (h : EyeV w v g l) (hg : g < w.heap.size ∨ v = .slice none 0 0) (hc : Chg S w w') (hn : g ∉ S) : EyeV w' v g l := by
  rcases h with h | ⟨o, cap, rfl, h1, h2, hcell⟩
  · exact .inl h
  · have hg' : g < w.heap.size := by
      rcases hg with hg | hg
      · exact hg
      · cases hg
    exact EyeV.keep (.inr ⟨o, cap, rfl, h1, h2, hcell⟩) (hc.block g hg' hn)
theorem or_lt {w w' : World} {g : Nat} {p : Prop} {S : List Nat} (h : g < w.heap.size ∨ p) (hc : Chg S w w') : g < w'.heap.size ∨ p := by
  rcases h with h | h
  · exact .inl (Nat.lt_of_lt_of_le h hc.size)
  · exact .inr h
theorem EyeV.slice {w : World} {v : Value} {g : Nat} {l : List UInt8} (h : EyeV w v g l) : ∃ a cap, v = .slice a l.length cap := by
  rcases h with ⟨rfl, rfl⟩ | ⟨o, cap, rfl, _⟩
  · exact ⟨_, _, rfl⟩
  · exact ⟨_, _, rfl⟩
/-- The eye in block b, its bytes in block g. -/
def EyeAt (w : World) (b g : Nat) (l : List UInt8) (bad : Int) : Prop :=
  ∃ v, w.heap[b]? = some (.cells #[.bool true, v, .int .i64 bad] 159 (0, 0)) ∧ EyeV w v g l ∧ g ≠ b ∧ (g < w.heap.size ∨ v = .slice none 0 0) ∧ l.length ≤ 1000000
theorem EyeAt.keep {w w' : World} {b g : Nat} {l : List UInt8} {bad : Int} {S : List Nat} (h : EyeAt w b g l bad) (hc : Chg S w w') (hb : b ∉ S) (hg : g ∉ S) : EyeAt w' b g l bad := by
  obtain ⟨v, h1, h2, h3, h4, h5⟩ := h
  exact ⟨v, hc.keep h1 hb, h2.keepC h4 hc hg, h3, or_lt h4 hc, h5⟩
theorem EyeV.dropped {w : World} {g o cap n : Nat} {l : List UInt8} (hl : l.length ≤ cap) (hc : cap ≤ maxLen) (hcell : ∀ i, i < l.length → w.cell? ⟨g, o + i, none⟩ = some (bv (l.getD i 0))) (hn : n ≤ l.length) :
    EyeV w (.slice (some ⟨g, if cap = n then o else o + n, none⟩) (l.length - n) (cap - n)) g (l.drop n) := by
  right
  have hdl : (l.drop n).length = l.length - n := List.length_drop ..
  refine ⟨if cap = n then o else o + n, cap - n, by rw [hdl], by omega, by omega, fun i hi => ?_⟩
  have h2 : ¬ (cap = n) := by omega
  rw [if_neg h2, getD_drop, Nat.add_assoc]
  exact hcell (n + i) (by omega)

theorem enters1 : ∀ args w, (callFunc 102 args).run Tryz.prog w = .ok (.enter 102 args) w := enters_of Tryz.func102 (by kernel_rfl) rfl

set_option maxHeartbeats 2000000 in
set_option maxRecDepth 100000 in
theorem step_ok (b g o cap pw pe px : Nat) (l : List UInt8) (bad : Value) (n : Nat) (w : World) (h : w.heap[b]? = some (.cells #[.bool true, .slice (some ⟨g, o, none⟩) l.length cap, bad] 159 (0, 0)))
    (hgb : g ≠ b) (hl : l.length ≤ cap) (hc : cap ≤ maxLen) (hcell : ∀ i, i < l.length → w.cell? ⟨g, o + i, none⟩ = some (bv (l.getD i 0))) (h1 : 1 ≤ n) (h7 : n ≤ 7) (hn : n ≤ l.length)
    (hw : w.heap[pw]? = some (.cells #[.int .i64 n] 3 (0, 0))) (he : w.heap[pe]? = some (.cells #[.pointer (some ⟨b, 0, none⟩)] 120 (0, 0))) (hx : w.heap[px]? = some (.cells #[.int .i64 0] 3 (0, 0))) (hxb : px ≠ b) :
    Calls Tryz.prog 102 #[.pointer (some ⟨pw, 0, none⟩), .pointer (some ⟨pe, 0, none⟩), .pointer (some ⟨px, 0, none⟩)] w fun e w' => e = .returned (.tuple #[]) ∧
      w' = (w.setCell ⟨b, 1, none⟩ (.slice (some ⟨g, if cap = n then o else o + n, none⟩) (l.length - n) (cap - n))).setCell ⟨px, 0, none⟩ (.int .i64 (beNum (l.take n))) := by
  have CN := Lib.hid (number_ok b g o cap l bad n w h hgb hl hc hcell h1 h7 hn)
  obtain ⟨w1, hw1⟩ : ∃ w1, w1 = w.setCell ⟨b, 1, none⟩ (.slice (some ⟨g, if cap = n then o else o + n, none⟩) (l.length - n) (cap - n)) := ⟨_, rfl⟩
  rw [← hw1] at CN ⊢
  have hx1 : w1.heap[px]? = some (.cells #[.int .i64 0] 3 (0, 0)) := by rw [hw1]; exact blk_sets hx hxb
  have w0 := blk_cell hw 0 _ rfl
  have e0 := blk_cell he 0 _ rfl
  have x0 := blk_cell hx1 0 _ rfl
  have x1 := blk_frozen hx1 0
  clear h hl hc hcell hw1 hw he hx hx1
  go_enter Tryz.func102, Tryz.ntmps102
  go_wp2_with fail
  refine (wmay_yes _ _ (by omega) (by omega)).mono ?_
  rintro e w' ⟨rfl, rfl⟩
  go_wp2_with fail
  refine CN.out.mono ?_
  rintro e w' ⟨rfl, rfl⟩
  go_wp2
  go_end0
  exact ⟨rfl, rfl⟩

set_option maxHeartbeats 2000000 in
set_option maxRecDepth 100000 in
theorem step_short (b pw pe : Nat) (px : Value) (a : Option Addr) (L cap : Nat) (bad : Value) (n : Nat) (w : World) (h : w.heap[b]? = some (.cells #[.bool true, .slice a L cap, bad] 159 (0, 0)))
    (hL : L ≤ 1000000000000) (hn : L < n) (h1 : 1 ≤ n) (h7 : n ≤ 7)
    (hw : w.heap[pw]? = some (.cells #[.int .i64 n] 3 (0, 0))) (he : w.heap[pe]? = some (.cells #[.pointer (some ⟨b, 0, none⟩)] 120 (0, 0))) :
    Calls Tryz.prog 102 #[.pointer (some ⟨pw, 0, none⟩), .pointer (some ⟨pe, 0, none⟩), px] w fun e w' => e = gaveUp 2 ∧ w = w' := by
  have CN := Lib.hid (number_short b a L cap bad n w h hL (by omega))
  have w0 := blk_cell hw 0 _ rfl
  have e0 := blk_cell he 0 _ rfl
  clear h hw he
  unfold gaveUp at *
  go_enter Tryz.func102, Tryz.ntmps102
  go_wp2_with fail
  refine (wmay_yes _ _ (by omega) (by omega)).mono ?_
  rintro e w' ⟨rfl, rfl⟩
  go_wp2_with fail
  refine CN.out.mono ?_
  rintro e w' ⟨rfl, rfl⟩
  exact ⟨rfl, rfl, rfl⟩

set_option maxHeartbeats 4000000 in
set_option maxRecDepth 100000 in
/-- Num. -/
theorem enum_any (b g : Nat) (l : List UInt8) (bad : Int) (width : Int) (w : World) (h : EyeAt w b g l bad) (h1 : 1 ≤ width) (h7 : width ≤ 7) :
    Calls Tryz.prog 54 #[.pointer (some ⟨b, 0, none⟩), .int .i64 width] w fun e w' => e = .returned (.int .i64 (eyeNum l bad width.toNat).1) ∧
      EyeAt w' b g (eyeNum l bad width.toNat).2.1 (eyeNum l bad width.toNat).2.2 ∧ Chg [b] w w' := by
  obtain ⟨n, rfl⟩ := Int.eq_ofNat_of_zero_le (show 0 ≤ width by omega)
  rw [Int.toNat_natCast]
  have hE := h
  obtain ⟨v, hb, hv, hgb, hg, hll⟩ := h
  have hbl := blk_lt hb
  obtain ⟨w3, hw3⟩ : ∃ w3, w3 = ((w.alloc (.cells #[.pointer (some ⟨b, 0, none⟩)] 120)).alloc (.cells #[.int .i64 n] 3)).alloc (.cells #[.int .i64 0] 3) := ⟨_, rfl⟩
  have hs3 : w3.heap.size = w.heap.size + 3 := by rw [hw3]; simp
  have hb3 : w3.heap[b]? = some (.cells #[.bool true, v, .int .i64 bad] 159 (0, 0)) := by rw [hw3]; exact blk_alloc (blk_alloc (blk_alloc hb))
  have hpe : w3.heap[w.heap.size]? = some (.cells #[.pointer (some ⟨b, 0, none⟩)] 120 (0, 0)) := by rw [hw3]; exact blk_alloc (blk_alloc (heap_alloc_new w _))
  have hpw : w3.heap[w.heap.size + 1]? = some (.cells #[.int .i64 n] 3 (0, 0)) := by
    rw [hw3]
    have := heap_alloc_new (w.alloc (.cells #[.pointer (some ⟨b, 0, none⟩)] 120)) (.cells #[.int .i64 n] 3)
    exact blk_alloc (by simpa using this)
  have hpx : w3.heap[w.heap.size + 1 + 1]? = some (.cells #[.int .i64 0] 3 (0, 0)) := by
    rw [hw3]
    have := heap_alloc_new ((w.alloc (.cells #[.pointer (some ⟨b, 0, none⟩)] 120)).alloc (.cells #[.int .i64 n] 3)) (.cells #[.int .i64 0] 3)
    simpa using this
  have hc3 : Chg [b] w w3 := by rw [hw3]; exact (((Chg.refl [b] w).alloc _).alloc _).alloc _
  have hv3 : EyeV w3 v g l := hv.keepC hg hc3 (by simp; exact hgb)
  have hg3 := or_lt hg hc3
  obtain ⟨r, hr⟩ : ∃ r, r = eyeNum l bad n := ⟨_, rfl⟩
  have CR : Hid (Calls Tryz.prog 101 #[.pointer (some ⟨b, 0, none⟩), .func (.func 102) #[] #[.pointer (some ⟨w.heap.size + 1, 0, none⟩), .pointer (some ⟨w.heap.size, 0, none⟩), .pointer (some ⟨w.heap.size + 1 + 1, 0, none⟩)]] w3
      fun e w' => e = .returned (.tuple #[]) ∧ Hid (Chg [b, w.heap.size + 1 + 1] w3 w' ∧ EyeAt w' b g r.2.1 r.2.2 ∧ w'.heap[w.heap.size + 1 + 1]? = some (.cells #[.int .i64 r.1] 3 (0, 0)))) := by
    have hgb3 : b < w3.heap.size := blk_lt hb3
    by_cases hbad : bad = 0
    · subst hbad
      by_cases hlen : l.length < n
      · have hr' : r = (0, l, 2) := by rw [hr]; unfold eyeNum; rw [if_neg (by simp), if_pos hlen]
        obtain ⟨a, cap, rfl⟩ := hv3.slice
        refine (read_panic b _ 102 _ w3 enters1 a l.length cap rfl 2 hb3 [] (by simp) ?_).mono ?_
        · refine (step_short b _ _ _ a l.length cap _ n _ (blk_alloc (blk_alloc hb3)) (by omega) hlen (by omega) (by omega) (blk_alloc (blk_alloc hpw)) (blk_alloc (blk_alloc hpe))).mono ?_
          rintro e w' ⟨rfl, rfl⟩
          exact ⟨rfl, _, Chg.refl _ _, blk_alloc (blk_alloc hb3)⟩
        · rintro e w' ⟨rfl, hc, hh⟩
          refine ⟨rfl, hc.mono (by simp), ?_, ?_⟩
          · rw [hr']
            exact ⟨_, hh, hv3.keepC hg3 hc (by simp; exact hgb), hgb, or_lt hg3 hc, hll⟩
          · rw [hr']; exact hc.keep hpx (by simp; omega)
      · have hr' : r = ((beNum (l.take n) : Int), l.drop n, 0) := by rw [hr]; unfold eyeNum; rw [if_neg (by simp), if_neg hlen]
        rcases hv3 with ⟨rfl, rfl⟩ | ⟨o, cap, rfl, hlc, hcm, hcell⟩
        · simp at hlen; omega
        have hg4 : g < w.heap.size := by
          rcases hg with hg | hg
          · exact hg
          · cases hg
        obtain ⟨w5, hw5⟩ : ∃ w5, w5 = (w3.alloc (.cells #[.pointer (some ⟨b, 0, none⟩)] 120)).alloc (.cells #[.slice (some ⟨g, o, none⟩) l.length cap] 30) := ⟨_, rfl⟩
        have hc5 : Chg [] w3 w5 := by rw [hw5]; exact ((Chg.refl [] w3).alloc _).alloc _
        have hcell5 : ∀ i, i < l.length → w5.cell? ⟨g, o + i, none⟩ = some (bv (l.getD i 0)) := fun i hi => hc5.cell (hcell i hi) (by simp)
        have CS := step_ok b g o cap _ _ _ l _ n w5 (hc5.keep hb3 (by simp)) hgb hlc hcm hcell5 (by omega) (by omega) (by omega) (hc5.keep hpw (by simp)) (hc5.keep hpe (by simp)) (hc5.keep hpx (by simp)) (by omega)
        rw [hw5] at CS
        refine (read_ret b _ 102 _ w3 enters1 _ _ _ rfl hb3 _ CS).mono ?_
        rintro e w' ⟨rfl, w1, hq, rfl⟩
        rw [← hw5] at hq
        have hcq : Chg [b, w.heap.size + 1 + 1] w3 w1 := by
          rw [hq]
          exact ((hc5.mono (by simp)).setCell (p := ⟨b, 1, none⟩) (.inl (by simp)) _).setCell (p := ⟨w.heap.size + 1 + 1, 0, none⟩) (.inl (by simp)) _
        have hb1 : w1.heap[b]? = some (.cells #[.bool true, .slice (some ⟨g, if cap = n then o else o + n, none⟩) (l.length - n) (cap - n), .int .i64 0] 159 (0, 0)) := by
          rw [hq]; exact blk_sets (set_blk (hc5.keep hb3 (by simp))) (by omega)
        have hx1 : w1.heap[w.heap.size + 1 + 1]? = some (.cells #[.int .i64 (beNum (l.take n))] 3 (0, 0)) := by
          rw [hq]; exact set_blk (blk_sets (hc5.keep hpx (by simp)) (by omega))
        refine ⟨rfl, hcq.alloc _, ?_, ?_⟩
        · rw [hr']
          refine ⟨_, blk_alloc hb1, ?_, hgb, ?_, ?_⟩
          · exact (EyeV.dropped hlc hcm hcell (by omega)).keep ((hcq.alloc _).block g (by omega) (by simp; omega))
          · exact .inl (Nat.lt_of_lt_of_le (by omega) (hcq.alloc _).size)
          · show (l.drop n).length ≤ _
            rw [List.length_drop]; omega
        · rw [hr']; exact blk_alloc hx1
    · have hr' : r = (0, l, bad) := by rw [hr]; unfold eyeNum; rw [if_pos hbad]
      refine (read_done b v bad 102 _ w3 hb3 hbad).mono ?_
      rintro e w' ⟨rfl, rfl⟩
      rw [hr']
      refine ⟨rfl, (Chg.refl _ _).alloc _, ⟨v, blk_alloc hb3, hv3.keepC hg3 ((Chg.refl [] w3).alloc _) (by simp), hgb, or_lt hg3 ((Chg.refl [] w3).alloc _), hll⟩, blk_alloc hpx⟩
  rw [← hr]
  have HC := Lib.hid hc3
  have HW := Lib.hid hw3
  have hmf : ∀ (fn : Fn) (first cap : Array Value) (w : World), (Instr.makeFunc fn first cap).run Tryz.prog w = .ok (.func fn first cap) w := fun _ _ _ _ => rfl
  clear hb hv hb3 hpe hpw hpx hc3 hr hE hw3 hv3
  go_enter Tryz.func54, Tryz.ntmps54
  go_wp2_with fail
  rw [← HW.out]
  refine CR.out.mono ?_
  rintro e w4 ⟨rfl, H4⟩
  have x0 := blk_cell H4.out.2.2 0 _ rfl
  go_wp2
  go_ret
  exact ⟨rfl, H4.out.2.1, HC.out.trans H4.out.1 (by
    intro x hx
    simp at hx
    rcases hx with rfl | rfl
    · exact .inl (by simp)
    · exact .inr (by omega))⟩
end Go.Proofs.YtdkhmfcfihbjeaaGreatDoor.W

/- Package wire's eye: Fail, Left, NewEye, bytes.Clone. -/
namespace Go.Proofs.YtdkhmfcfihbjeaaGreatDoor.W
open Go.RowKit
set_option linter.unusedVariables false
set_option linter.unusedSimpArgs false

set_option maxHeartbeats 2000000 in
/-- Fail. -/
theorem efail_any (b g : Nat) (l : List UInt8) (bad : Int) (w : World) (h : EyeAt w b g l bad) :
    Calls Tryz.prog 55 #[.pointer (some ⟨b, 0, none⟩)] w fun e w' => e = .returned (.int .i64 bad) ∧ w = w' := by
  obtain ⟨v, hb, _, _, _, _⟩ := h
  have h0 := blk_cell hb 0 _ rfl
  have h2 := blk_cell hb 2 _ rfl
  clear hb
  go_enter Tryz.func55, Tryz.ntmps55
  go_wp2
  go_ret
  exact ⟨rfl, rfl⟩

set_option maxHeartbeats 2000000 in
/-- Left. -/
theorem eleft_any (b g : Nat) (l : List UInt8) (bad : Int) (w : World) (h : EyeAt w b g l bad) :
    Calls Tryz.prog 158 #[.pointer (some ⟨b, 0, none⟩)] w fun e w' => e = .returned (.int .i64 l.length) ∧ w = w' := by
  obtain ⟨v, hb, hv, _, _, _⟩ := h
  obtain ⟨a, cap, rfl⟩ := hv.slice
  have h1 := blk_cell hb 1 _ rfl
  clear hb hv
  go_enter Tryz.func158, Tryz.ntmps158
  go_wp2
  go_ret
  exact ⟨rfl, rfl⟩

set_option maxHeartbeats 2000000 in
set_option maxRecDepth 100000 in
/-- bytes.Clone. -/
theorem clone_any (v : Value) (l : List UInt8) (w : World) (h : BytesAt w v l) (hl : l.length ≤ 1000000000) :
    Calls Tryz.prog 43 #[v] w fun e w' => ∃ v', e = .returned v' ∧ BRow w' v' l ∧ (∀ g, v'.ownBlock = some g → w.heap.size ≤ g) ∧ Chg [] w w' := by
  obtain ⟨a, cap, rfl, h1, h2, h3⟩ := h
  cases a with
  | none =>
    obtain ⟨rfl, rfl⟩ : l = [] ∧ cap = 0 := by
      rcases h3 with h3 | ⟨g, o, h, _⟩
      · exact h3
      · cases h
    have hq : ∀ w, (binOp .eql 30 (.slice none 0 0) (.slice none 0 0)).run Tryz.prog w = .ok (.bool true) w := fun w => Lib.run_eql_slice_nil w 30 5 none 0 0 0 0 Tryz.underlying30
    go_enter Tryz.func43, Tryz.ntmps43
    go_wp2
    go_ret
    exact ⟨_, rfl, BRow.nil _, by simp [Value.ownBlock], Chg.refl _ _⟩
  | some ad =>
    have hB : BytesAt w (.slice (some ad) l.length cap) l := ⟨_, _, rfl, h1, h2, h3⟩
    have hr : BRow (w.alloc (.cells #[] 5)) (.slice (some ⟨w.heap.size, 0, none⟩) 0 0) [] := World.ownsRow_made w #[] 0 (Nat.zero_le _) (by unfold maxLen; omega) rfl
    have hc0 : Chg [] w (w.alloc (.cells #[] 5)) := (Chg.refl [] w).alloc _
    have hB1 : BytesAt (w.alloc (.cells #[] 5)) (.slice (some ad) l.length cap) l := by
      refine ⟨_, _, rfl, h1, h2, ?_⟩
      rcases h3 with h3 | ⟨g, o, he, hcell⟩
      · exact .inl h3
      · exact .inr ⟨g, o, he, fun i hi => hc0.cell (hcell i hi) (by simp)⟩
    have HB := Lib.hid hB1
    have HR := Lib.hid hr
    have HC := Lib.hid hc0
    have hq : ∀ w, (binOp .eql 30 (.slice (some ad) l.length cap) (.slice none 0 0)).run Tryz.prog w = .ok (.bool false) w := fun w => Lib.run_eql_slice_nil w 30 5 (some ad) _ _ 0 0 Tryz.underlying30
    clear hB hB1 hr hc0 h3
    go_enter Tryz.func43, Tryz.ntmps43
    go_wp2_with (at_builtin; refine wpList_appB rfl _ _ rfl (.slice (some ⟨w.heap.size, 0, none⟩) 0 0) [] rfl HR.out _ l rfl HB.out (by simp; omega) ?_; intro v1 w1 ho1 hg1 hat1)
    go_ret
    refine ⟨v1, rfl, by simpa using ho1, ?_, HC.out.grown hg1 (by simp [Value.ownBlock])⟩
    intro g hg
    rcases hat1 with h | h
    · rw [h] at hg; simp [Value.ownBlock] at hg; omega
    · rw [h] at hg; simp at hg; omega

set_option maxHeartbeats 2000000 in
set_option maxRecDepth 100000 in
/-- NewEye. -/
theorem neweye_any (v : Value) (l : List UInt8) (w : World) (h : BytesAt w v l) (hl : l.length ≤ 1000000) :
    Calls Tryz.prog 53 #[v] w fun e w' => ∃ b g, e = .returned (.pointer (some ⟨b, 0, none⟩)) ∧ EyeAt w' b g l 0 ∧ w.heap.size ≤ b ∧ w.heap.size ≤ g ∧ Chg [] w w' := by
  have CC := Lib.hid (clone_any v l w h (by omega))
  clear h
  go_enter Tryz.func53, Tryz.ntmps53
  go_wp2_with fail
  refine CC.out.mono ?_
  rintro e w1 ⟨v1, rfl, hr, hg, hc⟩
  have hsl : ∃ a cap, v1 = .slice a l.length cap := by
    obtain ⟨a, cap, h, _⟩ := hr.bytes
    exact ⟨a, cap, h⟩
  obtain ⟨a, cap, rfl⟩ := hsl
  have HR := Lib.hid hr
  have HG := Lib.hid hg
  have HC := Lib.hid hc
  clear hr hg hc CC
  go_wp2
  go_ret
  have hw : w.heap.size ≤ w1.heap.size := HC.out.size
  have hca := (Chg.refl [] w1).alloc (.cells #[.bool true, .slice a l.length cap, .int .i64 0] 159)
  cases a with
  | none =>
    have hn : (Value.slice none l.length cap = .slice none 0 0) ∧ l = [] := by
      rcases HR.out.2 with ⟨h1, h2⟩ | ⟨g, c, cur, h1, _⟩
      · exact ⟨h1, List.eq_nil_of_length_eq_zero h2⟩
      · cases h1
    exact ⟨w1.heap.size, w1.heap.size + 1, rfl, ⟨_, heap_alloc_new w1 _, .inl hn, by omega, .inr hn.1, hl⟩, hw, by omega, HC.out.alloc _⟩
  | some x =>
    have hx := HG.out x.block rfl
    have hl2 := HR.out.lt x.block rfl
    refine ⟨w1.heap.size, x.block, rfl, ⟨_, heap_alloc_new w1 _, ?_, by omega, .inl (by simp; omega), hl⟩, hw, hx, HC.out.alloc _⟩
    rcases HR.out.2 with ⟨h1, h2⟩ | ⟨g, c, cur, h1, _⟩
    · cases h1
    · obtain ⟨aa, cc, h3, h4, h5, h6⟩ := (HR.out.keep (fun g' hg' => hca.block g' (HR.out.lt g' hg') (by simp))).bytes
      obtain ⟨rfl, rfl⟩ : x = ⟨g, 0, none⟩ ∧ cap = c := by simpa using h1
      obtain ⟨rfl, rfl⟩ : some (⟨g, 0, none⟩ : Addr) = aa ∧ cap = cc := by simpa using h3
      refine .inr ⟨0, cap, rfl, h4, h5, ?_⟩
      rcases h6 with ⟨h6, _⟩ | ⟨g2, o2, h6, h7⟩
      · intro i hi
        rw [h6] at hi; simp at hi
      · obtain ⟨rfl, rfl⟩ : g = g2 ∧ 0 = o2 := by simpa using h6
        exact h7
end Go.Proofs.YtdkhmfcfihbjeaaGreatDoor.W

/- Package wire's eye: Raw, whole. -/
namespace Go.Proofs.YtdkhmfcfihbjeaaGreatDoor.W
open Go.RowKit
set_option linter.unusedVariables false
set_option linter.unusedSimpArgs false

/-- Raw: the bytes, what is left, the error. -/
def eyeRaw (l : List UInt8) (bad : Int) (most : Nat) : List UInt8 × List UInt8 × Int :=
  if bad ≠ 0 then ([], l, bad) else if l.length < 2 then ([], l, 2) else
  if most < beNum (l.take 2) then ([], l, 3) else if (l.drop 2).length < beNum (l.take 2) then ([], l, 2) else ((l.drop 2).take (beNum (l.take 2)), (l.drop 2).drop (beNum (l.take 2)), 0)

theorem enters3 : ∀ args w, (callFunc 104 args).run Tryz.prog w = .ok (.enter 104 args) w := enters_of Tryz.func104 (by kernel_rfl) rfl

def rawW1 (b g o cap : Nat) (l : List UInt8) (w : World) : World := w.setCell ⟨b, 1, none⟩ (.slice (some ⟨g, if cap = 2 then o else o + 2, none⟩) (l.length - 2) (cap - 2))
/-- What a step of Raw finds. -/
structure RawPre (b g o cap pm pe most : Nat) (l : List UInt8) (bad : Value) (w : World) : Prop where
  h : w.heap[b]? = some (.cells #[.bool true, .slice (some ⟨g, o, none⟩) l.length cap, bad] 159 (0, 0))
  hgb : g ≠ b
  hl : l.length ≤ cap
  hc : cap ≤ maxLen
  hcell : ∀ i, i < l.length → w.cell? ⟨g, o + i, none⟩ = some (bv (l.getD i 0))
  h2 : 2 ≤ l.length
  hll : l.length ≤ 1000000
  hm : w.heap[pm]? = some (.cells #[.int .i64 most] 3 (0, 0))
  he : w.heap[pe]? = some (.cells #[.pointer (some ⟨b, 0, none⟩)] 120 (0, 0))
  hpm : pm ≠ b
  hpe : pe ≠ b

set_option maxHeartbeats 2000000 in
theorem rstep_short (b cap pm pe most : Nat) (bad : Value) (w : World) (pbv : Value) (a : Option Addr) (L : Nat) (h : w.heap[b]? = some (.cells #[.bool true, .slice a L cap, bad] 159 (0, 0)))
    (hL : L < 2) (hm : w.heap[pm]? = some (.cells #[.int .i64 most] 3 (0, 0))) (he : w.heap[pe]? = some (.cells #[.pointer (some ⟨b, 0, none⟩)] 120 (0, 0))) :
    Calls Tryz.prog 104 #[.pointer (some ⟨pm, 0, none⟩), .pointer (some ⟨pe, 0, none⟩), pbv] w fun e w' => e = gaveUp 2 ∧ w = w' := by
  have CN := Lib.hid (number_short b a L cap bad 2 w h (by omega) (by omega))
  have w0 := blk_cell hm 0 _ rfl
  have e0 := blk_cell he 0 _ rfl
  clear h hm he
  unfold gaveUp at *
  go_enter Tryz.func104, Tryz.ntmps104
  go_wp2_with fail
  refine CN.out.mono ?_
  rintro e w' ⟨rfl, rfl⟩
  exact ⟨rfl, rfl, rfl⟩

set_option maxHeartbeats 4000000 in
set_option maxRecDepth 100000 in
theorem rstep_long (b g o cap pm pe most : Nat) (l : List UInt8) (bad : Value) (w : World) (H : RawPre b g o cap pm pe most l bad w) (pbv : Value) (hn : most < beNum (l.take 2)) :
    Calls Tryz.prog 104 #[.pointer (some ⟨pm, 0, none⟩), .pointer (some ⟨pe, 0, none⟩), pbv] w fun e w' => e = gaveUp 3 ∧ w' = rawW1 b g o cap l w := by
  have H0 := H
  obtain ⟨h, hgb, hl, hc, hcell, h2, hll, hm, he, hpm, hpe⟩ := H
  have CN := Lib.hid (number_ok b g o cap l bad 2 w h hgb hl hc hcell (by omega) (by omega) h2)
  obtain ⟨w1, hw1⟩ : ∃ w1, w1 = rawW1 b g o cap l w := ⟨_, rfl⟩
  unfold rawW1 at hw1
  have hb2 := beNum_take_le l 2 (by omega)
  have w0 := blk_cell hm 0 _ rfl
  have e0 := blk_cell he 0 _ rfl
  have w01 : w1.cell? ⟨pm, 0, none⟩ = some (.int .i64 most) := by rw [hw1]; exact blk_cell (blk_sets hm hpm) 0 _ rfl
  rw [← hw1] at CN
  unfold rawW1
  rw [← hw1]
  generalize beNum (l.take 2) = n at *
  have hnz : ((most : Nat) : Int) < (n : Int) := by omega
  clear h hm he hl hc hcell hw1
  try clear H0
  unfold gaveUp at *
  go_enter Tryz.func104, Tryz.ntmps104
  go_wp2_with fail
  refine CN.out.mono ?_
  rintro e w' ⟨rfl, rfl⟩
  go_wp2
  exact ⟨rfl, rfl, rfl⟩

theorem rawW1_at {b g o cap pm pe most : Nat} {l : List UInt8} {bad : Value} {w : World} (H : RawPre b g o cap pm pe most l bad w) : (rawW1 b g o cap l w).heap[b]? = some (.cells #[.bool true, .slice (some ⟨g, if cap = 2 then o else o + 2, none⟩) (l.drop 2).length (cap - 2), bad] 159 (0, 0)) := by
  rw [List.length_drop]; exact set_blk H.h
theorem rawW1_cell {b g o cap pm pe most : Nat} {l : List UInt8} {bad : Value} {w : World} (H : RawPre b g o cap pm pe most l bad w) : ∀ i, i < (l.drop 2).length → (rawW1 b g o cap l w).cell? ⟨g, (if cap = 2 then o else o + 2) + i, none⟩ = some (bv ((l.drop 2).getD i 0)) := fun i hi => by
  rw [List.length_drop] at hi
  have h1 := H.hl
  rw [if_neg (by omega), getD_drop, Nat.add_assoc]
  exact (World.cell?_of_block (w := w) (a := ⟨g, o + (2 + i), none⟩) (Below.heap_setCell w _ _ g (by simpa using H.hgb))).trans (H.hcell (2 + i) (by omega))

set_option maxHeartbeats 4000000 in
set_option maxRecDepth 100000 in
theorem rstep_short2 (b g o cap pm pe most : Nat) (l : List UInt8) (bad : Value) (w : World) (H : RawPre b g o cap pm pe most l bad w) (pbv : Value) (hn : beNum (l.take 2) ≤ most) (hs : (l.drop 2).length < beNum (l.take 2)) :
    Calls Tryz.prog 104 #[.pointer (some ⟨pm, 0, none⟩), .pointer (some ⟨pe, 0, none⟩), pbv] w fun e w' => e = gaveUp 2 ∧ w' = rawW1 b g o cap l w := by
  have H0 := H
  obtain ⟨h, hgb, hl, hc, hcell, h2, hll, hm, he, hpm, hpe⟩ := H
  have CN := Lib.hid (number_ok b g o cap l bad 2 w h hgb hl hc hcell (by omega) (by omega) h2)
  have CT := Lib.hid (take_short b _ _ _ bad ((beNum (l.take 2) : Nat) : Int) (rawW1 b g o cap l w) (rawW1_at H0) (by rw [List.length_drop]; omega) (by omega))
  have hb2 := beNum_take_le l 2 (by omega)
  have w0 := blk_cell hm 0 _ rfl
  have e0 := blk_cell he 0 _ rfl
  have w01 : (rawW1 b g o cap l w).cell? ⟨pm, 0, none⟩ = some (.int .i64 most) := blk_cell (blk_sets hm hpm) 0 _ rfl
  have e01 : (rawW1 b g o cap l w).cell? ⟨pe, 0, none⟩ = some (.pointer (some ⟨b, 0, none⟩)) := blk_cell (blk_sets he hpe) 0 _ rfl
  obtain ⟨w1, hw1⟩ : ∃ w1, w1 = rawW1 b g o cap l w := ⟨_, rfl⟩
  rw [← hw1] at CT w01 e01 ⊢
  unfold rawW1 at hw1
  rw [← hw1] at CN
  generalize beNum (l.take 2) = n at *
  have hnz : ¬ ((most : Nat) : Int) < (n : Int) := by omega
  clear h hm he hl hc hcell hw1
  try clear H0
  unfold gaveUp at *
  go_enter Tryz.func104, Tryz.ntmps104
  go_wp2_with fail
  refine CN.out.mono ?_
  rintro e w' ⟨rfl, rfl⟩
  go_wp2_with fail
  refine CT.out.mono ?_
  rintro e w' ⟨rfl, rfl⟩
  exact ⟨rfl, rfl, rfl⟩

set_option maxHeartbeats 4000000 in
set_option maxRecDepth 100000 in
theorem rstep_ok (b g o cap pm pe pb most : Nat) (l : List UInt8) (bad : Value) (w : World) (H : RawPre b g o cap pm pe most l bad w) (hpg : pb ≠ g) (hn : beNum (l.take 2) ≤ most) (hs : beNum (l.take 2) ≤ (l.drop 2).length) (hb : w.heap[pb]? = some (.cells #[.slice none 0 0] 30 (0, 0))) (hpb : pb ≠ b) :
    Calls Tryz.prog 104 #[.pointer (some ⟨pm, 0, none⟩), .pointer (some ⟨pe, 0, none⟩), .pointer (some ⟨pb, 0, none⟩)] w fun e w' => e = .returned (.tuple #[]) ∧ ∃ v' o' cap', BRow w' v' ((l.drop 2).take (beNum (l.take 2))) ∧ (∀ k, v'.ownBlock = some k → w.heap.size ≤ k) ∧
      Chg [b, pb] w w' ∧ w'.heap[pb]? = some (.cells #[v'] 30 (0, 0)) ∧ w'.heap[b]? = some (.cells #[.bool true, .slice (some ⟨g, o', none⟩) ((l.drop 2).drop (beNum (l.take 2))).length cap', bad] 159 (0, 0)) ∧
      EyeV w' (.slice (some ⟨g, o', none⟩) ((l.drop 2).drop (beNum (l.take 2))).length cap') g ((l.drop 2).drop (beNum (l.take 2))) := by
  have hat := rawW1_at H
  have hce := rawW1_cell H
  have H0 := H
  obtain ⟨h, hgb, hl, hc, hcell, h2, hll, hm, he, hpm, hpe⟩ := H
  have CN := Lib.hid (number_ok b g o cap l bad 2 w h hgb hl hc hcell (by omega) (by omega) h2)
  have hgl : g < w.heap.size := World.block_lt_of_cell? w _ (hcell 0 (by omega))
  obtain ⟨o2, ho2⟩ : ∃ o2, o2 = if cap = 2 then o else o + 2 := ⟨_, rfl⟩
  rw [← ho2] at hat hce
  have hbl := blk_lt h
  obtain ⟨w1, hw1⟩ : ∃ w1, w1 = rawW1 b g o cap l w := ⟨_, rfl⟩
  have hc1 : Chg [b] w w1 := by rw [hw1]; exact (Chg.refl _ _).setCell (.inl (by simp)) _
  have w01 : w1.cell? ⟨pm, 0, none⟩ = some (.int .i64 most) := by rw [hw1]; exact blk_cell (blk_sets hm hpm) 0 _ rfl
  have e01 : w1.cell? ⟨pe, 0, none⟩ = some (.pointer (some ⟨b, 0, none⟩)) := by rw [hw1]; exact blk_cell (blk_sets he hpe) 0 _ rfl
  have hpb1 : w1.heap[pb]? = some (.cells #[.slice none 0 0] 30 (0, 0)) := by rw [hw1]; exact blk_sets hb hpb
  rw [← hw1] at hat hce
  unfold rawW1 at hw1
  rw [← hw1] at CN
  have hb2 := beNum_take_le l 2 (by omega)
  have w0 := blk_cell hm 0 _ rfl
  have e0 := blk_cell he 0 _ rfl
  generalize hnn : beNum (l.take 2) = n at *
  clear hnn
  generalize hd : l.drop 2 = l2 at *
  have hl2 : l2.length = l.length - 2 := by rw [← hd, List.length_drop]
  clear hd
  have CT := Lib.hid (take_ok b g o2 (cap - 2) l2 bad n w1 hat (by omega) (by unfold maxLen at *; omega) hs)
  obtain ⟨w2, hw2⟩ : ∃ w2, w2 = w1.setCell ⟨b, 1, none⟩ (.slice (some ⟨g, if cap - 2 = n then o2 else o2 + n, none⟩) (l2.length - n) (cap - 2 - n)) := ⟨_, rfl⟩
  rw [← hw2] at CT
  have hc2 : Chg [b] w1 w2 := by rw [hw2]; exact (Chg.refl _ _).setCell (.inl (by simp)) _
  have hce2 : ∀ i, i < l2.length → w2.cell? ⟨g, o2 + i, none⟩ = some (bv (l2.getD i 0)) := fun i hi => hc2.cell (hce i hi) (by simp; exact hgb)
  have hB : BytesAt w2 (.slice (some ⟨g, o2, none⟩) n n) (l2.take n) := by
    have hlen : (l2.take n).length = n := by rw [List.length_take]; omega
    refine ⟨_, n, by rw [hlen], by omega, by unfold maxLen at *; omega, .inr ⟨g, o2, rfl, fun i hi => ?_⟩⟩
    rw [hlen] at hi
    rw [getD_take _ _ _ hi]
    exact hce2 i (by omega)
  have hlen3 : Hid ((l2.take n).length = n) := Lib.hid (by rw [List.length_take]; omega)
  have CC := Lib.hid (clone_any _ _ w2 hB (by rw [List.length_take]; omega))
  have hat2 : w2.heap[b]? = some (.cells #[.bool true, .slice (some ⟨g, if cap - 2 = n then o2 else o2 + n, none⟩) (l2.length - n) (cap - 2 - n), bad] 159 (0, 0)) := by rw [hw2]; exact set_blk hat
  have hpb2 : w2.heap[pb]? = some (.cells #[.slice none 0 0] 30 (0, 0)) := hc2.keep hpb1 (by simp; exact hpb)
  have hE2 : EyeV w2 (.slice (some ⟨g, if cap - 2 = n then o2 else o2 + n, none⟩) (l2.length - n) (cap - 2 - n)) g (l2.drop n) := EyeV.dropped (by omega) (by unfold maxLen at *; omega) hce2 (by omega)
  have HC1 := Lib.hid hc1
  have HC2 := Lib.hid hc2
  have HAT := Lib.hid hat2
  have HPB := Lib.hid hpb2
  have HE := Lib.hid hE2
  have hnz : ¬ ((most : Nat) : Int) < (n : Int) := by omega
  have hdl : Hid ((l2.drop n).length = l2.length - n) := Lib.hid (List.length_drop ..)
  try clear H0
  clear h hm he hb hl hc hcell hw1 hw2 hat hce hce2 hB hat2 hpb2 hE2 hc1 hc2 ho2 hpb1
  have hl2a : l2.length + 2 = l.length := by omega
  clear hl2
  go_enter Tryz.func104, Tryz.ntmps104
  go_wp2_with fail
  refine CN.out.mono ?_
  rintro e w' ⟨rfl, rfl⟩
  go_wp2_with fail
  refine CT.out.mono ?_
  rintro e w' ⟨rfl, hq⟩
  obtain rfl := hq.symm
  go_wp2_with fail
  refine CC.out.mono ?_
  rintro e w3 ⟨v3, rfl, hr3, hn3, hc3⟩
  obtain ⟨a3, k3, he3, _⟩ := hr3.bytes
  have hpb3 := hc3.keep HPB.out (by simp)
  have p0 := blk_cell hpb3 0 _ rfl
  have p1 := blk_frozen hpb3 0
  have hpl := blk_lt hpb3
  have hgs : w.heap.size ≤ w2.heap.size := Nat.le_trans HC1.out.size HC2.out.size
  have HR3 := Lib.hid hr3
  have HN3 := Lib.hid hn3
  have HC3 := Lib.hid hc3
  have HPB3 := Lib.hid hpb3
  rw [hlen3.out] at he3
  obtain rfl := he3
  clear hr3 hn3 hc3 hpb3
  go_wp2
  go_end0
  have hpbl : pb < w2.heap.size := blk_lt HPB.out
  have hset : Chg [pb] w3 (w3.setCell ⟨pb, 0, none⟩ (.slice a3 n k3)) := (Chg.refl _ _).setCell (.inl (by simp)) _
  refine ⟨rfl, _, (if cap - 2 = n then o2 else o2 + n), (cap - 2 - n), HR3.out.keep (fun k hk => hset.block k (HR3.out.lt k hk) (by simp; have := HN3.out k hk; omega)), fun k hk => Nat.le_trans hgs (HN3.out k hk), ?_, set_blk HPB3.out, ?_, ?_⟩
  · refine ((HC1.out.mono (by simp)).trans (HC2.out.mono (by simp)) (fun x hx => .inl hx)).trans ((HC3.out.mono (by simp)).trans hset (T := [pb]) (S := [pb]) (fun x hx => .inl hx)) (fun x hx => .inl (by simp at hx; simp [hx]))
  · rw [hdl.out]
    exact blk_sets (HC3.out.keep HAT.out (by simp)) (fun e => hpb e.symm)
  · rw [hdl.out]
    have hgl2 : g < w2.heap.size := Nat.lt_of_lt_of_le hgl hgs
    refine HE.out.keep ((hset.block g (Nat.lt_of_lt_of_le hgl2 HC3.out.size) ?_).trans (HC3.out.block g hgl2 (by simp)))
    simp; exact fun e => hpg e.symm
end Go.Proofs.YtdkhmfcfihbjeaaGreatDoor.W
namespace Go.Proofs.YtdkhmfcfihbjeaaGreatDoor.W
open Go.RowKit
set_option linter.unusedVariables false
set_option linter.unusedSimpArgs false

/-- What Raw leaves. -/
def RawLeft (w w' : World) (b g pb : Nat) (r : List UInt8 × List UInt8 × Int) : Prop :=
  ∃ v, Chg [b, pb] w w' ∧ EyeAt w' b g r.2.1 r.2.2 ∧ w'.heap[pb]? = some (.cells #[v] 30 (0, 0)) ∧ BRow w' v r.1 ∧ ∀ k, v.ownBlock = some k → w.heap.size ≤ k

set_option maxHeartbeats 4000000 in
set_option maxRecDepth 100000 in
theorem eraw_any (b g : Nat) (l : List UInt8) (bad : Int) (most : Nat) (w : World) (h : EyeAt w b g l bad) (hmo : most ≤ 1000000) :
    Calls Tryz.prog 57 #[.pointer (some ⟨b, 0, none⟩), .int .i64 (most : Int)] w fun e w' => ∃ v, e = .returned v ∧ BRow w' v (eyeRaw l bad most).1 ∧ (∀ k, v.ownBlock = some k → w.heap.size ≤ k) ∧
      EyeAt w' b g (eyeRaw l bad most).2.1 (eyeRaw l bad most).2.2 ∧ Chg [b] w w' := by
  have hE := h
  obtain ⟨v, hb, hv, hgb, hg, hll⟩ := h
  have hbl := blk_lt hb
  obtain ⟨w3, hw3⟩ : ∃ w3, w3 = ((w.alloc (.cells #[.pointer (some ⟨b, 0, none⟩)] 120)).alloc (.cells #[.int .i64 most] 3)).alloc (.cells #[.slice none 0 0] 30) := ⟨_, rfl⟩
  have hs3 : w3.heap.size = w.heap.size + 3 := by rw [hw3]; simp
  have hb3 : w3.heap[b]? = some (.cells #[.bool true, v, .int .i64 bad] 159 (0, 0)) := by rw [hw3]; exact blk_alloc (blk_alloc (blk_alloc hb))
  have hpe : w3.heap[w.heap.size]? = some (.cells #[.pointer (some ⟨b, 0, none⟩)] 120 (0, 0)) := by rw [hw3]; exact blk_alloc (blk_alloc (heap_alloc_new w _))
  have hpm : w3.heap[w.heap.size + 1]? = some (.cells #[.int .i64 most] 3 (0, 0)) := by
    rw [hw3]
    have := heap_alloc_new (w.alloc (.cells #[.pointer (some ⟨b, 0, none⟩)] 120)) (.cells #[.int .i64 most] 3)
    exact blk_alloc (by simpa using this)
  have hpb : w3.heap[w.heap.size + 1 + 1]? = some (.cells #[.slice none 0 0] 30 (0, 0)) := by
    rw [hw3]
    have := heap_alloc_new ((w.alloc (.cells #[.pointer (some ⟨b, 0, none⟩)] 120)).alloc (.cells #[.int .i64 most] 3)) (.cells #[.slice none 0 0] 30)
    simpa using this
  have hc3 : Chg [b] w w3 := by rw [hw3]; exact (((Chg.refl [b] w).alloc _).alloc _).alloc _
  have hv3 : EyeV w3 v g l := hv.keepC hg hc3 (by simp; exact hgb)
  have hg3 := or_lt hg hc3
  obtain ⟨r, hr⟩ : ∃ r, r = eyeRaw l bad most := ⟨_, rfl⟩
  have CR : Hid (Calls Tryz.prog 101 #[.pointer (some ⟨b, 0, none⟩), .func (.func 104) #[] #[.pointer (some ⟨w.heap.size + 1, 0, none⟩), .pointer (some ⟨w.heap.size, 0, none⟩), .pointer (some ⟨w.heap.size + 1 + 1, 0, none⟩)]] w3
      fun e w' => e = .returned (.tuple #[]) ∧ Hid (RawLeft w3 w' b g (w.heap.size + 1 + 1) r)) := by
    have hgb3 : b < w3.heap.size := blk_lt hb3
    by_cases hbad : bad = 0
    · subst hbad
      by_cases hlen : l.length < 2
      · have hr' : r = ([], l, 2) := by rw [hr]; unfold eyeRaw; rw [if_neg (by simp), if_pos hlen]
        obtain ⟨a, cap, rfl⟩ := hv3.slice
        refine (read_panic b _ 104 _ w3 enters3 a l.length cap rfl 2 hb3 [] (by simp) ?_).mono ?_
        · refine (rstep_short b cap _ _ most _ _ _ a l.length (blk_alloc (blk_alloc hb3)) hlen (blk_alloc (blk_alloc hpm)) (blk_alloc (blk_alloc hpe))).mono ?_
          rintro e w' ⟨rfl, rfl⟩
          exact ⟨rfl, _, Chg.refl _ _, blk_alloc (blk_alloc hb3)⟩
        · rintro e w' ⟨rfl, hc, hh⟩
          rw [hr']
          exact ⟨rfl, _, hc.mono (by simp), ⟨_, hh, hv3.keepC hg3 hc (by simp; exact hgb), hgb, or_lt hg3 hc, hll⟩, hc.keep hpb (by simp; omega), BRow.nil _, by simp [Value.ownBlock]⟩
      · rcases hv3 with ⟨rfl, rfl⟩ | ⟨o, cap, rfl, hlc, hcm, hcell⟩
        · simp at hlen
        have hg4 : g < w.heap.size := by
          rcases hg with hg | hg
          · exact hg
          · cases hg
        obtain ⟨w5, hw5⟩ : ∃ w5, w5 = (w3.alloc (.cells #[.pointer (some ⟨b, 0, none⟩)] 120)).alloc (.cells #[.slice (some ⟨g, o, none⟩) l.length cap] 30) := ⟨_, rfl⟩
        have hc5 : Chg [] w3 w5 := by rw [hw5]; exact ((Chg.refl [] w3).alloc _).alloc _
        have hcell5 : ∀ i, i < l.length → w5.cell? ⟨g, o + i, none⟩ = some (bv (l.getD i 0)) := fun i hi => hc5.cell (hcell i hi) (by simp)
        have hpre : RawPre b g o cap (w.heap.size + 1) w.heap.size most l (.int .i64 0) w5 := ⟨hc5.keep hb3 (by simp), hgb, hlc, hcm, hcell5, by omega, hll, hc5.keep hpm (by simp), hc5.keep hpe (by simp), by omega, by omega⟩
        have hbW1 : (rawW1 b g o cap l w5).heap[b]? = _ := rawW1_at hpre
        have hcW1 : Chg [b] w5 (rawW1 b g o cap l w5) := (Chg.refl _ _).setCell (.inl (by simp)) _
        have hfail : ∀ x : Int, r = ([], l, x) → Hid (Calls Tryz.prog 104 #[.pointer (some ⟨w.heap.size + 1, 0, none⟩), .pointer (some ⟨w.heap.size, 0, none⟩), .pointer (some ⟨w.heap.size + 1 + 1, 0, none⟩)] w5 fun e w' => e = gaveUp x ∧ w' = rawW1 b g o cap l w5) →
            Calls Tryz.prog 101 #[.pointer (some ⟨b, 0, none⟩), .func (.func 104) #[] #[.pointer (some ⟨w.heap.size + 1, 0, none⟩), .pointer (some ⟨w.heap.size, 0, none⟩), .pointer (some ⟨w.heap.size + 1 + 1, 0, none⟩)]] w3
              fun e w' => e = .returned (.tuple #[]) ∧ Hid (RawLeft w3 w' b g (w.heap.size + 1 + 1) r) := by
          intro x hr' HX
          rw [hw5] at HX
          refine (read_panic b _ 104 _ w3 enters3 _ l.length cap rfl x hb3 [b] (by simpa using hgb3) (Lib.hid (HX.out.mono ?_))).mono ?_
          · rintro e w' ⟨rfl, rfl⟩
            rw [← hw5]
            exact ⟨rfl, _, hcW1, hbW1⟩
          · rintro e w' ⟨rfl, hc, hh⟩
            rw [hr']
            have hc' : Chg [b] w3 w' := hc.mono (by simp)
            exact ⟨rfl, _, hc.mono (by simp), ⟨_, hh, EyeV.keep (.inr ⟨o, cap, rfl, hlc, hcm, hcell⟩) (hc'.block g (by omega) (by simp; exact hgb)), hgb, or_lt hg3 hc, hll⟩, hc'.keep hpb (by simp; omega), BRow.nil _, by simp [Value.ownBlock]⟩
        by_cases hlong : most < beNum (l.take 2)
        · exact hfail 3 (by rw [hr]; unfold eyeRaw; rw [if_neg (by simp), if_neg hlen, if_pos hlong]) (Lib.hid (rstep_long b g o cap _ _ most l _ w5 hpre _ hlong))
        · by_cases hsh : (l.drop 2).length < beNum (l.take 2)
          · exact hfail 2 (by rw [hr]; unfold eyeRaw; rw [if_neg (by simp), if_neg hlen, if_neg hlong, if_pos hsh]) (Lib.hid (rstep_short2 b g o cap _ _ most l _ w5 hpre _ (by omega) hsh))
          · have hr' : r = ((l.drop 2).take (beNum (l.take 2)), (l.drop 2).drop (beNum (l.take 2)), 0) := by
              rw [hr]; unfold eyeRaw; rw [if_neg (by simp), if_neg hlen, if_neg hlong, if_neg hsh]
            have CS := rstep_ok b g o cap _ _ (w.heap.size + 1 + 1) most l _ w5 hpre (by omega) (by omega) (by omega) (hc5.keep hpb (by simp)) (by omega)
            rw [hw5] at CS
            refine (read_ret b _ 104 _ w3 enters3 _ _ _ rfl hb3 _ CS).mono ?_
            rintro e w' ⟨rfl, w1, hq, rfl⟩
            rw [← hw5] at hq
            obtain ⟨v', o', cap', q1, q2, q3, q4, q5, q6⟩ := hq
            have hq35 : Chg [b, w.heap.size + 1 + 1] w3 w1 := (hc5.mono (by simp)).trans q3 (fun x hx => .inl hx)
            have hca : Chg [] w1 (w1.alloc (.cells #[.int .i64 0] 162)) := (Chg.refl _ _).alloc _
            rw [hr']
            refine ⟨rfl, v', hq35.alloc _, ⟨_, blk_alloc q5, q6.keep (hca.block g (Nat.lt_of_lt_of_le (by omega) hq35.size) (by simp)), hgb, .inl (Nat.lt_of_lt_of_le (by omega) (hq35.alloc _).size), ?_⟩, blk_alloc q4, q1.keep (fun k hk => hca.block k (q1.lt k hk) (by simp)), fun k hk => Nat.le_trans hc5.size (q2 k hk)⟩
            show ((l.drop 2).drop _).length ≤ _
            rw [List.length_drop, List.length_drop]; omega
    · have hr' : r = ([], l, bad) := by rw [hr]; unfold eyeRaw; rw [if_pos hbad]
      refine (read_done b v bad 104 _ w3 hb3 hbad).mono ?_
      rintro e w' ⟨rfl, rfl⟩
      rw [hr']
      exact ⟨rfl, _, (Chg.refl _ _).alloc _, ⟨v, blk_alloc hb3, hv3.keepC hg3 ((Chg.refl [] w3).alloc _) (by simp), hgb, or_lt hg3 ((Chg.refl [] w3).alloc _), hll⟩, blk_alloc hpb, BRow.nil _, by simp [Value.ownBlock]⟩
  rw [← hr]
  have HC := Lib.hid hc3
  have HW := Lib.hid hw3
  have hmf : ∀ (fn : Fn) (first cap : Array Value) (w : World), (Instr.makeFunc fn first cap).run Tryz.prog w = .ok (.func fn first cap) w := fun _ _ _ _ => rfl
  clear hb hv hb3 hpe hpm hpb hc3 hr hE hw3 hv3
  go_enter Tryz.func57, Tryz.ntmps57
  go_wp2_with fail
  rw [← HW.out]
  refine CR.out.mono ?_
  rintro e w4 ⟨rfl, H4⟩
  obtain ⟨v4, k1, k2, k3, k4, k5⟩ := H4.out
  have x0 := blk_cell k3 0 _ rfl
  have HK := Lib.hid (And.intro k1 (And.intro k2 (And.intro k4 k5)))
  obtain ⟨a4, c4, hv4, _⟩ := k4.bytes
  have HV4 := Lib.hid hv4
  obtain rfl := hv4
  clear k1 k2 k3 k4 k5 H4 CR
  go_wp2
  go_ret
  refine ⟨_, rfl, HK.out.2.2.1, fun k hk => Nat.le_trans HC.out.size (HK.out.2.2.2 k hk), HK.out.2.1, HC.out.trans HK.out.1 (by
    intro x hx
    simp at hx
    rcases hx with rfl | rfl
    · exact .inl (by simp)
    · exact .inr (by omega))⟩
end Go.Proofs.YtdkhmfcfihbjeaaGreatDoor.W

/- Package slot: must, head. -/
namespace Go.Proofs.YtdkhmfcfihbjeaaGreatDoor.W
open Go.RowKit
set_option linter.unusedVariables false
set_option linter.unusedSimpArgs false

/-- What a slot's head says. -/
structure SRow where
  used : Bool
  n : Nat
  key : List UInt8
def noRow : SRow := ⟨false, 0, []⟩
/-- The head of a sector, if it is one. -/
def headOf (b : List UInt8) : Option SRow :=
  if allZ b then some noRow else
    if (eyeRaw (eyeNum (eyeNum b 0 1).2.1 (eyeNum b 0 1).2.2 2).2.1 (eyeNum (eyeNum b 0 1).2.1 (eyeNum b 0 1).2.2 2).2.2 40).2.2 ≠ 0 ∨ (eyeNum b 0 1).1 ≠ 1 ∨ 448 < (eyeNum (eyeNum b 0 1).2.1 (eyeNum b 0 1).2.2 2).1 ∨
      allZ (eyeRaw (eyeNum (eyeNum b 0 1).2.1 (eyeNum b 0 1).2.2 2).2.1 (eyeNum (eyeNum b 0 1).2.1 (eyeNum b 0 1).2.2 2).2.2 40).2.1 = false then none
    else some ⟨true, (eyeNum (eyeNum b 0 1).2.1 (eyeNum b 0 1).2.2 2).1.toNat, (eyeRaw (eyeNum (eyeNum b 0 1).2.1 (eyeNum b 0 1).2.2 2).2.1 (eyeNum (eyeNum b 0 1).2.1 (eyeNum b 0 1).2.2 2).2.2 40).1⟩

/-- Giving up. -/
def broke (x : Int) : Ending := .panicked [{ v := .iface 186 (.agg #[.int .i64 x]), recovered := false }]

theorem must_ok (w : World) : Calls Tryz.prog 135 #[.int .i64 0] w fun e w' => e = .returned (.tuple #[]) ∧ w = w' := by
  go_enter Tryz.func135, Tryz.ntmps135
  go_wp2
  go_end0
  exact ⟨rfl, rfl⟩
theorem must_bad (x : Int) (hx : x ≠ 0) (w : World) : Calls Tryz.prog 135 #[.int .i64 x] w fun e w' => e = broke x ∧ w = w' := by
  have q : (x != 0) = true := by simp [hx]
  unfold broke
  clear hx
  go_enter Tryz.func135, Tryz.ntmps135
  go_wp2
  exact ⟨rfl, rfl, rfl⟩

theorem suffix_eq {l m : List UInt8} (h : m <:+ l) : l.drop (l.length - m.length) = m := by
  obtain ⟨t, rfl⟩ := h
  simp
theorem eyeNum_suffix (l : List UInt8) (bad : Int) (n : Nat) : (eyeNum l bad n).2.1 <:+ l := by
  unfold eyeNum
  split
  · exact List.suffix_refl _
  · split
    · exact List.suffix_refl _
    · exact List.drop_suffix _ _
theorem eyeRaw_suffix (l : List UInt8) (bad : Int) (n : Nat) : (eyeRaw l bad n).2.1 <:+ l := by
  unfold eyeRaw
  split
  · exact List.suffix_refl _
  · split
    · exact List.suffix_refl _
    · split
      · exact List.suffix_refl _
      · split
        · exact List.suffix_refl _
        · exact (List.drop_suffix _ _).trans (List.drop_suffix _ _)
theorem eyeNum_nonneg (l : List UInt8) (bad : Int) (n : Nat) : 0 ≤ (eyeNum l bad n).1 := by
  unfold eyeNum
  split
  · exact Int.le_refl _
  · split
    · exact Int.le_refl _
    · exact Int.natCast_nonneg _
theorem eyeNum_err (l : List UInt8) (bad : Int) (n : Nat) : (eyeNum l bad n).2.2 = bad ∨ (eyeNum l bad n).2.2 = 2 ∨ (eyeNum l bad n).2.2 = 0 := by
  unfold eyeNum
  split
  · exact .inl rfl
  · split
    · exact .inr (.inl rfl)
    · exact .inr (.inr rfl)
theorem eyeRaw_err (l : List UInt8) (bad : Int) (n : Nat) : (eyeRaw l bad n).2.2 = bad ∨ (eyeRaw l bad n).2.2 = 2 ∨ (eyeRaw l bad n).2.2 = 3 ∨ (eyeRaw l bad n).2.2 = 0 := by
  unfold eyeRaw
  split
  · exact .inl rfl
  · split
    · exact .inr (.inl rfl)
    · split
      · exact .inr (.inr (.inl rfl))
      · split
        · exact .inr (.inl rfl)
        · exact .inr (.inr (.inr rfl))

/-- What head answers. -/
def HeadPost (b : List UInt8) (w : World) (e : Ending) (w' : World) : Prop :=
  Chg [] w w' ∧ match headOf b with
  | some r => ∃ kv, e = .returned (.agg #[.bool r.used, .int .i64 (r.n : Int), kv]) ∧ BRow w' kv r.key ∧ ∀ k, kv.ownBlock = some k → w.heap.size ≤ k
  | none => ∃ x : Int, e = broke x ∧ x ≠ 14

theorem BytesAt.slice {w : World} {v : Value} {l : List UInt8} (h : BytesAt w v l) : ∃ a cap, v = .slice a l.length cap := by
  obtain ⟨a, cap, h, _⟩ := h
  exact ⟨a, cap, h⟩
theorem BytesAt.chg {w w' : World} {v : Value} {l : List UInt8} {S : List Nat} (h : BytesAt w v l) (hc : Chg S w w') (hS : ∀ k, v.ownBlock = some k → k ∉ S) : BytesAt w' v l := by
  obtain ⟨a, cap, rfl, h1, h2, h3⟩ := h
  refine ⟨a, cap, rfl, h1, h2, ?_⟩
  rcases h3 with h3 | ⟨g, o, rfl, hcell⟩
  · exact .inl h3
  · exact .inr ⟨g, o, rfl, fun i hi => hc.cell (hcell i hi) (hS g rfl)⟩
theorem BytesAt.chgW {w w' : World} {v : Value} {l : List UInt8} {S : List Nat} (h : BytesAt w v l) (hc : Chg S w w') (hS : l ≠ [] → ∀ k, v.ownBlock = some k → k ∉ S) : BytesAt w' v l := by
  by_cases hl : l = []
  · subst hl
    obtain ⟨a, cap, rfl, h1, h2, h3⟩ := h
    refine ⟨a, cap, rfl, h1, h2, ?_⟩
    rcases h3 with h3 | ⟨g, o, rfl, _⟩
    · exact .inl h3
    · exact .inr ⟨g, o, rfl, fun i hi => by simp at hi⟩
  · exact h.chg hc (hS hl)
theorem BytesAt.lt {w : World} {v : Value} {l : List UInt8} (h : BytesAt w v l) (hl : l ≠ []) : ∀ k, v.ownBlock = some k → k < w.heap.size := by
  obtain ⟨a, cap, rfl, h1, h2, h3⟩ := h
  rcases h3 with ⟨rfl, _⟩ | ⟨g, o, rfl, hcell⟩
  · exact absurd rfl hl
  · intro k hk
    obtain rfl : g = k := by simpa [Value.ownBlock] using hk
    exact World.block_lt_of_cell? w _ (hcell 0 (List.length_pos_iff.2 hl))
theorem BytesAt.tail {w : World} {a : Addr} {cap : Nat} {l m : List UInt8} (h : BytesAt w (.slice (some a) l.length cap) l) (hm : m <:+ l) (o2 : Nat) (ho : m ≠ [] → o2 = a.off + (l.length - m.length)) :
    BytesAt w (.slice (some ⟨a.block, o2, none⟩) m.length (cap - (l.length - m.length))) m := by
  obtain ⟨aa, c2, he, h1, h2, h3⟩ := h
  obtain ⟨rfl, rfl⟩ : some a = aa ∧ cap = c2 := by simpa using he
  have hle : m.length ≤ l.length := hm.length_le
  refine ⟨_, _, rfl, by omega, by omega, ?_⟩
  by_cases hm0 : m = []
  · subst hm0
    exact .inr ⟨_, _, rfl, fun i hi => absurd hi (by simp)⟩
  · right
    have hpos := List.length_pos_iff.2 hm0
    rcases h3 with ⟨rfl, _⟩ | ⟨g, o, e, hcell⟩
    · simp at hle; exact absurd hle hm0
    · obtain rfl : a = ⟨g, o, none⟩ := by simpa using e
      refine ⟨g, o2, rfl, fun i hi => ?_⟩
      rw [ho hm0]
      have hg : m.getD i 0 = l.getD (l.length - m.length + i) 0 := by
        have h5 := suffix_eq hm
        conv => lhs; rw [← h5]
        rw [getD_drop]
      rw [hg, Nat.add_assoc]
      exact hcell _ (by omega)

theorem set3 {w : World} {b t : Nat} {u0 u1 u2 v0 v1 v2 : Value} (h : w.heap[b]? = some (.cells #[v0, v1, v2] t (0, 0))) : (((w.setCell ⟨b, 0, none⟩ u0).setCell ⟨b, 1, none⟩ u1).setCell ⟨b, 2, none⟩ u2).heap[b]? = some (.cells #[u0, u1, u2] t (0, 0)) := set_blk (set_blk (set_blk h))

set_option maxHeartbeats 8000000 in
set_option maxRecDepth 100000 in
theorem head_any (v : Value) (b : List UInt8) (w : World) (h : BytesAt w v b) (hl : b.length ≤ 1000000) :
    Calls Tryz.prog 136 #[v] w (HeadPost b w) := by
  obtain ⟨a, cap, rfl⟩ := h.slice
  obtain ⟨w0, hw0⟩ : ∃ w0, w0 = w.alloc (.cells #[.bool false, .int .i64 0, .slice none 0 0] 192) := ⟨_, rfl⟩
  have hc0 : Chg [] w w0 := by rw [hw0]; exact (Chg.refl _ _).alloc _
  have hr0 : w0.heap[w.heap.size]? = some (.cells #[.bool false, .int .i64 0, .slice none 0 0] 192 (0, 0)) := by rw [hw0]; exact heap_alloc_new w _
  have h0 : BytesAt w0 (.slice a b.length cap) b := h.chg hc0 (by simp)
  have CZ := Lib.hid (noughts_any _ b w0 h0 (by omega))
  have HW0 := Lib.hid hw0
  by_cases hz : allZ b = true
  · have hh : headOf b = some noRow := by unfold headOf; rw [if_pos hz]
    have hP : ∀ w', Chg [] w w' → HeadPost b w (.returned (.agg #[.bool false, .int .i64 0, .slice none 0 0])) w' := fun w' hc => by
      refine ⟨hc, ?_⟩
      rw [hh]
      exact ⟨.slice none 0 0, rfl, BRow.nil _, by simp [Value.ownBlock]⟩
    have HP := Lib.hid hP
    have HC0 := Lib.hid hc0
    have HR0 := Lib.hid hr0
    rw [hz] at CZ
    clear h h0 hz hh hP hc0 hr0 hw0
    go_enter Tryz.func136, Tryz.ntmps136
    go_wp2_with fail
    rw [← HW0.out]
    refine CZ.out.mono ?_
    rintro e w1 ⟨rfl, n, rfl⟩
    have c0 : (w0.drewN n).cell? ⟨w.heap.size, 0, none⟩ = some (.bool false) := blk_cell HR0.out 0 _ rfl
    have c1 : (w0.drewN n).cell? ⟨w.heap.size, 1, none⟩ = some (.int .i64 0) := blk_cell HR0.out 1 _ rfl
    have c2 : (w0.drewN n).cell? ⟨w.heap.size, 2, none⟩ = some (.slice none 0 0) := blk_cell HR0.out 2 _ rfl
    have HR1 : Hid ((w0.drewN n).heap[w.heap.size]? = some (.cells #[.bool false, .int .i64 0, .slice none 0 0] 192 (0, 0))) := Lib.hid HR0.out
    have f0 : (w0.drewN n).frozen? ⟨w.heap.size, 0, none⟩ = false := blk_frozen HR0.out 0
    have f1 : (w0.drewN n).frozen? ⟨w.heap.size, 1, none⟩ = false := blk_frozen HR0.out 1
    have f2 : (w0.drewN n).frozen? ⟨w.heap.size, 2, none⟩ = false := blk_frozen HR0.out 2
    have hl0 : w.heap.size < (w0.drewN n).heap.size := blk_lt HR0.out
    have HD : Hid (Chg [] w (w0.drewN n)) := Lib.hid (HC0.out.drewN n)
    generalize w0.drewN n = w1 at *
    clear CZ
    go_wp2
    have hb3 := set3 (u0 := .bool false) (u1 := .int .i64 0) (u2 := .slice none 0 0) HR1.out
    refine bodyPost_ret (v := .agg #[.bool false, .int .i64 0, .slice none 0 0]) (by simp [results, Tryz.results136, go_sem, blk_cell hb3 0 _ rfl, blk_cell hb3 1 _ rfl, blk_cell hb3 2 _ rfl]) rfl (HP.out _ ?_)
    exact Chg.mono (S := [w.heap.size]) (((HD.out.mono (by simp)).setCell (.inl (by simp)) _).setCell (.inl (by simp)) _ |>.setCell (.inl (by simp)) _) (fun x hx => .inr (by simp at hx; omega))
  · have hzf : allZ b = false := by simpa using hz
    have hhd : headOf b = if (eyeRaw (eyeNum (eyeNum b 0 1).2.1 (eyeNum b 0 1).2.2 2).2.1 (eyeNum (eyeNum b 0 1).2.1 (eyeNum b 0 1).2.2 2).2.2 40).2.2 ≠ 0 ∨ (eyeNum b 0 1).1 ≠ 1 ∨ 448 < (eyeNum (eyeNum b 0 1).2.1 (eyeNum b 0 1).2.2 2).1 ∨
      allZ (eyeRaw (eyeNum (eyeNum b 0 1).2.1 (eyeNum b 0 1).2.2 2).2.1 (eyeNum (eyeNum b 0 1).2.1 (eyeNum b 0 1).2.2 2).2.2 40).2.1 = false then none
    else some ⟨true, (eyeNum (eyeNum b 0 1).2.1 (eyeNum b 0 1).2.2 2).1.toNat, (eyeRaw (eyeNum (eyeNum b 0 1).2.1 (eyeNum b 0 1).2.2 2).2.1 (eyeNum (eyeNum b 0 1).2.1 (eyeNum b 0 1).2.2 2).2.2 40).1⟩ := by
      unfold headOf; rw [if_neg hz]
    rw [hzf] at CZ
    have hsuf : (eyeRaw (eyeNum (eyeNum b 0 1).2.1 (eyeNum b 0 1).2.2 2).2.1 (eyeNum (eyeNum b 0 1).2.1 (eyeNum b 0 1).2.2 2).2.2 40).2.1 <:+ b := (eyeRaw_suffix _ _ _).trans ((eyeNum_suffix _ _ _).trans (eyeNum_suffix _ _ _))
    have herr : (eyeRaw (eyeNum (eyeNum b 0 1).2.1 (eyeNum b 0 1).2.2 2).2.1 (eyeNum (eyeNum b 0 1).2.1 (eyeNum b 0 1).2.2 2).2.2 40).2.2 ≠ 14 := by
      have h1 := eyeRaw_err (eyeNum (eyeNum b 0 1).2.1 (eyeNum b 0 1).2.2 2).2.1 (eyeNum (eyeNum b 0 1).2.1 (eyeNum b 0 1).2.2 2).2.2 40
      have h2 := eyeNum_err (eyeNum b 0 1).2.1 (eyeNum b 0 1).2.2 2
      have h3 := eyeNum_err b 0 1
      omega
    have hn2 := eyeNum_nonneg (eyeNum b 0 1).2.1 (eyeNum b 0 1).2.2 2
    have CN1 := fun (b' g : Nat) (w' : World) (h : EyeAt w' b' g b 0) => enum_any b' g b 0 1 w' h (by omega) (by omega)
    rw [show (1 : Int).toNat = 1 from rfl] at CN1
    generalize hr1 : eyeNum b 0 1 = r1 at *
    have CN2 := fun (b' g : Nat) (w' : World) (h : EyeAt w' b' g r1.2.1 r1.2.2) => enum_any b' g r1.2.1 r1.2.2 2 w' h (by omega) (by omega)
    rw [show (2 : Int).toNat = 2 from rfl] at CN2
    generalize hr2 : eyeNum r1.2.1 r1.2.2 2 = r2 at *
    have CR3 := fun (b' g : Nat) (w' : World) (h : EyeAt w' b' g r2.2.1 r2.2.2) => eraw_any b' g r2.2.1 r2.2.2 40 w' h (by omega)
    generalize hr3 : eyeRaw r2.2.1 r2.2.2 40 = r3 at *
    obtain ⟨k1, l1, e1⟩ := r1
    obtain ⟨k2, l2, e2⟩ := r2
    obtain ⟨key, l3, e3⟩ := r3
    dsimp only at hhd hsuf herr hn2 CN1 CN2 CR3
    clear hr1 hr2 hr3
    have HHD := Lib.hid hhd
    have HSUF := Lib.hid hsuf
    have HERR := Lib.hid herr
    have HN1 := Lib.hid CN1
    have HN2 := Lib.hid CN2
    have HR3 := Lib.hid CR3
    have HC0 := Lib.hid hc0
    have HR0 := Lib.hid hr0
    have HB0 := Lib.hid h0
    have hbn : b ≠ [] := fun e => hz (by rw [e]; rfl)
    have HBV := Lib.hid (h.lt hbn)
    have hbpos : 0 < b.length := List.length_pos_iff.2 hbn
    clear hbn
    clear h h0 hz hzf hhd hsuf herr CN1 CN2 CR3 hc0 hr0 hw0
    go_enter Tryz.func136, Tryz.ntmps136
    go_wp2_with fail
    rw [← HW0.out]
    refine CZ.out.mono ?_
    rintro e w1 ⟨rfl, n, hw1⟩
    have hcd : Chg [] w0 w1 := by rw [hw1]; exact (Chg.refl _ _).drewN n
    have HB1 := Lib.hid (HB0.out.chg hcd (by simp))
    have HC1 := Lib.hid (HC0.out.trans hcd (by simp))
    have HRW1 := Lib.hid (hcd.keep HR0.out (by simp))
    clear hw1 hcd CZ HC0 HR0 HB0 HW0
    go_wp2_with fail
    refine (neweye_any _ b w1 HB1.out hl).mono ?_
    rintro e w2 ⟨eb, eg, rfl, hE2, heb, heg, hc2⟩
    have HB2 := Lib.hid (HB1.out.chg hc2 (by simp))
    have HC2 := Lib.hid (HC1.out.trans hc2 (by simp))
    have HRW2 := Lib.hid (hc2.keep HRW1.out (by simp))
    have HE2 := Lib.hid hE2
    have hebw : w.heap.size ≤ eb := Nat.le_trans HC1.out.size heb
    have hnl : w.heap.size < eb := by
      have := blk_lt HRW1.out
      omega
    clear hE2 hc2 HB1 HC1
    go_wp2_with fail
    refine (HN1.out eb eg w2 HE2.out).mono ?_
    rintro e w3 ⟨rfl, hE3, hc3⟩
    have hbe : ∀ k, (Value.slice a b.length cap).ownBlock = some k → k ∉ [eb] := fun k hk => by have := HBV.out k hk; simp; omega
    have HB3 := Lib.hid (HB2.out.chg hc3 hbe)
    have HC3 := Lib.hid (HC2.out.trans hc3 (fun x hx => .inr (by simp at hx; omega)))
    have HRW3 := Lib.hid (hc3.keep HRW2.out (by simp; omega))
    have HE3 := Lib.hid hE3
    have HBE := Lib.hid hbe
    clear hE3 hc3 HB2 HC2 HRW2 HE2 hbe
    go_wp2_with fail
    refine (HN2.out eb eg w3 HE3.out).mono ?_
    rintro e w4 ⟨rfl, hE4, hc4⟩
    have HB4 := Lib.hid (HB3.out.chg hc4 HBE.out)
    have HC4 := Lib.hid (HC3.out.trans hc4 (fun x hx => .inr (by simp at hx; omega)))
    have HRW4 := Lib.hid (hc4.keep HRW3.out (by simp; omega))
    have HE4 := Lib.hid hE4
    clear hE4 hc4 HB3 HC3 HRW3 HE3
    go_wp2_with fail
    refine (HR3.out eb eg w4 HE4.out).mono ?_
    rintro e w5 ⟨kv, rfl, hkr, hkn, hE5, hc5⟩
    have HB5 := Lib.hid (HB4.out.chg hc5 HBE.out)
    have HC5 := Lib.hid (HC4.out.trans hc5 (fun x hx => .inr (by simp at hx; omega)))
    have HRW5 := Lib.hid (hc5.keep HRW4.out (by simp; omega))
    have HE5 := Lib.hid hE5
    have HKR := Lib.hid hkr
    have HKN : Hid (∀ k, kv.ownBlock = some k → w.heap.size < k) := Lib.hid (fun k hk => by
      have h1 := hkn k hk
      have h2 := blk_lt HRW4.out
      omega)
    have HKL := Lib.hid hkr.lt
    have hkform : ∃ a5 c5, kv = .slice a5 key.length c5 := by
      obtain ⟨a5, c5, h5, _⟩ := hkr.bytes
      exact ⟨a5, c5, h5⟩
    obtain ⟨a5, c5, hkv⟩ := hkform
    have HKV := Lib.hid hkv
    clear hE5 hc5 HB4 HC4 HRW4 HE4 hkr hkn hkv
    have hPn : ∀ (x : Int) (w' : World), (e3 ≠ 0 ∨ k1 ≠ 1 ∨ 448 < k2 ∨ allZ l3 = false) → x ≠ 14 → Chg [] w w' → HeadPost b w (broke x) w' := fun x w' h1 h2 h3 => by
      refine ⟨h3, ?_⟩
      rw [HHD.out, if_pos h1]
      exact ⟨x, rfl, h2⟩
    have hPs : ∀ (kv : Value) (w' : World), ¬ (e3 ≠ 0 ∨ k1 ≠ 1 ∨ 448 < k2 ∨ allZ l3 = false) → Chg [] w w' → BRow w' kv key → (∀ k, kv.ownBlock = some k → w.heap.size ≤ k) → HeadPost b w (.returned (.agg #[.bool true, .int .i64 k2, kv])) w' := fun kv w' h1 h2 h3 h4 => by
      refine ⟨h2, ?_⟩
      rw [HHD.out, if_neg h1]
      exact ⟨kv, by rw [show ((k2.toNat : Nat) : Int) = k2 by omega], h3, h4⟩
    have HPN := Lib.hid hPn
    have HPS := Lib.hid hPs
    clear hPn hPs
    go_wp2_with fail
    refine (efail_any eb eg l3 e3 w5 HE5.out).mono ?_
    rintro e w' ⟨rfl, hq⟩
    subst hq
    go_wp2_with fail
    by_cases he3 : e3 = 0
    · subst he3
      refine (must_ok _).mono ?_
      rintro e w' ⟨rfl, hq⟩
      subst hq
      by_cases hk1 : k1 = 1
      · have q1 : (k1 != 1) = false := by simp [hk1]
        have HK1 := Lib.hid hk1
        clear hk1
        by_cases hk2 : 448 < k2
        · go_wp2
          exact ⟨rfl, HPN.out 4 _ (.inr (.inr (.inl hk2))) (by omega) HC5.out⟩
        · obtain ⟨aa, rfl⟩ : ∃ aa, a = some aa := by
            cases a with
            | some aa => exact ⟨aa, rfl⟩
            | none =>
              obtain ⟨_, _, he, _, _, h3⟩ := HB5.out
              rcases h3 with ⟨rfl, _⟩ | ⟨g, o, e, _⟩
              · simp at hbpos
              · subst e; cases he
          have hle := HSUF.out.length_le
          have hcapl : b.length ≤ cap ∧ cap ≤ 9223372036854775807 := by
            obtain ⟨_, c, he, h1, h2, _⟩ := HB5.out
            unfold maxLen at h2
            have : cap = c := by simpa using (Value.slice.inj he).2.2
            omega
          obtain ⟨g, o, spot⟩ := aa
          obtain rfl : spot = none := by
            obtain ⟨_, _, he, _, _, h3⟩ := HB5.out
            rcases h3 with ⟨rfl, _⟩ | ⟨g', o', e, _⟩
            · simp at hbpos
            · subst e; simp at he; exact he.1.2.2
          obtain ⟨d, hd⟩ : ∃ d, d = b.length - l3.length := ⟨_, rfl⟩
          have hdz : (b.length : Int) - (l3.length : Int) = (d : Int) := by omega
          have hdc : (d : Int).toNat = d := by omega
          have hdl : d ≤ b.length := by omega
          have hbd : b.length - d = l3.length := by omega
          have hT : Hid (∀ o2, (l3 ≠ [] → o2 = o + d) → BytesAt w5 (.slice (some ⟨g, o2, none⟩) l3.length (cap - d)) l3) := Lib.hid (fun o2 ho2 => by
            have := BytesAt.tail HB5.out HSUF.out o2 (by rw [← hd]; exact ho2)
            rwa [← hd] at this)
          have HD := Lib.hid hd
          clear hd
          go_wp2_with fail
          refine (eleft_any eb eg l3 0 w5 HE5.out).mono ?_
          rintro e w' ⟨rfl, hq⟩
          subst hq
          have hl3 : l3.length ≤ 1000000000 := by omega
          by_cases hcd : cap = d
          · obtain rfl : l3 = [] := List.eq_nil_of_length_eq_zero (by omega)
            have hB0 : BytesAt w5 (.slice (some ⟨g, o, none⟩) 0 0) [] := ⟨_, 0, rfl, by simp, by unfold maxLen; omega, .inr ⟨g, o, rfl, fun i hi => absurd hi (by simp)⟩⟩
            have CZ := Lib.hid (noughts_any _ [] w5 hB0 (by simp))
            obtain rfl := hcd
            clear hB0 hT
            go_wp2_with fail
            refine CZ.out.mono ?_
            rintro e w6 ⟨rfl, n6, hw6⟩
            have hc6 : Chg [] w5 w6 := by rw [hw6]; exact (Chg.refl _ _).drewN n6
            have HC6 := Lib.hid (HC5.out.trans hc6 (by simp))
            have HRW6 := Lib.hid (hc6.keep HRW5.out (by simp))
            have HK6 := Lib.hid (HKR.out.keep (fun k hk => hc6.block k (HKL.out k hk) (by simp)))
            have HL6 : Hid (∀ k, kv.ownBlock = some k → k < w6.heap.size) := Lib.hid HK6.out.lt
            clear hw6 hc6
            · have hz3 : allZ ([] : List UInt8) = true := rfl
              rw [hz3]
              have hne : ¬ ((0 : Int) ≠ 0 ∨ k1 ≠ 1 ∨ 448 < k2 ∨ allZ ([] : List UInt8) = false) := by simp [HK1.out, hz3, hk2]
              have HNE := Lib.hid hne
              clear hz3 hne
              have c0 := blk_cell HRW6.out 0 _ rfl
              have c1 := blk_cell HRW6.out 1 _ rfl
              have c2 := blk_cell HRW6.out 2 _ rfl
              have f0 := blk_frozen HRW6.out 0
              have f1 := blk_frozen HRW6.out 1
              have f2 := blk_frozen HRW6.out 2
              have hl6 := blk_lt HRW6.out
              obtain rfl := HKV.out
              go_wp2
              have hb3 := set3 (u0 := .bool true) (u1 := .int .i64 k2) (u2 := .slice a5 key.length c5) HRW6.out
              refine bodyPost_ret (v := .agg #[.bool true, .int .i64 k2, .slice a5 key.length c5]) (by simp [results, Tryz.results136, go_sem, blk_cell hb3 0 _ rfl, blk_cell hb3 1 _ rfl, blk_cell hb3 2 _ rfl]) rfl (HPS.out _ _ HNE.out ?_ ?_ ?_)
              · exact Chg.mono (S := [w.heap.size]) ((((HC6.out.mono (by simp)).setCell (.inl (by simp)) _).setCell (.inl (by simp)) _).setCell (.inl (by simp)) _) (fun x hx => .inr (by simp at hx; omega))
              · exact HK6.out.keep (fun k hk => by
                  have hne := HKN.out k hk
                  exact ((Below.heap_setCell _ ⟨w.heap.size, 2, none⟩ _ k (by show k ≠ w.heap.size; omega)).trans (Below.heap_setCell _ ⟨w.heap.size, 1, none⟩ _ k (by show k ≠ w.heap.size; omega))).trans (Below.heap_setCell _ ⟨w.heap.size, 0, none⟩ _ k (by show k ≠ w.heap.size; omega)))
              · exact fun k hk => Nat.le_of_lt (HKN.out k hk)
          · have CZ := Lib.hid (noughts_any _ l3 w5 (hT.out (o + d) (fun _ => rfl)) hl3)
            clear hT
            go_wp2_with fail
            refine CZ.out.mono ?_
            rintro e w6 ⟨rfl, n6, hw6⟩
            have hc6 : Chg [] w5 w6 := by rw [hw6]; exact (Chg.refl _ _).drewN n6
            have HC6 := Lib.hid (HC5.out.trans hc6 (by simp))
            have HRW6 := Lib.hid (hc6.keep HRW5.out (by simp))
            have HK6 := Lib.hid (HKR.out.keep (fun k hk => hc6.block k (HKL.out k hk) (by simp)))
            have HL6 : Hid (∀ k, kv.ownBlock = some k → k < w6.heap.size) := Lib.hid HK6.out.lt
            clear hw6 hc6
            by_cases hz3 : allZ l3 = true
            · rw [hz3]
              have hne : ¬ ((0 : Int) ≠ 0 ∨ k1 ≠ 1 ∨ 448 < k2 ∨ allZ l3 = false) := by simp [HK1.out, hz3, hk2]
              have HNE := Lib.hid hne
              clear hz3 hne
              have c0 := blk_cell HRW6.out 0 _ rfl
              have c1 := blk_cell HRW6.out 1 _ rfl
              have c2 := blk_cell HRW6.out 2 _ rfl
              have f0 := blk_frozen HRW6.out 0
              have f1 := blk_frozen HRW6.out 1
              have f2 := blk_frozen HRW6.out 2
              have hl6 := blk_lt HRW6.out
              obtain rfl := HKV.out
              go_wp2
              have hb3 := set3 (u0 := .bool true) (u1 := .int .i64 k2) (u2 := .slice a5 key.length c5) HRW6.out
              refine bodyPost_ret (v := .agg #[.bool true, .int .i64 k2, .slice a5 key.length c5]) (by simp [results, Tryz.results136, go_sem, blk_cell hb3 0 _ rfl, blk_cell hb3 1 _ rfl, blk_cell hb3 2 _ rfl]) rfl (HPS.out _ _ HNE.out ?_ ?_ ?_)
              · exact Chg.mono (S := [w.heap.size]) ((((HC6.out.mono (by simp)).setCell (.inl (by simp)) _).setCell (.inl (by simp)) _).setCell (.inl (by simp)) _) (fun x hx => .inr (by simp at hx; omega))
              · exact HK6.out.keep (fun k hk => by
                  have hne := HKN.out k hk
                  exact ((Below.heap_setCell _ ⟨w.heap.size, 2, none⟩ _ k (by show k ≠ w.heap.size; omega)).trans (Below.heap_setCell _ ⟨w.heap.size, 1, none⟩ _ k (by show k ≠ w.heap.size; omega))).trans (Below.heap_setCell _ ⟨w.heap.size, 0, none⟩ _ k (by show k ≠ w.heap.size; omega)))
              · exact fun k hk => Nat.le_of_lt (HKN.out k hk)
            · have hzf : allZ l3 = false := by simpa using hz3
              rw [hzf]
              have HZF := Lib.hid hzf
              clear hz3 hzf
              go_wp2
              exact ⟨rfl, HPN.out 4 _ (.inr (.inr (.inr HZF.out))) (by omega) HC6.out⟩
      · have q1 : (k1 != 1) = true := by simp [hk1]
        have HK1 := Lib.hid hk1
        clear hk1
        go_wp2
        exact ⟨rfl, HPN.out 4 _ (.inr (.inl HK1.out)) (by omega) HC5.out⟩
    · refine (must_bad e3 he3 _).mono ?_
      rintro e w' ⟨rfl, hq⟩
      subst hq
      exact ⟨rfl, HPN.out e3 _ (.inl he3) HERR.out HC5.out⟩
end Go.Proofs.YtdkhmfcfihbjeaaGreatDoor.W

/- A disk in memory: its sectors, what waits, its counters; and what is done to it, plainly. -/
namespace Go.Proofs.YtdkhmfcfihbjeaaGreatDoor.W
open Go.RowKit
set_option linter.unusedVariables false
set_option linter.unusedSimpArgs false

/-! ### Plainly -/
def upd (f : Nat → List UInt8) (k : Nat) (s : List UInt8) : Nat → List UInt8 := fun j => if j = k then s else f j
/-- A disk. -/
structure DS where
  n : Nat
  now : Nat → List UInt8
  lasts : Nat → List UInt8
  since : List (Nat × List UInt8)
  fuse : Int
  ops : Nat
  dead : Bool
def applied (l : List (Nat × List UInt8)) (f : Nat → List UInt8) : Nat → List UInt8 := l.foldl (fun f x => upd f x.1 x.2) f
def DS.op (d : DS) : Bool × DS :=
  if d.fuse = 0 then (false, { d with dead := true }) else (true, { d with fuse := if 0 < d.fuse then d.fuse - 1 else d.fuse, ops := d.ops + 1 })
def DS.write (d : DS) (k : Int) (b : List UInt8) : Int × DS :=
  if d.dead then (14, d) else if 0 ≤ k ∧ k < d.n ∧ b.length = 64 then
    let r := ({ d with since := d.since ++ [(k.toNat, b)] } : DS).op
    if r.1 then (0, { r.2 with now := upd r.2.now k.toNat b }) else (14, r.2)
  else (1, d)
def DS.sync (d : DS) : Int × DS :=
  if d.dead then (14, d) else
    let r := d.op
    if r.1 then (0, { r.2 with lasts := applied r.2.since r.2.lasts, since := [] }) else (14, r.2)

/-! ### Blocks -/
theorem setCells_blk {g t : Nat} : ∀ (vs : List Value) (o : Nat) (w : World) (cs : Array Value), w.heap[g]? = some (.cells cs t (0, 0)) →
    ∃ cs' : Array Value, (w.setCells g o vs).heap[g]? = some (.cells cs' t (0, 0)) ∧ cs'.size = cs.size ∧ ∀ j, j < cs.size → cs'[j]? = if o ≤ j ∧ j < o + vs.length then vs[j - o]? else cs[j]? := by
  intro vs
  induction vs with
  | nil =>
    intro o w cs h
    refine ⟨cs, h, rfl, fun j hj => ?_⟩
    rw [if_neg (by simp)]
  | cons v r ih =>
    intro o w cs h
    obtain ⟨cs', h1, h2, h3⟩ := ih (o + 1) (w.setCell ⟨g, o, none⟩ v) (cs.setIfInBounds o v) (set_blk h)
    refine ⟨cs', ?_, by rw [h2]; simp, fun j hj => ?_⟩
    · rw [World.setCells]; exact h1
    · rw [h3 j (by simpa using hj), Array.getElem?_setIfInBounds]
      by_cases e : o = j
      · subst e
        rw [if_neg (by omega), if_pos rfl, if_pos hj, if_pos (by simp)]
        simp
      · by_cases e2 : o + 1 ≤ j ∧ j < o + 1 + r.length
        · rw [if_pos e2, if_pos (by simp; omega)]
          have : j - o = (j - (o + 1)) + 1 := by omega
          rw [this, List.getElem?_cons_succ]
        · rw [if_neg e2, if_neg e, if_neg (by simp; omega)]
theorem setCells_far {g : Nat} : ∀ (vs : List Value) (o : Nat) (w : World) (k : Nat), k ≠ g → (w.setCells g o vs).heap[k]? = w.heap[k]? := by
  intro vs
  induction vs with
  | nil => intro o w k h; rfl
  | cons v r ih =>
    intro o w k h
    rw [World.setCells, ih _ _ k h]
    exact Below.heap_setCell w ⟨g, o, none⟩ v k h
theorem setCells_size {g : Nat} : ∀ (vs : List Value) (o : Nat) (w : World), (w.setCells g o vs).heap.size = w.heap.size := by
  intro vs
  induction vs with
  | nil => intro o w; rfl
  | cons v r ih => intro o w; rw [World.setCells, ih]; simp [World.setCell]
theorem setCells_rest {g : Nat} : ∀ (vs : List Value) (o : Nat) (w : World), (w.setCells g o vs).os = w.os ∧ (w.setCells g o vs).tape = w.tape ∧ (w.setCells g o vs).output = w.output := by
  intro vs
  induction vs with
  | nil => intro o w; exact ⟨rfl, rfl, rfl⟩
  | cons v r ih => intro o w; rw [World.setCells]; exact ih _ _
theorem Chg.setCells {S : List Nat} {a b : World} (h : Chg S a b) {g o : Nat} (hp : g ∈ S ∨ a.heap.size ≤ g) (vs : List Value) : Chg S a (b.setCells g o vs) := by
  obtain ⟨h1, h2, h3⟩ := setCells_rest (g := g) vs o b
  refine ⟨h1.trans h.os, h2.trans h.tape, h3.trans h.output, by rw [setCells_size]; exact h.size, fun k hk hn => (setCells_far vs o b k (by
    rintro rfl
    rcases hp with hp | hp
    · exact hn hp
    · omega)).trans (h.block k hk hn)⟩

/-- n sectors in block g: sector k reads as f k. -/
def SecsAt (w : World) (g n : Nat) (f : Nat → List UInt8) : Prop :=
  ∃ cs : Array Value, w.heap[g]? = some (.cells cs 103 (0, 0)) ∧ n * 64 ≤ cs.size ∧ ∀ k, k < n → (f k).length = 64 ∧ ∀ i, i < 64 → cs[k * 64 + i]? = some (bv ((f k).getD i 0))
theorem SecsAt.lt {w : World} {g n : Nat} {f : Nat → List UInt8} (h : SecsAt w g n f) : g < w.heap.size := by obtain ⟨cs, h, _⟩ := h; exact blk_lt h
theorem SecsAt.keep {w w' : World} {g n : Nat} {f : Nat → List UInt8} (h : SecsAt w g n f) (hb : w'.heap[g]? = w.heap[g]?) : SecsAt w' g n f := by
  obtain ⟨cs, h1, h2⟩ := h
  exact ⟨cs, hb.trans h1, h2⟩
theorem SecsAt.len {w : World} {g n : Nat} {f : Nat → List UInt8} (h : SecsAt w g n f) (k : Nat) (hk : k < n) : (f k).length = 64 := by obtain ⟨cs, _, _, h⟩ := h; exact (h k hk).1
theorem SecsAt.range {w : World} {g n : Nat} {f : Nat → List UInt8} (h : SecsAt w g n f) (k : Nat) (hk : k < n) : w.rangeAt g (k * 64) (bvs (f k)) := by
  obtain ⟨cs, h1, h2, h3⟩ := h
  obtain ⟨h4, h5⟩ := h3 k hk
  intro j v hv
  have hj : j < 64 := by
    have := (List.getElem?_eq_some_iff.1 hv).1
    rw [bvs_len, h4] at this; exact this
  rw [bvs_at (f k) j (by omega)] at hv
  cases hv
  exact blk_cell h1 _ _ (h5 j hj)
theorem SecsAt.there {w : World} {g n : Nat} {f : Nat → List UInt8} (h : SecsAt w g n f) (k : Nat) (hk : k < n) : w.there g (k * 64) 64 := by
  obtain ⟨cs, h1, h2, h3⟩ := h
  intro j hj
  exact ⟨by rw [blk_cell h1 _ _ ((h3 k hk).2 j hj)]; rfl, blk_frozen h1 _⟩
theorem SecsAt.bytes {w : World} {g n : Nat} {f : Nat → List UInt8} (h : SecsAt w g n f) (k : Nat) (hk : k < n) : BytesAt w (.slice (some ⟨g, k * 64, none⟩) 64 64) (f k) := by
  have hl := h.len k hk
  refine ⟨some ⟨g, k * 64, none⟩, 64, by rw [hl], by omega, by unfold maxLen; omega, .inr ⟨g, k * 64, rfl, fun i hi => ?_⟩⟩
  exact h.range k hk i _ (bvs_at (f k) i hi)
theorem SecsAt.set {w : World} {g n : Nat} {f : Nat → List UInt8} (h : SecsAt w g n f) (k : Nat) (s : List UInt8) (hk : k < n) (hs : s.length = 64) : SecsAt (w.setCells g (k * 64) (bvs s)) g n (upd f k s) := by
  obtain ⟨cs, h1, h2, h3⟩ := h
  obtain ⟨cs', e1, e2, e3⟩ := setCells_blk (bvs s) (k * 64) w cs h1
  refine ⟨cs', e1, by omega, fun j hj => ?_⟩
  unfold upd
  by_cases e : j = k
  · subst e
    rw [if_pos rfl]
    refine ⟨hs, fun i hi => ?_⟩
    rw [e3 _ (by omega), if_pos (by rw [bvs_len]; omega)]
    have : j * 64 + i - j * 64 = i := by omega
    rw [this]
    exact bvs_at s i (by omega)
  · rw [if_neg e]
    refine ⟨(h3 j hj).1, fun i hi => ?_⟩
    rw [e3 _ (by omega), if_neg (by rw [bvs_len]; omega)]
    exact (h3 j hj).2 i hi
def zeros (n : Nat) : List UInt8 := List.replicate n 0

/-- What waits, as cells. -/
def wcells (x : Nat × List UInt8) : List Value := .int .i64 (x.1 : Int) :: bvs x.2
def wsCells (l : List (Nat × List UInt8)) : List Value := l.flatMap wcells
theorem wsCells_app (l : List (Nat × List UInt8)) (x : Nat × List UInt8) : wsCells (l ++ [x]) = wsCells l ++ wcells x := by simp [wsCells]

/-- A disk in block p; S: its blocks. -/
structure DiskOk (w : World) (p : Nat) (S : List Nat) (d : DS) (gn gl : Nat) (cn cl : Nat) (v : Value) : Prop where
  head : w.heap[p]? = some (.cells #[.slice (some ⟨gn, 0, none⟩) d.n cn, .slice (some ⟨gl, 0, none⟩) d.n cl, v, .int .i64 d.fuse, .int .i64 (d.ops : Int), .bool d.dead] 94 (0, 0))
  now : SecsAt w gn d.n d.now
  lasts : SecsAt w gl d.n d.lasts
  since : w.ownsRow 0 105 65 v d.since.length (wsCells d.since)
  waits : ∀ x ∈ d.since, x.1 < d.n ∧ x.2.length = 64
  few : d.n ≤ 4160
  capn : d.n ≤ cn ∧ cn ≤ maxLen
  capl : d.n ≤ cl ∧ cl ≤ maxLen
  fuse : -1 ≤ d.fuse ∧ d.fuse ≤ 9223372036854775807
  ap : p ≠ gn ∧ p ≠ gl ∧ gn ≠ gl
  av : ∀ k, v.ownBlock = some k → k ≠ p ∧ k ≠ gn ∧ k ≠ gl
  mem : p ∈ S ∧ gn ∈ S ∧ gl ∈ S ∧ ∀ k, v.ownBlock = some k → k ∈ S
  lim : ∀ x ∈ S, x < w.heap.size
def DiskAt (w : World) (p : Nat) (S : List Nat) (d : DS) : Prop := ∃ gn gl cn cl v, DiskOk w p S d gn gl cn cl v
theorem DiskAt.keep {w w' : World} {p : Nat} {S T : List Nat} {d : DS} (h : DiskAt w p S d) (hc : Chg T w w') (ha : ∀ x ∈ S, x ∉ T) : DiskAt w' p S d := by
  obtain ⟨gn, gl, cn, cl, v, h⟩ := h
  obtain ⟨m1, m2, m3, m4⟩ := h.mem
  exact ⟨gn, gl, cn, cl, v, hc.keep h.head (ha _ m1), h.now.keep (hc.block _ h.now.lt (ha _ m2)), h.lasts.keep (hc.block _ h.lasts.lt (ha _ m3)),
    row_keep h.since (fun g hg => hc.block g (World.ownsRow.lt h.since g hg).2 (ha _ (m4 g hg))), h.waits, h.few, h.capn, h.capl, h.fuse, h.ap, h.av, h.mem, fun x hx => Nat.lt_of_lt_of_le (h.lim x hx) hc.size⟩
theorem DiskAt.lt {w : World} {p : Nat} {S : List Nat} {d : DS} (h : DiskAt w p S d) : p < w.heap.size := by
  obtain ⟨gn, gl, cn, cl, v, h⟩ := h
  exact blk_lt h.head
theorem DiskAt.lim {w : World} {p : Nat} {S : List Nat} {d : DS} (h : DiskAt w p S d) : ∀ x ∈ S, x < w.heap.size := by
  obtain ⟨gn, gl, cn, cl, v, h⟩ := h
  exact h.lim
theorem DiskAt.mono {w : World} {p : Nat} {S T : List Nat} {d : DS} (h : DiskAt w p S d) (hS : ∀ x ∈ S, x ∈ T) (hT : ∀ x ∈ T, x < w.heap.size) : DiskAt w p T d := by
  obtain ⟨gn, gl, cn, cl, v, h⟩ := h
  obtain ⟨m1, m2, m3, m4⟩ := h.mem
  exact ⟨gn, gl, cn, cl, v, h.head, h.now, h.lasts, h.since, h.waits, h.few, h.capn, h.capl, h.fuse, h.ap, h.av, ⟨hS _ m1, hS _ m2, hS _ m3, fun k hk => hS _ (m4 k hk)⟩, hT⟩

/-- What doing with a disk leaves. -/
def Did (w w' : World) (p : Nat) (S : List Nat) (d : DS) : Prop := ∃ S', DiskAt w' p S' d ∧ (∀ x ∈ S', x ∈ S ∨ w.heap.size ≤ x) ∧ Chg S w w'
theorem Did.same {w : World} {p : Nat} {S : List Nat} {d : DS} (h : DiskAt w p S d) : Did w w p S d := ⟨S, h, fun x hx => .inl hx, Chg.refl _ _⟩
theorem Did.trans {w w1 w2 : World} {p : Nat} {S : List Nat} {d1 d2 : DS} (h1 : Did w w1 p S d1) (h2 : ∀ S1, DiskAt w1 p S1 d1 → Did w1 w2 p S1 d2) : Did w w2 p S d2 := by
  obtain ⟨S1, a1, a2, a3⟩ := h1
  obtain ⟨S2, b1, b2, b3⟩ := h2 S1 a1
  refine ⟨S2, b1, fun x hx => ?_, a3.trans b3 a2⟩
  rcases b2 x hx with h | h
  · exact a2 x h
  · exact .inr (Nat.le_trans a3.size h)
end Go.Proofs.YtdkhmfcfihbjeaaGreatDoor.W

/- Package disk: New, gone, has, op, Sectors, Dead, Read. -/
namespace Go.Proofs.YtdkhmfcfihbjeaaGreatDoor.W
open Go.RowKit
set_option linter.unusedVariables false
set_option linter.unusedSimpArgs false

set_option maxHeartbeats 2000000 in
set_option maxRecDepth 100000 in
theorem dgone_any (p : Nat) (S : List Nat) (d : DS) (w : World) (h : DiskAt w p S d) : Calls Tryz.prog 118 #[.pointer (some ⟨p, 0, none⟩)] w fun e w' => e = .returned (.bool d.dead) ∧ w = w' := by
  obtain ⟨gn, gl, cn, cl, v, H⟩ := h
  have c5 := blk_cell H.head 5 _ rfl
  have c0 := blk_cell H.head 0 _ rfl
  clear H
  generalize d.dead = dd at *
  generalize d.n = n at *
  have hq : ∀ w, (binOp .eql 91 (.slice (some ⟨gn, 0, none⟩) n cn) (.slice none 0 0)).run Tryz.prog w = .ok (.bool false) w := fun w => Lib.run_eql_slice_nil w 91 103 (some ⟨gn, 0, none⟩) _ _ 0 0 Tryz.underlying91
  cases dd
  all_goals
    go_enter Tryz.func118, Tryz.ntmps118
    go_wp2
    go_ret
    exact ⟨rfl, rfl⟩

set_option maxHeartbeats 2000000 in
set_option maxRecDepth 100000 in
theorem dhas_any (p : Nat) (S : List Nat) (d : DS) (k : Int) (w : World) (h : DiskAt w p S d) : Calls Tryz.prog 119 #[.pointer (some ⟨p, 0, none⟩), .int .i64 k] w fun e w' => e = .returned (.bool (decide (0 ≤ k ∧ k < d.n))) ∧ w = w' := by
  obtain ⟨gn, gl, cn, cl, v, H⟩ := h
  have c0 := blk_cell H.head 0 _ rfl
  clear H
  generalize d.n = n at *
  by_cases h1 : 0 ≤ k
  · have d1 : decide (k ≥ 0) = true := decide_eq_true h1
    go_enter Tryz.func119, Tryz.ntmps119
    go_wp2
    go_ret
    exact ⟨by simp [h1], rfl⟩
  · have d1 : decide (k ≥ 0) = false := decide_eq_false h1
    go_enter Tryz.func119, Tryz.ntmps119
    go_wp2
    go_ret
    exact ⟨by simp [h1], rfl⟩

set_option maxHeartbeats 2000000 in
set_option maxRecDepth 100000 in
theorem dsectors_any (p : Nat) (S : List Nat) (d : DS) (w : World) (h : DiskAt w p S d) : Calls Tryz.prog 78 #[.pointer (some ⟨p, 0, none⟩)] w fun e w' => e = .returned (.int .i64 (d.n : Int)) ∧ w = w' := by
  obtain ⟨gn, gl, cn, cl, v, H⟩ := h
  have c0 := blk_cell H.head 0 _ rfl
  clear H
  generalize d.n = n at *
  go_enter Tryz.func78, Tryz.ntmps78
  go_wp2
  go_ret
  exact ⟨rfl, rfl⟩

set_option maxHeartbeats 2000000 in
set_option maxRecDepth 100000 in
theorem ddead_any (p : Nat) (S : List Nat) (d : DS) (w : World) (h : DiskAt w p S d) : Calls Tryz.prog 38 #[.pointer (some ⟨p, 0, none⟩)] w fun e w' => e = .returned (.bool d.dead) ∧ w = w' := by
  obtain ⟨gn, gl, cn, cl, v, H⟩ := h
  have c5 := blk_cell H.head 5 _ rfl
  clear H
  generalize d.dead = dd at *
  go_enter Tryz.func38, Tryz.ntmps38
  go_wp2
  go_ret
  exact ⟨rfl, rfl⟩

/-- A store into a counter of the disk. -/
theorem DiskOk.put {w w' : World} {p : Nat} {S : List Nat} {d d' : DS} {gn gl cn cl : Nat} {v : Value} (h : DiskOk w p S d gn gl cn cl v) (hc : Chg [p] w w')
    (hh : w'.heap[p]? = some (.cells #[.slice (some ⟨gn, 0, none⟩) d'.n cn, .slice (some ⟨gl, 0, none⟩) d'.n cl, v, .int .i64 d'.fuse, .int .i64 (d'.ops : Int), .bool d'.dead] 94 (0, 0)))
    (e1 : d'.n = d.n) (e2 : d'.now = d.now) (e3 : d'.lasts = d.lasts) (e4 : d'.since = d.since) (e5 : -1 ≤ d'.fuse ∧ d'.fuse ≤ 9223372036854775807) : Did w w' p S d' := by
  have ap := h.ap
  refine ⟨S, ⟨gn, gl, cn, cl, v, hh, ?_, ?_, ?_, ?_, ?_, ?_, ?_, e5, h.ap, h.av, h.mem, fun x hx => Nat.lt_of_lt_of_le (h.lim x hx) hc.size⟩, fun x hx => .inl hx, hc.mono (fun x hx => .inl (by simp at hx; rw [hx]; exact h.mem.1))⟩
  · rw [e1, e2]; exact h.now.keep (hc.block _ h.now.lt (by simp; exact fun e => ap.1 e.symm))
  · rw [e1, e3]; exact h.lasts.keep (hc.block _ h.lasts.lt (by simp; exact fun e => ap.2.1 e.symm))
  · rw [e4]; exact row_keep h.since (fun g hg => hc.block g (World.ownsRow.lt h.since g hg).2 (by simp; exact (h.av g hg).1))
  · rw [e4, e1]; exact h.waits
  · rw [e1]; exact h.few
  · rw [e1]; exact h.capn
  · rw [e1]; exact h.capl

set_option maxHeartbeats 2000000 in
set_option maxRecDepth 100000 in
theorem dop_any (p : Nat) (S : List Nat) (d : DS) (w : World) (h : DiskAt w p S d) (ho : d.ops ≤ 1000000000) :
    Calls Tryz.prog 120 #[.pointer (some ⟨p, 0, none⟩)] w fun e w' => e = .returned (.bool d.op.1) ∧ Did w w' p S d.op.2 := by
  obtain ⟨gn, gl, cn, cl, v, H⟩ := h
  have HH := Lib.hid H
  have c3 := blk_cell H.head 3 _ rfl
  have c4 := blk_cell H.head 4 _ rfl
  have c5 := blk_cell H.head 5 _ rfl
  have f3 := blk_frozen H.head 3
  have f4 := blk_frozen H.head 4
  have f5 := blk_frozen H.head 5
  have hb := H.fuse
  have hlt := blk_lt H.head
  clear H
  by_cases h0 : d.fuse = 0
  · have ho : Hid (d.op = (false, { d with dead := true })) := Lib.hid (by unfold DS.op; rw [if_pos h0])
    have HF : Hid (Did w (w.setCell ⟨p, 5, none⟩ (.bool true)) p S { d with dead := true }) := Lib.hid (HH.out.put ((Chg.refl _ _).setCell (.inl (by simp)) _) (set_blk HH.out.head) rfl rfl rfl rfl HH.out.fuse)
    rw [ho.out]
    rw [h0] at c3
    clear h0 hb
    go_enter Tryz.func120, Tryz.ntmps120
    go_wp2
    go_ret
    exact ⟨rfl, HF.out⟩
  · have he : (d.fuse == 0) = false := by simp [h0]
    by_cases hp : 0 < d.fuse
    · have ho2 : Hid (d.op = (true, { d with fuse := d.fuse - 1, ops := d.ops + 1 })) := Lib.hid (by unfold DS.op; rw [if_neg h0, if_pos hp])
      have HF : Hid (Did w ((w.setCell ⟨p, 3, none⟩ (.int .i64 (d.fuse - 1))).setCell ⟨p, 4, none⟩ (.int .i64 ((d.ops : Int) + 1))) p S { d with fuse := d.fuse - 1, ops := d.ops + 1 }) :=
        Lib.hid (HH.out.put (((Chg.refl _ _).setCell (.inl (by simp)) _).setCell (.inl (by simp)) _) (set_blk (set_blk HH.out.head)) rfl rfl rfl rfl (by show -1 ≤ d.fuse - 1 ∧ d.fuse - 1 ≤ 9223372036854775807; omega))
      have d1 : decide (d.fuse > 0) = true := decide_eq_true hp
      have w1 : IntKind.i64.wrap (d.fuse - 1) = d.fuse - 1 := by rw [IntKind.wrap_i64]; omega
      have w2 : IntKind.i64.wrap ((d.ops : Int) + 1) = (d.ops : Int) + 1 := by rw [IntKind.wrap_i64]; omega
      rw [ho2.out]
      clear ho2
      generalize d.fuse = fu at *
      generalize d.ops = op at *
      go_enter Tryz.func120, Tryz.ntmps120
      go_wp2
      go_ret
      exact ⟨rfl, HF.out⟩
    · have ho2 : Hid (d.op = (true, { d with fuse := d.fuse, ops := d.ops + 1 })) := Lib.hid (by unfold DS.op; rw [if_neg h0, if_neg hp])
      have HF : Hid (Did w (w.setCell ⟨p, 4, none⟩ (.int .i64 ((d.ops : Int) + 1))) p S { d with fuse := d.fuse, ops := d.ops + 1 }) :=
        Lib.hid (HH.out.put ((Chg.refl _ _).setCell (.inl (by simp)) _) (set_blk HH.out.head) rfl rfl rfl rfl HH.out.fuse)
      have d1 : decide (d.fuse > 0) = false := decide_eq_false hp
      have w2 : IntKind.i64.wrap ((d.ops : Int) + 1) = (d.ops : Int) + 1 := by rw [IntKind.wrap_i64]; omega
      rw [ho2.out]
      clear ho2
      generalize d.fuse = fu at *
      generalize d.ops = op at *
      go_enter Tryz.func120, Tryz.ntmps120
      go_wp2
      go_ret
      exact ⟨rfl, HF.out⟩
end Go.Proofs.YtdkhmfcfihbjeaaGreatDoor.W

/- Sectors and writes as values: building them, comparing them. -/
namespace Go.Proofs.YtdkhmfcfihbjeaaGreatDoor.W
open Go.RowKit
set_option linter.unusedVariables false
set_option linter.unusedSimpArgs false

theorem fill_step (place : Nat → Option (Nat × Nat)) (cells : Array Value) (i : Nat) (v : Value) (rest : List (Nat × Value)) (off size : Nat) (hp : place i = some (off, size)) (hs : v.cells.size = size) (hle : off + size ≤ cells.size) :
    ∃ cs' : Array Value, Instr.fill place cells ((i, v) :: rest) = Instr.fill place cs' rest ∧ cs'.size = cells.size ∧ ∀ k, cs'[k]? = if off ≤ k ∧ k < off + size then v.cells[k - off]? else cells[k]? := by
  obtain ⟨g1, g2⟩ := Great.foldl_set off v.cells.toList 0 cells
  refine ⟨(v.cells.toList.zipIdx 0).foldl (fun cs (x : Value × Nat) => cs.setIfInBounds (off + x.2) x.1) cells, ?_, g1, fun k => ?_⟩
  · conv => lhs; unfold Instr.fill
    simp only [hp, hs]
    rw [if_neg (by simp; omega)]
    congr 1
    rw [← Array.foldl_toList, Array.toList_zipIdx]
  · rw [g2 k]
    simp only [Nat.add_zero, Array.length_toList, hs]
    by_cases h : off ≤ k ∧ k < off + size
    · rw [if_pos ⟨h.1, h.2, by omega⟩, if_pos h]; simp
    · rw [if_neg (by omega), if_neg h]

theorem fill_nil (p : Nat → Option (Nat × Nat)) (c : Array Value) : Instr.fill p c [] = some c := rfl
theorem facts_sec : (Tryz.prog.info? 103).map (fun i => (i.zero.map (·.cells.size), i.size, i.bytes)) = some (some 64, 64, 64) := by kernel_rfl
theorem facts_wr : (Tryz.prog.info? 105).map (fun i => (i.zero.map (·.cells.size), i.size, i.bytes)) = some (some 65, 65, 72) := by kernel_rfl
theorem info_three {P : Program} {t : TypeId} {n s b : Nat} (h : (P.info? t).map (fun i => (i.zero.map (·.cells.size), i.size, i.bytes)) = some (some n, s, b)) :
    ∃ i z, P.info? t = some i ∧ i.zero = some z ∧ z.cells.size = n ∧ i.size = s ∧ i.bytes = b := by
  obtain ⟨i, hi, hz⟩ := Option.map_eq_some_iff.1 h
  simp only [Prod.mk.injEq, Option.map_eq_some_iff] at hz
  obtain ⟨⟨z, hz1, hz2⟩, h3, h4⟩ := hz
  exact ⟨i, z, hi, hz1, hz2, h3, h4⟩
def placesOf (P : Program) (t : TypeId) : Option (List (Nat × Nat)) :=
  match P.underlying t with
  | some (.struct fields) => fields.toList.mapM (fun f => (P.info? f.type).map fun i => (f.offset, i.size))
  | _ => none
theorem built_of {P : Program} {t : TypeId} {i : TypeInfo} {z : Value} {pl : List (Nat × Nat)} {parts : List (Nat × Value)} (hi : P.info? t = some i) (hz : i.zero = some z) (hp : placesOf P t = some pl) :
    P.built t parts = Instr.fill (pl.toArray[·]?) z.cells parts := by
  unfold placesOf at hp
  unfold Program.built
  cases hu : P.underlying t with
  | none => rw [hu] at hp; cases hp
  | some d =>
    rw [hu] at hp
    cases d <;> first | (cases hp; done) | skip
    rename_i fields
    simp only at hp
    simp only [hi, hz, hp]
theorem places_sec : placesOf Tryz.prog 103 = some [(0, 64)] := by kernel_rfl
theorem places_wr : placesOf Tryz.prog 105 = some [(0, 1), (1, 64)] := by kernel_rfl

set_option maxRecDepth 100000 in
theorem build_sec (A : Array Value) (hA : A.size = 64) (w : World) : (Instr.build 103 #[(0, .agg A)]).run Tryz.prog w = .ok (.agg A) w := by
  refine run_build w 103 _ _ ?_
  obtain ⟨i, z, hi, hz, h1, h2, h3⟩ := info_three facts_sec
  rw [built_of hi hz places_sec]
  obtain ⟨cs, e1, e2, e3⟩ := fill_step ([(0, 64)].toArray[·]?) z.cells 0 (.agg A) [] 0 64 rfl hA (by omega)
  rw [e1, fill_nil]
  congr 1
  refine Array.ext (by omega) (fun j a b => ?_)
  have := e3 j
  rw [if_pos (by omega), Nat.sub_zero, Array.getElem?_eq_getElem a] at this
  have hb : (Value.agg A).cells[j]? = some A[j] := Array.getElem?_eq_getElem b
  rw [hb] at this
  exact Option.some.inj this
set_option maxRecDepth 100000 in
theorem build_wr (n : Int) (l : List Value) (hl : l.length = 64) (w : World) : (Instr.build 105 #[(0, .int .i64 n), (1, .agg l.toArray)]).run Tryz.prog w = .ok (.agg (.int .i64 n :: l).toArray) w := by
  refine run_build w 105 _ _ ?_
  obtain ⟨i, z, hi, hz, h1, h2, h3⟩ := info_three facts_wr
  rw [built_of hi hz places_wr]
  obtain ⟨cs, e1, e2, e3⟩ := fill_step ([(0, 1), (1, 64)].toArray[·]?) z.cells 0 (.int .i64 n) [(1, .agg l.toArray)] 0 1 rfl rfl (by omega)
  obtain ⟨cs', d1, d2, d3⟩ := fill_step ([(0, 1), (1, 64)].toArray[·]?) cs 1 (.agg l.toArray) [] 1 64 rfl (by simp [Value.cells]; omega) (by omega)
  rw [e1, d1, fill_nil]
  congr 1
  refine Array.ext (by simp; omega) (fun j a b => ?_)
  have := d3 j
  rw [Array.getElem?_eq_getElem a] at this
  cases j with
  | zero =>
    rw [if_neg (by omega), e3 0, if_pos (by omega)] at this
    simp [Value.cells] at this
    simpa using this
  | succ j =>
    have hj : j < 64 := by omega
    rw [if_pos (by omega)] at this
    simp [Value.cells] at this
    have hjl : j < l.length := by omega
    rw [List.getElem?_eq_getElem hjl] at this
    simpa using Option.some.inj this
end Go.Proofs.YtdkhmfcfihbjeaaGreatDoor.W

/- Whether two sectors are the same. -/
namespace Go.Proofs.YtdkhmfcfihbjeaaGreatDoor.W
open Go.RowKit
set_option linter.unusedVariables false
set_option linter.unusedSimpArgs false

def lit8 (x : UInt8) : Lit := .int .u8 (x.toNat : Int)
theorem lit8_inj {a b : UInt8} (h : lit8 a = lit8 b) : a = b := by
  unfold lit8 at h
  injection h with _ h
  exact UInt8.toNat_inj.1 (by omega)
theorem map_lit8_inj : ∀ {l m : List UInt8}, l.map lit8 = m.map lit8 → l = m
  | [], [], _ => rfl
  | [], _ :: _, h => by cases h
  | _ :: _, [], h => by cases h
  | a :: l, b :: m, h => by
    simp only [List.map_cons, List.cons.injEq] at h
    rw [lit8_inj h.1, map_lit8_inj h.2]
theorem keyLits_u8 (x : UInt8) (d : Nat) : Tryz.prog.keyLits (d + 1) 5 [bv x] = some [lit8 x] := by
  have hw : (Lit.int .u8 (x.toNat : Int)).wf = true := by
    have := x.toNat_lt
    have h1 : IntKind.u8.min = 0 := rfl
    have h2 : IntKind.u8.max = 255 := rfl
    simp only [Lit.wf, h1, h2, Bool.and_eq_true, decide_eq_true_eq]
    omega
  unfold Program.keyLits bv lit8
  simp [Tryz.underlying5, hw]
theorem mapM_some {α β : Type} (f : α → Option β) (g : α → β) : ∀ l : List α, (∀ x ∈ l, f x = some (g x)) → l.mapM f = some (l.map g)
  | [], _ => rfl
  | a :: l, h => by
    rw [List.mapM_cons, h a (by simp), mapM_some f g l (fun x hx => h x (by simp [hx]))]
    rfl
theorem cells_u8 : Tryz.prog.cellsOf 5 = 1 := by kernel_rfl
theorem cells_arr : Tryz.prog.cellsOf 101 = 64 := by kernel_rfl
theorem cells_sec : Tryz.prog.cellsOf 103 = 64 := by kernel_rfl
theorem range_flat (l : List UInt8) : ((List.range l.length).map (fun i => [lit8 (l.getD i 0)])).flatten = l.map lit8 := by
  have h : (List.range l.length).map (fun i => [lit8 (l.getD i 0)]) = l.map (fun x => [lit8 x]) := by
    refine List.ext_getElem (by simp) (fun i h1 h2 => ?_)
    simp at h1 h2
    simp [List.getD_eq_getElem?_getD, List.getElem?_eq_getElem h2]
  rw [h]
  clear h
  induction l with
  | nil => rfl
  | cons a l ih => simp [ih]
theorem keyLits_arr (l : List UInt8) (hl : l.length = 64) (d : Nat) : Tryz.prog.keyLits (d + 2) 101 (bvs l) = some (l.map lit8) := by
  unfold Program.keyLits
  simp only [Tryz.underlying101]
  rw [if_pos (by rw [bvs_len, hl, cells_arr]), cells_u8]
  rw [mapM_some _ (fun i => [lit8 (l.getD i 0)]) (List.range 64) (fun i hi => ?_)]
  · have := range_flat l
    rw [hl] at this
    simp only [Option.map_some, this]
  · have hi' : i < l.length := by rw [hl]; exact List.mem_range.1 hi
    have : ((bvs l).drop (i * 1)).take 1 = [bv (l.getD i 0)] := by
      rw [Nat.mul_one]
      have hi2 : i < (bvs l).length := by rw [bvs_len]; exact hi'
      rw [List.drop_eq_getElem_cons hi2]
      simp [bvs, List.getD_eq_getElem?_getD, List.getElem?_eq_getElem hi']
    rw [this]
    exact keyLits_u8 _ _
theorem keyLits_sec (l : List UInt8) (hl : l.length = 64) : Tryz.prog.keyLits 3 103 (bvs l) = some (l.map lit8) := by
  unfold Program.keyLits
  simp only [Tryz.underlying103]
  rw [if_pos ⟨by rw [bvs_len, hl, cells_sec], by decide +kernel⟩]
  simp only [List.mapM_cons, List.mapM_nil, List.drop_zero, cells_arr]
  rw [List.take_of_length_le (by rw [bvs_len, hl]; omega), keyLits_arr l hl]
  simp
theorem neq_sec (l m : List UInt8) (hl : l.length = 64) (hm : m.length = 64) (w : World) :
    (binOp .neq 103 (.agg (bvs l).toArray) (.agg (bvs m).toArray)).run Tryz.prog w = .ok (.bool (!decide (l = m))) w := by
  rw [run_neq_struct]
  obtain ⟨r, h1, h2⟩ := run_equalIn_deep (P := Tryz.prog) 9997 3 103 (by kernel_rfl) w 3 3 (.agg (bvs l).toArray) (.agg (bvs m).toArray) (l.map lit8) (m.map lit8)
    (by simp [Value.formed, Tryz.underlying103, bvs_len, hl, cells_sec]) (by simp [Value.formed, Tryz.underlying103, bvs_len, hm, cells_sec])
    (by simpa [Value.cells] using keyLits_sec l hl) (by simpa [Value.cells] using keyLits_sec m hm)
  have hr : r = decide (l = m) := by
    by_cases e : l = m
    · rw [decide_eq_true e]; exact h2.2 (by rw [e])
    · rw [decide_eq_false e]
      cases r with
      | false => rfl
      | true => exact absurd (map_lit8_inj (h2.1 rfl)) e
  rw [← hr]
  have h3 : (Op.equalIn 10000 103 (.agg (bvs l).toArray) (.agg (bvs m).toArray)).run Tryz.prog w = .ok r w := h1
  rw [h3]
  rfl
end Go.Proofs.YtdkhmfcfihbjeaaGreatDoor.W

/- Package disk: Read. -/
namespace Go.Proofs.YtdkhmfcfihbjeaaGreatDoor.W
open Go.RowKit
set_option linter.unusedVariables false
set_option linter.unusedSimpArgs false

/-- What Read answers. -/
def DReadPost (d : DS) (k : Int) (w : World) (e : Ending) (w' : World) : Prop :=
  (if d.dead = true then e = .returned (.tuple #[.slice none 0 0, .int .i64 14]) else
   if 0 ≤ k ∧ k < d.n then ∃ v, e = .returned (.tuple #[v, .int .i64 0]) ∧ BRow w' v (d.now k.toNat) ∧ ∀ g, v.ownBlock = some g → w.heap.size ≤ g
   else e = .returned (.tuple #[.slice none 0 0, .int .i64 1])) ∧ Chg [] w w'

set_option maxHeartbeats 2000000 in
set_option maxRecDepth 100000 in
theorem dread_any (p : Nat) (S : List Nat) (d : DS) (k : Int) (w : World) (h : DiskAt w p S d) : Calls Tryz.prog 89 #[.pointer (some ⟨p, 0, none⟩), .int .i64 k] w (DReadPost d k w) := by
  have CG := Lib.hid (dgone_any p S d w h)
  have CH := Lib.hid (dhas_any p S d k w h)
  obtain ⟨gn, gl, cn, cl, v, H⟩ := h
  have c0 := blk_cell H.head 0 _ rfl
  have HH := Lib.hid H
  clear H
  by_cases hd : d.dead = true
  · have P1 : ∀ e w', e = Ending.returned (.tuple #[.slice none 0 0, .int .i64 14]) → Chg [] w w' → DReadPost d k w e w' := fun e w' h1 h2 => ⟨by rw [if_pos hd]; exact h1, h2⟩
    have HP := Lib.hid P1
    rw [hd] at CG
    clear hd P1
    go_enter Tryz.func89, Tryz.ntmps89
    go_wp2_with (go_at_call 118; refine CG.out.mono ?_; rintro e w' ⟨rfl, rfl⟩)
    go_ret2
    exact HP.out _ _ rfl (Chg.refl _ _)
  · have hd' : d.dead = false := by simpa using hd
    rw [hd'] at CG
    by_cases hk : 0 ≤ k ∧ k < d.n
    · have P1 : ∀ e w', (∃ v, e = Ending.returned (.tuple #[v, .int .i64 0]) ∧ BRow w' v (d.now k.toNat) ∧ ∀ g, v.ownBlock = some g → w.heap.size ≤ g) → Chg [] w w' → DReadPost d k w e w' := fun e w' h1 h2 => ⟨by rw [if_neg hd, if_pos hk]; exact h1, h2⟩
      have HP := Lib.hid P1
      rw [decide_eq_true hk] at CH
      clear P1 hd hd'
      obtain ⟨j, rfl⟩ : ∃ j : Nat, k = j := ⟨k.toNat, by omega⟩
      have hj : j < d.n := by omega
      have CC := Lib.hid (clone_any _ (d.now j) w (HH.out.now.bytes j hj) (by rw [HH.out.now.len j hj]; omega))
      rw [Int.toNat_natCast] at HP
      obtain ⟨hk1, hk2⟩ := hk
      clear HH
      generalize hnn : d.n = n at *
      clear hnn
      go_enter Tryz.func89, Tryz.ntmps89
      go_wp2_with (first
        | (go_at_call 118; refine CG.out.mono ?_; rintro e w' ⟨rfl, rfl⟩)
        | (go_at_call 119; refine CH.out.mono ?_; rintro e w' ⟨rfl, rfl⟩)
        | (go_at_call 43; refine CC.out.mono ?_; rintro e w1 ⟨v1, rfl, hr, hn, hc⟩; have HR := Lib.hid (And.intro hr (And.intro hn hc)); clear hr hn hc))
      go_ret2
      exact HP.out _ _ ⟨_, rfl, HR.out.1, HR.out.2.1⟩ HR.out.2.2
    · have P1 : ∀ e w', e = Ending.returned (.tuple #[.slice none 0 0, .int .i64 1]) → Chg [] w w' → DReadPost d k w e w' := fun e w' h1 h2 => ⟨by rw [if_neg hd, if_neg hk]; exact h1, h2⟩
      have HP := Lib.hid P1
      rw [decide_eq_false hk] at CH
      clear hk P1 hd hd'
      go_enter Tryz.func89, Tryz.ntmps89
      go_wp2_with (first
        | (go_at_call 118; refine CG.out.mono ?_; rintro e w' ⟨rfl, rfl⟩)
        | (go_at_call 119; refine CH.out.mono ?_; rintro e w' ⟨rfl, rfl⟩))
      go_ret2
      exact HP.out _ _ rfl (Chg.refl _ _)
end Go.Proofs.YtdkhmfcfihbjeaaGreatDoor.W

/- What Write does to the disk, by steps: the write that waits; the sector. -/
namespace Go.Proofs.YtdkhmfcfihbjeaaGreatDoor.W
open Go.RowKit
set_option linter.unusedVariables false
set_option linter.unusedSimpArgs false

section
variable {P : Program} {ops : Array Oper} {Q : Exit → Act → World → Prop}
theorem wpList_buildTo {rest : List Oper} {o : Oper} {a : Act} {w : World} (hg : o.guard = none) (t : TypeId) (parts : Array (Nat × Operand)) (ho : o.op = .build t parts) (v : Value)
    (hrun : (Instr.build t (parts.map fun (i, x) => (i, a.eval x))).run P w = .ok v w) (h : wpList P ops Q rest (a.put o.dst v) w) : wpList P ops Q (o :: rest) a w :=
  wpList_plain hg fun _ hK => by
    unfold Oper.wp execOp
    simp only [ho, Sem.run_bind, hrun, Result.andThen_ok]
    exact hK _ _ h
theorem wpList_build1 {rest : List Oper} {o : Oper} {a : Act} {w : World} (hg : o.guard = none) (t : TypeId) (i : Nat) (x : Operand) (ho : o.op = .build t #[(i, x)]) (u v : Value) (hx : a.eval x = u)
    (hrun : (Instr.build t #[(i, u)]).run P w = .ok v w) (h : wpList P ops Q rest (a.put o.dst v) w) : wpList P ops Q (o :: rest) a w :=
  wpList_buildTo hg t _ ho v (by rw [← hx] at hrun; simpa using hrun) h
theorem wpList_build2 {rest : List Oper} {o : Oper} {a : Act} {w : World} (hg : o.guard = none) (t : TypeId) (i j : Nat) (x y : Operand) (ho : o.op = .build t #[(i, x), (j, y)]) (u u' v : Value) (hx : a.eval x = u) (hy : a.eval y = u')
    (hrun : (Instr.build t #[(i, u), (j, u')]).run P w = .ok v w) (h : wpList P ops Q rest (a.put o.dst v) w) : wpList P ops Q (o :: rest) a w :=
  wpList_buildTo hg t _ ho v (by rw [← hx, ← hy] at hrun; simpa using hrun) h
/-- 'var x T = v': a new variable, its value stored. -/
theorem wpList_var {rest : List Oper} {o1 o2 : Oper} {a : Act} {w : World} (g1 : o1.guard = none) (g2 : o2.guard = none) (t : TypeId) (x y : Operand) (h1 : o1.op = .alloc t) (h2 : o2.op = .store t x y) (N : Nat) (hN : w.heap.size = N) (c : Array Value)
    (hx : (a.put o1.dst (.pointer (some ⟨N, 0, none⟩))).eval x = .pointer (some ⟨N, 0, none⟩)) (hy : (a.put o1.dst (.pointer (some ⟨N, 0, none⟩))).eval y = .agg c)
    (i : TypeInfo) (z : Value) (hi : P.info? t = some i) (hz : i.zero = some z) (hzs : z.cells.size = c.size) (his : i.size = c.size) (hone : c.all (·.oneCell') = true)
    (h : wpList P ops Q rest ((a.put o1.dst (.pointer (some ⟨N, 0, none⟩))).put o2.dst undef) (w.alloc (.cells c t))) : wpList P ops Q (o1 :: o2 :: rest) a w := by
  subst hN
  refine wpList_plain g1 fun K hK => ?_
  have hst := run_storeAt_new (P := P) w t z.cells c (by rw [hi, Option.map_some, his]) hzs hone
  have h3 : wpList P ops Q (o2 :: rest) (a.put o1.dst (.pointer (some ⟨w.heap.size, 0, none⟩))) (w.alloc (.cells z.cells t)) := wpList_plain g2 fun K2 hK2 => by
    unfold Oper.wp execOp
    simp only [h2, hx, hy, Sem.run_bind, hst, Result.andThen_ok]
    exact hK2 _ _ h
  unfold Oper.wp execOp
  simp only [h1, Instr.alloc, zeroValue, typeInfo, run_program, hi, hz, newVar, newRow, run_newObj_alloc, Sem.run_pure, Sem.run_bind, Result.andThen_ok]
  exact hK _ _ h3
/-- A slice literal of one element that is an aggregate. -/
theorem wp_slice1 {o : Oper} {a : Act} {w : World} {K : Act → World → Prop} (t e : TypeId) (x : Operand) (ho : o.op = .buildSlice t 1 #[(0, x)]) (c : Array Value) (hx : a.eval x = .agg c)
    (i : TypeInfo) (z : Value) (hu : P.underlying t = some (.slice e)) (hi : P.info? e = some i) (hz : i.zero = some z) (his : i.size = c.size) (hpos : 0 < c.size) (hsm : c.size ≤ 1000)
    (h : K (a.put o.dst (.slice (some ⟨w.heap.size, 0, none⟩) 1 1)) (w.alloc (.cells c e))) : Oper.wp P o a w K Q := by
  refine wp_buildSlice t e 1 #[(0, x)] ho c i z hu hi hz (by omega) (by omega) ?_ h
  obtain ⟨cs, e1, e2, e3⟩ := fill_step (fun k => some (k * i.size, i.size)) ((Array.range (1 * i.size)).map (z.cells[· % z.cells.size]!)) 0 (.agg c) [] 0 i.size (by simp) his.symm (by simp)
  have hp : ((#[(0, x)] : Array (Nat × Operand)).map fun (k, y) => (k, a.eval y)).toList = [(0, .agg c)] := by simp [hx]
  rw [hp, e1, fill_nil]
  congr 1
  refine Array.ext (by rw [e2]; simp [his]) (fun j a1 b1 => ?_)
  have := e3 j
  rw [if_pos (by rw [his]; omega), Nat.sub_zero, Array.getElem?_eq_getElem a1] at this
  have hb : (Value.agg c).cells[j]? = some c[j] := Array.getElem?_eq_getElem b1
  rw [hb] at this
  exact Option.some.inj this
end

theorem wcells_len (x : Nat × List UInt8) (h : x.2.length = 64) : (wcells x).length = 65 := by simp [wcells, bvs_len, h]
theorem wcells_one (x : Nat × List UInt8) : ∀ u ∈ wcells x, u.oneCell' = true := by
  intro u hu
  unfold wcells at hu
  rcases List.mem_cons.1 hu with rfl | hu
  · rfl
  · exact bvs_one _ u hu

/-- A write more waits. -/
theorem DiskOk.more {w w2 : World} {p : Nat} {S : List Nat} {d : DS} {gn gl cn cl : Nat} {v v' : Value} {x : Nat × List UInt8} (h : DiskOk w p S d gn gl cn cl v) (hg : w.grownBy w2 v.ownBlock)
    (hrow : w2.ownsRow 0 105 65 v' (d.since.length + 1) (wsCells d.since ++ wcells x)) (hat : ∀ k, v'.ownBlock = some k → v.ownBlock = some k ∨ w.heap.size ≤ k) (hx : x.1 < d.n ∧ x.2.length = 64) :
    Did w (w2.setCell ⟨p, 2, none⟩ v') p S { d with since := d.since ++ [x] } := by
  obtain ⟨m1, m2, m3, m4⟩ := h.mem
  have hc0 : Chg v.ownBlock.toList w w2 := (Chg.refl _ w).grown hg (fun k hk => .inl (by rw [hk]; simp))
  have hpv : p ∉ v.ownBlock.toList := fun hm => (h.av p (by simpa using hm)).1 rfl
  have hp2 : w2.heap[p]? = _ := hc0.keep h.head hpv
  have hl := blk_lt h.head
  have hne : ∀ k, v'.ownBlock = some k → k ≠ p ∧ k ≠ gn ∧ k ≠ gl := by
    intro k hk
    rcases hat k hk with h1 | h1
    · exact h.av k h1
    · have := h.lim _ m1; have := h.lim _ m2; have := h.lim _ m3
      omega
  have hc1 : Chg (p :: v.ownBlock.toList) w (w2.setCell ⟨p, 2, none⟩ v') := (hc0.mono (fun x hx => .inl (List.mem_cons_of_mem _ hx))).setCell (.inl (by simp)) _
  have out : ∀ k, k ∈ S → k ≠ p → v.ownBlock ≠ some k → (w2.setCell ⟨p, 2, none⟩ v').heap[k]? = w.heap[k]? := fun k hk h1 h2 => hc1.block k (h.lim k hk) (by
    intro hm
    rcases List.mem_cons.1 hm with e | e
    · exact h1 e
    · exact h2 (by simpa using e))
  refine ⟨S ++ v'.ownBlock.toList, ⟨gn, gl, cn, cl, v', set_blk hp2, ?_, ?_, ?_, ?_, h.few, h.capn, h.capl, h.fuse, h.ap, hne, ⟨?_, ?_, ?_, fun k hk => ?_⟩, fun k hk => ?_⟩, fun k hk => ?_, hc1.mono (fun k hk => .inl ?_)⟩
  · exact h.now.keep (out gn m2 h.ap.1.symm (fun e => (h.av gn e).2.1 rfl))
  · exact h.lasts.keep (out gl m3 h.ap.2.1.symm (fun e => (h.av gl e).2.2 rfl))
  · have hr := row_keep hrow (w' := w2.setCell ⟨p, 2, none⟩ v') (fun k hk => Below.heap_setCell w2 _ _ k (hne k hk).1)
    rw [wsCells_app, List.length_append]
    exact hr
  · intro y hy
    rcases List.mem_append.1 hy with hy | hy
    · exact h.waits y hy
    · simp at hy; subst hy; exact hx
  · exact List.mem_append_left _ m1
  · exact List.mem_append_left _ m2
  · exact List.mem_append_left _ m3
  · exact List.mem_append_right _ (by rw [hk]; simp)
  · rcases List.mem_append.1 hk with hk | hk
    · exact Nat.lt_of_lt_of_le (h.lim k hk) hc1.size
    · have := (World.ownsRow.lt hrow k (by simpa using hk)).2
      simpa [World.setCell] using this
  · rcases List.mem_append.1 hk with hk | hk
    · exact .inl hk
    · rcases hat k (by simpa using hk) with h1 | h1
      · exact .inl (m4 k h1)
      · exact .inr h1
  · rcases List.mem_cons.1 hk with rfl | hk
    · exact m1
    · exact m4 k (by simpa using hk)

theorem DiskOk.drew {w : World} {p : Nat} {S : List Nat} {d : DS} {gn gl cn cl : Nat} {v : Value} (h : DiskOk w p S d gn gl cn cl v) : DiskOk w.drew p S d gn gl cn cl v :=
  ⟨h.head, h.now.keep rfl, h.lasts.keep rfl, row_keep h.since (fun _ _ => rfl), h.waits, h.few, h.capn, h.capl, h.fuse, h.ap, h.av, h.mem, h.lim⟩
theorem Did.pre {w0 w w' : World} {p : Nat} {S : List Nat} {d : DS} (hc : Chg [] w0 w) (h : Did w w' p S d) : Did w0 w' p S d := by
  obtain ⟨S', h1, h2, h3⟩ := h
  exact ⟨S', h1, fun x hx => (h2 x hx).imp id (fun h => Nat.le_trans hc.size h), (hc.mono (by simp)).trans h3 (fun x hx => .inl hx)⟩
theorem Did.glue {w w1 w2 : World} {p : Nat} {S S1 : List Nat} {d : DS} (hs : ∀ x ∈ S1, x ∈ S ∨ w.heap.size ≤ x) (hc : Chg S w w1) (h : Did w1 w2 p S1 d) : Did w w2 p S d := by
  obtain ⟨S2, b1, b2, b3⟩ := h
  refine ⟨S2, b1, fun x hx => ?_, hc.trans b3 hs⟩
  rcases b2 x hx with h | h
  · exact hs x h
  · exact .inr (Nat.le_trans hc.size h)
theorem upd_same (f : Nat → List UInt8) (k : Nat) (s : List UInt8) (h : f k = s) : upd f k s = f := by
  funext j
  unfold upd
  split
  · subst_vars; rfl
  · rfl
theorem range_tail {w : World} {N o : Nat} {v : Value} {l : List Value} (h : w.rangeAt N o (v :: l)) : w.rangeAt N (o + 1) l := fun j u hj => by
  have := h (j + 1) u (by simpa using hj)
  rw [← this]
  congr 2
  omega
theorem range_keep {w w' : World} {N o : Nat} {l : List Value} (h : w.rangeAt N o l) (hb : w'.heap[N]? = w.heap[N]?) : w'.rangeAt N o l := fun j u hj => (World.cell?_of_block (w := w) (a := ⟨N, o + j, none⟩) hb).trans (h j u hj)
/-- 'd.since = append(d.since, w)', the write just laid into a new block. -/
theorem wp_app_wr {o : Oper} {a : Act} {K : Act → World → Prop} {Q : Exit → Act → World → Prop} (s y : Operand) (ho : o.op = .call { callee := .builtin .append, args := #[s, y], argTypes := #[92, 92] })
    {w : World} {p : Nat} {S : List Nat} {d : DS} {gn gl cn cl : Nat} {v : Value} (h : DiskOk w p S d gn gl cn cl v) (x : Nat × List UInt8) (hx : x.1 < d.n ∧ x.2.length = 64) (hl : d.since.length ≤ 1000000)
    (hs : a.eval s = v) (hy : a.eval y = .slice (some ⟨w.heap.size, 0, none⟩) 1 1)
    (hk : ∀ g cap w2, w2.cell? ⟨p, 2, none⟩ = some v → w2.frozen? ⟨p, 2, none⟩ = false → p < w2.heap.size → Hid (Did w (w2.setCell ⟨p, 2, none⟩ (.slice (some ⟨g, 0, none⟩) (d.since.length + 1) cap)) p S { d with since := d.since ++ [x] }) → K (a.put o.dst (.slice (some ⟨g, 0, none⟩) (d.since.length + 1) cap)) w2) :
    Oper.wp Tryz.prog o a (w.alloc (.cells (wcells x).toArray 105)) K Q := by
  obtain ⟨i, z, hi, hz, h1, h2, h3⟩ := info_three facts_wr
  have hlen := wcells_len x hx.2
  refine wp_append_lies _ s y 92 ho 0 105 i z 65 72 Tryz.underlying92 hi hz h2 h3 h1 (by omega) v d.since.length (wsCells d.since) hs (h.since.alloc _) ⟨w.heap.size, 0, none⟩ 1 1 (wcells x) hy (by rw [hlen])
    (fun j u hj => by rw [add_none, Nat.zero_add]; exact blk_cell (heap_alloc_new w _) j u (by simpa using hj)) (wcells_one _) (by omega) (by unfold maxLen; omega) (by omega) (Nat.zero_le _) _ rfl ?_
  intro g cap w2 hrow hg hat hlt
  have hg' : w.grownBy w2 v.ownBlock := grownBy_trans (World.grownBy_alloc w _ _) hg
  have hpb : w2.heap[p]? = w.heap[p]? := hg'.block p (blk_lt h.head) (fun e => (h.av p e.symm).1 rfl)
  have hp2 := hpb.trans h.head
  refine hk g cap w2 (blk_cell hp2 2 _ rfl) (blk_frozen hp2 2) (blk_lt hp2) (Lib.hid (h.more hg' hrow (fun k hk => ?_) hx))
  rcases hat with h4 | h4
  · simp [Value.ownBlock] at hk; subst hk; exact .inl h4
  · simp [Value.ownBlock] at hk; subst hk; right; rw [h4]; simp
/-- A sector is written. -/
theorem DiskOk.put_now {w : World} {p : Nat} {S : List Nat} {d : DS} {gn gl cn cl : Nat} {v : Value} (h : DiskOk w p S d gn gl cn cl v) (k : Nat) (s : List UInt8) (hk : k < d.n) (hs : s.length = 64) :
    Did w (w.setCells gn (k * 64) (bvs s)) p S { d with now := upd d.now k s } := by
  obtain ⟨m1, m2, m3, m4⟩ := h.mem
  have hc : Chg [gn] w (w.setCells gn (k * 64) (bvs s)) := (Chg.refl _ w).setCells (.inl (by simp)) _
  refine ⟨S, ⟨gn, gl, cn, cl, v, hc.keep h.head (by simp; exact h.ap.1), h.now.set k s hk hs, h.lasts.keep (setCells_far _ _ _ _ (fun e => h.ap.2.2 e.symm)), row_keep h.since (fun g hg => setCells_far _ _ _ _ (h.av g hg).2.1),
    h.waits, h.few, h.capn, h.capl, h.fuse, h.ap, h.av, h.mem, fun x hx => Nat.lt_of_lt_of_le (h.lim x hx) hc.size⟩, fun x hx => .inl hx, hc.mono (fun x hx => .inl (by simp at hx; rw [hx]; exact m2))⟩
end Go.Proofs.YtdkhmfcfihbjeaaGreatDoor.W

/- Loops over functions: what is walked plainly serves in a round too. -/
namespace Go.Proofs.YtdkhmfcfihbjeaaGreatDoor.W
open Go.RowKit
set_option linter.unusedVariables false
set_option linter.unusedSimpArgs false

/-- The wide fence, or a round in it. -/
def Wide (F : Fence) : Prop := F = Fence.wide ∨ ∃ l, F = Fence.wide.inRound l
theorem wide_w : Wide Fence.wide := .inl rfl
theorem wide_r (l : Nat) : Wide (Fence.wide.inRound l) := .inr ⟨l, rfl⟩
theorem Wide.calls {F : Fence} (hF : Wide F) {n : Nat} {P : Program} {f : FuncId} {args : Array Value} {w : World} {R : Ending → World → Prop} (h : Calls P f args w R) : CallsIn F n P f args w R := by
  rcases hF with rfl | ⟨l, rfl⟩
  · exact callsIn_wide.2 h
  · exact CallsIn.inRound l (callsIn_wide.2 h)
theorem Wide.rows {F : Fence} (hF : Wide F) {n : Nat} {P : Program} {row : String} {args : Array Value} {w : World} {R : Value → World → Prop} (h : Rows P row args w R) : RowsIn F n P row args w R := by
  have h1 : RowsIn Fence.wide n P row args w R := fun c cs _ => by
    obtain ⟨v, w', r, s⟩ := h c cs
    exact ⟨v, w', r, stepsIn_wide.2 s⟩
  rcases hF with rfl | ⟨l, rfl⟩
  · exact h1
  · exact h1
theorem Wide.fn {F : Fence} (hF : Wide F) (f : FuncId) : F.fn f := by rcases hF with rfl | ⟨l, rfl⟩ <;> trivial
theorem Wide.depth {F : Fence} (hF : Wide F) : F.depth = none := by rcases hF with rfl | ⟨l, rfl⟩ <;> rfl

section
variable {F : Fence} {n : Nat} {P : Program} {ops : Array Oper} {Q : Exit → Act → World → Prop} {a : Act} {w : World}
theorem wpIn_of_op {o : Oper} {K : Act → World → Prop} (hF : Wide F) (hnd : ∀ c, o.op ≠ .defer c) (h : o.wp P a w K Q) : o.wpIn F n P a w K Q := by
  unfold Oper.wpIn
  refine ⟨fun f _ => hF.fn f, ?_⟩
  rw [Oper.semAt_eq _ _ _ hnd]
  unfold Oper.wp at h
  revert h
  generalize hr : (execOp a.eval o).run P w = r
  intro h
  cases r with
  | ok x w' =>
    cases x <;> simp only [Oper.upon, Oper.uponIn] at h ⊢
    case value => exact h
    case skip => exact h
    case defer => exact h
    case enter f args =>
      refine ⟨fun hd => (by rw [hF.depth] at hd; cases hd), hF.calls (Calls.mono h (fun e w'' he => ?_))⟩
      cases e <;> exact he
    case row row args => exact ⟨fun hd => (by rw [hF.depth] at hd; cases hd), hF.rows h⟩
  | halt x w' => cases x <;> simp only [Oper.upon, Oper.uponIn] at h ⊢ <;> exact h
/-- An operation of a plain region in a fence, by a law of the plain walk. -/
theorem wpListIn_op {o : Oper} {rest : List Oper} (hgd : o.guard = none) (hF : Wide F) (hnd : ∀ c, o.op ≠ .defer c) (v : Value) (w' : World) (hrun : (execOp a.eval o).run P w = .ok (.value v) w') (h : wpListIn F n P ops Q rest (a.put o.dst v) w') : wpListIn F n P ops Q (o :: rest) a w := by
  unfold wpListIn
  rw [if_pos (by simp [Region.wanted, hgd])]
  refine wpIn_of_op hF hnd ?_
  unfold Oper.wp
  rw [hrun]
  exact h
theorem wpListIn_skip {o : Oper} {rest : List Oper} (hgd : o.guard = none) (hF : Wide F) (hnd : ∀ c, o.op ≠ .defer c) (w' : World) (hrun : (execOp a.eval o).run P w = .ok .skip w') (h : wpListIn F n P ops Q rest (a.put o.dst undef) w') : wpListIn F n P ops Q (o :: rest) a w := by
  unfold wpListIn
  rw [if_pos (by simp [Region.wanted, hgd])]
  refine wpIn_of_op hF hnd ?_
  unfold Oper.wp
  rw [hrun]
  exact h
theorem wpListIn_load_midW {rest : List Oper} {op : Oper} (hF : Wide F) (hgd : op.guard = none) (ty : TypeId) (x : Operand) (ho : op.op = .load ty x)
    (b o : Nat) (hx : a.eval x = .pointer (some ⟨b, o, none⟩)) (cs : List Value) (d : TypeDesc) (hc : w.rangeAt b o cs) (hu : P.underlying ty = some d) (hd : d.isRow = true) (hi : (P.info? ty).map (·.size) = some cs.length)
    (h : wpListIn F n P ops Q rest (a.put op.dst (.agg cs.toArray)) w) : wpListIn F n P ops Q (op :: rest) a w := by
  refine wpListIn_op hgd hF (fun c e => by rw [ho] at e; cases e) _ w ?_ h
  unfold execOp
  simp only [ho, hx, Instr.loadAt, Instr.sureAddr, Sem.run_bind, Sem.run_pure, Result.andThen_ok, run_loadVar_mid w b o ty cs d hc hu hd hi]
/-- 'var x T = v' in a fence. -/
theorem wpListIn_varW {rest : List Oper} {o1 o2 : Oper} (hF : Wide F) (g1 : o1.guard = none) (g2 : o2.guard = none) (t : TypeId) (x y : Operand) (h1 : o1.op = .alloc t) (h2 : o2.op = .store t x y) (N : Nat) (hN : w.heap.size = N) (c : Array Value)
    (hx : (a.put o1.dst (.pointer (some ⟨N, 0, none⟩))).eval x = .pointer (some ⟨N, 0, none⟩)) (hy : (a.put o1.dst (.pointer (some ⟨N, 0, none⟩))).eval y = .agg c)
    (i : TypeInfo) (z : Value) (hi : P.info? t = some i) (hz : i.zero = some z) (hzs : z.cells.size = c.size) (his : i.size = c.size) (hone : c.all (·.oneCell') = true)
    (h : wpListIn F n P ops Q rest ((a.put o1.dst (.pointer (some ⟨N, 0, none⟩))).put o2.dst undef) (w.alloc (.cells c t))) : wpListIn F n P ops Q (o1 :: o2 :: rest) a w := by
  subst hN
  refine wpListIn_op g1 hF (fun c e => by rw [h1] at e; cases e) (.pointer (some ⟨w.heap.size, 0, none⟩)) (w.alloc (.cells z.cells t)) ?_ ?_
  · unfold execOp
    simp only [h1, Instr.alloc, zeroValue, typeInfo, run_program, hi, hz, newVar, newRow, run_newObj_alloc, Sem.run_pure, Sem.run_bind, Result.andThen_ok]
  · have hst := run_storeAt_new (P := P) w t z.cells c (by rw [hi, Option.map_some, his]) hzs hone
    refine wpListIn_skip g2 hF (fun c e => by rw [h2] at e; cases e) (w.alloc (.cells c t)) ?_ h
    unfold execOp
    simp only [h2, hx, hy, Sem.run_bind, hst, Result.andThen_ok]
    rfl
theorem wpOpIn_of {i : Nat} {K : Act → World → Prop} (hF : Wide F) (hlet : ¬ LetsOut Q) (hnd : ∀ (o : Oper), ops[i]? = some o → ∀ c, o.op ≠ .defer c) (h : wpOp P ops Q i K a w) : wpOpIn F n P ops Q i K a w := by
  unfold wpOp at h
  unfold wpOpIn
  cases ho : ops[i]? with
  | none => rw [ho] at h; exact h
  | some o =>
    simp only [ho] at h ⊢
    by_cases hw : Region.wanted o (yielded ops a.tmps) = true
    · simp only [hw, if_true] at h ⊢
      rcases h with h | h
      · exact wpIn_of_op hF (hnd o ho) h
      · exact absurd h.2 hlet
    · simp only [hw] at h ⊢
      exact ⟨fun f _ => hF.fn f, h⟩
theorem wpAnyIn_of {md : Region.Mode} (hF : Wide F) (hlet : ¬ LetsOut Q) (hnd : ∀ (i : Nat) (o : Oper), ops[i]? = some o → ∀ c, o.op ≠ .defer c) :
    ∀ (k : Nat) (L : Array Bool) (a : Act) (w : World), wpAny P md ops Q k L a w → wpAnyIn F n P md ops Q k L a w
  | 0, _, _, _, h => h
  | k + 1, _, _, _, h => ⟨h.1, fun i hi => wpOpIn_of hF hlet (hnd i) (wpOp_mono (fun a' w' h' => wpAnyIn_of hF hlet hnd k _ a' w' h') (h.2 i hi))⟩
def noDefer (ops : Array Oper) : Bool := ops.all fun o => match o.op with
  | .defer _ => false
  | _ => true
theorem noDefer_spec (h : noDefer ops = true) (i : Nat) (o : Oper) (ho : ops[i]? = some o) (c : Call) : o.op ≠ .defer c := fun e => by
  have := Array.all_eq_true_iff_forall_mem.1 h o (Array.mem_of_getElem? ho)
  rw [e] at this
  cases this
/-- A region that draws its order, in a fence. -/
theorem wpIn_region_L {id : Nat} (hF : Wide F) (hlet : ¬ LetsOut Q) (hnd : noDefer ops = true) (cs : List (Nat × (World → Prop))) (hm : P.follows .mixedOrders = true) (hS : HoldC cs (Array.replicate ops.size false) w.drew)
    (h : HoldC cs (Array.replicate ops.size false) w.drew → wpAnyL P .any ops Q cs ops.size (Array.replicate ops.size false) a w.drew) : (Code.region id ops true).wpIn F n P Q a w :=
  wpIn_region_any hm (wpAnyIn_of hF hlet (noDefer_spec hnd) _ _ _ _ (wpAny_of_L _ _ _ _ (h hS)))
end
end Go.Proofs.YtdkhmfcfihbjeaaGreatDoor.W
