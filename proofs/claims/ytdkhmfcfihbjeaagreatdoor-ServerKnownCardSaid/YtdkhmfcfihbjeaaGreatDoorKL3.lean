/- Texts laid together. -/
import Derived.Test.YtdkhmfcfihbjeaaGreatDoorKL2
import Derived.Test.YtdkhmfcfihbjeaaGreatDoorKL1
import Derived.Laws.IdiomStrings
import Derived.Laws.BytesArg
import Derived.Laws.CopyOwn
import Derived.Laws.MakeOwn
/- Package disk: Image. -/
namespace Go.Proofs.YtdkhmfcfihbjeaaGreatDoor.W
open Go.RowKit
set_option linter.unusedVariables false
set_option linter.unusedSimpArgs false

/-- The first k sectors in a row. -/
def flat (k : Nat) (f : Nat → List UInt8) : List UInt8 := (List.range k).flatMap f
theorem flat_succ (k : Nat) (f : Nat → List UInt8) : flat (k + 1) f = flat k f ++ f k := by simp [flat, List.range_succ]
theorem flat_len (k : Nat) (f : Nat → List UInt8) (h : ∀ i, i < k → (f i).length = 64) : (flat k f).length = k * 64 := by
  induction k with
  | zero => rfl
  | succ k ih => rw [flat_succ, List.length_append, ih (fun i hi => h i (by omega)), h k (by omega)]; omega

end Go.Proofs.YtdkhmfcfihbjeaaGreatDoor.W

/- Slots, plainly. -/
namespace Go.Proofs.YtdkhmfcfihbjeaaGreatDoor.W
set_option linter.unusedVariables false
set_option linter.unusedSimpArgs false

/-- How many sectors so many bytes need. -/
def nsec (n : Nat) : Nat := (n + 63) / 64
/-- The sector k of bytes that are laid: noughts behind the end. -/
def secAt (b : List UInt8) (k : Nat) : List UInt8 := (b.drop (k * 64)).take 64 ++ zeros (64 - ((b.drop (k * 64)).take 64).length)
theorem secAt_len (b : List UInt8) (k : Nat) : (secAt b k).length = 64 := by
  unfold secAt zeros
  rw [List.length_append, List.length_replicate, List.length_take]
  omega
/-- Laying the sectors j .. m-1 of b from sector 'at' on, then a sync. -/
def DS.lay (d : DS) (pos : Nat) (b : List UInt8) : Nat → Nat → Int × DS
  | 0, _ => d.sync
  | k + 1, j => if (d.write (pos + j : Nat) (secAt b j)).1 ≠ 0 then d.write (pos + j : Nat) (secAt b j) else (d.write (pos + j : Nat) (secAt b j)).2.lay pos b k (j + 1)
def DS.lays (d : DS) (pos : Nat) (b : List UInt8) : Int × DS := d.lay pos b (nsec b.length) 0

structure SS where
  d : DS
  first : Nat
  rows : List SRow
def SS.has (s : SS) (i : Int) : Prop := 0 ≤ i ∧ i < s.rows.length
instance (s : SS) (i : Int) : Decidable (s.has i) := inferInstanceAs (Decidable (_ ∧ _))
def SS.row (s : SS) (i : Int) : SRow := s.rows.getD i.toNat noRow
def SS.used (s : SS) (i : Int) : Bool := decide (s.has i) && (s.row i).used
def SS.key (s : SS) (i : Int) : List UInt8 := if s.used i then (s.row i).key else []
def SS.pos (s : SS) (i : Int) : Nat := s.first + 8 * i.toNat
/-- What a slot holds. -/
def SS.data (s : SS) (i : Int) : List UInt8 := (flat (nsec (s.row i).n) (fun k => s.d.now (s.pos i + 1 + k))).take (s.row i).n
def SS.get (s : SS) (i : Int) : List UInt8 × Int :=
  if ¬ s.has i then ([], 1) else if (s.row i).used = false then ([], 6) else if s.d.dead then ([], 14) else (s.data i, 0)
/-- The bytes of a head. -/
def headBytes (n : Nat) (key : List UInt8) : List UInt8 := (penRaw (penNum (penNum [] 0 1 1).1 (penNum [] 0 1 1).2 n 2).1 (penNum (penNum [] 0 1 1).1 (penNum [] 0 1 1).2 n 2).2 key).1
def SS.put (s : SS) (i : Int) (key b : List UInt8) : Int × SS :=
  if ¬ s.has i then (1, s) else if 40 < key.length ∨ 448 < b.length then (3, s) else if (s.row i).used then (7, s) else
    if (s.d.lays (s.pos i + 1) b).1 ≠ 0 then ((s.d.lays (s.pos i + 1) b).1, { s with d := (s.d.lays (s.pos i + 1) b).2 }) else
    if ((s.d.lays (s.pos i + 1) b).2.lays (s.pos i) (headBytes b.length key)).1 ≠ 0 then (((s.d.lays (s.pos i + 1) b).2.lays (s.pos i) (headBytes b.length key)).1, { s with d := ((s.d.lays (s.pos i + 1) b).2.lays (s.pos i) (headBytes b.length key)).2 }) else
    (0, { s with d := ((s.d.lays (s.pos i + 1) b).2.lays (s.pos i) (headBytes b.length key)).2, rows := s.rows.set i.toNat ⟨true, b.length, key⟩ })
def SS.clear (s : SS) (i : Int) : Int × SS :=
  if ¬ s.has i then (1, s) else if (s.row i).used = false then (6, s) else
    if (s.d.lays (s.pos i) (zeros 64)).1 ≠ 0 then ((s.d.lays (s.pos i) (zeros 64)).1, { s with d := (s.d.lays (s.pos i) (zeros 64)).2 }) else
    (0, { s with d := (s.d.lays (s.pos i) (zeros 64)).2, rows := s.rows.set i.toNat noRow })
def rowFree : List SRow → Nat → Int
  | [], _ => -1
  | r :: rs, k => if r.used = false then (k : Int) else rowFree rs (k + 1)
def SS.free (s : SS) : Int := rowFree s.rows 0
/-- Slots that may be. -/
structure SS.Ok (s : SS) : Prop where
  room : s.first + 8 * s.rows.length ≤ s.d.n
  rows : ∀ r ∈ s.rows, r.n ≤ 448 ∧ r.key.length ≤ 40
end Go.Proofs.YtdkhmfcfihbjeaaGreatDoor.W

/- An object in memory: a block of fields, and rows of its own. -/
namespace Go.Proofs.YtdkhmfcfihbjeaaGreatDoor.W
open Go.RowKit
set_option linter.unusedVariables false
set_option linter.unusedSimpArgs false

/-- A row of an object's own. -/
structure RowD where
  e : TypeId
  size : Nat
  v : Value
  n : Nat
  xs : List Value
def RowD.At (w : World) (r : RowD) : Prop := w.ownsRow 0 r.e r.size r.v r.n r.xs
def blks (p : Nat) (rs : List RowD) : List Nat := p :: rs.filterMap (·.v.ownBlock)
structure ObjAt (w : World) (p t : Nat) (cs : Array Value) (rs : List RowD) : Prop where
  head : w.heap[p]? = some (.cells cs t (0, 0))
  rows : ∀ r ∈ rs, r.At w
  apart : (blks p rs).Nodup
theorem mem_blks {p k : Nat} {rs : List RowD} (h : k ∈ blks p rs) : k = p ∨ ∃ r ∈ rs, r.v.ownBlock = some k := by
  rcases List.mem_cons.1 h with h | h
  · exact .inl h
  · obtain ⟨r, hr, he⟩ := List.mem_filterMap.1 h
    exact .inr ⟨r, hr, he⟩
theorem blks_row {p k : Nat} {rs : List RowD} {r : RowD} (h : r ∈ rs) (hk : r.v.ownBlock = some k) : k ∈ blks p rs := List.mem_cons_of_mem _ (List.mem_filterMap.2 ⟨r, h, hk⟩)
theorem blks_head {p : Nat} {rs : List RowD} : p ∈ blks p rs := List.mem_cons_self ..
theorem ObjAt.lim {w : World} {p t : Nat} {cs : Array Value} {rs : List RowD} (h : ObjAt w p t cs rs) : ∀ x ∈ blks p rs, x < w.heap.size := fun x hx => by
  rcases mem_blks hx with rfl | ⟨r, hr, he⟩
  · exact blk_lt h.head
  · exact (World.ownsRow.lt (h.rows r hr) x he).2
theorem ObjAt.keep {w w' : World} {p t : Nat} {cs : Array Value} {rs : List RowD} {T : List Nat} (h : ObjAt w p t cs rs) (hc : Chg T w w') (ha : ∀ x ∈ blks p rs, x ∉ T) : ObjAt w' p t cs rs :=
  ⟨hc.keep h.head (ha p blks_head), fun r hr => row_keep (h.rows r hr) (fun g hg => hc.block g (World.ownsRow.lt (h.rows r hr) g hg).2 (ha g (blks_row hr hg))), h.apart⟩
theorem ObjAt.row_ne {w : World} {p t : Nat} {cs : Array Value} {rs : List RowD} (h : ObjAt w p t cs rs) {r : RowD} (hr : r ∈ rs) {k : Nat} (hk : r.v.ownBlock = some k) : k ≠ p := fun e => by
  have := (List.nodup_cons.1 h.apart).1
  exact this (List.mem_filterMap.2 ⟨r, hr, by rw [hk, e]⟩)
/-- A store into a field that is no row. -/
theorem ObjAt.setHead {w : World} {p t : Nat} {cs : Array Value} {rs : List RowD} (h : ObjAt w p t cs rs) (j : Nat) (u : Value) : ObjAt (w.setCell ⟨p, j, none⟩ u) p t (cs.setIfInBounds j u) rs :=
  ⟨set_blk h.head, fun r hr => row_keep (h.rows r hr) (fun g hg => Below.heap_setCell w ⟨p, j, none⟩ u g (h.row_ne hr hg)), h.apart⟩
/-- One row is another: its blocks are the old ones, but for one that may be new. -/
theorem row_swap {p : Nat} {a b : List RowD} {r r' : RowD} {N : Nat} (h : (blks p (a ++ r :: b)).Nodup) (hl : ∀ x ∈ blks p (a ++ r :: b), x < N) (hat : ∀ k, r'.v.ownBlock = some k → r.v.ownBlock = some k ∨ N ≤ k) :
    (blks p (a ++ r' :: b)).Nodup ∧ ∀ x ∈ blks p (a ++ r' :: b), x ∈ blks p (a ++ r :: b) ∨ N ≤ x := by
  have hmem : ∀ x ∈ blks p (a ++ r' :: b), x ∈ blks p (a ++ r :: b) ∨ N ≤ x := fun x hx => by
    rcases mem_blks hx with rfl | ⟨q, hq, he⟩
    · exact .inl blks_head
    · rcases List.mem_append.1 hq with hq | hq
      · exact .inl (blks_row (List.mem_append_left _ hq) he)
      · rcases List.mem_cons.1 hq with rfl | hq
        · rcases hat x he with h1 | h1
          · exact .inl (blks_row (List.mem_append_right _ (List.mem_cons_self ..)) h1)
          · exact .inr h1
        · exact .inl (blks_row (List.mem_append_right _ (List.mem_cons_of_mem _ hq)) he)
  refine ⟨?_, hmem⟩
  unfold blks at *
  rw [List.filterMap_append, List.filterMap_cons] at *
  cases hr : r'.v.ownBlock with
  | none =>
    simp only [hr]
    cases hr2 : r.v.ownBlock with
    | none => rw [hr2] at h; exact h
    | some k =>
      rw [hr2] at h
      refine h.sublist ?_
      exact (List.Sublist.append_left (List.sublist_cons_self _ _) _).cons_cons _
  | some k =>
    simp only [hr]
    rcases hat k hr with h1 | h1
    · rw [h1] at h; exact h
    · have hbase : (p :: (a.filterMap (·.v.ownBlock) ++ b.filterMap (·.v.ownBlock))).Nodup := by
        cases hr2 : r.v.ownBlock with
        | none => rw [hr2] at h; exact h
        | some k2 =>
          rw [hr2] at h
          exact h.sublist ((List.Sublist.append_left (List.sublist_cons_self _ _) _).cons_cons _)
      have hlt : ∀ x ∈ p :: (a.filterMap (·.v.ownBlock) ++ b.filterMap (·.v.ownBlock)), x < N := fun x hx => hl x (by
        rcases List.mem_cons.1 hx with rfl | hx
        · exact List.mem_cons_self ..
        · refine List.mem_cons_of_mem _ ?_
          rcases List.mem_append.1 hx with hx | hx
          · exact List.mem_append_left _ hx
          · refine List.mem_append_right _ ?_
            cases hr2 : r.v.ownBlock with
            | none => exact hx
            | some k2 => exact List.mem_cons_of_mem _ hx)
      have hk : k ∉ p :: (a.filterMap (·.v.ownBlock) ++ b.filterMap (·.v.ownBlock)) := fun hm => by have := hlt k hm; omega
      have hperm : (p :: (a.filterMap (·.v.ownBlock) ++ k :: b.filterMap (·.v.ownBlock))).Perm (k :: p :: (a.filterMap (·.v.ownBlock) ++ b.filterMap (·.v.ownBlock))) :=
        ((List.perm_middle).cons p).trans (List.Perm.swap k p _)
      exact hperm.nodup_iff.2 (List.nodup_cons.2 ⟨hk, hbase⟩)
/-- A row grows, or is set. -/
theorem ObjAt.grow {w w2 : World} {p t : Nat} {cs : Array Value} {a b : List RowD} {r r' : RowD} (h : ObjAt w p t cs (a ++ r :: b)) (hg : w.grownBy w2 r.v.ownBlock) (hrow : r'.At w2)
    (hat : ∀ k, r'.v.ownBlock = some k → r.v.ownBlock = some k ∨ w.heap.size ≤ k) : ObjAt w2 p t cs (a ++ r' :: b) ∧ (∀ x ∈ blks p (a ++ r' :: b), x ∈ blks p (a ++ r :: b) ∨ w.heap.size ≤ x) ∧ Chg (blks p (a ++ r :: b)) w w2 := by
  have hmr : r ∈ a ++ r :: b := List.mem_append_right _ (List.mem_cons_self ..)
  obtain ⟨h1, h2⟩ := row_swap (r' := r') h.apart h.lim hat
  have hc : Chg r.v.ownBlock.toList w w2 := (Chg.refl _ w).grown hg (fun k hk => .inl (by rw [hk]; simp))
  refine ⟨⟨hc.keep h.head ?_, fun q hq => ?_, h1⟩, h2, hc.mono (fun x hx => .inl (blks_row hmr (by simpa using hx)))⟩
  · intro hm
    exact h.row_ne hmr (by simpa using hm : r.v.ownBlock = some p) rfl
  · have hother : ∀ q, q ∈ a ∨ q ∈ b → q ∈ a ++ r :: b → q.At w2 := fun q hab hq => row_keep (h.rows q hq) (fun g hgq => hc.block g (World.ownsRow.lt (h.rows q hq) g hgq).2 (by
      intro hm
      have hrg : r.v.ownBlock = some g := by simpa using hm
      have hnd := (List.nodup_cons.1 h.apart).2
      rw [List.filterMap_append, List.filterMap_cons, hrg] at hnd
      simp only at hnd
      have hd := List.nodup_append.1 hnd
      rcases hab with hab | hab
      · exact hd.2.2 g (List.mem_filterMap.2 ⟨q, hab, hgq⟩) g (List.mem_cons_self ..) rfl
      · exact (List.nodup_cons.1 hd.2.1).1 (List.mem_filterMap.2 ⟨q, hab, hgq⟩)))
    rcases List.mem_append.1 hq with hq1 | hq1
    · exact hother q (.inl hq1) (List.mem_append_left _ hq1)
    · rcases List.mem_cons.1 hq1 with rfl | hq1
      · exact hrow
      · exact hother q (.inr hq1) (List.mem_append_right _ (List.mem_cons_of_mem _ hq1))

theorem row_set {w : World} {base e size n g cap : Nat} {xs : List Value} (h : w.ownsRow base e size (.slice (some ⟨g, 0, none⟩) n cap) n xs) (j : Nat) (u : Value) (hj : j < n * size) :
    (w.setCell ⟨g, j, none⟩ u).ownsRow base e size (.slice (some ⟨g, 0, none⟩) n cap) n (xs.set j u) := by
  refine ⟨by rw [List.length_set]; exact h.1, .inr ?_⟩
  rcases h.2 with ⟨h1, _⟩ | ⟨g', cap', cur, hv, hb, hg, h1, h2, h3, h4⟩
  · cases h1
  · obtain ⟨rfl, rfl⟩ : g = g' ∧ cap = cap' := by simpa using hv
    refine ⟨g, cap, cur.setIfInBounds j u, rfl, hb, set_blk hg, h1, h2, by simpa using h3, ?_⟩
    rw [Array.toList_setIfInBounds, ← h4]
    apply List.ext_getElem? (fun i => ?_)
    simp only [List.getElem?_take, List.getElem?_set]
    by_cases hi : i < n * size
    · rw [if_pos hi, if_pos hi]
      by_cases hij : j = i
      · subst hij
        rw [if_pos rfl, if_pos rfl]
        have hlt : j < cur.toList.length := by
          have : n * size ≤ cap * size := Nat.mul_le_mul_right _ h1
          simp; omega
        rw [if_pos hlt, if_pos (by rw [List.length_take]; omega)]
      · rw [if_neg hij, if_neg hij]
    · rw [if_neg hi, if_neg (show ¬ j = i by omega), if_neg hi]
end Go.Proofs.YtdkhmfcfihbjeaaGreatDoor.W

/- Slots in memory; package slot: has, Count, Used, Key, at, sectors. -/
namespace Go.Proofs.YtdkhmfcfihbjeaaGreatDoor.W
open Go.RowKit
set_option linter.unusedVariables false
set_option linter.unusedSimpArgs false

def rcell (x : SRow × Value) : List Value := [.bool x.1.used, .int .i64 (x.1.n : Int), x.2]
def rcells (R : List (SRow × Value)) : List Value := R.flatMap rcell
theorem rcells_at : ∀ (R : List (SRow × Value)) (i j : Nat) (x : SRow × Value), R[i]? = some x → j < 3 → (rcells R)[i * 3 + j]? = (rcell x)[j]?
  | [], i, j, x, h, _ => by simp at h
  | y :: R, i, j, x, h, hj => by
    have e : rcells (y :: R) = rcell y ++ rcells R := rfl
    have hy : (rcell y).length = 3 := rfl
    rw [e]
    cases i with
    | zero =>
      simp at h; subst h
      rw [Nat.zero_mul, Nat.zero_add, List.getElem?_append_left (by omega)]
    | succ i =>
      rw [List.getElem?_append_right (by omega), hy, show (i + 1) * 3 + j - 3 = i * 3 + j by omega]
      exact rcells_at R i j x (by simpa using h) hj
theorem rcells_app (R : List (SRow × Value)) (x : SRow × Value) : rcells (R ++ [x]) = rcells R ++ rcell x := by simp [rcells]
theorem rcells_set : ∀ (R : List (SRow × Value)) (i : Nat) (x : SRow × Value), i < R.length → rcells (R.set i x) = (((rcells R).set (i * 3) (.bool x.1.used)).set (i * 3 + 1) (.int .i64 (x.1.n : Int))).set (i * 3 + 2) x.2
  | [], i, x, h => by simp at h
  | y :: R, i, x, h => by
    have e : ∀ z, rcells (z :: R) = rcell z ++ rcells R := fun _ => rfl
    cases i with
    | zero => rw [List.set_cons_zero, e, e]; rfl
    | succ i =>
      have ih := rcells_set R i x (by simpa using h)
      have e2 : rcells (y :: R.set i x) = rcell y ++ rcells (R.set i x) := rfl
      rw [List.set_cons_succ, e2, ih, e]
      have h3 : (rcell y).length = 3 := rfl
      rw [List.set_append_right _ _ (by omega), List.set_append_right _ _ (by omega), List.set_append_right _ _ (by omega), h3, show (i + 1) * 3 - 3 = i * 3 by omega, show (i + 1) * 3 + 1 - 3 = i * 3 + 1 by omega, show (i + 1) * 3 + 2 - 3 = i * 3 + 2 by omega]
def rowD (rv : Value) (R : List (SRow × Value)) : RowD := ⟨192, 3, rv, R.length, rcells R⟩

/-- Slots in block q over a disk in block p; U: the blocks that may be written. -/
structure SlotsOk (w : World) (q p : Nat) (S U : List Nat) (s : SS) (rv : Value) (R : List (SRow × Value)) : Prop where
  obj : ObjAt w q 190 #[.pointer (some ⟨p, 0, none⟩), .int .i64 (s.first : Int), rv] [rowD rv R]
  disk : DiskAt w p S s.d
  rows : R.map (·.1) = s.rows
  sep : ∀ x ∈ blks q [rowD rv R], x ∉ S
  keys : ∀ x ∈ R, BytesAt w x.2 x.1.key ∧ ∀ g, x.2.ownBlock = some g → g < w.heap.size ∧ g ∉ U
  uS : ∀ x ∈ S, x ∈ U
  uB : ∀ x ∈ blks q [rowD rv R], x ∈ U
  uL : ∀ x ∈ U, x < w.heap.size
  ok : s.Ok
def SlotsAt (w : World) (q p : Nat) (U : List Nat) (s : SS) : Prop := ∃ S rv R, SlotsOk w q p S U s rv R
theorem SlotsAt.keep {w w' : World} {q p : Nat} {U T : List Nat} {s : SS} (h : SlotsAt w q p U s) (hc : Chg T w w') (ha : ∀ x ∈ U, x ∉ T) (hk : T = [] ∨ True) (hT : ∀ x ∈ T, x ∈ U ∨ w.heap.size ≤ x ∨ ∀ S rv R, SlotsOk w q p S U s rv R → ∀ y ∈ R, y.2.ownBlock ≠ some x) : SlotsAt w' q p U s := by
  obtain ⟨S, rv, R, h⟩ := h
  refine ⟨S, rv, R, h.obj.keep hc (fun x hx => ha x (h.uB x hx)), h.disk.keep hc (fun x hx => ha x (h.uS x hx)), h.rows, h.sep, fun x hx => ?_, h.uS, h.uB, fun x hx => Nat.lt_of_lt_of_le (h.uL x hx) hc.size, h.ok⟩
  obtain ⟨h1, h2⟩ := h.keys x hx
  refine ⟨h1.chg hc (fun k hk hm => ?_), fun g hg => ⟨Nat.lt_of_lt_of_le (h2 g hg).1 hc.size, (h2 g hg).2⟩⟩
  rcases hT k hm with h3 | h3 | h3
  · exact (h2 k hk).2 h3
  · have := (h2 k hk).1; omega
  · exact h3 S rv R h x hx hk
theorem SlotsAt.keep0 {w w' : World} {q p : Nat} {U : List Nat} {s : SS} (h : SlotsAt w q p U s) (hc : Chg [] w w') : SlotsAt w' q p U s := h.keep hc (by simp) (.inl rfl) (by simp)
/-- What doing with slots leaves. -/
def Sid (w w' : World) (q p : Nat) (U : List Nat) (s : SS) : Prop := ∃ U', SlotsAt w' q p U' s ∧ (∀ x ∈ U', x ∈ U ∨ w.heap.size ≤ x) ∧ Chg U w w'
theorem Sid.same {w : World} {q p : Nat} {U : List Nat} {s : SS} (h : SlotsAt w q p U s) : Sid w w q p U s := ⟨U, h, fun x hx => .inl hx, Chg.refl _ _⟩

theorem SlotsOk.len {w : World} {q p : Nat} {S U : List Nat} {s : SS} {rv : Value} {R : List (SRow × Value)} (h : SlotsOk w q p S U s rv R) : R.length = s.rows.length := by rw [← h.rows, List.length_map]
theorem SlotsOk.few {w : World} {q p : Nat} {S U : List Nat} {s : SS} {rv : Value} {R : List (SRow × Value)} (h : SlotsOk w q p S U s rv R) : s.first + 8 * s.rows.length ≤ 4160 := by
  obtain ⟨gn, gl, cn, cl, v, hd⟩ := h.disk
  exact Nat.le_trans h.ok.room hd.few
/-- The form of the rows' value. -/
theorem SlotsOk.form {w : World} {q p : Nat} {S U : List Nat} {s : SS} {rv : Value} {R : List (SRow × Value)} (h : SlotsOk w q p S U s rv R) : ∃ a cap, rv = .slice a s.rows.length cap ∧ s.rows.length ≤ cap := by
  rw [← h.len]
  have hr : w.ownsRow 0 192 3 rv R.length (rcells R) := h.obj.rows _ (List.mem_singleton.2 rfl)
  rcases hr.2 with ⟨h1, h2⟩ | ⟨g, cap, cur, h1, _, _, h3, h4, _⟩
  · exact ⟨none, 0, by rw [h1, h2], by omega⟩
  · exact ⟨_, cap, h1, h3⟩
/-- A row that is there. -/
theorem SlotsOk.at {w : World} {q p : Nat} {S U : List Nat} {s : SS} {rv : Value} {R : List (SRow × Value)} (h : SlotsOk w q p S U s rv R) (i : Nat) (hi : i < s.rows.length) :
    ∃ g cap kv, rv = .slice (some ⟨g, 0, none⟩) s.rows.length cap ∧ s.rows.length ≤ cap ∧ cap ≤ maxLen ∧ R[i]? = some (s.rows.getD i noRow, kv) ∧ w.cell? ⟨g, i * 3, none⟩ = some (.bool (s.rows.getD i noRow).used) ∧
      w.cell? ⟨g, i * 3 + 1, none⟩ = some (.int .i64 ((s.rows.getD i noRow).n : Int)) ∧ w.cell? ⟨g, i * 3 + 2, none⟩ = some kv ∧ BytesAt w kv (s.rows.getD i noRow).key ∧ ∀ k, kv.ownBlock = some k → k < w.heap.size ∧ k ∉ U := by
  have hl := h.len
  have hr : w.ownsRow 0 192 3 rv R.length (rcells R) := h.obj.rows _ (List.mem_singleton.2 rfl)
  have hiR : i < R.length := by omega
  have hri : s.rows.getD i noRow = (R[i]).1 := by
    rw [← h.rows, List.getD_eq_getElem?_getD, List.getElem?_map, List.getElem?_eq_getElem hiR]; rfl
  rcases hr.2 with ⟨h1, h2⟩ | ⟨g, cap, cur, h1, _, _, h3, h4, _⟩
  · omega
  · subst h1
    have hcell : ∀ j, j < 3 → ∀ u, (rcell R[i])[j]? = some u → w.cell? ⟨g, i * 3 + j, none⟩ = some u := fun j hj u hu => by
      have := hr.cells (g := g) rfl (i * 3 + j) u (by rw [rcells_at R i j R[i] (List.getElem?_eq_getElem hiR) hj]; exact hu)
      rwa [add_none, Nat.zero_add] at this
    refine ⟨g, cap, (R[i]).2, by rw [hl], by omega, h4, by rw [hri]; exact List.getElem?_eq_getElem hiR, ?_, ?_, ?_, ?_⟩
    · rw [hri]; exact hcell 0 (by omega) _ rfl
    · rw [hri]; exact hcell 1 (by omega) _ rfl
    · exact hcell 2 (by omega) _ rfl
    · rw [hri]; exact h.keys _ (List.getElem_mem hiR)

set_option maxHeartbeats 2000000 in
set_option maxRecDepth 100000 in
theorem shas_any (q p : Nat) (U : List Nat) (s : SS) (i : Int) (w : World) (h : SlotsAt w q p U s) : Calls Tryz.prog 137 #[.pointer (some ⟨q, 0, none⟩), .int .i64 i] w fun e w' => e = .returned (.bool (decide (s.has i))) ∧ w = w' := by
  obtain ⟨S, rv, R, H⟩ := h
  obtain ⟨a, cap, hrv, hcap⟩ := H.form
  have c2 := blk_cell H.obj.head 2 _ rfl
  subst hrv
  have hd : decide (s.has i) = (decide (0 ≤ i) && decide (i < (s.rows.length : Int))) := by
    rw [Bool.eq_iff_iff]
    simp only [decide_eq_true_eq, Bool.and_eq_true]
    exact Iff.rfl
  have HD := Lib.hid hd
  clear H hd
  generalize s.rows.length = n at *
  by_cases h1 : 0 ≤ i
  · have d1 : decide (i ≥ 0) = true := decide_eq_true h1
    have HX : Hid (decide (s.has i) = decide (i < (n : Int))) := Lib.hid (by rw [HD.out, decide_eq_true h1, Bool.true_and])
    go_enter Tryz.func137, Tryz.ntmps137
    go_wp2
    go_ret
    exact ⟨by rw [HX.out]; rfl, rfl⟩
  · have d1 : decide (i ≥ 0) = false := decide_eq_false h1
    have HX : Hid (decide (s.has i) = false) := Lib.hid (by rw [HD.out, decide_eq_false h1, Bool.false_and])
    go_enter Tryz.func137, Tryz.ntmps137
    go_wp2
    go_ret
    exact ⟨by rw [HX.out]; rfl, rfl⟩

set_option maxHeartbeats 2000000 in
set_option maxRecDepth 100000 in
theorem scount_any (q p : Nat) (U : List Nat) (s : SS) (w : World) (h : SlotsAt w q p U s) : Calls Tryz.prog 92 #[.pointer (some ⟨q, 0, none⟩)] w fun e w' => e = .returned (.int .i64 (s.rows.length : Int)) ∧ w = w' := by
  obtain ⟨S, rv, R, H⟩ := h
  obtain ⟨a, cap, hrv, hcap⟩ := H.form
  have c2 := blk_cell H.obj.head 2 _ rfl
  subst hrv
  clear H
  go_enter Tryz.func92, Tryz.ntmps92
  go_wp2
  go_ret
  exact ⟨rfl, rfl⟩

set_option maxHeartbeats 2000000 in
set_option maxRecDepth 100000 in
theorem sat_any (q p : Nat) (U : List Nat) (s : SS) (i : Nat) (w : World) (h : SlotsAt w q p U s) (hi : i ≤ 1000) : Calls Tryz.prog 162 #[.pointer (some ⟨q, 0, none⟩), .int .i64 (i : Int)] w fun e w' => e = .returned (.int .i64 ((s.pos i : Nat) : Int)) ∧ w = w' := by
  obtain ⟨S, rv, R, H⟩ := h
  have c1 := blk_cell H.obj.head 1 _ rfl
  have hfew := H.few
  have HX : Hid ((s.first : Int) + 8 * (i : Int) = ((s.pos i : Nat) : Int)) := Lib.hid (by unfold SS.pos; simp)
  have hf : s.first ≤ 4160 := by omega
  clear H hfew
  generalize s.first = f at *
  go_enter Tryz.func162, Tryz.ntmps162
  go_wp2
  go_ret
  exact ⟨by rw [← HX.out]; rfl, rfl⟩

set_option maxHeartbeats 2000000 in
set_option maxRecDepth 100000 in
theorem ssec_any (n : Nat) (w : World) (hn : n ≤ 1000000000) : Calls Tryz.prog 161 #[.int .i64 (n : Int)] w fun e w' => e = .returned (.int .i64 ((nsec n : Nat) : Int)) ∧ w = w' := by
  have HX : Hid (((n : Int) + 64 - 1) / 64 = ((nsec n : Nat) : Int)) := Lib.hid (by unfold nsec; omega)
  go_enter Tryz.func161, Tryz.ntmps161
  go_wp2
  go_ret
  exact ⟨by rw [← HX.out]; rfl, rfl⟩
end Go.Proofs.YtdkhmfcfihbjeaaGreatDoor.W

/- Package slot: Used, Key, Free, Find; bytes.Equal. -/
namespace Go.Proofs.YtdkhmfcfihbjeaaGreatDoor.W
open Go.RowKit
set_option linter.unusedVariables false
set_option linter.unusedSimpArgs false

theorem SS.used_true {s : SS} {i : Int} (h : s.has i) : s.used i = (s.row i).used := by unfold SS.used; rw [decide_eq_true h, Bool.true_and]
theorem SS.used_false {s : SS} {i : Int} (h : ¬ s.has i) : s.used i = false := by unfold SS.used; rw [decide_eq_false h, Bool.false_and]

set_option maxHeartbeats 2000000 in
set_option maxRecDepth 100000 in
theorem sused_any (q p : Nat) (U : List Nat) (s : SS) (i : Int) (w : World) (h : SlotsAt w q p U s) : Calls Tryz.prog 93 #[.pointer (some ⟨q, 0, none⟩), .int .i64 i] w fun e w' => e = .returned (.bool (s.used i)) ∧ w = w' := by
  have CH := Lib.hid (shas_any q p U s i w h)
  by_cases hi : s.has i
  · rw [decide_eq_true hi] at CH
    obtain ⟨S, rv, R, H⟩ := h
    obtain ⟨h0, h1⟩ := hi
    obtain ⟨j, rfl⟩ := Int.eq_ofNat_of_zero_le h0
    obtain ⟨g, cap, kv, hrv, hcap, hcm, hR, k0, k1, k2, k3, k4⟩ := H.at j (by omega)
    have c2 := blk_cell H.obj.head 2 _ rfl
    subst hrv
    have HX : Hid (s.used (j : Int) = (s.rows.getD j noRow).used) := Lib.hid (by rw [SS.used_true ⟨h0, h1⟩]; rfl)
    rw [HX.out]
    generalize s.rows.getD j noRow = r at *
    generalize s.rows.length = n at *
    have hjz : (j : Int) < (n : Int) := h1
    have hjz1 : (j : Int).toNat = j := by omega
    clear H hR k3 k4
    go_enter Tryz.func93, Tryz.ntmps93
    go_wp2_with (go_at_call 137; refine CH.out.mono ?_; rintro e w' ⟨rfl, hq⟩; subst hq)
    go_ret
    exact ⟨rfl, rfl⟩
  · rw [decide_eq_false hi] at CH
    rw [SS.used_false hi]
    clear hi h
    go_enter Tryz.func93, Tryz.ntmps93
    go_wp2_with (go_at_call 137; refine CH.out.mono ?_; rintro e w' ⟨rfl, hq⟩; subst hq)
    go_ret
    exact ⟨rfl, rfl⟩

set_option maxHeartbeats 2000000 in
set_option maxRecDepth 100000 in
theorem skey_any (q p : Nat) (U : List Nat) (s : SS) (i : Int) (w : World) (h : SlotsAt w q p U s) : Calls Tryz.prog 95 #[.pointer (some ⟨q, 0, none⟩), .int .i64 i] w fun e w' => (∃ v, e = .returned v ∧ BRow w' v (s.key i)) ∧ Chg [] w w' := by
  have CU := Lib.hid (sused_any q p U s i w h)
  by_cases hu : s.used i = true
  · have hi : s.has i := by
      by_cases hi : s.has i
      · exact hi
      · rw [SS.used_false hi] at hu; cases hu
    have hk : s.key i = (s.row i).key := by unfold SS.key; rw [if_pos hu]
    rw [hu] at CU
    obtain ⟨S, rv, R, H⟩ := h
    obtain ⟨h0, h1⟩ := hi
    obtain ⟨j, rfl⟩ := Int.eq_ofNat_of_zero_le h0
    obtain ⟨g, cap, kv, hrv, hcap, hcm, hR, k0, k1, k2, k3, k4⟩ := H.at j (by omega)
    have c2 := blk_cell H.obj.head 2 _ rfl
    subst hrv
    have hkl : (s.rows.getD j noRow).key.length ≤ 40 := by
      rw [List.getD_eq_getElem?_getD, List.getElem?_eq_getElem (show j < s.rows.length by omega)]
      exact (H.ok.rows _ (List.getElem_mem _)).2
    have CC := Lib.hid (clone_any kv _ w k3 (by omega))
    have HX : Hid (s.key (j : Int) = (s.rows.getD j noRow).key) := Lib.hid (by rw [hk]; rfl)
    rw [HX.out]
    generalize s.rows.getD j noRow = r at *
    generalize s.rows.length = n at *
    have hjz : (j : Int) < (n : Int) := h1
    have hjz1 : (j : Int).toNat = j := by omega
    obtain ⟨ak, ck, hkv⟩ := k3.slice
    subst hkv
    clear H hR k3 k4 hu hk hkl
    go_enter Tryz.func95, Tryz.ntmps95
    go_wp2_with (go_at_call 93; refine CU.out.mono ?_; rintro e w' ⟨rfl, hq⟩; subst hq)
    refine CC.out.mono ?_
    rintro e w1 ⟨v1, rfl, hr, hn, hc⟩
    have HR := Lib.hid (And.intro hr hc)
    clear hr hn hc CC
    go_wp2
    go_ret
    exact ⟨⟨_, rfl, HR.out.1⟩, HR.out.2⟩
  · have hu' : s.used i = false := by simpa using hu
    have hk : s.key i = [] := by unfold SS.key; rw [if_neg hu]
    rw [hu'] at CU
    rw [hk]
    clear hu hu' hk h
    go_enter Tryz.func95, Tryz.ntmps95
    go_wp2_with (go_at_call 93; refine CU.out.mono ?_; rintro e w' ⟨rfl, hq⟩; subst hq)
    go_ret
    exact ⟨⟨_, rfl, BRow.nil _⟩, Chg.refl _ _⟩

theorem rowFree_cons (r : SRow) (l : List SRow) (k : Nat) : rowFree (r :: l) k = if r.used = false then (k : Int) else rowFree l (k + 1) := rfl
theorem rowFree_drop (l : List SRow) (k : Nat) (hk : k ≤ l.length) (h : ∀ q, q < k → (l.getD q noRow).used = true) : ∀ j, rowFree l j = rowFree (l.drop k) (j + k) := by
  induction l generalizing k with
  | nil => intro j; simp at hk; subst hk; rfl
  | cons r l ih =>
    intro j
    cases k with
    | zero => rfl
    | succ k =>
      have h0 := h 0 (by omega)
      simp at h0
      rw [List.drop_succ_cons, rowFree_cons, if_neg (by simp [h0]), ih k (by simpa using hk) (fun q hq => by simpa using h (q + 1) (by omega)) (j + 1), show j + 1 + k = j + (k + 1) by omega]
set_option maxHeartbeats 4000000 in
set_option maxRecDepth 100000 in
theorem sfree_any (q p : Nat) (U : List Nat) (s : SS) (w : World) (h : SlotsAt w q p U s) : Calls Tryz.prog 146 #[.pointer (some ⟨q, 0, none⟩)] w fun e w' => e = .returned (.int .i64 s.free) ∧ w = w' := by
  have CC := Lib.hid (scount_any q p U s w h)
  obtain ⟨S, rv, R, H⟩ := h
  have HH := Lib.hid H
  obtain ⟨a, cap0, hrv, hcap⟩ := H.form
  have c2 := blk_cell H.obj.head 2 _ rfl
  have hfew := H.few
  obtain ⟨n, hn⟩ : ∃ n, n = s.rows.length := ⟨_, rfl⟩
  rw [← hn] at CC hrv hcap
  have HN := Lib.hid hn
  have HRV := Lib.hid hrv
  subst hrv
  have hnf : n ≤ 1000 := by omega
  clear H hfew hn
  go_enter Tryz.func146, Tryz.ntmps146
  go_wp2_with (go_at_call 92; refine CC.out.mono ?_; rintro e w' ⟨rfl, hq⟩; subst hq)
  go_loop [6] (fun i => ∃ k : Nat, k ≤ n ∧ i = .int .i64 k ∧ Hid (∀ x, x < k → (s.rows.getD x noRow).used = true)) (fun i => n - (intOf i).toNat)
  case atStart => exact ⟨0, Nat.zero_le _, rfl, Lib.hid (fun q hq => absurd hq (by omega))⟩
  case round =>
    obtain ⟨k, hk, rfl, HZ⟩ := hrel
    by_cases hlt : k < n
    · obtain ⟨g, cap, kv, hrv2, hcap2, hcm, hR, k0, k1, k2, k3, k4⟩ := HH.out.at k (by rw [← HN.out]; exact hlt)
      have hF := rowFree_drop s.rows k (by rw [← HN.out]; omega) HZ.out 0
      rw [List.drop_eq_getElem_cons (by rw [← HN.out]; exact hlt)] at hF
      have hge : s.rows.getD k noRow = s.rows[k]'(by rw [← HN.out]; exact hlt) := by rw [List.getD_eq_getElem?_getD, List.getElem?_eq_getElem]; rfl
      rw [← hge] at hF
      have HRK : Hid (s.rows.getD k noRow = s.rows.getD k noRow) := Lib.hid rfl
      rw [← HN.out] at hrv2
      obtain ⟨rfl, rfl⟩ : a = some ⟨g, 0, none⟩ ∧ cap0 = cap := by
        have := Value.slice.inj hrv2
        exact ⟨this.1, this.2.2⟩
      have hkz : (k : Int) < (n : Int) := by omega
      have hkz1 : (k : Int).toNat = k := by omega
      have hu : ∃ u, u = (s.rows.getD k noRow).used := ⟨_, rfl⟩
      obtain ⟨u, hu⟩ := hu
      rw [← hu] at k0
      have HU := Lib.hid hu
      have HF := Lib.hid hF
      clear hu hF hge hrv2 hR k1 k2 k3 k4
      cases u
      · have HX : Hid (s.free = (k : Int)) := Lib.hid (by
          unfold SS.free
          rw [HF.out, rowFree_cons]
          rw [if_pos HU.out.symm]
          simp)
        go_wp2
        go_ret
        exact ⟨by rw [HX.out]; rfl, rfl⟩
      · have HZ1 : Hid (∀ x, x < k + 1 → (s.rows.getD x noRow).used = true) := Lib.hid (fun x hx => by
          rcases Nat.lt_or_ge x k with h | h
          · exact HZ.out x h
          · obtain rfl : x = k := by omega
            exact HU.out.symm)
        go_wp2
        go_round
        case rel => exact ⟨k + 1, by omega, by go_num, HZ1⟩
        case measure => simp [intOf]; omega
    · have hkn : k = n := by omega
      have HX : Hid (s.free = -1) := Lib.hid (by
        unfold SS.free
        rw [rowFree_drop s.rows k (by rw [hkn, HN.out]; exact Nat.le_refl _) HZ.out 0, List.drop_of_length_le (by rw [hkn, HN.out]; exact Nat.le_refl _)]
        rfl)
      clear hkn
      go_wp2
      go_ret
      exact ⟨by rw [HX.out]; rfl, rfl⟩

theorem bytes_string (w : World) (v : Value) (l : List UInt8) (h : BytesAt w v l) : (convert 30 9 v).run Tryz.prog w = .ok (.string ⟨l.toArray⟩) w := by
  obtain ⟨a, cap, rfl, h1, h2, h3⟩ := h
  rcases h3 with ⟨rfl, rfl⟩ | ⟨g, o, rfl, hc⟩
  · cases a with
    | none => exact run_convert_bytes_nil w 30 5 Tryz.underlying30 Tryz.underlying5 _ _ 9 Tryz.underlying9
    | some a => exact run_convert_bytes_back w 30 9 5 a 0 [] Tryz.underlying30 Tryz.underlying5 Tryz.underlying9 (fun j hj => absurd hj (by simp))
  · refine run_convert_bytes_back w 30 9 5 ⟨g, o, none⟩ cap l Tryz.underlying30 Tryz.underlying5 Tryz.underlying9 (fun j hj => ?_)
    rw [add_none, hc j hj, List.getD_eq_getElem?_getD, List.getElem?_eq_getElem hj]
    rfl

set_option maxHeartbeats 2000000 in
set_option maxRecDepth 100000 in
theorem equal_any (u v : Value) (l m : List UInt8) (w : World) (hu : BytesAt w u l) (hv : BytesAt w v m) :
    Calls Tryz.prog 145 #[u, v] w fun e w' => e = .returned (.bool (decide (l = m))) ∧ w = w' := by
  have h1 := bytes_string w u l hu
  have h2 := bytes_string w v m hv
  clear hu hv
  go_enter Tryz.func145, Tryz.ntmps145
  go_wp2
  go_ret
  exact ⟨ret_bool (show (l == m) = decide (l = m) by rw [Bool.eq_iff_iff]; simp), rfl⟩

end Go.Proofs.YtdkhmfcfihbjeaaGreatDoor.W

/- Package slot: lay. -/
namespace Go.Proofs.YtdkhmfcfihbjeaaGreatDoor.W
open Go.RowKit
set_option linter.unusedVariables false
set_option linter.unusedSimpArgs false

/-! ### Memory of 64 bytes, and what is copied into it -/
def pad (m : List UInt8) : List UInt8 := m.take 64 ++ zeros (64 - (m.take 64).length)
theorem pad_len (m : List UInt8) : (pad m).length = 64 := by
  unfold pad zeros
  rw [List.length_append, List.length_replicate, List.length_take]
  omega
def Z64 : Array Value := (bvs (zeros 64)).toArray
theorem facts_u8 : (Tryz.prog.info? 5).map (fun i => (i.zero, i.size, i.bytes)) = some (some (.int .u8 0), 1, 1) := by kernel_rfl
theorem make_64 (w : World) : (Instr.makeSlice 30 (.int .i64 64) (.int .i64 64)).run Tryz.prog w = .ok (.slice (some ⟨w.heap.size, 0, none⟩) 64 64) (w.alloc (.cells Z64 5)) := by
  obtain ⟨i, hi, h1, h2, h3⟩ := info_parts facts_u8
  have h := run_make (P := Tryz.prog) w 30 5 i _ Tryz.underlying30 hi h1 .i64 .i64 64 64 (by omega) (Int.le_refl _) (by rw [h3]; omega) (by omega)
  rw [h2] at h
  have hz : madeCells (Value.int .u8 0).cells ((64 : Int).toNat * 1) = Z64 := by kernel_rfl
  rw [hz] at h
  exact h
theorem row_of_block {w : World} {N : Nat} {l : List UInt8} (h : w.heap[N]? = some (.cells (bvs l).toArray 5 (0, 0))) (hl : l.length ≤ maxLen) : BRow w (.slice (some ⟨N, 0, none⟩) l.length l.length) l := by
  refine ⟨by simp [bvs_len], .inr ⟨N, l.length, (bvs l).toArray, rfl, Nat.zero_le _, h, Nat.le_refl _, hl, by simp [bvs_len], ?_⟩⟩
  rw [Nat.mul_one, List.take_of_length_le (by simp [bvs_len])]
/-- 'copy(p, src)' into 64 noughts. -/
theorem wpList_pad {w : World} {ops : Array Oper} {rest : List Oper} {o : Oper} {a : Act} {Q : Exit → Act → World → Prop} (hgd : o.guard = none) (d s : Operand)
    (ho : o.op = .call { callee := .builtin .copy, args := #[d, s], argTypes := #[30, 30] }) (N : Nat) (hd : a.eval d = .slice (some ⟨N, 0, none⟩) 64 64) (u : Value) (hs : a.eval s = u) (m : List UInt8) (hm : BytesAt w u m)
    (hN : w.heap[N]? = some (.cells Z64 5 (0, 0)))
    (h : ∀ w' n, BRow w' (.slice (some ⟨N, 0, none⟩) 64 64) (pad m) → Below N w w' → N < w'.heap.size → wpList Tryz.prog ops Q rest (a.put o.dst n) w') : wpList Tryz.prog ops Q (o :: rest) a w := by
  obtain ⟨au, cap, rfl, h1, h2, h3⟩ := hm
  have hlen : (m.take 64).length = Nat.min m.length 64 := by rw [List.length_take]; exact Nat.min_comm _ _
  have hle : Nat.min m.length 64 ≤ 64 := Nat.min_le_right _ _
  refine wpList_copy_splice hgd d s 30 30 ho 5 Tryz.underlying30 (by kernel_rfl) (some ⟨N, 0, none⟩) au 64 64 m.length cap hd hs N 0 (bvs (zeros 64)) 5 hN (bvs (m.take 64)) (by rw [bvs_len, hlen]) ?_ (by rw [bvs_len, bvs_len, hlen]; simp [zeros]; omega) (bvs_one _) N w (Below.refl _ _) (Nat.le_refl _) ?_
  · intro hpos
    refine ⟨rfl, ?_⟩
    rcases h3 with ⟨rfl, _⟩ | ⟨g, o', rfl, hc⟩
    · simp [bvs] at hpos
    · refine ⟨_, rfl, fun j v hv => ?_⟩
      have hj : j < (m.take 64).length := by
        have := (List.getElem?_eq_some_iff.1 hv).1
        rwa [bvs_len] at this
      rw [bvs_at _ j hj] at hv
      cases hv
      rw [add_none, hc j (by rw [List.length_take] at hj; omega), getD_take _ _ _ (by rw [List.length_take] at hj; omega)]
  · intro w' hw' hb
    have hsp : splice (bvs (zeros 64)) 0 (bvs (m.take 64)) = bvs (pad m) := by
      unfold splice pad
      rw [List.take_zero, List.nil_append, Nat.zero_add, bvs_len]
      unfold bvs
      rw [List.map_append]
      congr 1
      rw [← List.map_drop]
      congr 1
      unfold zeros
      rw [List.drop_replicate]
    have hw2 := hw'.out
    rw [hsp] at hw2
    have hr := row_of_block hw2 (by rw [pad_len]; unfold maxLen; omega)
    rw [pad_len] at hr
    exact h w' _ hr hb (blk_lt hw2)

theorem bytes_drop {w : World} {g o cap k : Nat} {l : List UInt8} (h : BytesAt w (.slice (some ⟨g, o, none⟩) l.length cap) l) (hk : k ≤ l.length) (o2 : Nat) (ho : k < l.length → o2 = o + k) : BytesAt w (.slice (some ⟨g, o2, none⟩) (l.length - k) (cap - k)) (l.drop k) := by
  have h1 := BytesAt.tail h (List.drop_suffix k l) o2 (fun hne => by
    rw [List.length_drop]
    have : 0 < (l.drop k).length := List.length_pos_iff.2 hne
    rw [List.length_drop] at this
    rw [ho (by omega)]
    show o + k = o + _
    omega)
  rw [List.length_drop, show l.length - (l.length - k) = k by omega] at h1
  exact h1

theorem chg_pad {w w1 w2 : World} (h : Chg [] w w1) (hb : Below w.heap.size w1 w2) : Chg [] w w2 := Chg.of_below ((Chg.below h (by simp)).trans hb)

/-! ### Laying -/
theorem DS.write_ok (d : DS) (k : Int) (b : List UInt8) : (d.write k b).2.n = d.n ∧ (d.write k b).2.ops ≤ d.ops + 1 ∧ (d.write k b).2.since.length ≤ d.since.length + 1 := by
  unfold DS.write DS.op
  split
  · exact ⟨rfl, Nat.le_succ _, Nat.le_succ _⟩
  · split
    · by_cases hf : d.fuse = 0
      · simp [hf]
      · simp [hf]
    · exact ⟨rfl, Nat.le_succ _, Nat.le_succ _⟩
theorem DS.sync_ok (d : DS) : (d.sync).2.n = d.n ∧ (d.sync).2.ops ≤ d.ops + 1 ∧ (d.sync).2.since.length ≤ d.since.length := by
  unfold DS.sync DS.op
  split
  · exact ⟨rfl, Nat.le_succ _, Nat.le_refl _⟩
  · by_cases hf : d.fuse = 0
    · simp [hf]
    · simp [hf]
theorem DS.lay_ok (pos : Nat) (b : List UInt8) : ∀ (k j : Nat) (d : DS), (d.lay pos b k j).2.n = d.n ∧ (d.lay pos b k j).2.ops ≤ d.ops + k + 1 ∧ (d.lay pos b k j).2.since.length ≤ d.since.length + k
  | 0, j, d => by
    obtain ⟨h1, h2, h3⟩ := d.sync_ok
    exact ⟨h1, by simpa [DS.lay] using h2, by simpa [DS.lay] using h3⟩
  | k + 1, j, d => by
    obtain ⟨h1, h2, h3⟩ := d.write_ok (pos + j : Nat) (secAt b j)
    obtain ⟨g1, g2, g3⟩ := DS.lay_ok pos b k (j + 1) (d.write (pos + j : Nat) (secAt b j)).2
    unfold DS.lay
    split
    · exact ⟨h1, by omega, by omega⟩
    · exact ⟨by rw [g1, h1], by omega, by omega⟩

/-- The disk goes on under the slots. -/
theorem SlotsAt.did {w w' : World} {q p : Nat} {S U : List Nat} {s : SS} {rv : Value} {R : List (SRow × Value)} {d' : DS} (h : SlotsOk w q p S U s rv R) (hd : Did w w' p S d') (hn : d'.n = s.d.n) : Sid w w' q p U { s with d := d' } := by
  obtain ⟨S', h1, h2, h3⟩ := hd
  have hlim := h.obj.lim
  refine ⟨U ++ S', ⟨S', rv, R, h.obj.keep h3 h.sep, h1, h.rows, fun x hx hm => ?_, fun x hx => ?_, fun x hx => List.mem_append_right _ hx, fun x hx => List.mem_append_left _ (h.uB x hx), fun x hx => ?_, ⟨by rw [show ({ s with d := d' } : SS).d.n = s.d.n from hn]; exact h.ok.room, h.ok.rows⟩⟩, fun x hx => ?_, h3.mono (fun x hx => .inl (h.uS x hx))⟩
  · rcases h2 x hm with h4 | h4
    · exact h.sep x hx h4
    · have := hlim x hx; omega
  · obtain ⟨k1, k2⟩ := h.keys x hx
    refine ⟨k1.chg h3 (fun k hk hm => (k2 k hk).2 (h.uS k hm)), fun g hg => ⟨Nat.lt_of_lt_of_le (k2 g hg).1 h3.size, fun hm => ?_⟩⟩
    rcases List.mem_append.1 hm with hm | hm
    · exact (k2 g hg).2 hm
    · rcases h2 g hm with h4 | h4
      · exact (k2 g hg).2 (h.uS g h4)
      · have := (k2 g hg).1; omega
  · rcases List.mem_append.1 hx with hx | hx
    · exact Nat.lt_of_lt_of_le (h.uL x hx) h3.size
    · exact h1.lim x hx
  · rcases List.mem_append.1 hx with hx | hx
    · exact .inl hx
    · rcases h2 x hx with h4 | h4
      · exact .inl (h.uS x h4)
      · exact .inr h4
theorem Sid.trans {w w1 w2 : World} {q p : Nat} {U : List Nat} {s1 s2 : SS} (h1 : Sid w w1 q p U s1) (h2 : ∀ U1, SlotsAt w1 q p U1 s1 → Sid w1 w2 q p U1 s2) : Sid w w2 q p U s2 := by
  obtain ⟨U1, a1, a2, a3⟩ := h1
  obtain ⟨U2, b1, b2, b3⟩ := h2 U1 a1
  refine ⟨U2, b1, fun x hx => ?_, a3.trans b3 a2⟩
  rcases b2 x hx with h | h
  · exact a2 x h
  · exact .inr (Nat.le_trans a3.size h)
theorem Sid.glue {w w1 w2 : World} {q p : Nat} {U U1 : List Nat} {s2 : SS} (hs : ∀ x ∈ U1, x ∈ U ∨ w.heap.size ≤ x) (hc : Chg U w w1) (h : Sid w1 w2 q p U1 s2) : Sid w w2 q p U s2 := by
  obtain ⟨U2, b1, b2, b3⟩ := h
  refine ⟨U2, b1, fun x hx => ?_, hc.trans b3 hs⟩
  rcases b2 x hx with h | h
  · exact hs x h
  · exact .inr (Nat.le_trans hc.size h)
theorem Sid.pre {w0 w w' : World} {q p : Nat} {U : List Nat} {s : SS} (hc : Chg [] w0 w) (h : Sid w w' q p U s) : Sid w0 w' q p U s := Sid.glue (fun x hx => .inl hx) (hc.mono (by simp)) h

set_option maxHeartbeats 4000000 in
set_option maxRecDepth 100000 in
theorem slay_any (q p : Nat) (U : List Nat) (s : SS) (pos : Nat) (v : Value) (b : List UInt8) (w : World) (h : SlotsAt w q p U s) (hb : BytesAt w v b) (hbU : b ≠ [] → ∀ k, v.ownBlock = some k → k ∉ U) (hpos : pos + nsec b.length ≤ s.d.n) (hbl : b.length ≤ 1000000)
    (ho : s.d.ops + nsec b.length + 1 ≤ 1000000000) (hw : s.d.since.length + nsec b.length ≤ 1000000) :
    Calls Tryz.prog 163 #[.pointer (some ⟨q, 0, none⟩), .int .i64 (pos : Int), v] w fun e w' => e = .returned (.int .i64 (s.d.lays pos b).1) ∧ Sid w w' q p U { s with d := (s.d.lays pos b).2 } := by
  have CS := Lib.hid (ssec_any b.length w (by omega))
  obtain ⟨m, hm⟩ : ∃ m, m = nsec b.length := ⟨_, rfl⟩
  rw [← hm] at CS hpos ho hw
  have HM := Lib.hid hm
  have hpn : s.d.n ≤ 4160 := by
    obtain ⟨S, rv, R, H⟩ := h
    obtain ⟨gn, gl, cn, cl, v, hd⟩ := H.disk
    exact hd.few
  have hmb : (0 < m → (m - 1) * 64 < b.length) ∧ m ≤ 4160 := by
    rw [hm]; unfold nsec; rw [hm] at hpos; unfold nsec at hpos; omega
  have HB := Lib.hid hb
  have HBU := Lib.hid hbU
  have HS := Lib.hid h
  have hmk := make_64
  obtain ⟨av, cv, rfl⟩ := hb.slice
  have hcv : b.length ≤ cv ∧ cv ≤ 9223372036854775807 := by
    obtain ⟨a', c', he, h1, h2, _⟩ := hb
    have : cv = c' := (Value.slice.inj he).2.2
    unfold maxLen at h2
    omega
  clear hm hb hbU h
  go_enter Tryz.func163, Tryz.ntmps163
  go_wp2_with (go_at_call 161; refine CS.out.mono ?_; rintro e w' ⟨rfl, hq⟩; subst hq)
  go_loopg [13] m (fun g' s13 wr => ∃ (j : Nat) (dj : DS), s13 = .int .i64 j ∧ j ≤ m ∧ m ≤ j + g' ∧ Hid (Sid w wr q p U { s with d := dj } ∧ dj.n = s.d.n ∧ dj.ops ≤ s.d.ops + j ∧ dj.since.length ≤ s.d.since.length + j ∧ s.d.lay pos b m 0 = dj.lay pos b (m - j) j))
  case atStart => exact ⟨0, s.d, rfl, by omega, by omega, Lib.hid ⟨Sid.same HS.out, rfl, by omega, by omega, rfl⟩⟩
  case round =>
    obtain ⟨j, dj, rfl, hj, hjg, HJ⟩ := hrel
    obtain ⟨⟨Uj, ⟨S, rv, R, H⟩, hUj, hCj⟩, hjn, hjo, hjs, hjl⟩ := HJ.out
    have HUj := Lib.hid hUj
    have HCj := Lib.hid hCj
    have c0 : wr.cell? ⟨q, 0, none⟩ = some (.pointer (some ⟨p, 0, none⟩)) := blk_cell H.obj.head 0 _ rfl
    have HH := Lib.hid H
    have HJL := Lib.hid hjl
    clear H hUj hCj hjl HJ
    have hbUr : b ≠ [] → ∀ k, (Value.slice av b.length cv).ownBlock = some k → k ∉ U := HBU.out
    have hBr : BytesAt wr (.slice av b.length cv) b := HB.out.chgW HCj.out hbUr
    have HBr := Lib.hid hBr
    clear hBr hbUr
    by_cases hlt : j < m
    · obtain ⟨w1, hw1⟩ : ∃ w1, w1 = wr.alloc (.cells Z64 5) := ⟨_, rfl⟩
      have hc1 : Chg [] wr w1 := by rw [hw1]; exact (Chg.refl _ _).alloc _
      have hN1 : Hid (w1.heap[wr.heap.size]? = some (.cells Z64 5 (0, 0))) := Lib.hid (by rw [hw1]; exact heap_alloc_new wr _)
      have hjb : j * 64 < b.length := by
        have h1 : j ≤ m - 1 := by omega
        have h2 := Nat.mul_le_mul_right 64 h1
        have h3 := hmb.1 (by omega)
        omega
      obtain ⟨g, o, rfl⟩ : ∃ g o, av = some ⟨g, o, none⟩ := by
        obtain ⟨a', c', he, _, _, h3⟩ := HBr.out
        obtain rfl : av = a' := (Value.slice.inj he).1
        rcases h3 with ⟨rfl, _⟩ | ⟨g, o, e, _⟩
        · simp at hjb
        · exact ⟨g, o, e⟩
      have hB1 : BytesAt w1 (.slice (some ⟨g, o + j * 64, none⟩) (b.length - j * 64) (cv - j * 64)) (b.drop (j * 64)) := bytes_drop (HBr.out.chg hc1 (by simp)) (by omega) _ (fun _ => rfl)
      have HB1 := Lib.hid hB1
      have HC1 := Lib.hid hc1
      have HW1 := Lib.hid hw1
      have hcj : j * 64 < cv := by omega
      have hcj2 : ¬ cv = j * 64 := by omega
      have hjz : (j : Int) < (m : Int) := by omega
      have hj64 : ((j : Int) * 64) = ((j * 64 : Nat) : Int) := by push_cast; rfl
      have hmj : m - j = (m - (j + 1)) + 1 := by omega
      have HLS : Hid (s.d.lays pos b = if (dj.write (pos + j : Nat) (secAt b j)).1 ≠ 0 then dj.write (pos + j : Nat) (secAt b j) else (dj.write (pos + j : Nat) (secAt b j)).2.lay pos b (m - (j + 1)) (j + 1)) := Lib.hid (by
        unfold DS.lays
        rw [← HM.out, HJL.out, hmj]
        rfl)
      clear hB1 hw1 hc1 hj64 hmj
      go_wp2_with (rw [← HW1.out]; refine wpList_pad (by rfl) (.tmp 17) (.tmp 21) (by rfl) wr.heap.size (by rfl) _ (by rfl) (b.drop (j * 64)) HB1.out hN1.out ?_; intro w2 np hr2 hb2 hl2
                   have hc2 := chg_pad HC1.out hb2
                   have c02 := hc2.cell c0 (by simp)
                   have HR2 := Lib.hid hr2
                   have HC2 := Lib.hid hc2
                   clear hr2 hb2 hc2)
      have hpj : ((pos + j : Nat) : Int) = (pos : Int) + (j : Int) := by push_cast; rfl
      rw [hpj] at HLS
      have CW := Lib.hid (dwrite_any p S dj ((pos : Int) + (j : Int)) _ (secAt b j) w2 (HH.out.disk.keep HC2.out (by simp)) (by omega) (by omega) ⟨by omega, by omega⟩ (secAt_len b j) HR2.out.bytes)
      have hwok := dj.write_ok ((pos : Int) + (j : Int)) (secAt b j)
      generalize dj.write ((pos : Int) + (j : Int)) (secAt b j) = r at *
      obtain ⟨r1, d1⟩ := r
      dsimp only at CW HLS hwok
      have HPJ := Lib.hid hpj
      clear hpj
      refine CW.out.mono ?_
      rintro e w3 ⟨rfl, hd3⟩
      have HD3 := Lib.hid (Did.pre HC2.out hd3)
      clear hd3 CW
      have hsid : Sid w w3 q p U { s with d := d1 } := Sid.glue HUj.out HCj.out (SlotsAt.did (s := { s with d := dj }) HH.out HD3.out hwok.1)
      have HSID := Lib.hid hsid
      clear hsid
      by_cases hr0 : r1 = 0
      · subst hr0
        have HL2 : Hid (s.d.lay pos b m 0 = d1.lay pos b (m - (j + 1)) (j + 1)) := Lib.hid (by
          have h1 := HLS.out
          rw [if_neg (by simp)] at h1
          rw [← h1]
          unfold DS.lays
          rw [← HM.out])
        go_wp2
        go_roundg (gk - 1)
        case measure => omega
        case rel => exact ⟨j + 1, d1, by go_num, by omega, by omega, Lib.hid ⟨HSID.out, by rw [hwok.1, hjn], by omega, by omega, HL2.out⟩⟩
      · have HL2 : Hid (s.d.lays pos b = (r1, d1)) := Lib.hid (by rw [HLS.out, if_pos hr0])
        have q1 : (r1 != 0) = true := by simp [hr0]
        clear hr0
        go_wp2
        go_ret
        rw [HL2.out]
        exact ⟨rfl, HSID.out⟩
    · have hjm : j = m := by omega
      have HL2 : Hid (s.d.lays pos b = dj.sync) := Lib.hid (by
        unfold DS.lays
        rw [← HM.out, HJL.out, hjm, Nat.sub_self]
        rfl)
      have hsok := dj.sync_ok
      have CY := Lib.hid (dsync_any p S dj wr HH.out.disk (by omega) (by omega))
      clear hjm
      go_wp2_with fail
      refine CY.out.mono ?_
      rintro e w3 ⟨rfl, hd3⟩
      have HSID : Hid (Sid w w3 q p U { s with d := (dj.sync).2 }) := Lib.hid (Sid.glue HUj.out HCj.out (SlotsAt.did (s := { s with d := dj }) HH.out hd3 hsok.1))
      clear hd3 CY
      go_wp2
      go_ret
      rw [HL2.out]
      exact ⟨rfl, HSID.out⟩
end Go.Proofs.YtdkhmfcfihbjeaaGreatDoor.W

/- Package slot: Get. -/
namespace Go.Proofs.YtdkhmfcfihbjeaaGreatDoor.W
open Go.RowKit
set_option linter.unusedVariables false
set_option linter.unusedSimpArgs false

/-- What Get answers. -/
def GetPost (r : List UInt8 × Int) (w : World) (e : Ending) (w' : World) : Prop := (∃ v, e = .returned (.tuple #[v, .int .i64 r.2]) ∧ BytesAt w' v r.1 ∧ ∀ k, v.ownBlock = some k → w.heap.size ≤ k) ∧ Chg [] w w'
theorem GetPost.nil {c : Int} {w w' : World} (hc : Chg [] w w') : GetPost ([], c) w (.returned (.tuple #[.slice none 0 0, .int .i64 c])) w' := ⟨⟨_, rfl, BytesAt.nil _, by simp [Value.ownBlock]⟩, hc⟩

set_option maxHeartbeats 8000000 in
set_option maxRecDepth 100000 in
theorem sget_any (q p : Nat) (U : List Nat) (s : SS) (i : Int) (w : World) (h : SlotsAt w q p U s) : Calls Tryz.prog 144 #[.pointer (some ⟨q, 0, none⟩), .int .i64 i] w (GetPost (s.get i) w) := by
  have CH := Lib.hid (shas_any q p U s i w h)
  have HS := Lib.hid h
  obtain ⟨S, rv, R, H⟩ := h
  have c0 : w.cell? ⟨q, 0, none⟩ = some (.pointer (some ⟨p, 0, none⟩)) := blk_cell H.obj.head 0 _ rfl
  by_cases hi : s.has i
  · rw [decide_eq_true hi] at CH
    have hi' := hi
    obtain ⟨h0, h1⟩ := hi'
    obtain ⟨j, rfl⟩ := Int.eq_ofNat_of_zero_le h0
    have hjl : j < s.rows.length := by omega
    obtain ⟨g, cap, kv, hrv, hcap, hcm, hR, k0, k1, k2, k3, k4⟩ := H.at j hjl
    have c2 : w.cell? ⟨q, 2, none⟩ = some rv := blk_cell H.obj.head 2 _ rfl
    have hfew := H.few
    have hrow : s.row (j : Int) = s.rows.getD j noRow := rfl
    have hn448 : (s.rows.getD j noRow).n ≤ 448 := by
      rw [List.getD_eq_getElem?_getD, List.getElem?_eq_getElem hjl]
      exact (H.ok.rows _ (List.getElem_mem _)).1
    have hroom := H.ok.room
    by_cases hu : (s.row (j : Int)).used = false
    · have hg : s.get (j : Int) = ([], 6) := by unfold SS.get; rw [if_neg (by simpa using hi), if_pos hu]
      have HP := Lib.hid (fun (w' : World) (hc : Chg [] w w') => GetPost.nil (c := 6) hc)
      have HG := Lib.hid hg
      rw [HG.out]
      rw [hrow] at hu
      rw [hu] at k0
      subst hrv
      generalize s.rows.getD j noRow = r at *
      generalize s.rows.length = n at *
      have hjz : (j : Int) < (n : Int) := by omega
      have hjz1 : (j : Int).toNat = j := by omega
      clear H hR k1 k2 k3 k4 hu hg hi hrow hroom
      go_enter Tryz.func144, Tryz.ntmps144
      go_wp2_with (go_at_call 137; refine CH.out.mono ?_; rintro e w' ⟨rfl, hq⟩; subst hq)
      go_ret2
      exact HP.out _ (Chg.refl _ _)
    · have hu' : (s.rows.getD j noRow).used = true := by rw [← hrow]; simpa using hu
      have hg : s.get (j : Int) = if s.d.dead then ([], 14) else (s.data (j : Int), 0) := by
        unfold SS.get; rw [if_neg (by simpa using hi), if_neg hu]
      have hdat : s.data (j : Int) = (flat (nsec (s.rows.getD j noRow).n) (fun k => s.d.now (s.pos j + 1 + k))).take (s.rows.getD j noRow).n := rfl
      have hpos : s.pos (j : Int) = s.first + 8 * j := rfl
      rw [hu'] at k0
      have CA := Lib.hid (fun w' (h' : SlotsAt w' q p U s) => sat_any q p U s j w' h' (by omega))
      have CSec := Lib.hid (ssec_any (s.rows.getD j noRow).n w (by omega))
      have CD := Lib.hid (ddead_any p S s.d w H.disk)
      have hm7 : nsec (s.rows.getD j noRow).n ≤ 7 := by unfold nsec; omega
      have hmn : (s.rows.getD j noRow).n ≤ nsec (s.rows.getD j noRow).n * 64 := by unfold nsec; omega
      have HDK := Lib.hid H.disk
      have hlen64 : Hid (∀ k, k < s.d.n → (s.d.now k).length = 64) := Lib.hid (by
        obtain ⟨gn, gl, cn, cl, v, hd⟩ := H.disk
        exact fun k hk => hd.now.len k hk)
      subst hrv
      have HG := Lib.hid hg
      have HDAT := Lib.hid hdat
      generalize hrr : s.rows.getD j noRow = r at *
      have hpl : s.pos (j : Int) + 8 ≤ s.d.n := by rw [hpos]; omega
      generalize s.pos (j : Int) = pos at *
      generalize hrl : s.rows.length = n at *
      have hjz : (j : Int) < (n : Int) := by omega
      have hjz1 : (j : Int).toNat = j := by omega
      obtain ⟨m, hm⟩ : ∃ m, m = nsec r.n := ⟨_, rfl⟩
      rw [← hm] at CSec hm7 hmn
      have HM := Lib.hid hm
      obtain ⟨rn, hrn⟩ : ∃ rn, rn = r.n := ⟨_, rfl⟩
      rw [← hrn] at CSec hmn k1 hn448
      have HRN := Lib.hid hrn
      have hnd : s.d.n ≤ 4160 := by
        obtain ⟨gn, gl, cn, cl, v, hd⟩ := H.disk
        exact hd.few
      have hwr : Hid (IntKind.i64.wrap (IntKind.i64.wrap ((pos : Int) + 1)) = (pos : Int) + 1) := Lib.hid (by rw [IntWalk.i64_in ((pos : Int) + 1) ⟨by omega, by omega⟩, IntWalk.i64_in _ ⟨by omega, by omega⟩])
      clear H hR k2 k3 k4 hu' hg hi hrow hdat hroom hm hrn hrr hrl hu hfew hpos
      by_cases hd : s.d.dead = true
      · have HP := Lib.hid (fun (w' : World) (hc : Chg [] w w') => GetPost.nil (c := 14) hc)
        have HGG : Hid (s.get (j : Int) = ([], 14)) := Lib.hid (by rw [HG.out, if_pos hd])
        rw [HGG.out]
        rw [hd] at CD
        have HDD := Lib.hid hd
        clear hd
        go_enter Tryz.func144, Tryz.ntmps144
        go_wp2_with (first
          | (go_at_call 137; refine CH.out.mono ?_; rintro e w' ⟨rfl, hq⟩; subst hq)
          | (go_at_call 161; refine CSec.out.mono ?_; rintro e w' ⟨rfl, hq⟩; subst hq))
        go_loopg [6, 44] 0 (fun g' s6 s44 wr => s6 = .slice none 0 0 ∧ s44 = .int .i64 0 ∧ wr = w)
        case atStart => exact ⟨rfl, rfl, rfl⟩
        case round =>
          obtain ⟨rfl, rfl, rfl⟩ := hrel
          by_cases hm0 : 0 < m
          · have hmz : (0 : Int) < (m : Int) := by omega
            have CR := Lib.hid (dread_any p S s.d ((pos : Int) + 1) wr.drew (by
              obtain ⟨gn, gl, cn, cl, v, hd⟩ := HDK.out
              exact ⟨gn, gl, cn, cl, v, hd.drew⟩))
            go_wp2_with fail
            refine wp_region_L [(10, fun w' => w'.cell? ⟨q, 0, none⟩ = some (.pointer (some ⟨p, 0, none⟩)))] (by kernel_rfl) ?_ (fun hHeld => ?_)
            · exact (HoldC.cons (c0) HoldC.nil)
            refine wpAnyL_take (i := 0) (oi := _) (v := ?_) rfl (by kernel_rfl) (by kernel_rfl) (by kernel_rfl) (by kernel_rfl) (by kernel_rfl) (fun _ _ _ h => h) (Or.inl ⟨by rfl, ?_⟩) (by assumption) (fun hNew => ?_)
            rotate_left
            · intro w _
              go_simp
              try with_reducible rfl
            clear hHeld
            have hHeld := hNew
            clear hNew
            try simp only [List.getElem_toArray, List.getElem_cons_succ, List.getElem_cons_zero, Act.put, List.setIfInBounds_toArray, List.set_cons_zero, List.set_cons_succ]
            refine wpAnyL_take (i := 1) (oi := _) (v := ?_) rfl (by kernel_rfl) (by kernel_rfl) (by kernel_rfl) (by kernel_rfl) (by kernel_rfl) (fun _ _ _ h => h) (Or.inl ⟨by rfl, ?_⟩) (by assumption) (fun hNew => ?_)
            rotate_left
            · intro w _
              go_simp
              try with_reducible rfl
            clear hHeld
            have hHeld := hNew
            clear hNew
            try simp only [List.getElem_toArray, List.getElem_cons_succ, List.getElem_cons_zero, Act.put, List.setIfInBounds_toArray, List.set_cons_zero, List.set_cons_succ]
            refine wpAnyL_take (i := 2) (oi := _) (v := ?_) rfl (by kernel_rfl) (by kernel_rfl) (by kernel_rfl) (by kernel_rfl) (by kernel_rfl) (fun _ _ _ h => h) (Or.inl ⟨by rfl, ?_⟩) (by assumption) (fun hNew => ?_)
            rotate_left
            · intro w _
              go_simp
              try with_reducible rfl
            clear hHeld
            have hHeld := hNew
            clear hNew
            try simp only [List.getElem_toArray, List.getElem_cons_succ, List.getElem_cons_zero, Act.put, List.setIfInBounds_toArray, List.set_cons_zero, List.set_cons_succ]
            refine wpAnyL_load 0 (i := 3) (oi := _) (v := ?_) rfl rfl (by kernel_rfl) (by kernel_rfl) (by kernel_rfl) (by kernel_rfl) (by kernel_rfl) (by kernel_rfl) (fun _ _ _ h => h) (Or.inl ⟨by rfl, ?_⟩) (by assumption) (fun hNew => ?_)
            rotate_left
            · intro w hSw
              (try dsimp only at hSw)
              go_simp
              try with_reducible rfl
            clear hHeld
            have hHeld := hNew
            clear hNew
            try simp only [List.getElem_toArray, List.getElem_cons_succ, List.getElem_cons_zero, Act.put, List.setIfInBounds_toArray, List.set_cons_zero, List.set_cons_succ]
            refine wpAnyL_take (i := 4) (oi := _) (v := ?_) rfl (by kernel_rfl) (by kernel_rfl) (by kernel_rfl) (by kernel_rfl) (by kernel_rfl) (fun _ _ _ h => h) (Or.inl ⟨by rfl, ?_⟩) (by assumption) (fun hNew => ?_)
            rotate_left
            · intro w _
              go_simp
              try with_reducible rfl
            clear hHeld
            have hHeld := hNew
            clear hNew
            try simp only [List.getElem_toArray, List.getElem_cons_succ, List.getElem_cons_zero, Act.put, List.setIfInBounds_toArray, List.set_cons_zero, List.set_cons_succ]
            refine wpAnyL_take (i := 5) (oi := _) (v := ?_) rfl (by kernel_rfl) (by kernel_rfl) (by kernel_rfl) (by kernel_rfl) (by kernel_rfl) (fun _ _ _ h => h) (Or.inl ⟨by rfl, ?_⟩) (by assumption) (fun hNew => ?_)
            rotate_left
            · intro w _
              go_simp
              try with_reducible rfl
            clear hHeld
            have hHeld := hNew
            clear hNew
            try simp only [List.getElem_toArray, List.getElem_cons_succ, List.getElem_cons_zero, Act.put, List.setIfInBounds_toArray, List.set_cons_zero, List.set_cons_succ]
            refine wpAnyL_take (i := 8) (oi := _) (v := ?_) rfl (by kernel_rfl) (by kernel_rfl) (by kernel_rfl) (by kernel_rfl) (by kernel_rfl) (fun _ _ _ h => h) (Or.inl ⟨by rfl, ?_⟩) (by assumption) (fun hNew => ?_)
            rotate_left
            · intro w _
              go_simp
              try with_reducible rfl
            clear hHeld
            have hHeld := hNew
            clear hNew
            try simp only [List.getElem_toArray, List.getElem_cons_succ, List.getElem_cons_zero, Act.put, List.setIfInBounds_toArray, List.set_cons_zero, List.set_cons_succ]
            refine wpAnyL_ready (rs := [6]) (by kernel_rfl) (by simp) ?_
            refine AllReadyL.cons (o := _) rfl (fun K hK => ?_) AllReadyL.nil
            try simp only [List.getElem_toArray, List.getElem_cons_succ, List.getElem_cons_zero]
            go_simp
            refine (CA.out _ (HS.out.keep0 (by exact (Chg.refl _ _).drew))).mono ?_
            rintro e w' ⟨rfl, hq⟩
            subst hq
            try go_wp2_with fail
            clear hHeld
            refine hK.out _ _ ?_ (fun hHeld => ?_)
            · exact (HoldC.cons (c0) HoldC.nil)
            clear hK K
            try simp only [List.getElem_toArray, List.getElem_cons_succ, List.getElem_cons_zero, Act.put, List.setIfInBounds_toArray, List.set_cons_zero, List.set_cons_succ]
            refine wpAnyL_take (i := 7) (oi := _) (v := ?_) rfl (by kernel_rfl) (by kernel_rfl) (by kernel_rfl) (by kernel_rfl) (by kernel_rfl) (fun _ _ _ h => h) (Or.inl ⟨by rfl, ?_⟩) (by assumption) (fun hNew => ?_)
            rotate_left
            · intro w _
              go_simp
              try with_reducible rfl
            clear hHeld
            have hHeld := hNew
            clear hNew
            try simp only [List.getElem_toArray, List.getElem_cons_succ, List.getElem_cons_zero, Act.put, List.setIfInBounds_toArray, List.set_cons_zero, List.set_cons_succ]
            refine wpAnyL_take (i := 9) (oi := _) (v := ?_) rfl (by kernel_rfl) (by kernel_rfl) (by kernel_rfl) (by kernel_rfl) (by kernel_rfl) (fun _ _ _ h => h) (Or.inl ⟨by rfl, ?_⟩) (by assumption) (fun hNew => ?_)
            rotate_left
            · intro w _
              go_simp
              try with_reducible rfl
            clear hHeld
            have hHeld := hNew
            clear hNew
            try simp only [List.getElem_toArray, List.getElem_cons_succ, List.getElem_cons_zero, Act.put, List.setIfInBounds_toArray, List.set_cons_zero, List.set_cons_succ]
            refine wpAnyL_ready (rs := [10]) (by kernel_rfl) (by simp) ?_
            refine AllReadyL.cons (o := _) rfl (fun K hK => ?_) AllReadyL.nil
            try simp only [List.getElem_toArray, List.getElem_cons_succ, List.getElem_cons_zero]
            go_simp
            try rw [hwr.out]
            try rw [hwr2.out]
            refine CR.out.mono ?_
            rintro e w3 ⟨he, hc3⟩
            rw [if_pos HDD.out] at he
            subst he
            have HC3 : Hid (Chg [] wr w3) := Lib.hid ((by exact (Chg.refl [] wr).drew : Chg [] wr wr.drew).trans hc3 (by simp))
            clear hc3 CR
            try go_wp2_with fail
            clear hHeld
            refine hK.out _ _ ?_ (fun hHeld => ?_)
            · exact (HoldC.past (by kernel_rfl) HoldC.nil)
            clear hK K
            try simp only [List.getElem_toArray, List.getElem_cons_succ, List.getElem_cons_zero, Act.put, List.setIfInBounds_toArray, List.set_cons_zero, List.set_cons_succ]
            refine wpAnyL_take (i := 11) (oi := _) (v := ?_) rfl (by kernel_rfl) (by kernel_rfl) (by kernel_rfl) (by kernel_rfl) (by kernel_rfl) (fun _ _ _ h => h) (Or.inl ⟨by rfl, ?_⟩) (by assumption) (fun hNew => ?_)
            rotate_left
            · intro w _
              go_simp
              try with_reducible rfl
            clear hHeld
            have hHeld := hNew
            clear hNew
            try simp only [List.getElem_toArray, List.getElem_cons_succ, List.getElem_cons_zero, Act.put, List.setIfInBounds_toArray, List.set_cons_zero, List.set_cons_succ]
            refine wpAnyL_take (i := 12) (oi := _) (v := ?_) rfl (by kernel_rfl) (by kernel_rfl) (by kernel_rfl) (by kernel_rfl) (by kernel_rfl) (fun _ _ _ h => h) (Or.inl ⟨by rfl, ?_⟩) (by assumption) (fun hNew => ?_)
            rotate_left
            · intro w _
              go_simp
              try with_reducible rfl
            clear hHeld
            have hHeld := hNew
            clear hNew
            try simp only [List.getElem_toArray, List.getElem_cons_succ, List.getElem_cons_zero, Act.put, List.setIfInBounds_toArray, List.set_cons_zero, List.set_cons_succ]
            refine wpAnyL_take (i := 13) (oi := _) (v := ?_) rfl (by kernel_rfl) (by kernel_rfl) (by kernel_rfl) (by kernel_rfl) (by kernel_rfl) (fun _ _ _ h => h) (Or.inl ⟨by rfl, ?_⟩) (by assumption) (fun hNew => ?_)
            rotate_left
            · intro w _
              go_simp
              try with_reducible rfl
            clear hHeld
            have hHeld := hNew
            clear hNew
            try simp only [List.getElem_toArray, List.getElem_cons_succ, List.getElem_cons_zero, Act.put, List.setIfInBounds_toArray, List.set_cons_zero, List.set_cons_succ]
            refine wpAnyL_take (i := 14) (oi := _) (v := ?_) rfl (by kernel_rfl) (by kernel_rfl) (by kernel_rfl) (by kernel_rfl) (by kernel_rfl) (fun _ _ _ h => h) (Or.inl ⟨by rfl, ?_⟩) (by assumption) (fun hNew => ?_)
            rotate_left
            · intro w _
              go_simp
              try with_reducible rfl
            clear hHeld
            have hHeld := hNew
            clear hNew
            try simp only [List.getElem_toArray, List.getElem_cons_succ, List.getElem_cons_zero, Act.put, List.setIfInBounds_toArray, List.set_cons_zero, List.set_cons_succ]
            refine wpAnyL_take (i := 15) (oi := _) (v := ?_) rfl (by kernel_rfl) (by kernel_rfl) (by kernel_rfl) (by kernel_rfl) (by kernel_rfl) (fun _ _ _ h => h) (Or.inl ⟨by rfl, ?_⟩) (by assumption) (fun hNew => ?_)
            rotate_left
            · intro w _
              go_simp
              try with_reducible rfl
            clear hHeld
            have hHeld := hNew
            clear hNew
            try simp only [List.getElem_toArray, List.getElem_cons_succ, List.getElem_cons_zero, Act.put, List.setIfInBounds_toArray, List.set_cons_zero, List.set_cons_succ]
            refine wpAnyL_done (by kernel_rfl) ?_ _
            clear hHeld
            go_wp2
            go_ret2
            exact HP.out _ HC3.out
          · obtain rfl : m = 0 := by omega
            go_wp2_with (go_at_call 38; refine CD.out.mono ?_; rintro e w' ⟨rfl, hq⟩; subst hq)
            go_ret2
            exact HP.out _ (Chg.refl _ _)
      · have hd' : s.d.dead = false := by simpa using hd
        have HGG : Hid (s.get (j : Int) = (s.data (j : Int), 0)) := Lib.hid (by rw [HG.out, if_neg hd])
        rw [HGG.out]
        rw [hd'] at CD
        have HDD := Lib.hid hd'
        have HK1 := Lib.hid k1
        have HC2 := Lib.hid c2
        have HC0 := Lib.hid c0
        have hkl := World.block_lt_of_cell? w _ k1
        clear hd hd'
        go_enter Tryz.func144, Tryz.ntmps144
        go_wp2_with (first
          | (go_at_call 137; refine CH.out.mono ?_; rintro e w' ⟨rfl, hq⟩; subst hq)
          | (go_at_call 161; refine CSec.out.mono ?_; rintro e w' ⟨rfl, hq⟩; subst hq))
        go_loopg [6, 44] m (fun g' s6 s44 wr => ∃ (k : Nat) (a6 : Option Addr) (c6 : Nat), s6 = .slice a6 (k * 64) c6 ∧ s44 = .int .i64 k ∧ k ≤ m ∧ m ≤ k + g' ∧ Hid (BRow wr s6 (flat k (fun k => s.d.now (pos + 1 + k))) ∧ (∀ g, s6.ownBlock = some g → w.heap.size ≤ g) ∧ Chg [] w wr))
        case atStart => exact ⟨0, none, 0, rfl, rfl, by omega, by omega, Lib.hid ⟨BRow.nil _, by simp [Value.ownBlock], Chg.refl _ _⟩⟩
        case round =>
          obtain ⟨k, a6, c6, rfl, rfl, hk, hkg, HR⟩ := hrel
          obtain ⟨s6, hs6⟩ : ∃ s6, s6 = Value.slice a6 (k * 64) c6 := ⟨_, rfl⟩
          have HS6 := Lib.hid hs6
          rw [← hs6] at HR
          clear hs6 c0 c2 k0 k1
          have c0 := HR.out.2.2.cell HC0.out (by simp)
          by_cases hlt : k < m
          · have hkz : (k : Int) < (m : Int) := by omega
            have hkz1 : (k : Int).toNat = k := by omega
            have hcd : Chg [] w wr.drew := HR.out.2.2.drew
            have CR := Lib.hid (dread_any p S s.d ((pos : Int) + 1 + (k : Int)) wr.drew (HDK.out.keep hcd (by simp)))
            have HSd := Lib.hid (HS.out.keep0 hcd)
            have hwr2 : Hid (IntKind.i64.wrap (IntKind.i64.wrap ((pos : Int) + 1) + (k : Int)) = (pos : Int) + 1 + (k : Int)) := Lib.hid (by rw [IntWalk.i64_in ((pos : Int) + 1) ⟨by omega, by omega⟩, IntWalk.i64_in _ ⟨by omega, by omega⟩])
            have hpk : ((pos : Int) + 1 + (k : Int)).toNat = pos + 1 + k := by omega
            have hl1 := hlen64.out (pos + 1 + k) (by omega)
            have HL1 := Lib.hid hl1
            have HPK := Lib.hid hpk
            clear hcd hpk hl1
            go_wp2_with fail
            refine wp_region_L [(10, fun w' => w'.cell? ⟨q, 0, none⟩ = some (.pointer (some ⟨p, 0, none⟩)))] (by kernel_rfl) ?_ (fun hHeld => ?_)
            · exact (HoldC.cons (c0) HoldC.nil)
            refine wpAnyL_take (i := 0) (oi := _) (v := ?_) rfl (by kernel_rfl) (by kernel_rfl) (by kernel_rfl) (by kernel_rfl) (by kernel_rfl) (fun _ _ _ h => h) (Or.inl ⟨by rfl, ?_⟩) (by assumption) (fun hNew => ?_)
            rotate_left
            · intro w _
              go_simp
              try with_reducible rfl
            clear hHeld
            have hHeld := hNew
            clear hNew
            try simp only [List.getElem_toArray, List.getElem_cons_succ, List.getElem_cons_zero, Act.put, List.setIfInBounds_toArray, List.set_cons_zero, List.set_cons_succ]
            refine wpAnyL_take (i := 1) (oi := _) (v := ?_) rfl (by kernel_rfl) (by kernel_rfl) (by kernel_rfl) (by kernel_rfl) (by kernel_rfl) (fun _ _ _ h => h) (Or.inl ⟨by rfl, ?_⟩) (by assumption) (fun hNew => ?_)
            rotate_left
            · intro w _
              go_simp
              try with_reducible rfl
            clear hHeld
            have hHeld := hNew
            clear hNew
            try simp only [List.getElem_toArray, List.getElem_cons_succ, List.getElem_cons_zero, Act.put, List.setIfInBounds_toArray, List.set_cons_zero, List.set_cons_succ]
            refine wpAnyL_take (i := 2) (oi := _) (v := ?_) rfl (by kernel_rfl) (by kernel_rfl) (by kernel_rfl) (by kernel_rfl) (by kernel_rfl) (fun _ _ _ h => h) (Or.inl ⟨by rfl, ?_⟩) (by assumption) (fun hNew => ?_)
            rotate_left
            · intro w _
              go_simp
              try with_reducible rfl
            clear hHeld
            have hHeld := hNew
            clear hNew
            try simp only [List.getElem_toArray, List.getElem_cons_succ, List.getElem_cons_zero, Act.put, List.setIfInBounds_toArray, List.set_cons_zero, List.set_cons_succ]
            refine wpAnyL_load 0 (i := 3) (oi := _) (v := ?_) rfl rfl (by kernel_rfl) (by kernel_rfl) (by kernel_rfl) (by kernel_rfl) (by kernel_rfl) (by kernel_rfl) (fun _ _ _ h => h) (Or.inl ⟨by rfl, ?_⟩) (by assumption) (fun hNew => ?_)
            rotate_left
            · intro w hSw
              (try dsimp only at hSw)
              go_simp
              try with_reducible rfl
            clear hHeld
            have hHeld := hNew
            clear hNew
            try simp only [List.getElem_toArray, List.getElem_cons_succ, List.getElem_cons_zero, Act.put, List.setIfInBounds_toArray, List.set_cons_zero, List.set_cons_succ]
            refine wpAnyL_take (i := 4) (oi := _) (v := ?_) rfl (by kernel_rfl) (by kernel_rfl) (by kernel_rfl) (by kernel_rfl) (by kernel_rfl) (fun _ _ _ h => h) (Or.inl ⟨by rfl, ?_⟩) (by assumption) (fun hNew => ?_)
            rotate_left
            · intro w _
              go_simp
              try with_reducible rfl
            clear hHeld
            have hHeld := hNew
            clear hNew
            try simp only [List.getElem_toArray, List.getElem_cons_succ, List.getElem_cons_zero, Act.put, List.setIfInBounds_toArray, List.set_cons_zero, List.set_cons_succ]
            refine wpAnyL_take (i := 5) (oi := _) (v := ?_) rfl (by kernel_rfl) (by kernel_rfl) (by kernel_rfl) (by kernel_rfl) (by kernel_rfl) (fun _ _ _ h => h) (Or.inl ⟨by rfl, ?_⟩) (by assumption) (fun hNew => ?_)
            rotate_left
            · intro w _
              go_simp
              try with_reducible rfl
            clear hHeld
            have hHeld := hNew
            clear hNew
            try simp only [List.getElem_toArray, List.getElem_cons_succ, List.getElem_cons_zero, Act.put, List.setIfInBounds_toArray, List.set_cons_zero, List.set_cons_succ]
            refine wpAnyL_take (i := 8) (oi := _) (v := ?_) rfl (by kernel_rfl) (by kernel_rfl) (by kernel_rfl) (by kernel_rfl) (by kernel_rfl) (fun _ _ _ h => h) (Or.inl ⟨by rfl, ?_⟩) (by assumption) (fun hNew => ?_)
            rotate_left
            · intro w _
              go_simp
              try with_reducible rfl
            clear hHeld
            have hHeld := hNew
            clear hNew
            try simp only [List.getElem_toArray, List.getElem_cons_succ, List.getElem_cons_zero, Act.put, List.setIfInBounds_toArray, List.set_cons_zero, List.set_cons_succ]
            refine wpAnyL_ready (rs := [6]) (by kernel_rfl) (by simp) ?_
            refine AllReadyL.cons (o := _) rfl (fun K hK => ?_) AllReadyL.nil
            try simp only [List.getElem_toArray, List.getElem_cons_succ, List.getElem_cons_zero]
            go_simp
            refine (CA.out _ HSd.out).mono ?_
            rintro e w' ⟨rfl, hq⟩
            subst hq
            try go_wp2_with fail
            clear hHeld
            refine hK.out _ _ ?_ (fun hHeld => ?_)
            · exact (HoldC.cons (c0) HoldC.nil)
            clear hK K
            try simp only [List.getElem_toArray, List.getElem_cons_succ, List.getElem_cons_zero, Act.put, List.setIfInBounds_toArray, List.set_cons_zero, List.set_cons_succ]
            refine wpAnyL_take (i := 7) (oi := _) (v := ?_) rfl (by kernel_rfl) (by kernel_rfl) (by kernel_rfl) (by kernel_rfl) (by kernel_rfl) (fun _ _ _ h => h) (Or.inl ⟨by rfl, ?_⟩) (by assumption) (fun hNew => ?_)
            rotate_left
            · intro w _
              go_simp
              try with_reducible rfl
            clear hHeld
            have hHeld := hNew
            clear hNew
            try simp only [List.getElem_toArray, List.getElem_cons_succ, List.getElem_cons_zero, Act.put, List.setIfInBounds_toArray, List.set_cons_zero, List.set_cons_succ]
            refine wpAnyL_take (i := 9) (oi := _) (v := ?_) rfl (by kernel_rfl) (by kernel_rfl) (by kernel_rfl) (by kernel_rfl) (by kernel_rfl) (fun _ _ _ h => h) (Or.inl ⟨by rfl, ?_⟩) (by assumption) (fun hNew => ?_)
            rotate_left
            · intro w _
              go_simp
              try with_reducible rfl
            clear hHeld
            have hHeld := hNew
            clear hNew
            try simp only [List.getElem_toArray, List.getElem_cons_succ, List.getElem_cons_zero, Act.put, List.setIfInBounds_toArray, List.set_cons_zero, List.set_cons_succ]
            refine wpAnyL_ready (rs := [10]) (by kernel_rfl) (by simp) ?_
            refine AllReadyL.cons (o := _) rfl (fun K hK => ?_) AllReadyL.nil
            try simp only [List.getElem_toArray, List.getElem_cons_succ, List.getElem_cons_zero]
            go_simp
            try rw [hwr.out]
            try rw [hwr2.out]
            refine CR.out.mono ?_
            rintro e w3 ⟨he, hc3⟩
            rw [if_neg (by rw [HDD.out]; simp), if_pos ⟨by omega, by omega⟩] at he
            obtain ⟨v3, rfl, hr3, hn3⟩ := he
            rw [HPK.out] at hr3
            have HC3 : Hid (Chg [] wr w3) := Lib.hid ((by exact (Chg.refl [] wr).drew : Chg [] wr wr.drew).trans hc3 (by simp))
            have HR3 := Lib.hid (HR.out.1.keep (fun g hg => HC3.out.block g (HR.out.1.lt g hg) (by simp)))
            have HB3 := Lib.hid hr3.bytes
            obtain ⟨a3, c3, hv3⟩ := hr3.bytes.slice
            rw [HL1.out] at hv3
            subst hv3
            have hsz : Hid ((flat k (fun k => s.d.now (pos + 1 + k))).length + (s.d.now (pos + 1 + k)).length ≤ 140737488355328) := Lib.hid (by
              rw [flat_len k _ (fun i hi => hlen64.out _ (by omega)), HL1.out]; omega)
            clear hc3 CR hr3 hn3
            try go_wp2_with fail
            clear hHeld
            refine hK.out _ _ ?_ (fun hHeld => ?_)
            · exact (HoldC.past (by kernel_rfl) HoldC.nil)
            clear hK K
            try simp only [List.getElem_toArray, List.getElem_cons_succ, List.getElem_cons_zero, Act.put, List.setIfInBounds_toArray, List.set_cons_zero, List.set_cons_succ]
            refine wpAnyL_take (i := 11) (oi := _) (v := ?_) rfl (by kernel_rfl) (by kernel_rfl) (by kernel_rfl) (by kernel_rfl) (by kernel_rfl) (fun _ _ _ h => h) (Or.inl ⟨by rfl, ?_⟩) (by assumption) (fun hNew => ?_)
            rotate_left
            · intro w _
              go_simp
              try with_reducible rfl
            clear hHeld
            have hHeld := hNew
            clear hNew
            try simp only [List.getElem_toArray, List.getElem_cons_succ, List.getElem_cons_zero, Act.put, List.setIfInBounds_toArray, List.set_cons_zero, List.set_cons_succ]
            refine wpAnyL_take (i := 12) (oi := _) (v := ?_) rfl (by kernel_rfl) (by kernel_rfl) (by kernel_rfl) (by kernel_rfl) (by kernel_rfl) (fun _ _ _ h => h) (Or.inl ⟨by rfl, ?_⟩) (by assumption) (fun hNew => ?_)
            rotate_left
            · intro w _
              go_simp
              try with_reducible rfl
            clear hHeld
            have hHeld := hNew
            clear hNew
            try simp only [List.getElem_toArray, List.getElem_cons_succ, List.getElem_cons_zero, Act.put, List.setIfInBounds_toArray, List.set_cons_zero, List.set_cons_succ]
            refine wpAnyL_take (i := 13) (oi := _) (v := ?_) rfl (by kernel_rfl) (by kernel_rfl) (by kernel_rfl) (by kernel_rfl) (by kernel_rfl) (fun _ _ _ h => h) (Or.inl ⟨by rfl, ?_⟩) (by assumption) (fun hNew => ?_)
            rotate_left
            · intro w _
              go_simp
              try with_reducible rfl
            clear hHeld
            have hHeld := hNew
            clear hNew
            try simp only [List.getElem_toArray, List.getElem_cons_succ, List.getElem_cons_zero, Act.put, List.setIfInBounds_toArray, List.set_cons_zero, List.set_cons_succ]
            refine wpAnyL_take (i := 14) (oi := _) (v := ?_) rfl (by kernel_rfl) (by kernel_rfl) (by kernel_rfl) (by kernel_rfl) (by kernel_rfl) (fun _ _ _ h => h) (Or.inl ⟨by rfl, ?_⟩) (by assumption) (fun hNew => ?_)
            rotate_left
            · intro w _
              go_simp
              try with_reducible rfl
            clear hHeld
            have hHeld := hNew
            clear hNew
            try simp only [List.getElem_toArray, List.getElem_cons_succ, List.getElem_cons_zero, Act.put, List.setIfInBounds_toArray, List.set_cons_zero, List.set_cons_succ]
            refine wpAnyL_take (i := 15) (oi := _) (v := ?_) rfl (by kernel_rfl) (by kernel_rfl) (by kernel_rfl) (by kernel_rfl) (by kernel_rfl) (fun _ _ _ h => h) (Or.inl ⟨by rfl, ?_⟩) (by assumption) (fun hNew => ?_)
            rotate_left
            · intro w _
              go_simp
              try with_reducible rfl
            clear hHeld
            have hHeld := hNew
            clear hNew
            try simp only [List.getElem_toArray, List.getElem_cons_succ, List.getElem_cons_zero, Act.put, List.setIfInBounds_toArray, List.set_cons_zero, List.set_cons_succ]
            refine wpAnyL_done (by kernel_rfl) ?_ _
            clear hHeld
            go_wp2_with (at_builtin; refine wpList_appB rfl (.tmp 64) (.tmp 65) rfl s6 (flat k (fun k => s.d.now (pos + 1 + k))) HS6.out.symm HR3.out _ (s.d.now (pos + 1 + k)) (by rfl) HB3.out hsz.out ?_; intro v4 w4 ho4 hg4 hat4)
            have HO4 := Lib.hid ho4
            have HG4 := Lib.hid hg4
            have HA4 := Lib.hid hat4
            clear ho4 hg4 hat4
            go_roundg (gk - 1)
            case measure => omega
            case rel =>
              have hr : BRow w4 v4 (flat (k + 1) (fun k => s.d.now (pos + 1 + k))) := by rw [flat_succ]; exact HO4.out
              obtain ⟨a, c4, he, _⟩ := hr.bytes
              rw [flat_len (k + 1) _ (fun i hi => hlen64.out _ (by omega))] at he
              refine ⟨k + 1, a, c4, he, by go_num, by omega, by omega, Lib.hid ⟨hr, fun g hg => ?_, (HR.out.2.2.trans HC3.out (by simp)).grown HG4.out (fun g hg => .inr (HR.out.2.1 g hg))⟩⟩
              rcases HA4.out with h | h
              · exact HR.out.2.1 g (by rw [← h]; exact hg)
              · rw [h] at hg
                have h1 := HR.out.2.2.size
                have h3 := HC3.out.size
                have h2 : w3.heap.size = g := by simpa using hg
                omega
          · have hkm : k = m := by omega
            obtain rfl := hkm.symm
            have c2 := HR.out.2.2.cell HC2.out (by simp)
            have k1 := HR.out.2.2.cell HK1.out (by simp)
            have CD2 := Lib.hid (ddead_any p S s.d wr (HDK.out.keep HR.out.2.2 (by simp)))
            rw [HDD.out] at CD2
            have hcb : m * 64 ≤ c6 := by
              obtain ⟨_, c, he, h1, _⟩ := HR.out.1.bytes
              rw [HS6.out] at he
              have e1 := (Value.slice.inj he).2.1
              have e2 := (Value.slice.inj he).2.2
              omega
            have hrz : (rn : Int) ≤ (c6 : Int) := by omega
            have hrz1 : (rn : Int).toNat = rn := by omega
            have hfin : ∀ w', Chg [] wr w' → Hid (GetPost (s.data (j : Int), 0) w (.returned (.tuple #[.slice a6 rn c6, .int .i64 0])) w') := fun w' hc => Lib.hid (by
              refine ⟨⟨_, rfl, ?_, ?_⟩, HR.out.2.2.trans hc (by simp)⟩
              · have hb := HR.out.1.bytes.chg hc (by simp)
                obtain ⟨a, c, he, h1, h2, h3⟩ := hb
                rw [HS6.out] at he
                obtain rfl := (Value.slice.inj he).1
                obtain rfl := (Value.slice.inj he).2.2
                rw [HDAT.out, ← HM.out, ← HRN.out]
                have hfl := flat_len m (fun k => s.d.now (pos + 1 + k)) (fun i hi => hlen64.out _ (by omega))
                have hlt : ((flat m (fun k => s.d.now (pos + 1 + k))).take rn).length = rn := by rw [List.length_take]; omega
                refine ⟨a6, c6, by dsimp only; rw [hlt], by dsimp only; rw [hlt]; omega, h2, ?_⟩
                rcases h3 with ⟨h3, h4⟩ | ⟨g, o, e, hcell⟩
                · left
                  exact ⟨by rw [h3]; simp, h4⟩
                · right
                  refine ⟨g, o, e, fun x hx => ?_⟩
                  rw [hlt] at hx
                  rw [getD_take _ _ _ hx]
                  exact hcell x (by omega)
              · intro g hg
                refine HR.out.2.1 g ?_
                rw [HS6.out]
                cases a6 <;> exact hg)
            have HFIN := Lib.hid hfin
            clear hfin
            go_wp2_with (go_at_call 38; refine CD2.out.mono ?_; rintro e w' ⟨rfl, hq⟩; subst hq)
            go_ret2
            exact (HFIN.out _ (Chg.refl _ _)).out
  · have hg : s.get i = ([], 1) := by unfold SS.get; rw [if_pos (by simpa using hi)]
    have HP := Lib.hid (fun (w' : World) (hc : Chg [] w w') => GetPost.nil (c := 1) hc)
    rw [decide_eq_false hi] at CH
    have HG := Lib.hid hg
    rw [HG.out]
    clear H hi hg
    go_enter Tryz.func144, Tryz.ntmps144
    go_wp2_with (go_at_call 137; refine CH.out.mono ?_; rintro e w' ⟨rfl, hq⟩; subst hq)
    go_ret2
    exact HP.out _ (Chg.refl _ _)
end Go.Proofs.YtdkhmfcfihbjeaaGreatDoor.W

/- Package slot: a row is set; Put. -/
namespace Go.Proofs.YtdkhmfcfihbjeaaGreatDoor.W
open Go.RowKit
set_option linter.unusedVariables false
set_option linter.unusedSimpArgs false

theorem Chg.grownBy {g : Nat} {w w' : World} (h : Chg [g] w w') : w.grownBy w' (some g) := ⟨h.os, h.tape, h.output, h.size, fun k hk hn => h.block k hk (by simpa using fun e : k = g => hn (by rw [e]))⟩
theorem SlotsOk.row {w : World} {q p : Nat} {S U : List Nat} {s : SS} {rv : Value} {R : List (SRow × Value)} (h : SlotsOk w q p S U s rv R) : w.ownsRow 0 192 3 rv R.length (rcells R) := h.obj.rows _ (List.mem_singleton.2 rfl)
theorem SlotsOk.there {w : World} {q p : Nat} {S U : List Nat} {s : SS} {rv : Value} {R : List (SRow × Value)} (h : SlotsOk w q p S U s rv R) (i : Nat) (hi : i < s.rows.length) (g cap : Nat) (hrv : rv = .slice (some ⟨g, 0, none⟩) s.rows.length cap) : w.there g (i * 3) 3 := by
  have hl := h.len
  rcases h.row.2 with ⟨h1, h2⟩ | ⟨g', cap', cur, h1, _, hb, h3, h4, h5, _⟩
  · omega
  · rw [hrv] at h1
    obtain ⟨rfl, -, rfl⟩ : g = g' ∧ s.rows.length = R.length ∧ cap = cap' := by simpa using h1
    intro j hj
    have hlt : i * 3 + j < cur.size := by
      have : (i + 1) * 3 ≤ cap * 3 := Nat.mul_le_mul_right _ (by omega)
      omega
    exact ⟨by rw [blk_cell hb _ _ (Array.getElem?_eq_getElem hlt)]; rfl, blk_frozen hb _⟩
theorem SlotsOk.setRow {w : World} {q p : Nat} {S U : List Nat} {s : SS} {rv : Value} {R : List (SRow × Value)} (h : SlotsOk w q p S U s rv R) (i : Nat) (hi : i < s.rows.length) (g cap : Nat) (hrv : rv = .slice (some ⟨g, 0, none⟩) s.rows.length cap)
    (r : SRow) (kv : Value) (hk : BytesAt w kv r.key) (hkU : ∀ k, kv.ownBlock = some k → k < w.heap.size ∧ k ∉ U) (hr : r.n ≤ 448 ∧ r.key.length ≤ 40) :
    Sid w (w.setCells g (i * 3) [.bool r.used, .int .i64 (r.n : Int), kv]) q p U { s with rows := s.rows.set i r } := by
  have hl := h.len
  have hC : Chg [g] w (w.setCells g (i * 3) [.bool r.used, .int .i64 (r.n : Int), kv]) := (Chg.refl _ _).setCells (.inl (by simp)) _
  have hob : rv.ownBlock = some g := by rw [hrv]; rfl
  have hgb : g ∈ blks q [rowD rv R] := blks_row (r := rowD rv R) (List.mem_singleton.2 rfl) hob
  have hgU := h.uB g hgb
  have hrow := h.row
  have hR' : (rowD rv (R.set i (r, kv))).At (w.setCells g (i * 3) [.bool r.used, .int .i64 (r.n : Int), kv]) := by
    show (w.setCells g (i * 3) [.bool r.used, .int .i64 (r.n : Int), kv]).ownsRow 0 192 3 rv (R.set i (r, kv)).length (rcells (R.set i (r, kv)))
    rw [List.length_set, rcells_set R i _ (by omega)]
    rw [hrv, ← hl] at hrow ⊢
    exact row_set (row_set (row_set hrow (i * 3) _ (by omega)) (i * 3 + 1) _ (by omega)) (i * 3 + 2) _ (by omega)
  have hgr := ObjAt.grow (a := []) (b := []) h.obj (r' := rowD rv (R.set i (r, kv))) (by rw [show (rowD rv R).v.ownBlock = some g from hob]; exact hC.grownBy) hR' (fun k hk => .inl hk)
  generalize w.setCells g (i * 3) [.bool r.used, .int .i64 (r.n : Int), kv] = W at *
  have hgu : ∀ x ∈ [g], x ∈ U := fun x hx => (List.mem_singleton.1 hx) ▸ hgU
  have hnot : ∀ k, k ∉ U → k ∉ [g] := fun k hk hm => hk (hgu k hm)
  refine ⟨U, ⟨S, rv, R.set i (r, kv), hgr.1, h.disk.keep hC (fun x hx hm => ?_), ?_, h.sep, fun x hx => ?_, h.uS, h.uB, fun x hx => Nat.lt_of_lt_of_le (h.uL x hx) hC.size, ⟨?_, fun x hx => ?_⟩⟩, fun x hx => .inl hx, hC.mono (fun x hx => .inl (hgu x hx))⟩
  · exact h.sep _ hgb (by rw [← List.mem_singleton.1 hm]; exact hx)
  · rw [List.map_set, h.rows]
  · rcases List.mem_or_eq_of_mem_set hx with hx | rfl
    · obtain ⟨k1, k2⟩ := h.keys x hx
      exact ⟨k1.chg hC (fun k hk => hnot k (k2 k hk).2), fun g' hg' => ⟨Nat.lt_of_lt_of_le (k2 g' hg').1 hC.size, (k2 g' hg').2⟩⟩
    · exact ⟨hk.chg hC (fun k hk => hnot k (hkU k hk).2), fun g' hg' => ⟨Nat.lt_of_lt_of_le (hkU g' hg').1 hC.size, (hkU g' hg').2⟩⟩
  · show s.first + 8 * (s.rows.set i r).length ≤ s.d.n
    rw [List.length_set]
    exact h.ok.room
  · rcases List.mem_or_eq_of_mem_set hx with hx | rfl
    · exact h.ok.rows x hx
    · exact hr

/-- The three steps of a head. -/
def h1 : List UInt8 × Int := penNum [] 0 1 1
def h2 (n : Nat) : List UInt8 × Int := penNum h1.1 h1.2 n 2
def h3 (n : Nat) (key : List UInt8) : List UInt8 × Int := penRaw (h2 n).1 (h2 n).2 key
theorem h1_eq : h1 = ([1], 0) := rfl
theorem h2_eq (n : Nat) (hn : n ≤ 448) : h2 n = ([1] ++ beBytes 2 n, 0) := by
  unfold h2
  rw [h1_eq]
  unfold penNum
  dsimp only
  rw [if_neg (by simp), if_neg (by omega)]
  unfold penAdd
  rw [if_neg (by simp), if_neg (by simp [beBytes_len]), Int.toNat_natCast]
theorem h3_eq (n : Nat) (key : List UInt8) (hn : n ≤ 448) (hk : key.length ≤ 40) : h3 n key = ([1] ++ beBytes 2 n ++ (beBytes 2 key.length ++ key), 0) := by
  unfold h3
  rw [h2_eq n hn]
  unfold penRaw
  rw [if_neg (by simp), if_neg (by omega)]
  unfold penAdd
  rw [if_neg (by simp), if_neg (by simp [beBytes_len]; omega)]
theorem head_h3 (n : Nat) (key : List UInt8) : headBytes n key = (h3 n key).1 := rfl
theorem headBytes_len (n : Nat) (key : List UInt8) (hn : n ≤ 448) (hk : key.length ≤ 40) : (headBytes n key).length = 5 + key.length := by
  rw [head_h3, h3_eq n key hn hk]
  simp [beBytes_len]; omega
theorem DS.lays_ok (d : DS) (pos : Nat) (b : List UInt8) : (d.lays pos b).2.n = d.n ∧ (d.lays pos b).2.ops ≤ d.ops + nsec b.length + 1 ∧ (d.lays pos b).2.since.length ≤ d.since.length + nsec b.length := DS.lay_ok _ _ _ _ _
end Go.Proofs.YtdkhmfcfihbjeaaGreatDoor.W

/- Package slot: Put. -/
namespace Go.Proofs.YtdkhmfcfihbjeaaGreatDoor.W
open Go.RowKit
set_option linter.unusedVariables false
set_option linter.unusedSimpArgs false

/-- What a change of the slots answers. -/
def SidPost (w : World) (q p : Nat) (U : List Nat) (r : Int × SS) (e : Ending) (w' : World) : Prop := e = .returned (.int .i64 r.1) ∧ Sid w w' q p U r.2
theorem SidPost.same {w : World} {q p : Nat} {U : List Nat} {s : SS} {c : Int} (h : SlotsAt w q p U s) : SidPost w q p U (c, s) (.returned (.int .i64 c)) w := ⟨rfl, Sid.same h⟩

theorem SlotsOk.keep0 {w w' : World} {q p : Nat} {S U : List Nat} {s : SS} {rv : Value} {R : List (SRow × Value)} (h : SlotsOk w q p S U s rv R) (hc : Chg [] w w') : SlotsOk w' q p S U s rv R :=
  ⟨h.obj.keep hc (by simp), h.disk.keep hc (by simp), h.rows, h.sep, fun x hx => ⟨(h.keys x hx).1.chg hc (by simp), fun g hg => ⟨Nat.lt_of_lt_of_le ((h.keys x hx).2 g hg).1 hc.size, ((h.keys x hx).2 g hg).2⟩⟩, h.uS, h.uB, fun x hx => Nat.lt_of_lt_of_le (h.uL x hx) hc.size, h.ok⟩

set_option maxHeartbeats 8000000 in
set_option maxRecDepth 100000 in
theorem sput_any (q p : Nat) (U : List Nat) (s : SS) (i : Int) (kv bv : Value) (key b : List UInt8) (w : World) (h : SlotsAt w q p U s) (hk : BytesAt w kv key) (hkU : key ≠ [] → ∀ k, kv.ownBlock = some k → k ∉ U) (hb : BytesAt w bv b) (hbU : b ≠ [] → ∀ k, bv.ownBlock = some k → k ∉ U)
    (hkl : key.length ≤ 1000000) (hbl : b.length ≤ 1000000) (ho : s.d.ops ≤ 900000000) (hw : s.d.since.length ≤ 900000) :
    Calls Tryz.prog 147 #[.pointer (some ⟨q, 0, none⟩), .int .i64 i, kv, bv] w (SidPost w q p U (s.put i key b)) := by
  have CH := Lib.hid (shas_any q p U s i w h)
  have HS := Lib.hid h
  have HK := Lib.hid hk
  have HB := Lib.hid hb
  obtain ⟨S, rv, R, H⟩ := h
  have c0 : w.cell? ⟨q, 0, none⟩ = some (.pointer (some ⟨p, 0, none⟩)) := blk_cell H.obj.head 0 _ rfl
  have c2 : w.cell? ⟨q, 2, none⟩ = some rv := blk_cell H.obj.head 2 _ rfl
  obtain ⟨ka, kc, rfl⟩ := hk.slice
  obtain ⟨ba, bc, rfl⟩ := hb.slice
  by_cases hi : s.has i
  · rw [decide_eq_true hi] at CH
    have hi' := hi
    obtain ⟨h0, h1⟩ := hi'
    obtain ⟨j, rfl⟩ := Int.eq_ofNat_of_zero_le h0
    have hjl : j < s.rows.length := by omega
    by_cases hlong : 40 < key.length ∨ 448 < b.length
    · have hg : s.put (j : Int) key b = (3, s) := by unfold SS.put; rw [if_neg (by simpa using hi), if_pos hlong]
      have HP := Lib.hid (SidPost.same (c := 3) HS.out)
      have HG := Lib.hid hg
      rw [HG.out]
      clear H hi hg hk hb hkU hbU c2
      by_cases hk40 : 40 < key.length
      · have hz : (40 : Int) < (key.length : Int) := by omega
        clear hlong hk40
        go_enter Tryz.func147, Tryz.ntmps147
        go_wp2_with (go_at_call 137; refine CH.out.mono ?_; rintro e w' ⟨rfl, hq⟩; subst hq)
        go_ret
        exact HP.out
      · have hz : ¬ (40 : Int) < (key.length : Int) := by omega
        have hz2 : (448 : Int) < (b.length : Int) := by omega
        clear hlong hk40
        go_enter Tryz.func147, Tryz.ntmps147
        go_wp2_with (go_at_call 137; refine CH.out.mono ?_; rintro e w' ⟨rfl, hq⟩; subst hq)
        go_ret
        exact HP.out
    · obtain ⟨hk40, hb448⟩ : key.length ≤ 40 ∧ b.length ≤ 448 := by omega
      obtain ⟨g, cap, kv0, hrv, hcap, hcm, hR, k0, k1, k2, k3, k4⟩ := H.at j hjl
      have hfew := H.few
      have hrow : s.row (j : Int) = s.rows.getD j noRow := rfl
      have hz1 : ¬ (40 : Int) < (key.length : Int) := by omega
      have hz2 : ¬ (448 : Int) < (b.length : Int) := by omega
      by_cases hu : (s.row (j : Int)).used = true
      · have hg : s.put (j : Int) key b = (7, s) := by unfold SS.put; rw [if_neg (by simpa using hi), if_neg hlong, if_pos hu]
        have HP := Lib.hid (SidPost.same (c := 7) HS.out)
        have HG := Lib.hid hg
        rw [HG.out]
        rw [hrow] at hu
        rw [hu] at k0
        subst hrv
        generalize s.rows.getD j noRow = r at *
        generalize s.rows.length = n at *
        have hjz : (j : Int) < (n : Int) := by omega
        have hjz1 : (j : Int).toNat = j := by omega
        clear H hR k1 k2 k3 k4 hu hg hi hrow hlong hk hb hkU hbU
        go_enter Tryz.func147, Tryz.ntmps147
        go_wp2_with (go_at_call 137; refine CH.out.mono ?_; rintro e w' ⟨rfl, hq⟩; subst hq)
        go_ret
        exact HP.out
      · have hu' : (s.rows.getD j noRow).used = false := by rw [← hrow]; simpa using hu
        have hg : s.put (j : Int) key b = if (s.d.lays (s.pos j + 1) b).1 ≠ 0 then ((s.d.lays (s.pos j + 1) b).1, { s with d := (s.d.lays (s.pos j + 1) b).2 }) else
            if ((s.d.lays (s.pos j + 1) b).2.lays (s.pos j) (headBytes b.length key)).1 ≠ 0 then (((s.d.lays (s.pos j + 1) b).2.lays (s.pos j) (headBytes b.length key)).1, { s with d := ((s.d.lays (s.pos j + 1) b).2.lays (s.pos j) (headBytes b.length key)).2 }) else
            (0, { s with d := ((s.d.lays (s.pos j + 1) b).2.lays (s.pos j) (headBytes b.length key)).2, rows := s.rows.set j ⟨true, b.length, key⟩ }) := by
          unfold SS.put
          rw [if_neg (by simpa using hi), if_neg hlong, if_neg hu]
          rfl
        rw [hu'] at k0
        have hpos : s.pos (j : Int) = s.first + 8 * j := rfl
        have hroom := H.ok.room
        have hns : nsec b.length ≤ 7 := by unfold nsec; omega
        have hns2 : nsec (headBytes b.length key).length = 1 := by rw [headBytes_len _ _ hb448 hk40]; unfold nsec; omega
        have CA := Lib.hid (sat_any q p U s j w HS.out (by omega))
        have CL1 := Lib.hid (slay_any q p U s (s.pos j + 1) _ b w HS.out HB.out hbU (by omega) (by omega) (by omega) (by omega))
        have CA2 : Hid (∀ U' d' w', SlotsAt w' q p U' { s with d := d' } → Calls Tryz.prog 162 #[.pointer (some ⟨q, 0, none⟩), .int .i64 (j : Int)] w' fun e w'' => e = .returned (.int .i64 ((s.pos (j : Int) : Nat) : Int)) ∧ w' = w'') := Lib.hid (fun U' d' w' h' => sat_any q p U' { s with d := d' } j w' h' (by omega))
        have CL2 := Lib.hid (fun U' d' v w' (h' : SlotsAt w' q p U' { s with d := d' }) (hn : d'.n = s.d.n) (hv : BytesAt w' v (headBytes b.length key)) hvU ho' hw' => slay_any q p U' { s with d := d' } (s.pos j) v (headBytes b.length key) w' h' hv hvU (by rw [hns2]; show _ ≤ d'.n; omega) (by rw [headBytes_len _ _ hb448 hk40]; omega) ho' hw')
        have hok1 := s.d.lays_ok (s.pos j + 1) b
        have hok2 := (s.d.lays (s.pos j + 1) b).2.lays_ok (s.pos j) (headBytes b.length key)
        rw [hns2] at hok2
        obtain ⟨Z, hZ⟩ : ∃ Z, Z = s.put (j : Int) key b := ⟨_, rfl⟩
        rw [← hZ] at hg ⊢
        have HKU := Lib.hid hkU
        have HBU := Lib.hid hbU
        have HN2 := Lib.hid hns2
        have hjz : (j : Int) < (s.rows.length : Int) := by omega
        have hjz1 : (j : Int).toNat = j := by omega
        have hpl : s.pos (j : Int) ≤ 4160 := by omega
        subst hrv
        have H3 : Hid ((h2 b.length).2 = 0 ∧ (h3 b.length key).2 = 0) := Lib.hid ⟨by rw [h2_eq _ hb448], by rw [h3_eq _ _ hb448 hk40]⟩
        clear H hR k1 k2 k3 k4 hu hu' hi hrow hlong hk hb hkU hbU hpos hroom hns2 hZ
        generalize s.d.lays (s.pos j + 1) b = z1 at *
        obtain ⟨r1, d1⟩ := z1
        dsimp only at CL1 CL2 hok1 hok2 hg
        obtain ⟨pos, hps⟩ : ∃ pos, pos = s.pos (j : Int) := ⟨_, rfl⟩
        rw [← hps] at CL1 CL2 CA CA2 hpl hok2 hg
        have HG := Lib.hid hg
        clear hg
        have HPS := Lib.hid hps
        obtain ⟨n, hn⟩ : ∃ n, n = s.rows.length := ⟨_, rfl⟩
        rw [← hn] at c2 hjz hcap hjl
        have HN := Lib.hid hn
        clear hps hn h1 hfew
        go_enter Tryz.func147, Tryz.ntmps147
        go_wp2_with (first
          | (go_at_call 137; refine CH.out.mono ?_; rintro e w' ⟨rfl, hq⟩; subst hq)
          | (go_at_call 162; refine CA.out.mono ?_; rintro e w' ⟨rfl, hq⟩; subst hq))
        refine CL1.out.mono ?_
        rintro e w1 ⟨rfl, hs1⟩
        by_cases hr1 : r1 = 0
        · subst hr1
          have HG1 := Lib.hid HG.out
          rw [if_neg (show ¬ (0 : Int) ≠ 0 by simp)] at HG1
          obtain ⟨U1, hS1, hU1, hC1⟩ := hs1
          obtain ⟨w2, hw2⟩ : ∃ w2, w2 = w1.alloc (.cells #[.slice none 0 0, .int .i64 0] 110) := ⟨_, rfl⟩
          have hc2 : Chg [] w1 w2 := by rw [hw2]; exact (Chg.refl _ _).alloc _
          have hp2 : PenAt 110 w2 w1.heap.size none [] 0 := ⟨.slice none 0 0, by rw [hw2]; exact heap_alloc_new w1 _, BRow.nil _, rfl, by simp, by simp⟩
          have HS1 := Lib.hid hS1
          have HU1 := Lib.hid hU1
          have HC1 := Lib.hid hC1
          have HW2 := Lib.hid hw2
          have CN1 := Lib.hid (pnum_any w1.heap.size none [] 0 1 1 w2 hp2 (by omega) (by omega))
          rw [show penNum [] 0 1 (1 : Int).toNat = h1 from rfl] at CN1
          have HC2 := Lib.hid hc2
          clear hS1 hU1 hC1 hw2 hp2 hc2 CL1
          go_wp2_with fail
          rw [← HW2.out]
          refine CN1.out.mono ?_
          rintro e w3 ⟨rfl, hw3⟩
          obtain ⟨g3, hp3, hg3, hc3⟩ := hw3
          have HC3 : Hid (Chg [] w1 w3) := Lib.hid (HC2.out.trans hc3 (fun x hx => .inr (by
            have : x = w1.heap.size := by simpa using hx
            omega)))
          have hge3 : ∀ k, g3 = some k → w1.heap.size ≤ k := by
            intro k hk
            rcases hg3 with rfl | ⟨k', rfl, h'⟩
            · cases hk
            · obtain rfl : k' = k := by simpa using hk
              exact Nat.le_trans HC2.out.size h'
          have CN2 := Lib.hid (pnum_any w1.heap.size g3 h1.1 h1.2 (b.length : Int) 2 w3 hp3 (by omega) (by omega))
          rw [show penNum h1.1 h1.2 (b.length : Int) (2 : Int).toNat = h2 b.length from rfl] at CN2
          have HGE3 := Lib.hid hge3
          clear hp3 hg3 hc3 hge3 CN1
          go_wp2_with fail
          refine CN2.out.mono ?_
          rintro e w4 ⟨rfl, hw4⟩
          obtain ⟨g4, hp4, hg4, hc4⟩ := hw4
          have HC4 : Hid (Chg [] w1 w4) := Lib.hid (HC3.out.trans hc4 (fun x hx => .inr (by
            rcases List.mem_cons.1 hx with rfl | hx
            · exact Nat.le_refl _
            · exact HGE3.out x (by simpa using hx))))
          have hge4 : ∀ k, g4 = some k → w1.heap.size ≤ k := by
            intro k hk
            rcases hg4 with rfl | ⟨k', rfl, h'⟩
            · exact HGE3.out k hk
            · obtain rfl : k' = k := by simpa using hk
              exact Nat.le_trans HC3.out.size h'
          have hkey4 : BytesAt w4 (.slice ka key.length kc) key := (HK.out.chgW HC1.out HKU.out).chg HC4.out (by simp)
          have CR := Lib.hid (praw_any w1.heap.size g4 (h2 b.length).1 (h2 b.length).2 _ key w4 hp4 hkey4 (by omega))
          rw [show penRaw (h2 b.length).1 (h2 b.length).2 key = h3 b.length key from rfl] at CR
          have HGE4 := Lib.hid hge4
          clear hp4 hg4 hc4 hge4 CN2 hkey4
          go_wp2_with fail
          refine CR.out.mono ?_
          rintro e w5 ⟨rfl, hw5⟩
          obtain ⟨g5, hp5, hg5, hc5⟩ := hw5
          have HC5 : Hid (Chg [] w1 w5) := Lib.hid (HC4.out.trans hc5 (fun x hx => .inr (by
            rcases List.mem_cons.1 hx with rfl | hx
            · exact Nat.le_refl _
            · exact HGE4.out x (by simpa using hx))))
          rw [H3.out.2] at hp5
          have CB := Lib.hid (pbytes_any w1.heap.size g5 (h3 b.length key).1 w5 hp5)
          rw [← head_h3] at CB
          clear hp5 hg5 hc5 CR
          go_wp2_with fail
          refine CB.out.mono ?_
          rintro e w6 ⟨v6, rfl, hr6, ho6, hc6⟩
          have HC6 : Hid (Chg [] w1 w6) := Lib.hid (HC5.out.trans hc6 (by simp))
          have hS6 : SlotsAt w6 q p U1 { s with d := d1 } := HS1.out.keep0 HC6.out
          have hv6 : headBytes b.length key ≠ [] → ∀ k, v6.ownBlock = some k → k ∉ U1 := fun _ k hk hm => by
            have a1 := ho6 k hk
            obtain ⟨_, _, _, H1⟩ := HS1.out
            have a2 := H1.uL k hm
            have a3 := HC5.out.size
            omega
          have CAT := Lib.hid (CA2.out U1 d1 w6 hS6)
          have CL := Lib.hid (CL2.out U1 d1 v6 w6 hS6 hok1.1 hr6.bytes hv6 (by rw [HN2.out]; show d1.ops + 1 + 1 ≤ _; omega) (by rw [HN2.out]; show d1.since.length + 1 ≤ _; omega))
          clear CL2 CA2 hS6 hv6 hr6 ho6 hc6 CB
          generalize d1.lays pos (headBytes b.length key) = z2 at *
          obtain ⟨r2, d2⟩ := z2
          dsimp only at CL hok2 HG1
          go_wp2_with (go_at_call 162; refine CAT.out.mono ?_; rintro e w' ⟨rfl, hq⟩; subst hq)
          refine CL.out.mono ?_
          rintro e w7 ⟨rfl, hs7⟩
          have hs7' := Sid.glue HU1.out HC1.out (Sid.pre HC6.out hs7)
          by_cases hr2 : r2 = 0
          · subst hr2
            rw [if_neg (show ¬ (0 : Int) ≠ 0 by simp)] at HG1
            obtain ⟨U7, ⟨S7, rv7, R7, H7⟩, hU7, hC7⟩ := hs7'
            have c07 : w7.cell? ⟨q, 0, none⟩ = some (.pointer (some ⟨p, 0, none⟩)) := blk_cell H7.obj.head 0 _ rfl
            obtain ⟨g7, cap7, kv7, hrv7, hcap7, hcm7, hR7, _, _, _, _, _⟩ := H7.at j (by rw [HN.out] at hjl; exact hjl)
            have c27 : w7.cell? ⟨q, 2, none⟩ = some rv7 := blk_cell H7.obj.head 2 _ rfl
            rw [show ({ s with d := d2 } : SS).rows.length = s.rows.length from rfl, ← HN.out] at hrv7 hcap7
            have CC := Lib.hid (clone_any _ key w7.drew ((HK.out.chgW hC7 HKU.out).chg (by exact (Chg.refl [] w7).drew) (by simp)) (by omega))
            have HH7 := Lib.hid H7
            have HU7 := Lib.hid hU7
            have HC7 := Lib.hid hC7
            have HRV : Hid (∃ x, x = rv7 ∧ x = .slice (some ⟨g7, 0, none⟩) n cap7) := Lib.hid ⟨rv7, rfl, hrv7⟩
            subst hrv7
            clear H7 hU7 hC7 hs7 hR7 CL CAT
            go_wp2_with fail
            refine wp_region_L [(11, fun w' => w'.cell? ⟨q, 2, none⟩ = some (.slice (some ⟨g7, 0, none⟩) n cap7))] (by kernel_rfl) ?_ (fun hHeld => ?_)
            · exact (HoldC.cons (c27) HoldC.nil)
            refine wpAnyL_take (i := 0) (oi := _) (v := ?_) rfl (by kernel_rfl) (by kernel_rfl) (by kernel_rfl) (by kernel_rfl) (by kernel_rfl) (fun _ _ _ h => h) (Or.inl ⟨by rfl, ?_⟩) (by assumption) (fun hNew => ?_)
            rotate_left
            · intro w _
              go_simp
              try with_reducible rfl
            clear hHeld
            have hHeld := hNew
            clear hNew
            try simp only [List.getElem_toArray, List.getElem_cons_succ, List.getElem_cons_zero, Act.put, List.setIfInBounds_toArray, List.set_cons_zero, List.set_cons_succ]
            refine wpAnyL_take (i := 1) (oi := _) (v := ?_) rfl (by kernel_rfl) (by kernel_rfl) (by kernel_rfl) (by kernel_rfl) (by kernel_rfl) (fun _ _ _ h => h) (Or.inl ⟨by rfl, ?_⟩) (by assumption) (fun hNew => ?_)
            rotate_left
            · intro w _
              go_simp
              try with_reducible rfl
            clear hHeld
            have hHeld := hNew
            clear hNew
            try simp only [List.getElem_toArray, List.getElem_cons_succ, List.getElem_cons_zero, Act.put, List.setIfInBounds_toArray, List.set_cons_zero, List.set_cons_succ]
            refine wpAnyL_take (i := 2) (oi := _) (v := ?_) rfl (by kernel_rfl) (by kernel_rfl) (by kernel_rfl) (by kernel_rfl) (by kernel_rfl) (fun _ _ _ h => h) (Or.inl ⟨by rfl, ?_⟩) (by assumption) (fun hNew => ?_)
            rotate_left
            · intro w _
              go_simp
              try with_reducible rfl
            clear hHeld
            have hHeld := hNew
            clear hNew
            try simp only [List.getElem_toArray, List.getElem_cons_succ, List.getElem_cons_zero, Act.put, List.setIfInBounds_toArray, List.set_cons_zero, List.set_cons_succ]
            refine wpAnyL_load 0 (i := 3) (oi := _) (v := ?_) rfl rfl (by kernel_rfl) (by kernel_rfl) (by kernel_rfl) (by kernel_rfl) (by kernel_rfl) (by kernel_rfl) (fun _ _ _ h => h) (Or.inl ⟨by rfl, ?_⟩) (by assumption) (fun hNew => ?_)
            rotate_left
            · intro w hSw
              (try dsimp only at hSw)
              go_simp
              try with_reducible rfl
            clear hHeld
            have hHeld := hNew
            clear hNew
            try simp only [List.getElem_toArray, List.getElem_cons_succ, List.getElem_cons_zero, Act.put, List.setIfInBounds_toArray, List.set_cons_zero, List.set_cons_succ]
            refine wpAnyL_take (i := 4) (oi := _) (v := ?_) rfl (by kernel_rfl) (by kernel_rfl) (by kernel_rfl) (by kernel_rfl) (by kernel_rfl) (fun _ _ _ h => h) (Or.inl ⟨by rfl, ?_⟩) (by assumption) (fun hNew => ?_)
            rotate_left
            · intro w _
              go_simp
              try with_reducible rfl
            clear hHeld
            have hHeld := hNew
            clear hNew
            try simp only [List.getElem_toArray, List.getElem_cons_succ, List.getElem_cons_zero, Act.put, List.setIfInBounds_toArray, List.set_cons_zero, List.set_cons_succ]
            refine wpAnyL_take (i := 5) (oi := _) (v := ?_) rfl (by kernel_rfl) (by kernel_rfl) (by kernel_rfl) (by kernel_rfl) (by kernel_rfl) (fun _ _ _ h => h) (Or.inl ⟨by rfl, ?_⟩) (by assumption) (fun hNew => ?_)
            rotate_left
            · intro w _
              go_simp
              try with_reducible rfl
            clear hHeld
            have hHeld := hNew
            clear hNew
            try simp only [List.getElem_toArray, List.getElem_cons_succ, List.getElem_cons_zero, Act.put, List.setIfInBounds_toArray, List.set_cons_zero, List.set_cons_succ]
            refine wpAnyL_take (i := 6) (oi := _) (v := ?_) rfl (by kernel_rfl) (by kernel_rfl) (by kernel_rfl) (by kernel_rfl) (by kernel_rfl) (fun _ _ _ h => h) (Or.inl ⟨by rfl, ?_⟩) (by assumption) (fun hNew => ?_)
            rotate_left
            · intro w _
              go_simp
              try with_reducible rfl
            clear hHeld
            have hHeld := hNew
            clear hNew
            try simp only [List.getElem_toArray, List.getElem_cons_succ, List.getElem_cons_zero, Act.put, List.setIfInBounds_toArray, List.set_cons_zero, List.set_cons_succ]
            refine wpAnyL_take (i := 7) (oi := _) (v := ?_) rfl (by kernel_rfl) (by kernel_rfl) (by kernel_rfl) (by kernel_rfl) (by kernel_rfl) (fun _ _ _ h => h) (Or.inl ⟨by rfl, ?_⟩) (by assumption) (fun hNew => ?_)
            rotate_left
            · intro w _
              go_simp
              try with_reducible rfl
            clear hHeld
            have hHeld := hNew
            clear hNew
            try simp only [List.getElem_toArray, List.getElem_cons_succ, List.getElem_cons_zero, Act.put, List.setIfInBounds_toArray, List.set_cons_zero, List.set_cons_succ]
            refine wpAnyL_ready (rs := [8]) (by kernel_rfl) (by simp) ?_
            refine AllReadyL.cons (o := _) rfl (fun K hK => ?_) AllReadyL.nil
            try simp only [List.getElem_toArray, List.getElem_cons_succ, List.getElem_cons_zero]
            go_simp
            refine CC.out.mono ?_
            rintro e w8 ⟨v8, rfl, hr8, ho8, hc8⟩
            have HC8 : Hid (Chg [] w7 w8) := Lib.hid ((by exact (Chg.refl [] w7).drew : Chg [] w7 w7.drew).trans hc8 (by simp))
            obtain ⟨a8, c8, rfl⟩ := hr8.bytes.slice
            have H8 := HH7.out.keep0 HC8.out
            have HSR := Lib.hid (H8.setRow j (by rw [HN.out] at hjl; exact hjl) g7 cap7 (by rw [HN.out]) ⟨true, b.length, key⟩ _ hr8.bytes (fun k hk => ⟨hr8.lt k hk, fun hm => by
              have a1 := ho8 k hk
              have a2 := HH7.out.uL k hm
              have a3 : w7.drew.heap.size = w7.heap.size := rfl
              omega⟩) ⟨hb448, hk40⟩)
            have TH := Lib.hid (H8.there j (by rw [HN.out] at hjl; exact hjl) g7 cap7 (by rw [HN.out]))
            clear H8 hr8 ho8 hc8 CC
            have c28 := HC8.out.cell c27 (by simp)
            try go_wp2_with fail
            clear hHeld
            refine hK.out _ _ ?_ (fun hHeld => ?_)
            · exact (HoldC.cons (c28) HoldC.nil)
            clear hK K
            try simp only [List.getElem_toArray, List.getElem_cons_succ, List.getElem_cons_zero, Act.put, List.setIfInBounds_toArray, List.set_cons_zero, List.set_cons_succ]
            refine wpAnyL_take (i := 9) (oi := _) (v := ?_) rfl (by kernel_rfl) (by kernel_rfl) (by kernel_rfl) (by kernel_rfl) (by kernel_rfl) (fun _ _ _ h => h) (Or.inl ⟨by rfl, ?_⟩) (by assumption) (fun hNew => ?_)
            rotate_left
            · intro w _
              go_simp
              try with_reducible rfl
            clear hHeld
            have hHeld := hNew
            clear hNew
            try simp only [List.getElem_toArray, List.getElem_cons_succ, List.getElem_cons_zero, Act.put, List.setIfInBounds_toArray, List.set_cons_zero, List.set_cons_succ]
            refine wpAnyL_take (i := 10) (oi := _) (v := ?_) rfl (by kernel_rfl) (by kernel_rfl) (by kernel_rfl) (by kernel_rfl) (by kernel_rfl) (fun _ _ _ h => h) (Or.inl ⟨by rfl, ?_⟩) (by assumption) (fun hNew => ?_)
            rotate_left
            · intro w _
              go_simp
              try with_reducible rfl
            clear hHeld
            have hHeld := hNew
            clear hNew
            try simp only [List.getElem_toArray, List.getElem_cons_succ, List.getElem_cons_zero, Act.put, List.setIfInBounds_toArray, List.set_cons_zero, List.set_cons_succ]
            refine wpAnyL_ready (rs := [11]) (by kernel_rfl) (by simp) ?_
            refine AllReadyL.cons (o := _) rfl (fun K hK => ?_) AllReadyL.nil
            try simp only [List.getElem_toArray, List.getElem_cons_succ, List.getElem_cons_zero]
            rw [if_pos (by rfl)]
            refine wp_store_mid 192 (.tmp 92) (.tmp 91) (by rfl) g7 (j * 3) #[.bool true, .int .i64 (b.length : Int), .slice a8 key.length c8] (by rfl) (by rfl) TH.out (by kernel_rfl) (by simp [Value.oneCell']) ?_
            clear hHeld
            refine hK.out _ _ ?_ (fun hHeld => ?_)
            · exact (HoldC.past (by kernel_rfl) HoldC.nil)
            clear hK K
            try simp only [List.getElem_toArray, List.getElem_cons_succ, List.getElem_cons_zero, Act.put, List.setIfInBounds_toArray, List.set_cons_zero, List.set_cons_succ]
            refine wpAnyL_done (by kernel_rfl) ?_ _
            clear hHeld
            go_wp2
            go_ret
            rw [HG1.out]
            exact ⟨rfl, Sid.glue HU7.out HC7.out (Sid.pre HC8.out HSR.out)⟩
          · have q2 : (r2 != 0) = true := by simp [hr2]
            have HG2 : Hid (Z = (r2, { s with d := d2 })) := Lib.hid (by rw [HG1.out, if_pos hr2])
            have HS7 := Lib.hid hs7'
            clear hs7' hs7 hr2
            go_wp2
            go_ret
            rw [HG2.out]
            exact ⟨rfl, HS7.out⟩
        · have q1 : (r1 != 0) = true := by simp [hr1]
          have HG1 : Hid (Z = (r1, { s with d := d1 })) := Lib.hid (by rw [HG.out, if_pos hr1])
          have HS1 := Lib.hid hs1
          clear hs1 CL1 CL2 hr1
          go_wp2
          go_ret
          rw [HG1.out]
          exact ⟨rfl, HS1.out⟩
  · have hg : s.put i key b = (1, s) := by unfold SS.put; rw [if_pos (by simpa using hi)]
    have HP := Lib.hid (SidPost.same (c := 1) HS.out)
    rw [decide_eq_false hi] at CH
    have HG := Lib.hid hg
    rw [HG.out]
    clear H hi hg hk hb hkU hbU c2
    go_enter Tryz.func147, Tryz.ntmps147
    go_wp2_with (go_at_call 137; refine CH.out.mono ?_; rintro e w' ⟨rfl, hq⟩; subst hq)
    go_ret
    exact HP.out
end Go.Proofs.YtdkhmfcfihbjeaaGreatDoor.W

/- Package slot: Clear. -/
namespace Go.Proofs.YtdkhmfcfihbjeaaGreatDoor.W
open Go.RowKit
set_option linter.unusedVariables false
set_option linter.unusedSimpArgs false

set_option maxHeartbeats 8000000 in
set_option maxRecDepth 100000 in
theorem sclear_any (q p : Nat) (U : List Nat) (s : SS) (i : Int) (w : World) (h : SlotsAt w q p U s) (ho : s.d.ops ≤ 900000000) (hw : s.d.since.length ≤ 900000) :
    Calls Tryz.prog 148 #[.pointer (some ⟨q, 0, none⟩), .int .i64 i] w (SidPost w q p U (s.clear i)) := by
  have CH := Lib.hid (shas_any q p U s i w h)
  have HS := Lib.hid h
  obtain ⟨S, rv, R, H⟩ := h
  have c0 : w.cell? ⟨q, 0, none⟩ = some (.pointer (some ⟨p, 0, none⟩)) := blk_cell H.obj.head 0 _ rfl
  have c2 : w.cell? ⟨q, 2, none⟩ = some rv := blk_cell H.obj.head 2 _ rfl
  by_cases hi : s.has i
  · rw [decide_eq_true hi] at CH
    have hi' := hi
    obtain ⟨h0, h1⟩ := hi'
    obtain ⟨j, rfl⟩ := Int.eq_ofNat_of_zero_le h0
    have hjl : j < s.rows.length := by omega
    obtain ⟨g, cap, kv0, hrv, hcap, hcm, hR, k0, k1, k2, k3, k4⟩ := H.at j hjl
    have hfew := H.few
    have hrow : s.row (j : Int) = s.rows.getD j noRow := rfl
    by_cases hu : (s.row (j : Int)).used = false
    · have hg : s.clear (j : Int) = (6, s) := by unfold SS.clear; rw [if_neg (by simpa using hi), if_pos hu]
      have HP := Lib.hid (SidPost.same (c := 6) HS.out)
      have HG := Lib.hid hg
      rw [HG.out]
      rw [hrow] at hu
      rw [hu] at k0
      subst hrv
      generalize s.rows.getD j noRow = r at *
      generalize s.rows.length = n at *
      have hjz : (j : Int) < (n : Int) := by omega
      have hjz1 : (j : Int).toNat = j := by omega
      clear H hR k1 k2 k3 k4 hu hg hi hrow
      go_enter Tryz.func148, Tryz.ntmps148
      go_wp2_with (go_at_call 137; refine CH.out.mono ?_; rintro e w' ⟨rfl, hq⟩; subst hq)
      go_ret
      exact HP.out
    · have hu' : (s.rows.getD j noRow).used = true := by rw [← hrow]; simpa using hu
      have hg : s.clear (j : Int) = if (s.d.lays (s.pos j) (zeros 64)).1 ≠ 0 then ((s.d.lays (s.pos j) (zeros 64)).1, { s with d := (s.d.lays (s.pos j) (zeros 64)).2 }) else
            (0, { s with d := (s.d.lays (s.pos j) (zeros 64)).2, rows := s.rows.set j noRow }) := by
        unfold SS.clear
        rw [if_neg (by simpa using hi), if_neg hu]
        rfl
      rw [hu'] at k0
      have hpos : s.pos (j : Int) = s.first + 8 * j := rfl
      have hroom := H.ok.room
      have hns : nsec (zeros 64).length = 1 := rfl
      have hzl : (zeros 64).length = 64 := rfl
      have CA : Hid (∀ w', SlotsAt w' q p U s → Calls Tryz.prog 162 #[.pointer (some ⟨q, 0, none⟩), .int .i64 (j : Int)] w' fun e w'' => e = .returned (.int .i64 ((s.pos (j : Int) : Nat) : Int)) ∧ w' = w'') := Lib.hid (fun w' h' => sat_any q p U s j w' h' (by omega))
      have CL : Hid (∀ w', SlotsAt w' q p U s → ∀ N, w'.heap[N]? = some (.cells Z64 5 (0, 0)) → N ∉ U → Calls Tryz.prog 163 #[.pointer (some ⟨q, 0, none⟩), .int .i64 ((s.pos (j : Int) : Nat) : Int), .slice (some ⟨N, 0, none⟩) 64 64] w' fun e w'' => e = .returned (.int .i64 (s.d.lays (s.pos j) (zeros 64)).1) ∧ Sid w' w'' q p U { s with d := (s.d.lays (s.pos j) (zeros 64)).2 }) := Lib.hid (fun w' h' N hN hNU => by
        have hr : BRow w' (.slice (some ⟨N, 0, none⟩) (zeros 64).length (zeros 64).length) (zeros 64) := row_of_block hN (by rw [hzl]; unfold maxLen; omega)
        rw [hzl] at hr
        exact slay_any q p U s (s.pos j) _ (zeros 64) w' h' hr.bytes (fun _ k hk => by
          obtain rfl : N = k := by simpa [Value.ownBlock] using hk
          exact hNU) (by rw [hns]; omega) (by rw [hzl]; omega) (by rw [hns]; omega) (by rw [hns]; omega))
      have hok1 := s.d.lays_ok (s.pos j) (zeros 64)
      obtain ⟨Z, hZ⟩ : ∃ Z, Z = s.clear (j : Int) := ⟨_, rfl⟩
      rw [← hZ] at hg ⊢
      have hjz : (j : Int) < (s.rows.length : Int) := by omega
      have hjz1 : (j : Int).toNat = j := by omega
      have hpl : s.pos (j : Int) ≤ 4160 := by omega
      subst hrv
      have HUL := Lib.hid H.uL
      clear H hR k1 k2 k3 k4 hu hu' hi hrow hpos hroom hns hzl hZ
      generalize s.d.lays (s.pos j) (zeros 64) = z1 at *
      obtain ⟨r1, d1⟩ := z1
      dsimp only at CL hok1 hg
      obtain ⟨pos, hps⟩ : ∃ pos, pos = s.pos (j : Int) := ⟨_, rfl⟩
      rw [← hps] at CL CA hpl
      have HG := Lib.hid hg
      obtain ⟨n, hn⟩ : ∃ n, n = s.rows.length := ⟨_, rfl⟩
      rw [← hn] at c2 hjz hcap hjl
      have HN := Lib.hid hn
      have hmk := make_64
      have HC0 := Lib.hid c0
      have HC2 := Lib.hid c2
      clear hps hn h1 hfew hg
      go_enter Tryz.func148, Tryz.ntmps148
      go_wp2_with (go_at_call 137; refine CH.out.mono ?_; rintro e w' ⟨rfl, hq⟩; subst hq)
      have HSD := Lib.hid (HS.out.keep0 (by exact (Chg.refl [] w).drew))
      have HC6 : Hid (Chg [] w (w.drew.alloc (.cells Z64 5))) := Lib.hid (by exact ((Chg.refl [] w).drew).alloc _)
      have HSA := Lib.hid (HS.out.keep0 HC6.out)
      have CL1 := Lib.hid (CL.out _ HSA.out w.drew.heap.size (heap_alloc_new w.drew _) (fun hm => by
        have a1 := HUL.out _ hm
        have a2 : w.drew.heap.size = w.heap.size := rfl
        omega))
      go_wp2_with fail
      refine wp_region_L [] (by kernel_rfl) ?_ (fun hHeld => ?_)
      · exact HoldC.nil
      refine wpAnyL_take (i := 0) (oi := _) (v := ?_) rfl (by kernel_rfl) (by kernel_rfl) (by kernel_rfl) (by kernel_rfl) (by kernel_rfl) (fun _ _ _ h => h) (Or.inl ⟨by rfl, ?_⟩) (by assumption) (fun hNew => ?_)
      rotate_left
      · intro w _
        go_simp
        try with_reducible rfl
      clear hHeld
      have hHeld := hNew
      clear hNew
      try simp only [List.getElem_toArray, List.getElem_cons_succ, List.getElem_cons_zero, Act.put, List.setIfInBounds_toArray, List.set_cons_zero, List.set_cons_succ]
      refine wpAnyL_take (i := 1) (oi := _) (v := ?_) rfl (by kernel_rfl) (by kernel_rfl) (by kernel_rfl) (by kernel_rfl) (by kernel_rfl) (fun _ _ _ h => h) (Or.inl ⟨by rfl, ?_⟩) (by assumption) (fun hNew => ?_)
      rotate_left
      · intro w _
        go_simp
        try with_reducible rfl
      clear hHeld
      have hHeld := hNew
      clear hNew
      try simp only [List.getElem_toArray, List.getElem_cons_succ, List.getElem_cons_zero, Act.put, List.setIfInBounds_toArray, List.set_cons_zero, List.set_cons_succ]
      refine wpAnyL_take (i := 2) (oi := _) (v := ?_) rfl (by kernel_rfl) (by kernel_rfl) (by kernel_rfl) (by kernel_rfl) (by kernel_rfl) (fun _ _ _ h => h) (Or.inl ⟨by rfl, ?_⟩) (by assumption) (fun hNew => ?_)
      rotate_left
      · intro w _
        go_simp
        try with_reducible rfl
      clear hHeld
      have hHeld := hNew
      clear hNew
      try simp only [List.getElem_toArray, List.getElem_cons_succ, List.getElem_cons_zero, Act.put, List.setIfInBounds_toArray, List.set_cons_zero, List.set_cons_succ]
      refine wpAnyL_ready (rs := [3, 4]) (by kernel_rfl) (by simp) ?_
      refine AllReadyL.cons (o := _) rfl (fun K hK => ?_) (AllReadyL.cons (o := _) rfl (fun K hK => ?_) AllReadyL.nil)
      · try simp only [List.getElem_toArray, List.getElem_cons_succ, List.getElem_cons_zero]
        go_simp
        refine (CA.out w.drew HSD.out).mono ?_
        rintro e w' ⟨rfl, hq⟩
        subst hq
        try go_wp2_with fail
        clear hHeld
        refine hK.out _ _ ?_ (fun hHeld => ?_)
        · exact HoldC.nil
        clear hK K
        try simp only [List.getElem_toArray, List.getElem_cons_succ, List.getElem_cons_zero, Act.put, List.setIfInBounds_toArray, List.set_cons_zero, List.set_cons_succ]
        refine wpAnyL_ready (rs := [4]) (by kernel_rfl) (by simp) ?_
        refine AllReadyL.cons (o := _) rfl (fun K hK => ?_) AllReadyL.nil
        try simp only [List.getElem_toArray, List.getElem_cons_succ, List.getElem_cons_zero]
        go_simp
        clear hHeld
        refine hK.out _ _ ?_ (fun hHeld => ?_)
        · exact HoldC.nil
        clear hK K
        try simp only [List.getElem_toArray, List.getElem_cons_succ, List.getElem_cons_zero, Act.put, List.setIfInBounds_toArray, List.set_cons_zero, List.set_cons_succ]
        refine wpAnyL_ready (rs := [5]) (by kernel_rfl) (by simp) ?_
        refine AllReadyL.cons (o := _) rfl (fun K hK => ?_) AllReadyL.nil
        try simp only [List.getElem_toArray, List.getElem_cons_succ, List.getElem_cons_zero]
        go_simp
        refine CL1.out.mono ?_
        rintro e w7 ⟨rfl, hs7⟩
        have hs7' := Sid.pre HC6.out hs7
        try go_wp2_with fail
        clear hHeld
        refine hK.out _ _ ?_ (fun hHeld => ?_)
        · exact HoldC.nil
        clear hK K
        try simp only [List.getElem_toArray, List.getElem_cons_succ, List.getElem_cons_zero, Act.put, List.setIfInBounds_toArray, List.set_cons_zero, List.set_cons_succ]
        refine wpAnyL_take (i := 6) (oi := _) (v := ?_) rfl (by kernel_rfl) (by kernel_rfl) (by kernel_rfl) (by kernel_rfl) (by kernel_rfl) (fun _ _ _ h => h) (Or.inl ⟨by rfl, ?_⟩) (by assumption) (fun hNew => ?_)
        rotate_left
        · intro w _
          go_simp
          try with_reducible rfl
        clear hHeld
        have hHeld := hNew
        clear hNew
        try simp only [List.getElem_toArray, List.getElem_cons_succ, List.getElem_cons_zero, Act.put, List.setIfInBounds_toArray, List.set_cons_zero, List.set_cons_succ]
        refine wpAnyL_done (by kernel_rfl) ?_ _
        clear hHeld
        by_cases hr1 : r1 = 0
        · subst hr1
          have HG1 := Lib.hid HG.out
          rw [if_neg (show ¬ (0 : Int) ≠ 0 by simp)] at HG1
          obtain ⟨U7, ⟨S7, rv7, R7, H7⟩, hU7, hC7⟩ := hs7'
          have c27 : w7.cell? ⟨q, 2, none⟩ = some rv7 := blk_cell H7.obj.head 2 _ rfl
          obtain ⟨g7, cap7, kv7, hrv7, hcap7, hcm7, hR7, _, _, _, _, _⟩ := H7.at j (by rw [HN.out] at hjl; exact hjl)
          rw [show ({ s with d := d1 } : SS).rows.length = s.rows.length from rfl, ← HN.out] at hrv7 hcap7
          have HSR := Lib.hid (H7.setRow j (by rw [HN.out] at hjl; exact hjl) g7 cap7 (by rw [hrv7, HN.out]) noRow (.slice none 0 0) (BytesAt.nil _) (by simp [Value.ownBlock]) ⟨by decide, by decide⟩)
          have TH := Lib.hid (H7.there j (by rw [HN.out] at hjl; exact hjl) g7 cap7 (by rw [hrv7, HN.out]))
          have HU7 := Lib.hid hU7
          have HC7 := Lib.hid hC7
          subst hrv7
          clear H7 hU7 hC7 hs7 hR7 CL CL1
          go_wp2_with (refine wpList_store_mid (by rfl) 192 (.tmp 46) (.tmp 45) (by rfl) g7 (j * 3) #[.bool false, .int .i64 0, .slice none 0 0] (by rfl) (by rfl) TH.out (by kernel_rfl) (by simp [Value.oneCell']) ?_)
          go_ret
          rw [HG1.out]
          exact ⟨rfl, Sid.glue HU7.out HC7.out HSR.out⟩
        · have q1 : (r1 != 0) = true := by simp [hr1]
          have HG1 : Hid (Z = (r1, { s with d := d1 })) := Lib.hid (by rw [HG.out, if_pos hr1])
          have HS7 := Lib.hid hs7'
          clear hs7' hs7 hr1 CL CL1
          go_wp2
          go_ret
          rw [HG1.out]
          exact ⟨rfl, HS7.out⟩
      · try simp only [List.getElem_toArray, List.getElem_cons_succ, List.getElem_cons_zero]
        go_simp
        clear hHeld
        refine hK.out _ _ ?_ (fun hHeld => ?_)
        · exact HoldC.nil
        clear hK K
        try simp only [List.getElem_toArray, List.getElem_cons_succ, List.getElem_cons_zero, Act.put, List.setIfInBounds_toArray, List.set_cons_zero, List.set_cons_succ]
        refine wpAnyL_ready (rs := [3]) (by kernel_rfl) (by simp) ?_
        refine AllReadyL.cons (o := _) rfl (fun K hK => ?_) AllReadyL.nil
        try simp only [List.getElem_toArray, List.getElem_cons_succ, List.getElem_cons_zero]
        go_simp
        refine (CA.out _ HSA.out).mono ?_
        rintro e w' ⟨rfl, hq⟩
        subst hq
        try go_wp2_with fail
        clear hHeld
        refine hK.out _ _ ?_ (fun hHeld => ?_)
        · exact HoldC.nil
        clear hK K
        try simp only [List.getElem_toArray, List.getElem_cons_succ, List.getElem_cons_zero, Act.put, List.setIfInBounds_toArray, List.set_cons_zero, List.set_cons_succ]
        refine wpAnyL_ready (rs := [5]) (by kernel_rfl) (by simp) ?_
        refine AllReadyL.cons (o := _) rfl (fun K hK => ?_) AllReadyL.nil
        try simp only [List.getElem_toArray, List.getElem_cons_succ, List.getElem_cons_zero]
        go_simp
        refine CL1.out.mono ?_
        rintro e w7 ⟨rfl, hs7⟩
        have hs7' := Sid.pre HC6.out hs7
        try go_wp2_with fail
        clear hHeld
        refine hK.out _ _ ?_ (fun hHeld => ?_)
        · exact HoldC.nil
        clear hK K
        try simp only [List.getElem_toArray, List.getElem_cons_succ, List.getElem_cons_zero, Act.put, List.setIfInBounds_toArray, List.set_cons_zero, List.set_cons_succ]
        refine wpAnyL_take (i := 6) (oi := _) (v := ?_) rfl (by kernel_rfl) (by kernel_rfl) (by kernel_rfl) (by kernel_rfl) (by kernel_rfl) (fun _ _ _ h => h) (Or.inl ⟨by rfl, ?_⟩) (by assumption) (fun hNew => ?_)
        rotate_left
        · intro w _
          go_simp
          try with_reducible rfl
        clear hHeld
        have hHeld := hNew
        clear hNew
        try simp only [List.getElem_toArray, List.getElem_cons_succ, List.getElem_cons_zero, Act.put, List.setIfInBounds_toArray, List.set_cons_zero, List.set_cons_succ]
        refine wpAnyL_done (by kernel_rfl) ?_ _
        clear hHeld
        by_cases hr1 : r1 = 0
        · subst hr1
          have HG1 := Lib.hid HG.out
          rw [if_neg (show ¬ (0 : Int) ≠ 0 by simp)] at HG1
          obtain ⟨U7, ⟨S7, rv7, R7, H7⟩, hU7, hC7⟩ := hs7'
          have c27 : w7.cell? ⟨q, 2, none⟩ = some rv7 := blk_cell H7.obj.head 2 _ rfl
          obtain ⟨g7, cap7, kv7, hrv7, hcap7, hcm7, hR7, _, _, _, _, _⟩ := H7.at j (by rw [HN.out] at hjl; exact hjl)
          rw [show ({ s with d := d1 } : SS).rows.length = s.rows.length from rfl, ← HN.out] at hrv7 hcap7
          have HSR := Lib.hid (H7.setRow j (by rw [HN.out] at hjl; exact hjl) g7 cap7 (by rw [hrv7, HN.out]) noRow (.slice none 0 0) (BytesAt.nil _) (by simp [Value.ownBlock]) ⟨by decide, by decide⟩)
          have TH := Lib.hid (H7.there j (by rw [HN.out] at hjl; exact hjl) g7 cap7 (by rw [hrv7, HN.out]))
          have HU7 := Lib.hid hU7
          have HC7 := Lib.hid hC7
          subst hrv7
          clear H7 hU7 hC7 hs7 hR7 CL CL1
          go_wp2_with (refine wpList_store_mid (by rfl) 192 (.tmp 46) (.tmp 45) (by rfl) g7 (j * 3) #[.bool false, .int .i64 0, .slice none 0 0] (by rfl) (by rfl) TH.out (by kernel_rfl) (by simp [Value.oneCell']) ?_)
          go_ret
          rw [HG1.out]
          exact ⟨rfl, Sid.glue HU7.out HC7.out HSR.out⟩
        · have q1 : (r1 != 0) = true := by simp [hr1]
          have HG1 : Hid (Z = (r1, { s with d := d1 })) := Lib.hid (by rw [HG.out, if_pos hr1])
          have HS7 := Lib.hid hs7'
          clear hs7' hs7 hr1 CL CL1
          go_wp2
          go_ret
          rw [HG1.out]
          exact ⟨rfl, HS7.out⟩
  · have hg : s.clear i = (1, s) := by unfold SS.clear; rw [if_pos (by simpa using hi)]
    have HP := Lib.hid (SidPost.same (c := 1) HS.out)
    rw [decide_eq_false hi] at CH
    have HG := Lib.hid hg
    rw [HG.out]
    clear H hi hg c2
    go_enter Tryz.func148, Tryz.ntmps148
    go_wp2_with (go_at_call 137; refine CH.out.mono ?_; rintro e w' ⟨rfl, hq⟩; subst hq)
    go_ret
    exact HP.out
end Go.Proofs.YtdkhmfcfihbjeaaGreatDoor.W

/- Package slot: what Open makes. -/
namespace Go.Proofs.YtdkhmfcfihbjeaaGreatDoor.W
open Go.RowKit
set_option linter.unusedVariables false
set_option linter.unusedSimpArgs false

theorem assertB_nil (w : World) : (Instr.typeAssert .nilIface 20 186 true).run Tryz.prog w = .ok (.tuple #[.agg #[.int .i64 0], .bool false]) w := by kernel_rfl
theorem assertB_give (x : Int) (w : World) : (Instr.typeAssert (.iface 186 (.agg #[.int .i64 x])) 20 186 true).run Tryz.prog w = .ok (.tuple #[.agg #[.int .i64 x], .bool true]) w := by kernel_rfl

set_option maxHeartbeats 2000000 in
set_option maxRecDepth 100000 in
theorem catchB_idle (pa pb : Value) (w : World) :
    CallsD Tryz.prog 134 #[pa, pb] .returning w fun e u' w' => e = .returned (.tuple #[]) ∧ u' = .returning ∧ w' = w.alloc (.cells #[.int .i64 0] 186) := by
  have hta := assertB_nil
  refine callsD_of_wpS Tryz.func134 rfl fun c₀ cs hu => ?_
  rw [Tryz.ntmps134]
  change Code.wpS Tryz.prog _ _ ⟨#[pa, pb, undef, undef, undef, undef, undef, undef, undef, undef, undef, undef, undef, undef, undef], []⟩ _ _
  apply wpS_seq
  apply wpS_region
  simp [wpOpsS, go_sem, recoverD, hu, Exit.thenS, hta]
  apply wpS_seq
  apply wpS_region
  simp [wpOpsS, go_sem, Exit.thenS]
  refine wpS_cond (t := false) (by simp [Act.eval]) ?_
  simp only [Bool.false_eq_true, if_false]
  refine wpS_of_wp (wp_skip ?_)
  cases c₀
  simp_all [bodyPostS, results, Tryz.results134]

set_option maxHeartbeats 2000000 in
set_option maxRecDepth 100000 in
theorem catchB_14 (pa pb : Nat) (v1 v2 : Value) (older : List PanicEntry) (w : World) (ha : w.heap[pa]? = some (.cells #[v1] 95 (0, 0))) (hb : w.heap[pb]? = some (.cells #[v2] 26 (0, 0))) (hne : pa ≠ pb) :
    CallsD Tryz.prog 134 #[.pointer (some ⟨pa, 0, none⟩), .pointer (some ⟨pb, 0, none⟩)] (.panicking ({ v := .iface 186 (.agg #[.int .i64 14]), recovered := false } :: older)) w fun e u' w' =>
      e = .returned (.tuple #[]) ∧ u' = .panicking ({ v := .iface 186 (.agg #[.int .i64 14]), recovered := true } :: older) ∧ Chg [pa, pb] w w' ∧ w'.heap[pa]? = some (.cells #[.pointer none] 95 (0, 0)) ∧ w'.heap[pb]? = some (.cells #[.int .i64 14] 26 (0, 0)) := by
  have hta := assertB_give 14
  have ha0 := blk_cell ha 0 _ rfl
  have hb0 := blk_cell hb 0 _ rfl
  have fa0 := blk_frozen ha 0
  have fb0 := blk_frozen hb 0
  have l1 := blk_lt ha
  have l2 := blk_lt hb
  have l3 : ¬ (pa = w.heap.size) := Nat.ne_of_lt l1
  have l4 : ¬ (pb = w.heap.size) := Nat.ne_of_lt l2
  have l5 : ¬ (w.heap.size = pa) := fun e => l3 e.symm
  have l6 : ¬ (w.heap.size = pb) := fun e => l4 e.symm
  have l7 : ¬ (pb = pa) := fun e => hne e.symm
  have HA := Lib.hid ha
  have HB := Lib.hid hb
  clear ha hb
  refine callsD_of_wpS Tryz.func134 rfl fun c₀ cs hu => ?_
  rw [Tryz.ntmps134]
  change Code.wpS Tryz.prog _ _ ⟨#[_, _, undef, undef, undef, undef, undef, undef, undef, undef, undef, undef, undef, undef, undef], []⟩ _ _
  apply wpS_seq
  apply wpS_region
  simp [wpOpsS, go_sem, recoverD, hu, Exit.thenS, hta]
  apply wpS_seq
  apply wpS_region
  simp [wpOpsS, go_sem, Exit.thenS]
  refine wpS_cond (t := true) (by simp [Act.eval]) ?_
  simp only [if_true]
  refine wpS_of_wp ?_
  go_wp2
  refine ⟨rfl, _, rfl, .tuple #[], by simp [results, Tryz.results134], rfl, rfl, ?_, ?_, ?_⟩
  · exact ((((Chg.refl [pa, pb] w).setCell (p := ⟨pa, 0, none⟩) (.inl (by simp)) _).setCell (p := ⟨pb, 0, none⟩) (.inl (by simp)) _).setCell (p := ⟨pb, 0, none⟩) (.inl (by simp)) _).alloc _
  · exact blk_alloc (blk_sets (blk_sets (set_blk HA.out) hne) hne)
  · exact blk_alloc (set_blk (set_blk (blk_sets HB.out l7)))
set_option maxHeartbeats 2000000 in
set_option maxRecDepth 100000 in
theorem catchB_x (pa pb : Nat) (x : Int) (hx : x ≠ 14) (v1 v2 : Value) (older : List PanicEntry) (w : World) (ha : w.heap[pa]? = some (.cells #[v1] 95 (0, 0))) (hb : w.heap[pb]? = some (.cells #[v2] 26 (0, 0))) (hne : pa ≠ pb) :
    CallsD Tryz.prog 134 #[.pointer (some ⟨pa, 0, none⟩), .pointer (some ⟨pb, 0, none⟩)] (.panicking ({ v := .iface 186 (.agg #[.int .i64 x]), recovered := false } :: older)) w fun e u' w' =>
      e = .returned (.tuple #[]) ∧ u' = .panicking ({ v := .iface 186 (.agg #[.int .i64 x]), recovered := true } :: older) ∧ Chg [pa, pb] w w' ∧ w'.heap[pa]? = some (.cells #[.pointer none] 95 (0, 0)) ∧ w'.heap[pb]? = some (.cells #[.int .i64 4] 26 (0, 0)) := by
  have hta := assertB_give x
  have q14 : (x == 14) = false := by simp [hx]
  have ha0 := blk_cell ha 0 _ rfl
  have hb0 := blk_cell hb 0 _ rfl
  have fa0 := blk_frozen ha 0
  have fb0 := blk_frozen hb 0
  have l1 := blk_lt ha
  have l2 := blk_lt hb
  have l3 : ¬ (pa = w.heap.size) := Nat.ne_of_lt l1
  have l4 : ¬ (pb = w.heap.size) := Nat.ne_of_lt l2
  have l5 : ¬ (w.heap.size = pa) := fun e => l3 e.symm
  have l6 : ¬ (w.heap.size = pb) := fun e => l4 e.symm
  have l7 : ¬ (pb = pa) := fun e => hne e.symm
  have HA := Lib.hid ha
  have HB := Lib.hid hb
  clear ha hb hx
  refine callsD_of_wpS Tryz.func134 rfl fun c₀ cs hu => ?_
  rw [Tryz.ntmps134]
  change Code.wpS Tryz.prog _ _ ⟨#[_, _, undef, undef, undef, undef, undef, undef, undef, undef, undef, undef, undef, undef, undef], []⟩ _ _
  apply wpS_seq
  apply wpS_region
  simp [wpOpsS, go_sem, recoverD, hu, Exit.thenS, hta]
  apply wpS_seq
  apply wpS_region
  simp [wpOpsS, go_sem, Exit.thenS]
  refine wpS_cond (t := true) (by simp [Act.eval]) ?_
  simp only [if_true]
  refine wpS_of_wp ?_
  go_wp2
  refine ⟨rfl, _, rfl, .tuple #[], by simp [results, Tryz.results134], rfl, rfl, ?_, ?_, ?_⟩
  · exact (((Chg.refl [pa, pb] w).setCell (p := ⟨pa, 0, none⟩) (.inl (by simp)) _).setCell (p := ⟨pb, 0, none⟩) (.inl (by simp)) _).alloc _
  · exact blk_alloc (blk_sets (set_blk HA.out) hne)
  · exact blk_alloc (set_blk (blk_sets HB.out l7))
end Go.Proofs.YtdkhmfcfihbjeaaGreatDoor.W
namespace Go.Proofs.YtdkhmfcfihbjeaaGreatDoor.W
open Go.RowKit
set_option linter.unusedVariables false
set_option linter.unusedSimpArgs false

def rowsFrom (d : DS) (first : Nat) : Nat → Nat → Option (List SRow)
  | 0, _ => some []
  | m + 1, k => match headOf (d.now (first + 8 * k)) with
    | none => none
    | some r => (rowsFrom d first m (k + 1)).map (r :: ·)
def DS.slots (d : DS) (first : Int) : Int × Option SS :=
  if first < 0 ∨ (d.n : Int) < first then (1, none) else if d.dead = true ∨ d.n = 0 then (14, none) else
  match rowsFrom d first.toNat ((d.n - first.toNat) / 8) 0 with
  | none => (4, none)
  | some rows => (0, some ⟨d, first.toNat, rows⟩)
def OpenPost (p : Nat) (S : List Nat) (w : World) (r : Int × Option SS) (e : Ending) (w' : World) : Prop := Chg [] w w' ∧ match r with
  | (c, none) => e = .returned (.tuple #[.pointer none, .int .i64 c])
  | (c, some s) => ∃ q U, e = .returned (.tuple #[.pointer (some ⟨q, 0, none⟩), .int .i64 c]) ∧ SlotsAt w' q p U s ∧ ∀ x ∈ U, x ∈ S ∨ w.heap.size ≤ x
theorem headOf_ok {b : List UInt8} {r : SRow} (h : headOf b = some r) : r.n ≤ 448 ∧ r.key.length ≤ 40 := by
  unfold headOf at h
  split at h
  · obtain rfl := Option.some.inj h
    exact ⟨by decide, by decide⟩
  · split at h
    · cases h
    · rename_i hn
      obtain rfl := Option.some.inj h
      have hn0 := eyeNum_nonneg (eyeNum b 0 1).2.1 (eyeNum b 0 1).2.2 2
      refine ⟨by dsimp only; omega, ?_⟩
      dsimp only
      unfold eyeRaw
      split
      · simp
      · split
        · simp
        · split
          · simp
          · split
            · simp
            · rw [List.length_take]; omega
theorem rowsFrom_len {d : DS} {first : Nat} : ∀ (m k : Nat) (rows : List SRow), rowsFrom d first m k = some rows → rows.length = m ∧ ∀ r ∈ rows, r.n ≤ 448 ∧ r.key.length ≤ 40 := by
  intro m
  induction m with
  | zero => intro k rows h; obtain rfl := Option.some.inj h; simp
  | succ m ih =>
    intro k rows h
    unfold rowsFrom at h
    cases hh : headOf (d.now (first + 8 * k)) with
    | none => rw [hh] at h; cases h
    | some r =>
      rw [hh] at h
      dsimp only at h
      obtain ⟨t, h1, rfl⟩ := Option.map_eq_some_iff.1 h
      obtain ⟨h2, h3⟩ := ih _ _ h1
      refine ⟨by simp [h2], fun x hx => ?_⟩
      rcases List.mem_cons.1 hx with rfl | hx
      · exact headOf_ok hh
      · exact h3 x hx

/-- While Open is at work. -/
structure OpenAt (w wr : World) (pa pb q p : Nat) (first : Nat) (rv : Value) (R : List (SRow × Value)) : Prop where
  chg : Chg [] w wr
  lo : w.heap.size ≤ pa ∧ w.heap.size ≤ pb
  ca : wr.heap[pa]? = some (.cells #[.pointer (some ⟨q, 0, none⟩)] 95 (0, 0))
  cb : wr.heap[pb]? = some (.cells #[.int .i64 0] 26 (0, 0))
  obj : ObjAt wr q 190 #[.pointer (some ⟨p, 0, none⟩), .int .i64 (first : Int), rv] [rowD rv R]
  new : ∀ x ∈ blks q [rowD rv R], w.heap.size ≤ x ∧ x ≠ pa ∧ x ≠ pb
  keys : ∀ x ∈ R, BytesAt wr x.2 x.1.key ∧ ∀ g, x.2.ownBlock = some g → g < wr.heap.size ∧ w.heap.size ≤ g ∧ g ∉ blks q [rowD rv R] ∧ g ≠ pa ∧ g ≠ pb
theorem OpenAt.keep {w wr w' : World} {pa pb q p first : Nat} {rv : Value} {R : List (SRow × Value)} (h : OpenAt w wr pa pb q p first rv R) (hc : Chg [] wr w') : OpenAt w w' pa pb q p first rv R :=
  ⟨h.chg.trans hc (by simp), h.lo, hc.keep h.ca (by simp), hc.keep h.cb (by simp), h.obj.keep hc (by simp), h.new, fun x hx => ⟨(h.keys x hx).1.chg hc (by simp), fun g hg => ⟨Nat.lt_of_lt_of_le ((h.keys x hx).2 g hg).1 hc.size, ((h.keys x hx).2 g hg).2⟩⟩⟩
theorem OpenAt.more {w wr w2 : World} {pa pb q p first : Nat} {rv rv' : Value} {R : List (SRow × Value)} (h : OpenAt w wr pa pb q p first rv R) (x : SRow × Value) (hg : wr.grownBy w2 rv.ownBlock) (hrow : w2.ownsRow 0 192 3 rv' (R.length + 1) (rcells R ++ rcell x))
    (hat : ∀ k, rv'.ownBlock = some k → rv.ownBlock = some k ∨ (wr.heap.size ≤ k)) (hx : BytesAt wr x.2 x.1.key) (hxU : ∀ g, x.2.ownBlock = some g → g < wr.heap.size ∧ w.heap.size ≤ g ∧ g ∉ blks q [rowD rv R] ∧ g ≠ pa ∧ g ≠ pb) :
    OpenAt w (w2.setCell ⟨q, 2, none⟩ rv') pa pb q p first rv' (R ++ [x]) := by
  have hR' : (rowD rv' (R ++ [x])).At w2 := by
    show w2.ownsRow 0 192 3 rv' (R ++ [x]).length (rcells (R ++ [x]))
    rw [List.length_append, rcells_app]
    exact hrow
  obtain ⟨g1, g2, g3⟩ := ObjAt.grow (a := []) (b := []) h.obj hg hR' hat
  simp only [List.nil_append] at g1 g2 g3
  have g4 := g1.setHead 2 rv'
  have hne := h.new
  have hpa : pa ∉ blks q [rowD rv R] := fun hm => (hne pa hm).2.1 rfl
  have hpb : pb ∉ blks q [rowD rv R] := fun hm => (hne pb hm).2.2 rfl
  have hqa : pa ≠ q := fun e => (hne q blks_head).2.1 e.symm
  have hqb : pb ≠ q := fun e => (hne q blks_head).2.2 e.symm
  have hc : Chg (blks q [rowD rv R]) wr (w2.setCell ⟨q, 2, none⟩ rv') := g3.setCell (p := ⟨q, 2, none⟩) (.inl blks_head) rv'
  have hbw : ∀ x ∈ blks q [rowD rv R], w.heap.size ≤ x := fun x hx => (hne x hx).1
  have hla := blk_lt h.ca
  have hlb := blk_lt h.cb
  refine ⟨h.chg.trans hc (fun x hx => .inr (hbw x hx)), h.lo, hc.keep h.ca hpa, hc.keep h.cb hpb, g4, fun x hx => ?_, fun y hy => ?_⟩
  · rcases g2 x hx with h1 | h1
    · exact hne x h1
    · exact ⟨Nat.le_trans h.chg.size h1, fun e => by rw [e] at h1; omega, fun e => by rw [e] at h1; omega⟩
  · have hout : ∀ g, g < wr.heap.size → g ∉ blks q [rowD rv R] → g ∉ blks q [rowD rv' (R ++ [x])] := fun g h1 h2 hm => by
      rcases g2 g hm with h3 | h3
      · exact h2 h3
      · omega
    rcases List.mem_append.1 hy with hy | hy
    · obtain ⟨k1, k2⟩ := h.keys y hy
      exact ⟨k1.chg hc (fun k hk => (k2 k hk).2.2.1), fun g hg => ⟨Nat.lt_of_lt_of_le (k2 g hg).1 hc.size, (k2 g hg).2.1, hout g (k2 g hg).1 (k2 g hg).2.2.1, (k2 g hg).2.2.2⟩⟩
    · obtain rfl : y = x := by simpa using hy
      exact ⟨hx.chg hc (fun k hk => (hxU k hk).2.2.1), fun g hg => ⟨Nat.lt_of_lt_of_le (hxU g hg).1 hc.size, (hxU g hg).2.1, hout g (hxU g hg).1 (hxU g hg).2.2.1, (hxU g hg).2.2.2⟩⟩
theorem OpenAt.done {w wr : World} {pa pb q p first : Nat} {S : List Nat} {d : DS} {rv : Value} {R : List (SRow × Value)} (h : OpenAt w wr pa pb q p first rv R) (hd : DiskAt w p S d) (hok : SS.Ok ⟨d, first, R.map (·.1)⟩) :
    ∀ w', Chg [pa, pb] wr w' → Chg [] w w' ∧ SlotsAt w' q p (S ++ blks q [rowD rv R]) ⟨d, first, R.map (·.1)⟩ ∧ ∀ x ∈ S ++ blks q [rowD rv R], x ∈ S ∨ w.heap.size ≤ x := fun w' hc => by
  have hlim : ∀ x ∈ S, x < w.heap.size := by
    obtain ⟨gn, gl, cn, cl, v, H⟩ := hd
    exact H.lim
  have hnp : ∀ x ∈ blks q [rowD rv R], x ∉ [pa, pb] := fun x hx hm => by
    rcases List.mem_cons.1 hm with h1 | h1
    · exact (h.new x hx).2.1 h1
    · exact (h.new x hx).2.2 (by simpa using h1)
  have hcw : Chg [] w w' := h.chg.trans hc (fun x hx => .inr (by
    rcases List.mem_cons.1 hx with h1 | h1
    · rw [h1]; exact h.lo.1
    · rw [show x = pb by simpa using h1]; exact h.lo.2))
  refine ⟨hcw, ⟨S, rv, R, h.obj.keep hc hnp, hd.keep hcw (by simp), rfl, fun x hx hm => ?_, fun x hx => ?_, fun x hx => List.mem_append_left _ hx, fun x hx => List.mem_append_right _ hx, fun x hx => ?_, hok⟩, fun x hx => ?_⟩
  · have a1 := (h.new x hx).1
    have a2 := hlim x hm
    omega
  · obtain ⟨k1, k2⟩ := h.keys x hx
    refine ⟨k1.chg hc (fun k hk hm => ?_), fun g hg => ⟨Nat.lt_of_lt_of_le (k2 g hg).1 hc.size, fun hm => ?_⟩⟩
    · obtain ⟨_, _, _, k3, k4⟩ := k2 k hk
      rcases List.mem_cons.1 hm with h1 | h1
      · exact k3 h1
      · exact k4 (by simpa using h1)
    · obtain ⟨_, k3, k4, _⟩ := k2 g hg
      rcases List.mem_append.1 hm with hm | hm
      · have := hlim g hm; omega
      · exact k4 hm
  · rcases List.mem_append.1 hx with hx | hx
    · exact Nat.lt_of_lt_of_le (hlim x hx) hcw.size
    · exact Nat.lt_of_lt_of_le (h.obj.lim x hx) hc.size
  · rcases List.mem_append.1 hx with hx | hx
    · exact .inl hx
    · exact .inr (h.new x hx).1
theorem facts_row : (Tryz.prog.info? 192).map (fun i => (i.zero.map (·.cells.size), i.size, i.bytes)) = some (some 3, 3, 40) := by kernel_rfl
end Go.Proofs.YtdkhmfcfihbjeaaGreatDoor.W

/- Package slot: Open. -/
namespace Go.Proofs.YtdkhmfcfihbjeaaGreatDoor.W
open Go.RowKit
set_option linter.unusedVariables false
set_option linter.unusedSimpArgs false

set_option maxHeartbeats 8000000 in
set_option maxRecDepth 100000 in
theorem sopen_bad (p : Nat) (S : List Nat) (d : DS) (first : Int) (w : World) (h : DiskAt w p S d) (hb : first < 0 ∨ (d.n : Int) < first) :
    Calls Tryz.prog 91 #[.pointer (some ⟨p, 0, none⟩), .int .i64 first] w (OpenPost p S w (d.slots first)) := by
  have hg : d.slots first = (1, none) := by unfold DS.slots; rw [if_pos hb]
  rw [hg]
  have CS := Lib.hid (fun w' (hc : Chg [] w w') => dsectors_any p S d w' (h.keep hc (by simp)))
  clear h hg
  by_cases h0 : first < 0
  · clear hb
    go_enter_defers Tryz.func91, Tryz.ntmps91
    go_wp2_with fail
    exact ⟨.tuple #[.pointer none, .int .i64 1], by simp [results, Tryz.results91, go_sem], ((Chg.refl _ _).alloc _).alloc _, rfl⟩
  · have h1 : (d.n : Int) < first := by omega
    clear hb
    go_enter_defers Tryz.func91, Tryz.ntmps91
    go_wp2_with (go_at_call 78; refine (CS.out _ ?_).mono ?_; first | exact ((Chg.refl _ _).alloc _).alloc _ | skip; rintro e w' ⟨rfl, hq⟩; subst hq)
    exact ⟨.tuple #[.pointer none, .int .i64 1], by simp [results, Tryz.results91, go_sem], ((Chg.refl _ _).alloc _).alloc _, rfl⟩

set_option maxHeartbeats 8000000 in
set_option maxRecDepth 100000 in
theorem sopen_dead (p : Nat) (S : List Nat) (d : DS) (first : Int) (w : World) (h : DiskAt w p S d) (hb : ¬ (first < 0 ∨ (d.n : Int) < first)) (hd : d.dead = true ∨ d.n = 0) :
    Calls Tryz.prog 91 #[.pointer (some ⟨p, 0, none⟩), .int .i64 first] w (OpenPost p S w (d.slots first)) := by
  have hg : d.slots first = (14, none) := by unfold DS.slots; rw [if_neg hb, if_pos hd]
  rw [hg]
  obtain ⟨w2, hw2⟩ : ∃ w2, w2 = (w.alloc (.cells #[.pointer none] 95)).alloc (.cells #[.int .i64 0] 26) := ⟨_, rfl⟩
  have hc2 : Chg [] w w2 := by rw [hw2]; exact ((Chg.refl _ _).alloc _).alloc _
  have CS := Lib.hid (dsectors_any p S d w2 (h.keep hc2 (by simp)))
  have CD := Lib.hid (ddead_any p S d w2 (h.keep hc2 (by simp)))
  have hpa : w2.heap[w.heap.size]? = some (.cells #[.pointer none] 95 (0, 0)) := by rw [hw2]; exact blk_alloc (heap_alloc_new w _)
  have hpb : w2.heap[w.heap.size + 1]? = some (.cells #[.int .i64 0] 26 (0, 0)) := by
    rw [hw2]
    have := heap_alloc_new (w.alloc (.cells #[.pointer none] 95)) (.cells #[.int .i64 0] 26)
    simpa using this
  have CP := Lib.hid (catchB_14 w.heap.size (w.heap.size + 1) _ _ [] w2 hpa hpb (by omega))
  have h0 : ¬ first < 0 := by omega
  have h1 : ¬ (d.n : Int) < first := by omega
  have hmf : ∀ (fn : Fn) (first cap : Array Value) (w : World), (Instr.makeFunc fn first cap).run Tryz.prog w = .ok (.func fn first cap) w := fun _ _ _ _ => rfl
  have HW2 := Lib.hid hw2
  have HC2 := Lib.hid hc2
  clear h hg hb hpa hpb hw2 hc2
  by_cases hdd : d.dead = true
  · rw [hdd] at CD
    clear hd hdd
    go_enter_defers Tryz.func91, Tryz.ntmps91
    go_wp2_with (first
      | (go_at_call 78; rw [← HW2.out]; refine CS.out.mono ?_; rintro e w' ⟨rfl, hq⟩; subst hq)
      | (go_at_call 78; refine CS.out.mono ?_; rintro e w' ⟨rfl, hq⟩; subst hq)
      | (go_at_call 38; refine CD.out.mono ?_; rintro e w' ⟨rfl, hq⟩; subst hq))
    refine leaves_cons (f := 134) (args := #[.pointer (some ⟨w.heap.size, 0, none⟩), .pointer (some ⟨w.heap.size + 1, 0, none⟩)]) (by simp) (by simp [go_sem]) ?_
    refine CP.out.mono ?_
    rintro e u' w'' ⟨rfl, rfl, hc, ha, hb⟩
    exact ⟨.tuple #[.pointer none, .int .i64 14], by simp [results, Tryz.results91, go_sem, blk_cell ha 0 _ rfl, blk_cell hb 0 _ rfl], HC2.out.trans hc (fun x hx => .inr (by simp at hx; omega)), rfl⟩
  · have hdn : d.n = 0 := hd.resolve_left hdd
    have hdf : d.dead = false := by simpa using hdd
    rw [hdf] at CD
    have HDN := Lib.hid hdn
    rw [hdn] at CS h1
    clear hd hdd hdn hdf
    go_enter_defers Tryz.func91, Tryz.ntmps91
    go_wp2_with (first
      | (go_at_call 78; rw [← HW2.out]; refine CS.out.mono ?_; rintro e w' ⟨rfl, hq⟩; subst hq)
      | (go_at_call 78; refine CS.out.mono ?_; rintro e w' ⟨rfl, hq⟩; subst hq)
      | (go_at_call 38; refine CD.out.mono ?_; rintro e w' ⟨rfl, hq⟩; subst hq))
    refine leaves_cons (f := 134) (args := #[.pointer (some ⟨w.heap.size, 0, none⟩), .pointer (some ⟨w.heap.size + 1, 0, none⟩)]) (by simp) (by simp [go_sem]) ?_
    refine CP.out.mono ?_
    rintro e u' w'' ⟨rfl, rfl, hc, ha, hb⟩
    exact ⟨.tuple #[.pointer none, .int .i64 14], by simp [results, Tryz.results91, go_sem, blk_cell ha 0 _ rfl, blk_cell hb 0 _ rfl], HC2.out.trans hc (fun x hx => .inr (by simp at hx; omega)), rfl⟩
end Go.Proofs.YtdkhmfcfihbjeaaGreatDoor.W

/- Package slot: Open, of a disk that lives. -/
namespace Go.Proofs.YtdkhmfcfihbjeaaGreatDoor.W
open Go.RowKit
set_option linter.unusedVariables false
set_option linter.unusedSimpArgs false

/-- 's.rows = append(s.rows, r)', the row just laid into a new block. -/
theorem wp_app_row {o : Oper} {a : Act} {K : Act → World → Prop} {Q : Exit → Act → World → Prop} (s y : Operand) (ho : o.op = .call { callee := .builtin .append, args := #[s, y], argTypes := #[188, 188] })
    {w wr : World} {pa pb q p first : Nat} {rv : Value} {R : List (SRow × Value)} (h : OpenAt w wr pa pb q p first rv R) (x : SRow × Value) (hx : BytesAt wr x.2 x.1.key) (hxU : ∀ g, x.2.ownBlock = some g → g < wr.heap.size ∧ w.heap.size ≤ g ∧ g ∉ blks q [rowD rv R] ∧ g ≠ pa ∧ g ≠ pb)
    (hl : R.length ≤ 1000000) (hs : a.eval s = rv) (hy : a.eval y = .slice (some ⟨wr.heap.size, 0, none⟩) 1 1)
    (hk : ∀ g cap w2, w2.cell? ⟨pa, 0, none⟩ = some (.pointer (some ⟨q, 0, none⟩)) → w2.cell? ⟨q, 2, none⟩ = some rv → w2.frozen? ⟨q, 2, none⟩ = false → q < w2.heap.size → Hid (OpenAt w (w2.setCell ⟨q, 2, none⟩ (.slice (some ⟨g, 0, none⟩) (R.length + 1) cap)) pa pb q p first (.slice (some ⟨g, 0, none⟩) (R.length + 1) cap) (R ++ [x])) → K (a.put o.dst (.slice (some ⟨g, 0, none⟩) (R.length + 1) cap)) w2) :
    Oper.wp Tryz.prog o a (wr.alloc (.cells (rcell x).toArray 192)) K Q := by
  obtain ⟨i, z, hi, hz, h1, h2, h3⟩ := info_three facts_row
  have hrow : wr.ownsRow 0 192 3 rv R.length (rcells R) := h.obj.rows _ (List.mem_singleton.2 rfl)
  obtain ⟨ka, kc, hkv⟩ := hx.slice
  have hrow' : (wr.alloc (.cells (rcell x).toArray 192)).ownsRow 0 192 3 rv R.length (rcells R) := hrow.alloc _
  refine wp_append_lies _ s y 188 ho 0 192 i z 3 40 Tryz.underlying188 hi hz h2 h3 h1 (by omega) rv R.length (rcells R) hs hrow' ⟨wr.heap.size, 0, none⟩ 1 1 (rcell x) hy rfl
    (fun j u hj => by rw [add_none, Nat.zero_add]; exact blk_cell (heap_alloc_new wr _) j u (by simpa using hj)) (fun u hu => by
      unfold rcell at hu
      rw [hkv] at hu
      rcases List.mem_cons.1 hu with rfl | hu
      · rfl
      · rcases List.mem_cons.1 hu with rfl | hu
        · rfl
        · obtain rfl := List.mem_singleton.1 hu
          rfl) (by omega) (by unfold maxLen; omega) (by omega) (Nat.zero_le _) _ rfl ?_
  intro g cap w2 hrow hg hat hlt
  have hg' : wr.grownBy w2 rv.ownBlock := grownBy_trans (World.grownBy_alloc wr _ _) hg
  have hkeep : ∀ k, k < wr.heap.size → rv.ownBlock ≠ some k → w2.heap[k]? = wr.heap[k]? := fun k h1 h2 => hg'.block k h1 (fun e => h2 e.symm)
  have hrb : ∀ k, rv.ownBlock = some k → k ∈ blks q [rowD rv R] := fun k hk => blks_row (r := rowD rv R) (List.mem_singleton.2 rfl) hk
  have hq := (hkeep q (blk_lt h.obj.head) (fun e => (h.obj.row_ne (r := rowD rv R) (List.mem_singleton.2 rfl) e) rfl)).trans h.obj.head
  have hpa := (hkeep pa (blk_lt h.ca) (fun e => (h.new _ (hrb _ e)).2.1 rfl)).trans h.ca
  refine hk g cap w2 (blk_cell hpa 0 _ rfl) (blk_cell hq 2 _ rfl) (blk_frozen hq 2) (blk_lt hq) (Lib.hid (h.more x hg' hrow (fun k hk => ?_) hx hxU))
  obtain rfl : g = k := by simpa [Value.ownBlock] using hk
  rcases hat with h4 | h4
  · exact .inl h4
  · exact .inr (by rw [h4]; simp)

theorem leaves_put {P : Program} {fn : Func} {R : Ending → World → Prop} (i : Nat) (v : Value) (hres : ∀ t : Array Value, results fn (t.setIfInBounds i v) = results fn t) :
    ∀ (ds : List Deferred) (u : FrameMode) (w : World) (t : Array Value), Leaves P fn (t.setIfInBounds i v) R ds u w → Leaves P fn t R ds u w := by
  intro ds
  induction ds with
  | nil =>
    intro u w t h
    cases u with
    | run => exact h
    | returning =>
      obtain ⟨x, h1, h2⟩ := h
      exact ⟨x, by rw [hres] at h1; exact h1, h2⟩
    | panicking c => exact h
  | cons d ds ih =>
    intro u w t h
    obtain ⟨h0, fv, cap, f, args, h1, h2, h3⟩ := h
    refine ⟨h0, fv, cap, f, args, h1, h2, h3.mono ?_⟩
    intro e u' w' hr
    cases e with
    | returned x => exact ih _ _ _ hr
    | panicked c => exact ih _ _ _ hr
    | outgrown => exact hr
theorem open_res (i : Nat) (v : Value) (h4 : i ≠ 4) (h5 : i ≠ 5) (t : Array Value) : results Tryz.f91 (t.setIfInBounds i v) = results Tryz.f91 t := by
  unfold results
  rw [Tryz.results91]
  simp [Array.getElem?_setIfInBounds_ne h4, Array.getElem?_setIfInBounds_ne h5]
theorem openQ {R : Ending → World → Prop} (i : Nat) (v : Value) (h4 : i ≠ 4) (h5 : i ≠ 5) (c : List PanicEntry) (a : Act) (w : World) (h : bodyPostD Tryz.prog Tryz.f91 R (.panic c) (a.put (some i) v) w) : bodyPostD Tryz.prog Tryz.f91 R (.panic c) a w :=
  leaves_put i v (open_res i v h4 h5) _ _ _ _ h

set_option maxHeartbeats 8000000 in
set_option maxRecDepth 100000 in
theorem sopen_live (p : Nat) (S : List Nat) (d : DS) (first : Nat) (w : World) (h : DiskAt w p S d) (hb : first ≤ d.n) (hd : d.dead = false) (hn : d.n ≠ 0) :
    Calls Tryz.prog 91 #[.pointer (some ⟨p, 0, none⟩), .int .i64 (first : Int)] w (OpenPost p S w (d.slots first)) := by
  have hg : d.slots first = match rowsFrom d first ((d.n - first) / 8) 0 with
      | none => (4, none)
      | some rows => (0, some ⟨d, first, rows⟩) := by
    unfold DS.slots
    rw [if_neg (by omega), if_neg (by simp [hd, hn])]
    rfl
  obtain ⟨w2, hw2⟩ : ∃ w2, w2 = (w.alloc (.cells #[.pointer none] 95)).alloc (.cells #[.int .i64 0] 26) := ⟨_, rfl⟩
  obtain ⟨w3, hw3⟩ : ∃ w3, w3 = (w2.setCell ⟨w.heap.size, 0, none⟩ (.pointer (some ⟨w.heap.size + 2, 0, none⟩))).alloc (.cells #[.pointer (some ⟨p, 0, none⟩), .int .i64 (first : Int), .slice none 0 0] 190) := ⟨_, rfl⟩
  have hc2 : Chg [] w w2 := by rw [hw2]; exact ((Chg.refl _ _).alloc _).alloc _
  have CS := Lib.hid (fun w' (hc : Chg [] w w') => dsectors_any p S d w' (h.keep hc (by simp)))
  have CD := Lib.hid (ddead_any p S d w2 (h.keep hc2 (by simp)))
  have CR := Lib.hid (fun k w' (hc : Chg [] w w') => dread_any p S d k w' (h.keep hc (by simp)))
  have hs2 : w2.heap.size = w.heap.size + 2 := by rw [hw2]; simp
  have hpa : w2.heap[w.heap.size]? = some (.cells #[.pointer none] 95 (0, 0)) := by rw [hw2]; exact blk_alloc (heap_alloc_new w _)
  have hpb : w2.heap[w.heap.size + 1]? = some (.cells #[.int .i64 0] 26 (0, 0)) := by
    rw [hw2]
    have := heap_alloc_new (w.alloc (.cells #[.pointer none] 95)) (.cells #[.int .i64 0] 26)
    simpa using this
  have hs2' : (w2.setCell ⟨w.heap.size, 0, none⟩ (.pointer (some ⟨w.heap.size + 2, 0, none⟩))).heap.size = w.heap.size + 2 := by rw [← hs2]; simp [World.setCell]
  have hq2 : ((w2.setCell ⟨w.heap.size, 0, none⟩ (.pointer (some ⟨w.heap.size + 2, 0, none⟩))).alloc (.cells #[.pointer (some ⟨p, 0, none⟩), .int .i64 (first : Int), .slice none 0 0] 190)).heap[w.heap.size + 2]? = some (.cells #[.pointer (some ⟨p, 0, none⟩), .int .i64 (first : Int), .slice none 0 0] 190 (0, 0)) := by
    have h1 := heap_alloc_new (w2.setCell ⟨w.heap.size, 0, none⟩ (.pointer (some ⟨w.heap.size + 2, 0, none⟩))) (.cells #[.pointer (some ⟨p, 0, none⟩), .int .i64 (first : Int), .slice none 0 0] 190)
    rw [hs2'] at h1
    exact h1
  have HO3 : Hid (OpenAt w w3 w.heap.size (w.heap.size + 1) (w.heap.size + 2) p first (.slice none 0 0) []) := Lib.hid (by
    rw [hw3]
    refine ⟨((hc2.setCell (p := ⟨w.heap.size, 0, none⟩) (.inr (Nat.le_refl _)) _).alloc _), ⟨Nat.le_refl _, by omega⟩, blk_alloc (set_blk hpa), blk_alloc (blk_sets hpb (by omega)), ⟨hq2, fun r hr => ?_, by simp [blks, rowD, Value.ownBlock]⟩, fun x hx => ?_, fun x hx => by cases hx⟩
    · obtain rfl : r = rowD (.slice none 0 0) [] := by simpa using hr
      exact ⟨rfl, .inl ⟨rfl, rfl⟩⟩
    · have : x = w.heap.size + 2 := by simpa [blks, rowD, Value.ownBlock] using hx
      omega)
  have hfew : d.n ≤ 4160 := by
    obtain ⟨gn, gl, cn, cl, v, hd⟩ := h
    exact hd.few
  have hlen64 : Hid (∀ k, k < d.n → (d.now k).length = 64) := Lib.hid (by
    obtain ⟨gn, gl, cn, cl, v, hd⟩ := h
    exact fun k hk => hd.now.len k hk)
  have h0 : ¬ (first : Int) < 0 := by omega
  have h1 : ¬ (d.n : Int) < (first : Int) := by omega
  have hnz : ¬ (d.n : Int) = 0 := by omega
  have hnz1 : ((d.n : Int) == 0) = false := by simp [hn]
  have hmf : ∀ (fn : Fn) (first cap : Array Value) (w : World), (Instr.makeFunc fn first cap).run Tryz.prog w = .ok (.func fn first cap) w := fun _ _ _ _ => rfl
  have HDK := Lib.hid h
  have HW2 := Lib.hid hw2
  have HW3 := Lib.hid hw3
  have HC2 := Lib.hid hc2
  have f0 := blk_frozen hpa 0
  have a0 := blk_cell hpa 0 _ rfl
  have l0 := blk_lt hpa
  have hw2z := hs2
  have HG := Lib.hid hg
  rw [hd] at CD
  have HD := Lib.hid hd
  have HPA := Lib.hid hpa
  have HPB := Lib.hid hpb
  obtain ⟨Z, hZ⟩ : ∃ Z, Z = d.slots first := ⟨_, rfl⟩
  rw [← hZ] at HG ⊢
  obtain ⟨m, hm⟩ : ∃ m, m = (d.n - first) / 8 := ⟨_, rfl⟩
  rw [← hm] at HG
  obtain ⟨n, hnn⟩ : ∃ n, n = d.n := ⟨_, rfl⟩
  have HN := Lib.hid hnn
  rw [← hnn] at h1 hnz hnz1 hfew hb CS hm
  have hm8 : first + 8 * m ≤ n ∧ n < first + 8 * m + 8 := by omega
  clear h hg hw2 hw3 hc2 hpa hpb hq2 hs2' hd hZ hn hnn hm
  go_enter_defers Tryz.func91, Tryz.ntmps91
  go_wp2_with (first
      | (go_at_call 78; rw [← HW2.out]; refine (CS.out _ HC2.out).mono ?_; rintro e w' ⟨rfl, hq⟩; subst hq)
      | (go_at_call 78; refine (CS.out _ HC2.out).mono ?_; rintro e w' ⟨rfl, hq⟩; subst hq)
      | (go_at_call 38; refine CD.out.mono ?_; rintro e w' ⟨rfl, hq⟩; subst hq))
  rw [← HW3.out]
  go_loopg [6] m (fun g' s6 wr => ∃ (k : Nat) (rv : Value) (R : List (SRow × Value)), s6 = .int .i64 ((first + 8 * k : Nat) : Int) ∧ k ≤ m ∧ m ≤ k + g' ∧ Hid (OpenAt w wr w.heap.size (w.heap.size + 1) (w.heap.size + 2) p first rv R ∧ R.length = k ∧ rowsFrom d first m 0 = (rowsFrom d first (m - k) k).map (R.map (·.1) ++ ·)))
  case atStart => exact ⟨0, .slice none 0 0, [], by simp, by omega, by omega, Lib.hid ⟨HO3.out, rfl, by simp⟩⟩
  case round =>
    obtain ⟨k, rv, R, rfl, hk, hkg, HR⟩ := hrel
    obtain ⟨hO, hRl, hrows⟩ := HR.out
    have HO := Lib.hid hO
    have HROWS := Lib.hid hrows
    have CSr := Lib.hid (CS.out wr hO.chg)
    clear hO hrows f0 a0 l0 HR
    have hk8 : first + 8 * k ≤ 4160 := by omega
    have hwr : Hid (IntKind.i64.wrap (((first + 8 * k : Nat) : Int) + 8) = ((first + 8 * k + 8 : Nat) : Int)) := Lib.hid (by rw [IntWalk.i64_in _ ⟨by omega, by omega⟩]; push_cast; omega)
    by_cases hlt : k < m
    · have hle : (first : Int) + 8 * (k : Int) + 8 ≤ (n : Int) := by omega
      go_wp2_with (go_at_call 78; refine CSr.out.mono ?_; rintro e w' ⟨rfl, hq⟩; subst hq)
      have hlen := hlen64.out (first + 8 * k) (by rw [← HN.out]; omega)
      have HLEN := Lib.hid hlen
      refine (CR.out _ wr HO.out.chg).mono ?_
      rintro e w4 ⟨he, hc4⟩
      rw [if_neg (by rw [HD.out]; simp), if_pos ⟨by omega, by rw [← HN.out]; omega⟩] at he
      obtain ⟨v4, rfl, hr4, hn4⟩ := he
      rw [show ((first : Int) + 8 * (k : Int)).toNat = first + 8 * k by omega] at hr4
      have HO4 := Lib.hid (HO.out.keep hc4)
      have CH := Lib.hid (head_any v4 (d.now (first + 8 * k)) w4.drew (hr4.bytes.chg (by exact (Chg.refl [] w4).drew) (by simp)) (by rw [hlen]; omega))
      obtain ⟨a4, c4, hv4⟩ := hr4.bytes.slice
      rw [hlen] at hv4
      obtain ⟨b4, hb4⟩ : ∃ b4, b4 = d.now (first + 8 * k) := ⟨_, rfl⟩
      have HB4 := Lib.hid hb4
      rw [← hb4] at CH
      subst hv4
      clear hlen hr4 hn4 hc4 hb4
      have a0 := blk_cell HO4.out.ca 0 _ rfl
      have a1 := blk_cell HO4.out.obj.head 2 _ rfl
      go_wp2_with (go_at_call 135; refine (must_ok _).mono ?_; rintro e w' ⟨rfl, hq⟩; subst hq)
      refine wp_region_L [(11, fun w' => w'.cell? ⟨w.heap.size, 0, none⟩ = some (.pointer (some ⟨w.heap.size + 2, 0, none⟩))), (11, fun w' => w'.cell? ⟨w.heap.size + 2, 2, none⟩ = some rv)] (by kernel_rfl) ?_ (fun hHeld => ?_)
      · exact (HoldC.cons (a0) (HoldC.cons (a1) HoldC.nil))
      refine wpAnyL_load 0 (i := 0) (oi := _) (v := ?_) rfl rfl (by kernel_rfl) (by kernel_rfl) (by kernel_rfl) (by kernel_rfl) (by kernel_rfl) (by kernel_rfl) (by intro c a w hq; refine openQ _ _ ?_ ?_ c a w hq <;> decide) (Or.inl ⟨by rfl, ?_⟩) (by assumption) (fun hNew => ?_)
      rotate_left
      · intro w hSw
        (try dsimp only at hSw)
        go_simp
        try with_reducible rfl
      clear hHeld
      have hHeld := hNew
      clear hNew
      try simp only [List.getElem_toArray, List.getElem_cons_succ, List.getElem_cons_zero, Act.put, List.setIfInBounds_toArray, List.set_cons_zero, List.set_cons_succ]
      refine wpAnyL_load 0 (i := 1) (oi := _) (v := ?_) rfl rfl (by kernel_rfl) (by kernel_rfl) (by kernel_rfl) (by kernel_rfl) (by kernel_rfl) (by kernel_rfl) (by intro c a w hq; refine openQ _ _ ?_ ?_ c a w hq <;> decide) (Or.inl ⟨by rfl, ?_⟩) (by assumption) (fun hNew => ?_)
      rotate_left
      · intro w hSw
        (try dsimp only at hSw)
        go_simp
        try with_reducible rfl
      clear hHeld
      have hHeld := hNew
      clear hNew
      try simp only [List.getElem_toArray, List.getElem_cons_succ, List.getElem_cons_zero, Act.put, List.setIfInBounds_toArray, List.set_cons_zero, List.set_cons_succ]
      refine wpAnyL_take (i := 2) (oi := _) (v := ?_) rfl (by kernel_rfl) (by kernel_rfl) (by kernel_rfl) (by kernel_rfl) (by kernel_rfl) (by intro c a w hq; refine openQ _ _ ?_ ?_ c a w hq <;> decide) (Or.inl ⟨by rfl, ?_⟩) (by assumption) (fun hNew => ?_)
      rotate_left
      · intro w _
        go_simp
        try with_reducible rfl
      clear hHeld
      have hHeld := hNew
      clear hNew
      try simp only [List.getElem_toArray, List.getElem_cons_succ, List.getElem_cons_zero, Act.put, List.setIfInBounds_toArray, List.set_cons_zero, List.set_cons_succ]
      refine wpAnyL_take (i := 3) (oi := _) (v := ?_) rfl (by kernel_rfl) (by kernel_rfl) (by kernel_rfl) (by kernel_rfl) (by kernel_rfl) (by intro c a w hq; refine openQ _ _ ?_ ?_ c a w hq <;> decide) (Or.inl ⟨by rfl, ?_⟩) (by assumption) (fun hNew => ?_)
      rotate_left
      · intro w _
        go_simp
        try with_reducible rfl
      clear hHeld
      have hHeld := hNew
      clear hNew
      try simp only [List.getElem_toArray, List.getElem_cons_succ, List.getElem_cons_zero, Act.put, List.setIfInBounds_toArray, List.set_cons_zero, List.set_cons_succ]
      refine wpAnyL_load 1 (i := 4) (oi := _) (v := ?_) rfl rfl (by kernel_rfl) (by kernel_rfl) (by kernel_rfl) (by kernel_rfl) (by kernel_rfl) (by kernel_rfl) (by intro c a w hq; refine openQ _ _ ?_ ?_ c a w hq <;> decide) (Or.inl ⟨by rfl, ?_⟩) (by assumption) (fun hNew => ?_)
      rotate_left
      · intro w hSw
        (try dsimp only at hSw)
        go_simp
        try with_reducible rfl
      clear hHeld
      have hHeld := hNew
      clear hNew
      try simp only [List.getElem_toArray, List.getElem_cons_succ, List.getElem_cons_zero, Act.put, List.setIfInBounds_toArray, List.set_cons_zero, List.set_cons_succ]
      refine wpAnyL_take (i := 5) (oi := _) (v := ?_) rfl (by kernel_rfl) (by kernel_rfl) (by kernel_rfl) (by kernel_rfl) (by kernel_rfl) (by intro c a w hq; refine openQ _ _ ?_ ?_ c a w hq <;> decide) (Or.inl ⟨by rfl, ?_⟩) (by assumption) (fun hNew => ?_)
      rotate_left
      · intro w _
        go_simp
        try with_reducible rfl
      clear hHeld
      have hHeld := hNew
      clear hNew
      try simp only [List.getElem_toArray, List.getElem_cons_succ, List.getElem_cons_zero, Act.put, List.setIfInBounds_toArray, List.set_cons_zero, List.set_cons_succ]
      refine wpAnyL_ready (rs := [6]) (by kernel_rfl) (by simp) ?_
      refine AllReadyL.cons (o := _) rfl (fun K hK => ?_) AllReadyL.nil
      try simp only [List.getElem_toArray, List.getElem_cons_succ, List.getElem_cons_zero]
      go_simp
      refine CH.out.mono ?_
      rintro e w5 ⟨hc5, hh⟩
      have HO5 := Lib.hid (HO4.out.keep ((by exact (Chg.refl [] w4).drew : Chg [] w4 w4.drew).trans hc5 (by simp)))
      have hc5' : Chg [] w4 w5 := (by exact (Chg.refl [] w4).drew : Chg [] w4 w4.drew).trans hc5 (by simp)
      cases hhd : headOf b4 with
      | none =>
        rw [hhd] at hh
        obtain ⟨x, rfl, hx⟩ := hh
        have HZ : Hid (Z = (4, none)) := Lib.hid (by
          rw [HG.out, HROWS.out, show m - k = (m - (k + 1)) + 1 by omega]
          unfold rowsFrom
          rw [← HB4.out, hhd]
          rfl)
        have CP := Lib.hid (catchB_x w.heap.size (w.heap.size + 1) x hx _ _ [] w5 HO5.out.ca HO5.out.cb (by omega))
        unfold broke
        refine leaves_cons (f := 134) (args := #[.pointer (some ⟨w.heap.size, 0, none⟩), .pointer (some ⟨w.heap.size + 1, 0, none⟩)]) (by simp) (by simp [go_sem]) ?_
        refine CP.out.mono ?_
        rintro e u' w'' ⟨rfl, rfl, hc, ha, hb⟩
        refine ⟨.tuple #[.pointer none, .int .i64 4], by simp [results, Tryz.results91, go_sem, blk_cell ha 0 _ rfl, blk_cell hb 0 _ rfl], ?_⟩
        rw [HZ.out]
        exact ⟨HO5.out.chg.trans hc (fun x hx => .inr (by simp at hx; omega)), rfl⟩
      | some r =>
        rw [hhd] at hh
        obtain ⟨kv, rfl, hr5, ho5⟩ := hh
        have hxU : ∀ g, kv.ownBlock = some g → g < w5.heap.size ∧ w.heap.size ≤ g ∧ g ∉ blks (w.heap.size + 2) [rowD rv R] ∧ g ≠ w.heap.size ∧ g ≠ w.heap.size + 1 := fun g hg => by
          have e1 := ho5 g hg
          have e2 : w4.drew.heap.size = w4.heap.size := rfl
          have e3 := blk_lt HO4.out.cb
          have e4 := HO4.out.chg.size
          refine ⟨hr5.lt g hg, by omega, fun hm => ?_, by omega, by omega⟩
          have := HO4.out.obj.lim g hm
          omega
        have HXU := Lib.hid hxU
        have HBX := Lib.hid hr5.bytes
        obtain ⟨iw, zw, hiw, hzw1, hzw2, hzw3, hzw4⟩ := info_three facts_row
        have HIW := Lib.hid hiw
        have HZ1 := Lib.hid hzw1
        have HZ3 : Hid (iw.size = (rcell (r, kv)).toArray.size) := Lib.hid (by rw [hzw3]; rfl)
        have HWS : Hid ((rcell (r, kv)).toArray.size = 3) := Lib.hid rfl
        have HRC : Hid (rowsFrom d first m 0 = (rowsFrom d first (m - (k + 1)) (k + 1)).map ((R ++ [(r, kv)]).map (·.1) ++ ·)) := Lib.hid (by
          rw [HROWS.out, show m - k = (m - (k + 1)) + 1 by omega]
          conv => lhs; unfold rowsFrom
          rw [← HB4.out, hhd]
          dsimp only
          rw [Option.map_map]
          congr 1
          funext t
          simp)
        clear hhd hxU hr5 ho5 hc5 hc5' hiw hzw1 hzw2 hzw3 hzw4 CH HB4 HLEN
        have a5 := blk_cell HO5.out.ca 0 _ rfl
        have b5 := blk_cell HO5.out.obj.head 2 _ rfl
        try go_wp2_with fail
        clear hHeld
        refine hK.out _ _ ?_ (fun hHeld => ?_)
        · exact (HoldC.cons (a5) (HoldC.cons (b5) HoldC.nil))
        clear hK K
        try simp only [List.getElem_toArray, List.getElem_cons_succ, List.getElem_cons_zero, Act.put, List.setIfInBounds_toArray, List.set_cons_zero, List.set_cons_succ]
        refine wpAnyL_ready (rs := [7]) (by kernel_rfl) (by simp) ?_
        refine AllReadyL.cons (o := _) rfl (fun K hK => ?_) AllReadyL.nil
        try simp only [List.getElem_toArray, List.getElem_cons_succ, List.getElem_cons_zero]
        rw [if_pos (by rfl)]
        refine wp_slice1 188 192 (.tmp 57) (by rfl) (rcell (r, kv)).toArray (by rfl) iw zw Tryz.underlying188 HIW.out HZ1.out HZ3.out (by rw [HWS.out]; omega) (by rw [HWS.out]; omega) ?_
        clear hHeld
        refine hK.out _ _ ?_ (fun hHeld => ?_)
        · exact (HoldC.cons ((blk_cell (blk_alloc HO5.out.ca) 0 _ rfl)) (HoldC.cons ((blk_cell (blk_alloc HO5.out.obj.head) 2 _ rfl)) HoldC.nil))
        clear hK K
        try simp only [List.getElem_toArray, List.getElem_cons_succ, List.getElem_cons_zero, Act.put, List.setIfInBounds_toArray, List.set_cons_zero, List.set_cons_succ]
        refine wpAnyL_ready (rs := [8]) (by kernel_rfl) (by simp) ?_
        refine AllReadyL.cons (o := _) rfl (fun K hK => ?_) AllReadyL.nil
        try simp only [List.getElem_toArray, List.getElem_cons_succ, List.getElem_cons_zero]
        rw [if_pos (by rfl)]
        refine wp_app_row (.tmp 55) (.tmp 58) (by rfl) HO5.out (r, kv) HBX.out HXU.out (by omega) (by rfl) (by rfl) ?_
        intro g2 cap2 w6 ea eb ef el HO6
        clear hHeld
        refine hK.out _ _ ?_ (fun hHeld => ?_)
        · exact (HoldC.cons (ea) (HoldC.cons (eb) HoldC.nil))
        clear hK K
        try simp only [List.getElem_toArray, List.getElem_cons_succ, List.getElem_cons_zero, Act.put, List.setIfInBounds_toArray, List.set_cons_zero, List.set_cons_succ]
        refine wpAnyL_take (i := 9) (oi := _) (v := ?_) rfl (by kernel_rfl) (by kernel_rfl) (by kernel_rfl) (by kernel_rfl) (by kernel_rfl) (by intro c a w hq; refine openQ _ _ ?_ ?_ c a w hq <;> decide) (Or.inl ⟨by rfl, ?_⟩) (by assumption) (fun hNew => ?_)
        rotate_left
        · intro w _
          go_simp
          try with_reducible rfl
        clear hHeld
        have hHeld := hNew
        clear hNew
        try simp only [List.getElem_toArray, List.getElem_cons_succ, List.getElem_cons_zero, Act.put, List.setIfInBounds_toArray, List.set_cons_zero, List.set_cons_succ]
        refine wpAnyL_take (i := 10) (oi := _) (v := ?_) rfl (by kernel_rfl) (by kernel_rfl) (by kernel_rfl) (by kernel_rfl) (by kernel_rfl) (by intro c a w hq; refine openQ _ _ ?_ ?_ c a w hq <;> decide) (Or.inl ⟨by rfl, ?_⟩) (by assumption) (fun hNew => ?_)
        rotate_left
        · intro w _
          go_simp
          try with_reducible rfl
        clear hHeld
        have hHeld := hNew
        clear hNew
        try simp only [List.getElem_toArray, List.getElem_cons_succ, List.getElem_cons_zero, Act.put, List.setIfInBounds_toArray, List.set_cons_zero, List.set_cons_succ]
        refine wpAnyL_ready (rs := [11]) (by kernel_rfl) (by simp) ?_
        refine AllReadyL.cons (o := _) rfl (fun K hK => ?_) AllReadyL.nil
        try simp only [List.getElem_toArray, List.getElem_cons_succ, List.getElem_cons_zero]
        go_simp
        clear hHeld
        refine hK.out _ _ ?_ (fun hHeld => ?_)
        · exact (HoldC.past (by kernel_rfl) (HoldC.past (by kernel_rfl) HoldC.nil))
        clear hK K
        try simp only [List.getElem_toArray, List.getElem_cons_succ, List.getElem_cons_zero, Act.put, List.setIfInBounds_toArray, List.set_cons_zero, List.set_cons_succ]
        refine wpAnyL_done (by kernel_rfl) ?_ _
        clear hHeld
        rw [hRl] at HO6
        generalize w6.setCell ⟨w.heap.size + 2, 2, none⟩ (.slice (some ⟨g2, 0, none⟩) (k + 1) cap2) = w7 at *
        clear ea eb ef el a0 a1 a5 b5
        have hw8 : IntKind.i64.wrap ((first : Int) + 8 * (k : Int) + 8) = ((first + 8 * (k + 1) : Nat) : Int) := by rw [IntWalk.i64_in _ ⟨by omega, by omega⟩]; push_cast; omega
        have HW8 := Lib.hid hw8
        clear hw8
        go_wp2
        go_roundg (gk - 1)
        case measure => omega
        case rel => exact ⟨k + 1, _, R ++ [(r, kv)], by first | rfl | rw [HW8.out] | (push_cast; congr 1; omega), by omega, by omega, Lib.hid ⟨HO6.out, by simp [hRl], HRC.out⟩⟩
    · have hkm : k = m := by omega
      have hle : ¬ (first : Int) + 8 * (m : Int) + 8 ≤ (n : Int) := by omega
      obtain rfl := hkm.symm
      have HZ : Hid (Z = (0, some ⟨d, first, R.map (·.1)⟩)) := Lib.hid (by
        rw [HG.out, HROWS.out, Nat.sub_self]
        simp [rowsFrom])
      have HROK : Hid (rowsFrom d first m 0 = some (R.map (·.1))) := Lib.hid (by rw [HROWS.out, Nat.sub_self]; simp [rowsFrom])
      have a0 := blk_cell HO.out.ca 0 _ rfl
      have f0 := blk_frozen HO.out.ca 0
      have b0 := blk_cell HO.out.cb 0 _ rfl
      have g0 := blk_frozen HO.out.cb 0
      have l0 := blk_lt HO.out.ca
      have l1 := blk_lt HO.out.cb
      have l2 : ¬ (w.heap.size = w.heap.size + 1) := by omega
      have HD1 := Lib.hid (HO.out.done HDK.out ⟨by show first + 8 * (R.map (·.1)).length ≤ d.n; rw [List.length_map, hRl, ← HN.out]; omega, (rowsFrom_len _ _ _ HROK.out).2⟩)
      clear hkm hRl
      go_wp2_with (go_at_call 78; refine CSr.out.mono ?_; rintro e w' ⟨rfl, hq⟩; subst hq)
      refine leaves_cons (f := 134) (args := #[.pointer (some ⟨w.heap.size, 0, none⟩), .pointer (some ⟨w.heap.size + 1, 0, none⟩)]) (by simp) (by simp [go_sem]) ?_
      refine (catchB_idle _ _ _).mono ?_
      rintro e u' w'' ⟨rfl, rfl, rfl⟩
      obtain ⟨w9, hw9⟩ : ∃ w9, w9 = (wr.setCell ⟨w.heap.size, 0, none⟩ (.pointer (some ⟨w.heap.size + 2, 0, none⟩))).setCell ⟨w.heap.size + 1, 0, none⟩ (.int .i64 0) := ⟨_, rfl⟩
      have hc9 : Chg [w.heap.size, w.heap.size + 1] wr w9 := by rw [hw9]; exact ((Chg.refl _ wr).setCell (p := ⟨w.heap.size, 0, none⟩) (.inl (by simp)) _).setCell (p := ⟨w.heap.size + 1, 0, none⟩) (.inl (by simp)) _
      have ca9 : w9.heap[w.heap.size]? = some (.cells #[.pointer (some ⟨w.heap.size + 2, 0, none⟩)] 95 (0, 0)) := by rw [hw9]; exact blk_sets (set_blk HO.out.ca) (by omega)
      have cb9 : w9.heap[w.heap.size + 1]? = some (.cells #[.int .i64 0] 26 (0, 0)) := by rw [hw9]; exact set_blk (blk_sets HO.out.cb (by omega))
      rw [← hw9]
      obtain ⟨k1, k2, k3⟩ := HD1.out _ (hc9.alloc (.cells #[.int .i64 0] 186))
      refine ⟨.tuple #[.pointer (some ⟨w.heap.size + 2, 0, none⟩), .int .i64 0], by simp [results, Tryz.results91, go_sem, blk_cell (blk_alloc (o' := .cells #[.int .i64 0] 186) ca9) 0 _ rfl, blk_cell (blk_alloc (o' := .cells #[.int .i64 0] 186) cb9) 0 _ rfl], ?_⟩
      rw [HZ.out]
      exact ⟨k1, _, _, rfl, k2, k3⟩

/-- Open. -/
theorem sopen_any (p : Nat) (S : List Nat) (d : DS) (first : Int) (w : World) (h : DiskAt w p S d) : Calls Tryz.prog 91 #[.pointer (some ⟨p, 0, none⟩), .int .i64 first] w (OpenPost p S w (d.slots first)) := by
  by_cases hb : first < 0 ∨ (d.n : Int) < first
  · exact sopen_bad p S d first w h hb
  · by_cases hd : d.dead = true ∨ d.n = 0
    · exact sopen_dead p S d first w h hb hd
    · obtain ⟨f, rfl⟩ := Int.eq_ofNat_of_zero_le (show 0 ≤ first by omega)
      exact sopen_live p S d f w h (by omega) (by simpa using fun h => hd (.inl h)) (fun h => hd (.inr h))
end Go.Proofs.YtdkhmfcfihbjeaaGreatDoor.W
