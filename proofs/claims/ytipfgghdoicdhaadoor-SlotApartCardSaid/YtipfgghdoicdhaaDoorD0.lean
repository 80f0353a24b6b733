/- A disk in memory: its sectors, what waits, its counters; and what is done to it, plainly. -/
import Derived.Test.YtipfgghdoicdhaaDoorB0
import Derived.Deep.MidRow
import Derived.Deep.OwnRows
namespace Go.Proofs.YtipfgghdoicdhaaDoor.W
open Go.RowKit
set_option linter.unusedVariables false
set_option linter.unusedSimpArgs false

/-! ### Plainly -/
def upd (f : Nat → List UInt8) (k : Nat) (s : List UInt8) : Nat → List UInt8 := fun j => if j = k then s else f j
/-- A disk. -/
structure DS where
  n : Nat
  now : Nat → List UInt8
  lasts : Nat → List UInt8
  since : List (Nat × List UInt8)
  fuse : Int
  ops : Nat
  dead : Bool
def applied (l : List (Nat × List UInt8)) (f : Nat → List UInt8) : Nat → List UInt8 := l.foldl (fun f x => upd f x.1 x.2) f
def DS.op (d : DS) : Bool × DS :=
  if d.fuse = 0 then (false, { d with dead := true }) else (true, { d with fuse := if 0 < d.fuse then d.fuse - 1 else d.fuse, ops := d.ops + 1 })
def DS.write (d : DS) (k : Int) (b : List UInt8) : Int × DS :=
  if d.dead then (14, d) else if 0 ≤ k ∧ k < d.n ∧ b.length = 64 then
    let r := ({ d with since := d.since ++ [(k.toNat, b)] } : DS).op
    if r.1 then (0, { r.2 with now := upd r.2.now k.toNat b }) else (14, r.2)
  else (1, d)
def DS.sync (d : DS) : Int × DS :=
  if d.dead then (14, d) else
    let r := d.op
    if r.1 then (0, { r.2 with lasts := applied r.2.since r.2.lasts, since := [] }) else (14, r.2)

/-! ### Blocks -/
theorem setCells_blk {g t : Nat} : ∀ (vs : List Value) (o : Nat) (w : World) (cs : Array Value), w.heap[g]? = some (.cells cs t (0, 0)) →
    ∃ cs' : Array Value, (w.setCells g o vs).heap[g]? = some (.cells cs' t (0, 0)) ∧ cs'.size = cs.size ∧ ∀ j, j < cs.size → cs'[j]? = if o ≤ j ∧ j < o + vs.length then vs[j - o]? else cs[j]? := by
  intro vs
  induction vs with
  | nil =>
    intro o w cs h
    refine ⟨cs, h, rfl, fun j hj => ?_⟩
    rw [if_neg (by simp)]
  | cons v r ih =>
    intro o w cs h
    obtain ⟨cs', h1, h2, h3⟩ := ih (o + 1) (w.setCell ⟨g, o, none⟩ v) (cs.setIfInBounds o v) (set_blk h)
    refine ⟨cs', ?_, by rw [h2]; simp, fun j hj => ?_⟩
    · rw [World.setCells]; exact h1
    · rw [h3 j (by simpa using hj), Array.getElem?_setIfInBounds]
      by_cases e : o = j
      · subst e
        rw [if_neg (by omega), if_pos rfl, if_pos hj, if_pos (by simp)]
        simp
      · by_cases e2 : o + 1 ≤ j ∧ j < o + 1 + r.length
        · rw [if_pos e2, if_pos (by simp; omega)]
          have : j - o = (j - (o + 1)) + 1 := by omega
          rw [this, List.getElem?_cons_succ]
        · rw [if_neg e2, if_neg e, if_neg (by simp; omega)]
theorem setCells_far {g : Nat} : ∀ (vs : List Value) (o : Nat) (w : World) (k : Nat), k ≠ g → (w.setCells g o vs).heap[k]? = w.heap[k]? := by
  intro vs
  induction vs with
  | nil => intro o w k h; rfl
  | cons v r ih =>
    intro o w k h
    rw [World.setCells, ih _ _ k h]
    exact Below.heap_setCell w ⟨g, o, none⟩ v k h
theorem setCells_size {g : Nat} : ∀ (vs : List Value) (o : Nat) (w : World), (w.setCells g o vs).heap.size = w.heap.size := by
  intro vs
  induction vs with
  | nil => intro o w; rfl
  | cons v r ih => intro o w; rw [World.setCells, ih]; simp [World.setCell]
theorem setCells_rest {g : Nat} : ∀ (vs : List Value) (o : Nat) (w : World), (w.setCells g o vs).os = w.os ∧ (w.setCells g o vs).tape = w.tape ∧ (w.setCells g o vs).output = w.output := by
  intro vs
  induction vs with
  | nil => intro o w; exact ⟨rfl, rfl, rfl⟩
  | cons v r ih => intro o w; rw [World.setCells]; exact ih _ _
theorem Chg.setCells {S : List Nat} {a b : World} (h : Chg S a b) {g o : Nat} (hp : g ∈ S ∨ a.heap.size ≤ g) (vs : List Value) : Chg S a (b.setCells g o vs) := by
  obtain ⟨h1, h2, h3⟩ := setCells_rest (g := g) vs o b
  refine ⟨h1.trans h.os, h2.trans h.tape, h3.trans h.output, by rw [setCells_size]; exact h.size, fun k hk hn => (setCells_far vs o b k (by
    rintro rfl
    rcases hp with hp | hp
    · exact hn hp
    · omega)).trans (h.block k hk hn)⟩

/-- n sectors in block g: sector k reads as f k. -/
def SecsAt (w : World) (g n : Nat) (f : Nat → List UInt8) : Prop :=
  ∃ cs : Array Value, w.heap[g]? = some (.cells cs 77 (0, 0)) ∧ n * 64 ≤ cs.size ∧ ∀ k, k < n → (f k).length = 64 ∧ ∀ i, i < 64 → cs[k * 64 + i]? = some (bv ((f k).getD i 0))
theorem SecsAt.lt {w : World} {g n : Nat} {f : Nat → List UInt8} (h : SecsAt w g n f) : g < w.heap.size := by obtain ⟨cs, h, _⟩ := h; exact blk_lt h
theorem SecsAt.keep {w w' : World} {g n : Nat} {f : Nat → List UInt8} (h : SecsAt w g n f) (hb : w'.heap[g]? = w.heap[g]?) : SecsAt w' g n f := by
  obtain ⟨cs, h1, h2⟩ := h
  exact ⟨cs, hb.trans h1, h2⟩
theorem SecsAt.len {w : World} {g n : Nat} {f : Nat → List UInt8} (h : SecsAt w g n f) (k : Nat) (hk : k < n) : (f k).length = 64 := by obtain ⟨cs, _, _, h⟩ := h; exact (h k hk).1
theorem SecsAt.range {w : World} {g n : Nat} {f : Nat → List UInt8} (h : SecsAt w g n f) (k : Nat) (hk : k < n) : w.rangeAt g (k * 64) (bvs (f k)) := by
  obtain ⟨cs, h1, h2, h3⟩ := h
  obtain ⟨h4, h5⟩ := h3 k hk
  intro j v hv
  have hj : j < 64 := by
    have := (List.getElem?_eq_some_iff.1 hv).1
    rw [bvs_len, h4] at this; exact this
  rw [bvs_at (f k) j (by omega)] at hv
  cases hv
  exact blk_cell h1 _ _ (h5 j hj)
theorem SecsAt.there {w : World} {g n : Nat} {f : Nat → List UInt8} (h : SecsAt w g n f) (k : Nat) (hk : k < n) : w.there g (k * 64) 64 := by
  obtain ⟨cs, h1, h2, h3⟩ := h
  intro j hj
  exact ⟨by rw [blk_cell h1 _ _ ((h3 k hk).2 j hj)]; rfl, blk_frozen h1 _⟩
theorem SecsAt.bytes {w : World} {g n : Nat} {f : Nat → List UInt8} (h : SecsAt w g n f) (k : Nat) (hk : k < n) : BytesAt w (.slice (some ⟨g, k * 64, none⟩) 64 64) (f k) := by
  have hl := h.len k hk
  refine ⟨some ⟨g, k * 64, none⟩, 64, by rw [hl], by omega, by unfold maxLen; omega, .inr ⟨g, k * 64, rfl, fun i hi => ?_⟩⟩
  exact h.range k hk i _ (bvs_at (f k) i hi)
theorem SecsAt.set {w : World} {g n : Nat} {f : Nat → List UInt8} (h : SecsAt w g n f) (k : Nat) (s : List UInt8) (hk : k < n) (hs : s.length = 64) : SecsAt (w.setCells g (k * 64) (bvs s)) g n (upd f k s) := by
  obtain ⟨cs, h1, h2, h3⟩ := h
  obtain ⟨cs', e1, e2, e3⟩ := setCells_blk (bvs s) (k * 64) w cs h1
  refine ⟨cs', e1, by omega, fun j hj => ?_⟩
  unfold upd
  by_cases e : j = k
  · subst e
    rw [if_pos rfl]
    refine ⟨hs, fun i hi => ?_⟩
    rw [e3 _ (by omega), if_pos (by rw [bvs_len]; omega)]
    have : j * 64 + i - j * 64 = i := by omega
    rw [this]
    exact bvs_at s i (by omega)
  · rw [if_neg e]
    refine ⟨(h3 j hj).1, fun i hi => ?_⟩
    rw [e3 _ (by omega), if_neg (by rw [bvs_len]; omega)]
    exact (h3 j hj).2 i hi
def zeros (n : Nat) : List UInt8 := List.replicate n 0

/-- What waits, as cells. -/
def wcells (x : Nat × List UInt8) : List Value := .int .i64 (x.1 : Int) :: bvs x.2
def wsCells (l : List (Nat × List UInt8)) : List Value := l.flatMap wcells
theorem wsCells_app (l : List (Nat × List UInt8)) (x : Nat × List UInt8) : wsCells (l ++ [x]) = wsCells l ++ wcells x := by simp [wsCells]

/-- A disk in block p; S: its blocks. -/
structure DiskOk (w : World) (p : Nat) (S : List Nat) (d : DS) (gn gl : Nat) (cn cl : Nat) (v : Value) : Prop where
  head : w.heap[p]? = some (.cells #[.slice (some ⟨gn, 0, none⟩) d.n cn, .slice (some ⟨gl, 0, none⟩) d.n cl, v, .int .i64 d.fuse, .int .i64 (d.ops : Int), .bool d.dead] 74 (0, 0))
  now : SecsAt w gn d.n d.now
  lasts : SecsAt w gl d.n d.lasts
  since : w.ownsRow 0 79 65 v d.since.length (wsCells d.since)
  waits : ∀ x ∈ d.since, x.1 < d.n ∧ x.2.length = 64
  few : d.n ≤ 4160
  capn : d.n ≤ cn ∧ cn ≤ maxLen
  capl : d.n ≤ cl ∧ cl ≤ maxLen
  fuse : -1 ≤ d.fuse ∧ d.fuse ≤ 9223372036854775807
  ap : p ≠ gn ∧ p ≠ gl ∧ gn ≠ gl
  av : ∀ k, v.ownBlock = some k → k ≠ p ∧ k ≠ gn ∧ k ≠ gl
  mem : p ∈ S ∧ gn ∈ S ∧ gl ∈ S ∧ ∀ k, v.ownBlock = some k → k ∈ S
  lim : ∀ x ∈ S, x < w.heap.size
def DiskAt (w : World) (p : Nat) (S : List Nat) (d : DS) : Prop := ∃ gn gl cn cl v, DiskOk w p S d gn gl cn cl v
theorem DiskAt.keep {w w' : World} {p : Nat} {S T : List Nat} {d : DS} (h : DiskAt w p S d) (hc : Chg T w w') (ha : ∀ x ∈ S, x ∉ T) : DiskAt w' p S d := by
  obtain ⟨gn, gl, cn, cl, v, h⟩ := h
  obtain ⟨m1, m2, m3, m4⟩ := h.mem
  exact ⟨gn, gl, cn, cl, v, hc.keep h.head (ha _ m1), h.now.keep (hc.block _ h.now.lt (ha _ m2)), h.lasts.keep (hc.block _ h.lasts.lt (ha _ m3)),
    row_keep h.since (fun g hg => hc.block g (World.ownsRow.lt h.since g hg).2 (ha _ (m4 g hg))), h.waits, h.few, h.capn, h.capl, h.fuse, h.ap, h.av, h.mem, fun x hx => Nat.lt_of_lt_of_le (h.lim x hx) hc.size⟩
theorem DiskAt.lt {w : World} {p : Nat} {S : List Nat} {d : DS} (h : DiskAt w p S d) : p < w.heap.size := by
  obtain ⟨gn, gl, cn, cl, v, h⟩ := h
  exact blk_lt h.head
theorem DiskAt.lim {w : World} {p : Nat} {S : List Nat} {d : DS} (h : DiskAt w p S d) : ∀ x ∈ S, x < w.heap.size := by
  obtain ⟨gn, gl, cn, cl, v, h⟩ := h
  exact h.lim
theorem DiskAt.mono {w : World} {p : Nat} {S T : List Nat} {d : DS} (h : DiskAt w p S d) (hS : ∀ x ∈ S, x ∈ T) (hT : ∀ x ∈ T, x < w.heap.size) : DiskAt w p T d := by
  obtain ⟨gn, gl, cn, cl, v, h⟩ := h
  obtain ⟨m1, m2, m3, m4⟩ := h.mem
  exact ⟨gn, gl, cn, cl, v, h.head, h.now, h.lasts, h.since, h.waits, h.few, h.capn, h.capl, h.fuse, h.ap, h.av, ⟨hS _ m1, hS _ m2, hS _ m3, fun k hk => hS _ (m4 k hk)⟩, hT⟩

/-- What doing with a disk leaves. -/
def Did (w w' : World) (p : Nat) (S : List Nat) (d : DS) : Prop := ∃ S', DiskAt w' p S' d ∧ (∀ x ∈ S', x ∈ S ∨ w.heap.size ≤ x) ∧ Chg S w w'
theorem Did.same {w : World} {p : Nat} {S : List Nat} {d : DS} (h : DiskAt w p S d) : Did w w p S d := ⟨S, h, fun x hx => .inl hx, Chg.refl _ _⟩
theorem Did.trans {w w1 w2 : World} {p : Nat} {S : List Nat} {d1 d2 : DS} (h1 : Did w w1 p S d1) (h2 : ∀ S1, DiskAt w1 p S1 d1 → Did w1 w2 p S1 d2) : Did w w2 p S d2 := by
  obtain ⟨S1, a1, a2, a3⟩ := h1
  obtain ⟨S2, b1, b2, b3⟩ := h2 S1 a1
  refine ⟨S2, b1, fun x hx => ?_, a3.trans b3 a2⟩
  rcases b2 x hx with h | h
  · exact a2 x h
  · exact .inr (Nat.le_trans a3.size h)
end Go.Proofs.YtipfgghdoicdhaaDoor.W
