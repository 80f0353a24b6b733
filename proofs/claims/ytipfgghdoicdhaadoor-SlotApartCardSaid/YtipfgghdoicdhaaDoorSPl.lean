/- Slots, plainly. -/
import Derived.Test.YtipfgghdoicdhaaDoorHead
import Derived.Test.YtipfgghdoicdhaaDoorDImg
import Derived.Test.YtipfgghdoicdhaaDoorPRaw
namespace Go.Proofs.YtipfgghdoicdhaaDoor.W
set_option linter.unusedVariables false
set_option linter.unusedSimpArgs false

/-- How many sectors so many bytes need. -/
def nsec (n : Nat) : Nat := (n + 63) / 64
/-- The sector k of bytes that are laid: noughts behind the end. -/
def secAt (b : List UInt8) (k : Nat) : List UInt8 := (b.drop (k * 64)).take 64 ++ zeros (64 - ((b.drop (k * 64)).take 64).length)
theorem secAt_len (b : List UInt8) (k : Nat) : (secAt b k).length = 64 := by
  unfold secAt zeros
  rw [List.length_append, List.length_replicate, List.length_take]
  omega
/-- Laying the sectors j .. m-1 of b from sector 'at' on, then a sync. -/
def DS.lay (d : DS) (pos : Nat) (b : List UInt8) : Nat → Nat → Int × DS
  | 0, _ => d.sync
  | k + 1, j => if (d.write (pos + j : Nat) (secAt b j)).1 ≠ 0 then d.write (pos + j : Nat) (secAt b j) else (d.write (pos + j : Nat) (secAt b j)).2.lay pos b k (j + 1)
def DS.lays (d : DS) (pos : Nat) (b : List UInt8) : Int × DS := d.lay pos b (nsec b.length) 0

structure SS where
  d : DS
  first : Nat
  rows : List SRow
def SS.has (s : SS) (i : Int) : Prop := 0 ≤ i ∧ i < s.rows.length
instance (s : SS) (i : Int) : Decidable (s.has i) := inferInstanceAs (Decidable (_ ∧ _))
def SS.row (s : SS) (i : Int) : SRow := s.rows.getD i.toNat noRow
def SS.used (s : SS) (i : Int) : Bool := decide (s.has i) && (s.row i).used
def SS.key (s : SS) (i : Int) : List UInt8 := if s.used i then (s.row i).key else []
def SS.pos (s : SS) (i : Int) : Nat := s.first + 8 * i.toNat
/-- What a slot holds. -/
def SS.data (s : SS) (i : Int) : List UInt8 := (flat (nsec (s.row i).n) (fun k => s.d.now (s.pos i + 1 + k))).take (s.row i).n
def SS.get (s : SS) (i : Int) : List UInt8 × Int :=
  if ¬ s.has i then ([], 1) else if (s.row i).used = false then ([], 6) else if s.d.dead then ([], 14) else (s.data i, 0)
/-- The bytes of a head. -/
def headBytes (n : Nat) (key : List UInt8) : List UInt8 := (penRaw (penNum (penNum [] 0 1 1).1 (penNum [] 0 1 1).2 n 2).1 (penNum (penNum [] 0 1 1).1 (penNum [] 0 1 1).2 n 2).2 key).1
def SS.put (s : SS) (i : Int) (key b : List UInt8) : Int × SS :=
  if ¬ s.has i then (1, s) else if 40 < key.length ∨ 448 < b.length then (3, s) else if (s.row i).used then (7, s) else
    if (s.d.lays (s.pos i + 1) b).1 ≠ 0 then ((s.d.lays (s.pos i + 1) b).1, { s with d := (s.d.lays (s.pos i + 1) b).2 }) else
    if ((s.d.lays (s.pos i + 1) b).2.lays (s.pos i) (headBytes b.length key)).1 ≠ 0 then (((s.d.lays (s.pos i + 1) b).2.lays (s.pos i) (headBytes b.length key)).1, { s with d := ((s.d.lays (s.pos i + 1) b).2.lays (s.pos i) (headBytes b.length key)).2 }) else
    (0, { s with d := ((s.d.lays (s.pos i + 1) b).2.lays (s.pos i) (headBytes b.length key)).2, rows := s.rows.set i.toNat ⟨true, b.length, key⟩ })
def SS.clear (s : SS) (i : Int) : Int × SS :=
  if ¬ s.has i then (1, s) else if (s.row i).used = false then (6, s) else
    if (s.d.lays (s.pos i) (zeros 64)).1 ≠ 0 then ((s.d.lays (s.pos i) (zeros 64)).1, { s with d := (s.d.lays (s.pos i) (zeros 64)).2 }) else
    (0, { s with d := (s.d.lays (s.pos i) (zeros 64)).2, rows := s.rows.set i.toNat noRow })
def rowFind (key : List UInt8) : List SRow → Nat → Int
  | [], _ => -1
  | r :: rs, k => if r.used && decide (r.key = key) then (k : Int) else rowFind key rs (k + 1)
def rowFree : List SRow → Nat → Int
  | [], _ => -1
  | r :: rs, k => if r.used = false then (k : Int) else rowFree rs (k + 1)
def SS.find (s : SS) (key : List UInt8) : Int := rowFind key s.rows 0
def SS.free (s : SS) : Int := rowFree s.rows 0
/-- Slots that may be. -/
structure SS.Ok (s : SS) : Prop where
  room : s.first + 8 * s.rows.length ≤ s.d.n
  rows : ∀ r ∈ s.rows, r.n ≤ 448 ∧ r.key.length ≤ 40
end Go.Proofs.YtipfgghdoicdhaaDoor.W
