/- SlotApart: what stands between the rounds. -/
import Derived.Test.YtipfgghdoicdhaaDoorLive
import Derived.Test.YtipfgghdoicdhaaDoorRoom
import Derived.Test.YtipfgghdoicdhaaDoorL3
namespace Go.Proofs.YtipfgghdoicdhaaDoor.W
open Go.RowKit
set_option linter.unusedVariables false
set_option linter.unusedSimpArgs false

/-- Five cells. -/
def five (f : Nat → Value) : Array Value := #[f 0, f 1, f 2, f 3, f 4]
theorem five_at (f : Nat → Value) (k : Nat) (hk : k < 5) : (five f)[k]? = some (f k) := by
  match k, hk with
  | 0, _ => rfl
  | 1, _ => rfl
  | 2, _ => rfl
  | 3, _ => rfl
  | 4, _ => rfl
def set5 {α : Type} (f : Nat → α) (k : Nat) (x : α) : Nat → α := fun j => if j = k then x else f j
theorem five_set (f : Nat → Value) (k : Nat) (x : Value) (hk : k < 5) : (five f).setIfInBounds k x = five (set5 f k x) := by
  match k, hk with
  | 0, _ => rfl
  | 1, _ => rfl
  | 2, _ => rfl
  | 3, _ => rfl
  | 4, _ => rfl
def bo (u : Nat → Bool) : Nat → Value := fun j => .bool (u j)
theorem bo_set (u : Nat → Bool) (k : Nat) (q : Bool) : set5 (bo u) k (.bool q) = bo (set5 u k q) := by
  funext j
  show (if j = k then .bool q else .bool (u j)) = Value.bool (if j = k then q else u j)
  split <;> rfl
theorem facts_bs : (Tryd.prog.info? 31).map (fun i => (i.zero, i.size, i.bytes)) = some (some (.slice none 0 0), 1, 24) := by kernel_rfl
theorem facts_bool : (Tryd.prog.info? 4).map (fun i => (i.zero, i.size, i.bytes)) = some (some (.bool false), 1, 1) := by kernel_rfl
theorem make_5w (w : World) : (Instr.makeSlice 22 (.int .i64 5) (.int .i64 5)).run Tryd.prog w = .ok (.slice (some ⟨w.heap.size, 0, none⟩) 5 5) (w.alloc (.cells (five fun _ => .slice none 0 0) 31)) := by
  obtain ⟨i, hi, h1, h2, h3⟩ := info_parts facts_bs
  have h := run_make (P := Tryd.prog) w 22 31 i _ Tryd.underlying22 hi h1 .i64 .i64 5 5 (by omega) (Int.le_refl _) (by rw [h3]; omega) (by omega)
  rw [h2] at h
  have hz : madeCells (Value.slice none 0 0).cells ((5 : Int).toNat * 1) = five fun _ => .slice none 0 0 := by kernel_rfl
  rw [hz] at h
  exact h
theorem make_5b (w : World) : (Instr.makeSlice 49 (.int .i64 5) (.int .i64 5)).run Tryd.prog w = .ok (.slice (some ⟨w.heap.size, 0, none⟩) 5 5) (w.alloc (.cells (five (bo fun _ => false)) 4)) := by
  obtain ⟨i, hi, h1, h2, h3⟩ := info_parts facts_bool
  have h := run_make (P := Tryd.prog) w 49 4 i _ Tryd.underlying49 hi h1 .i64 .i64 5 5 (by omega) (Int.le_refl _) (by rw [h3]; omega) (by omega)
  rw [h2] at h
  have hz : madeCells (Value.bool false).cells ((5 : Int).toNat * 1) = five (bo fun _ => false) := by kernel_rfl
  rw [hz] at h
  exact h

def Shape (s : SS) : Prop := s.first = 1 ∧ s.rows.length = 5 ∧ s.d.n = 41 ∧ s.d.since = []
/-- Between the rounds: the slots are told (u, v); the law's two rows hold (ub, vals), of bytes that came in (vb). -/
structure ApAt (w wr : World) (q p gw gu : Nat) (U : List Nat) (s : SS) (u ub : Nat → Bool) (v vb : Nat → List UInt8) (vals : Nat → Value) : Prop where
  since : Since w wr q p U s
  told : Told s u v
  shape : Shape s
  cw : wr.heap[gw]? = some (.cells (five vals) 31 (0, 0))
  cu : wr.heap[gu]? = some (.cells (five (bo ub)) 4 (0, 0))
  out : gw ∉ U ∧ gu ∉ U ∧ gw ≠ gu ∧ w.heap.size ≤ gw ∧ w.heap.size ≤ gu
  came : ∀ j, j < 5 → Came w (vals j) (vb j)
theorem ApAt.keep {w wr w' : World} {q p gw gu : Nat} {U : List Nat} {s : SS} {u ub : Nat → Bool} {v vb : Nat → List UInt8} {vals : Nat → Value} (h : ApAt w wr q p gw gu U s u ub v vb vals) (hc : Chg [] wr w') : ApAt w w' q p gw gu U s u ub v vb vals :=
  ⟨h.since.keep hc, h.told, h.shape, hc.keep h.cw (by simp), hc.keep h.cu (by simp), h.out, h.came⟩
theorem ApAt.sid {w wr w' : World} {q p gw gu : Nat} {U : List Nat} {s s' : SS} {u u' ub : Nat → Bool} {v v' vb : Nat → List UInt8} {vals : Nat → Value} (h : ApAt w wr q p gw gu U s u ub v vb vals) (hs : Sid wr w' q p U s') (ht : Told s' u' v') (hsh : Shape s') : ∃ U', ApAt w w' q p gw gu U' s' u' ub v' vb vals := by
  obtain ⟨U', h1, h2, h3⟩ := hs
  have l1 := blk_lt h.cw
  have l2 := blk_lt h.cu
  refine ⟨U', ⟨h1, fun x hx => ?_, h.since.2.2.trans h3 (fun x hx => .inr (h.since.2.1 x hx))⟩, ht, hsh, h3.keep h.cw h.out.1, h3.keep h.cu h.out.2.1, ⟨fun hm => ?_, fun hm => ?_, h.out.2.2⟩, h.came⟩
  · rcases h2 x hx with h4 | h4
    · exact h.since.2.1 x h4
    · exact Nat.le_trans h.since.2.2.size h4
  · rcases h2 _ hm with h4 | h4
    · exact h.out.1 h4
    · omega
  · rcases h2 _ hm with h4 | h4
    · exact h.out.2.1 h4
    · omega
/-- No bytes lie in a block of other cells. -/
theorem not_bytes {w : World} {g t : Nat} {cs : Array Value} (h : w.heap[g]? = some (.cells cs t (0, 0))) (hcs : ∀ (j : Nat) (c : Value), cs[j]? = some c → ∀ z : Int, c ≠ Value.int .u8 z) (v : Value) (l : List UInt8) (hb : BytesAt w v l) (hl : l ≠ []) : v.ownBlock ≠ some g := fun e => by
  obtain ⟨a, cap, rfl, h1, h2, h3⟩ := hb
  have hpos : 0 < l.length := by cases l; exact absurd rfl hl; simp
  rcases h3 with ⟨h3, _⟩ | ⟨g', o, rfl, hc⟩
  · exact hl h3
  · obtain rfl : g' = g := by simpa [Value.ownBlock] using e
    have h5 := hc 0 hpos
    rw [Nat.add_zero] at h5
    cases hx : cs[o]? with
    | none =>
      have : w.cell? ⟨g', o, none⟩ = none := by
        unfold World.cell?
        simp [h, hx]
      rw [this] at h5
      cases h5
    | some c =>
      rw [blk_cell h o c hx] at h5
      exact hcs o c hx _ (Option.some.inj h5)
theorem five_all {P : Value → Prop} (f : Nat → Value) (h : ∀ j, j < 5 → P (f j)) (j : Nat) (c : Value) (hj : (five f)[j]? = some c) : P c := by
  have hlt : j < 5 := (Array.getElem?_eq_some_iff.1 hj).1
  rw [five_at f j hlt] at hj
  rw [← Option.some.inj hj]
  exact h j hlt
theorem SlotsAt.keepT {w w' : World} {q p : Nat} {U T : List Nat} {s : SS} (h : SlotsAt w q p U s) (hc : Chg T w w') (ha : ∀ x ∈ U, x ∉ T) (hT : ∀ x ∈ T, ∀ v l, BytesAt w v l → l ≠ [] → v.ownBlock ≠ some x) : SlotsAt w' q p U s := by
  obtain ⟨S, rv, R, h⟩ := h
  refine ⟨S, rv, R, h.obj.keep hc (fun x hx => ha x (h.uB x hx)), h.disk.keep hc (fun x hx => ha x (h.uS x hx)), h.rows, h.sep, fun x hx => ?_, h.uS, h.uB, fun x hx => Nat.lt_of_lt_of_le (h.uL x hx) hc.size, h.ok⟩
  obtain ⟨h1, h2⟩ := h.keys x hx
  exact ⟨h1.chgW hc (fun hl k hk hm => hT k hm _ _ h1 hl hk), fun g hg => ⟨Nat.lt_of_lt_of_le (h2 g hg).1 hc.size, (h2 g hg).2⟩⟩
theorem ApAt.setU {w wr : World} {q p gw gu : Nat} {U : List Nat} {s : SS} {u ub : Nat → Bool} {v vb : Nat → List UInt8} {vals : Nat → Value} (h : ApAt w wr q p gw gu U s u ub v vb vals) (k : Nat) (hk : k < 5) (x : Bool) : ApAt w (wr.setCell ⟨gu, k, none⟩ (.bool x)) q p gw gu U s u (set5 ub k x) v vb vals := by
  have hc : Chg [gu] wr (wr.setCell ⟨gu, k, none⟩ (.bool x)) := (Chg.refl _ wr).setCell (p := ⟨gu, k, none⟩) (.inl (by simp)) _
  refine ⟨⟨h.since.1.keepT hc (fun x hx hm => ?_) (fun x hx v l hb hl => ?_), h.since.2.1, h.since.2.2.trans hc (fun x hx => .inr (by rw [List.mem_singleton.1 hx]; exact h.out.2.2.2.2))⟩, h.told, h.shape, hc.keep h.cw (by simp; exact h.out.2.2.1), ?_, h.out, h.came⟩
  · rw [List.mem_singleton.1 hm] at hx; exact h.out.2.1 hx
  · rw [List.mem_singleton.1 hx]
    exact not_bytes h.cu (five_all _ (fun j _ z => by unfold bo; simp)) v l hb hl
  · rw [← bo_set, ← five_set _ _ _ hk]
    exact set_blk h.cu
theorem ApAt.setW {w wr : World} {q p gw gu : Nat} {U : List Nat} {s : SS} {u ub : Nat → Bool} {v vb : Nat → List UInt8} {vals : Nat → Value} (h : ApAt w wr q p gw gu U s u ub v vb vals) (k : Nat) (hk : k < 5) (x : Value) (l : List UInt8) (hx : Came w x l) : ApAt w (wr.setCell ⟨gw, k, none⟩ x) q p gw gu U s u ub v (set5 vb k l) (set5 vals k x) := by
  have hc : Chg [gw] wr (wr.setCell ⟨gw, k, none⟩ x) := (Chg.refl _ wr).setCell (p := ⟨gw, k, none⟩) (.inl (by simp)) _
  refine ⟨⟨h.since.1.keepT hc (fun x hx hm => ?_) (fun x hx v l hb hl => ?_), h.since.2.1, h.since.2.2.trans hc (fun x hx => .inr (by rw [List.mem_singleton.1 hx]; exact h.out.2.2.2.1))⟩, h.told, h.shape, ?_, hc.keep h.cu (by simp; exact fun e => h.out.2.2.1 e.symm), h.out, fun j hj => ?_⟩
  · rw [List.mem_singleton.1 hm] at hx; exact h.out.1 hx
  · rw [List.mem_singleton.1 hx]
    exact not_bytes h.cw (five_all _ (fun j hj z => by
      obtain ⟨a, c, he⟩ := (h.came j hj).1.slice
      rw [he]; simp)) v l hb hl
  · rw [← five_set _ _ _ hk]
    exact set_blk h.cw
  · unfold set5
    by_cases hjk : j = k
    · rw [if_pos hjk, if_pos hjk]; exact hx
    · rw [if_neg hjk, if_neg hjk]; exact h.came j hj

/-- Put, whatever it is given. -/
theorem put_told {s : SS} {u : Nat → Bool} {v : Nat → List UInt8} (h : Told s u v) (hs : Shape s) (k : Nat) (hk : k < 5) (key b : List UInt8) :
    ((s.put (k : Int) key b).1 = 0 ∧ u k = false ∧ Told (s.put (k : Int) key b).2 (set5 u k true) (set5 v k b) ∧ Shape (s.put (k : Int) key b).2) ∨ ((s.put (k : Int) key b).1 ≠ 0 ∧ (s.put (k : Int) key b).2 = s) := by
  obtain ⟨s1, s2, s3, s4⟩ := hs
  have hr : s.row (k : Int) = s.rows.getD k noRow := rfl
  have hh : s.has (k : Int) := ⟨by omega, by omega⟩
  by_cases hl : 40 < key.length ∨ 448 < b.length
  · right
    unfold SS.put
    rw [if_neg (by simpa using hh), if_pos hl]
    exact ⟨by simp, rfl⟩
  · cases hu : u k with
    | true =>
      right
      unfold SS.put
      rw [if_neg (by simpa using hh), if_neg hl, hr, h.used k (by omega), hu, if_pos rfl]
      exact ⟨by simp, rfl⟩
    | false =>
      left
      obtain ⟨a1, a2, a3, a4, a5, a6⟩ := h.put k (by omega) key b hu (by omega) (by omega)
      exact ⟨a1, rfl, a2, by rw [a4, s1], by rw [a3, s2], by rw [a5, s3], a6⟩
/-- Clear, whatever it is given. -/
theorem clear_told {s : SS} {u : Nat → Bool} {v : Nat → List UInt8} (h : Told s u v) (hs : Shape s) (k : Nat) (hk : k < 5) :
    ((s.clear (k : Int)).1 = 0 ∧ u k = true ∧ Told (s.clear (k : Int)).2 (set5 u k false) v ∧ Shape (s.clear (k : Int)).2) ∨ ((s.clear (k : Int)).1 ≠ 0 ∧ u k = false ∧ (s.clear (k : Int)).2 = s) := by
  obtain ⟨s1, s2, s3, s4⟩ := hs
  have hr : s.row (k : Int) = s.rows.getD k noRow := rfl
  have hh : s.has (k : Int) := ⟨by omega, by omega⟩
  cases hu : u k with
  | false =>
    right
    unfold SS.clear
    rw [if_neg (by simpa using hh), hr, h.used k (by omega), hu, if_pos rfl]
    exact ⟨by simp, rfl, rfl⟩
  | true =>
    left
    obtain ⟨a1, a2, a3, a4, a5, a6⟩ := h.clear k (by omega) hu
    exact ⟨a1, rfl, a2, by rw [a4, s1], by rw [a3, s2], by rw [a5, s3], a6⟩
theorem lays_ops (d : DS) (pos : Nat) (b : List UInt8) : (d.lays pos b).2.ops ≤ d.ops + nsec b.length + 1 := (d.lays_ok pos b).2.1
theorem put_ops (s : SS) (i : Int) (key b : List UInt8) : (s.put i key b).2.d.ops ≤ s.d.ops + 20 := by
  unfold SS.put
  split
  · exact Nat.le_add_right _ _
  · split
    · exact Nat.le_add_right _ _
    · rename_i h1 h2
      have hb : nsec b.length ≤ 7 := by unfold nsec; omega
      have hh : nsec (headBytes b.length key).length ≤ 1 := by rw [headBytes_len _ _ (by omega) (by omega)]; unfold nsec; omega
      have e1 := lays_ops s.d (s.pos i + 1) b
      have e2 := lays_ops (s.d.lays (s.pos i + 1) b).2 (s.pos i) (headBytes b.length key)
      split
      · exact Nat.le_add_right _ _
      · split
        · show (s.d.lays (s.pos i + 1) b).2.ops ≤ _
          omega
        · split <;> (show ((s.d.lays (s.pos i + 1) b).2.lays (s.pos i) (headBytes b.length key)).2.ops ≤ _) <;> omega
theorem clear_ops (s : SS) (i : Int) : (s.clear i).2.d.ops ≤ s.d.ops + 20 := by
  unfold SS.clear
  have e1 := lays_ops s.d (s.pos i) (zeros 64)
  have hz : nsec (zeros 64).length = 1 := rfl
  split
  · exact Nat.le_add_right _ _
  · split
    · exact Nat.le_add_right _ _
    · split <;> (show (s.d.lays (s.pos i) (zeros 64)).2.ops ≤ _) <;> omega
def as0 : SS := ⟨DS.new 41, 1, [noRow, noRow, noRow, noRow, noRow]⟩
theorem as0_open : (DS.new 41).slots 1 = (0, some as0) := by rfl
theorem as0_told : Told as0 (fun _ => false) (fun _ => []) := by
  refine ⟨⟨rfl, by decide⟩, by decide, fun k hk => ?_, fun k hk => ?_, fun k hk h => by cases h⟩
  · replace hk : k < 5 := hk
    match k, hk with
    | 0, _ => rfl
    | 1, _ => rfl
    | 2, _ => rfl
    | 3, _ => rfl
    | 4, _ => rfl
  · replace hk : k < 5 := hk
    match k, hk with
    | 0, _ => rfl
    | 1, _ => rfl
    | 2, _ => rfl
    | 3, _ => rfl
    | 4, _ => rfl
theorem as0_shape : Shape as0 := ⟨rfl, rfl, rfl, rfl⟩
end Go.Proofs.YtipfgghdoicdhaaDoor.W
