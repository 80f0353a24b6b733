/- An object in memory: a block of fields, and rows of its own. -/
import Derived.Test.YtipfgghdoicdhaaDoorB0
namespace Go.Proofs.YtipfgghdoicdhaaDoor.W
open Go.RowKit
set_option linter.unusedVariables false
set_option linter.unusedSimpArgs false

/-- A row of an object's own. -/
structure RowD where
  e : TypeId
  size : Nat
  v : Value
  n : Nat
  xs : List Value
def RowD.At (w : World) (r : RowD) : Prop := w.ownsRow 0 r.e r.size r.v r.n r.xs
def blks (p : Nat) (rs : List RowD) : List Nat := p :: rs.filterMap (·.v.ownBlock)
structure ObjAt (w : World) (p t : Nat) (cs : Array Value) (rs : List RowD) : Prop where
  head : w.heap[p]? = some (.cells cs t (0, 0))
  rows : ∀ r ∈ rs, r.At w
  apart : (blks p rs).Nodup
theorem mem_blks {p k : Nat} {rs : List RowD} (h : k ∈ blks p rs) : k = p ∨ ∃ r ∈ rs, r.v.ownBlock = some k := by
  rcases List.mem_cons.1 h with h | h
  · exact .inl h
  · obtain ⟨r, hr, he⟩ := List.mem_filterMap.1 h
    exact .inr ⟨r, hr, he⟩
theorem blks_row {p k : Nat} {rs : List RowD} {r : RowD} (h : r ∈ rs) (hk : r.v.ownBlock = some k) : k ∈ blks p rs := List.mem_cons_of_mem _ (List.mem_filterMap.2 ⟨r, h, hk⟩)
theorem blks_head {p : Nat} {rs : List RowD} : p ∈ blks p rs := List.mem_cons_self ..
theorem ObjAt.lim {w : World} {p t : Nat} {cs : Array Value} {rs : List RowD} (h : ObjAt w p t cs rs) : ∀ x ∈ blks p rs, x < w.heap.size := fun x hx => by
  rcases mem_blks hx with rfl | ⟨r, hr, he⟩
  · exact blk_lt h.head
  · exact (World.ownsRow.lt (h.rows r hr) x he).2
theorem ObjAt.keep {w w' : World} {p t : Nat} {cs : Array Value} {rs : List RowD} {T : List Nat} (h : ObjAt w p t cs rs) (hc : Chg T w w') (ha : ∀ x ∈ blks p rs, x ∉ T) : ObjAt w' p t cs rs :=
  ⟨hc.keep h.head (ha p blks_head), fun r hr => row_keep (h.rows r hr) (fun g hg => hc.block g (World.ownsRow.lt (h.rows r hr) g hg).2 (ha g (blks_row hr hg))), h.apart⟩
theorem ObjAt.row_ne {w : World} {p t : Nat} {cs : Array Value} {rs : List RowD} (h : ObjAt w p t cs rs) {r : RowD} (hr : r ∈ rs) {k : Nat} (hk : r.v.ownBlock = some k) : k ≠ p := fun e => by
  have := (List.nodup_cons.1 h.apart).1
  exact this (List.mem_filterMap.2 ⟨r, hr, by rw [hk, e]⟩)
/-- A store into a field that is no row. -/
theorem ObjAt.setHead {w : World} {p t : Nat} {cs : Array Value} {rs : List RowD} (h : ObjAt w p t cs rs) (j : Nat) (u : Value) : ObjAt (w.setCell ⟨p, j, none⟩ u) p t (cs.setIfInBounds j u) rs :=
  ⟨set_blk h.head, fun r hr => row_keep (h.rows r hr) (fun g hg => Below.heap_setCell w ⟨p, j, none⟩ u g (h.row_ne hr hg)), h.apart⟩
theorem chg_head {w : World} {p : Nat} {rs : List RowD} (j : Nat) (u : Value) : Chg (blks p rs) w (w.setCell ⟨p, j, none⟩ u) := (Chg.refl _ w).setCell (p := ⟨p, j, none⟩) (.inl blks_head) u
/-- One row is another: its blocks are the old ones, but for one that may be new. -/
theorem row_swap {p : Nat} {a b : List RowD} {r r' : RowD} {N : Nat} (h : (blks p (a ++ r :: b)).Nodup) (hl : ∀ x ∈ blks p (a ++ r :: b), x < N) (hat : ∀ k, r'.v.ownBlock = some k → r.v.ownBlock = some k ∨ N ≤ k) :
    (blks p (a ++ r' :: b)).Nodup ∧ ∀ x ∈ blks p (a ++ r' :: b), x ∈ blks p (a ++ r :: b) ∨ N ≤ x := by
  have hmem : ∀ x ∈ blks p (a ++ r' :: b), x ∈ blks p (a ++ r :: b) ∨ N ≤ x := fun x hx => by
    rcases mem_blks hx with rfl | ⟨q, hq, he⟩
    · exact .inl blks_head
    · rcases List.mem_append.1 hq with hq | hq
      · exact .inl (blks_row (List.mem_append_left _ hq) he)
      · rcases List.mem_cons.1 hq with rfl | hq
        · rcases hat x he with h1 | h1
          · exact .inl (blks_row (List.mem_append_right _ (List.mem_cons_self ..)) h1)
          · exact .inr h1
        · exact .inl (blks_row (List.mem_append_right _ (List.mem_cons_of_mem _ hq)) he)
  refine ⟨?_, hmem⟩
  unfold blks at *
  rw [List.filterMap_append, List.filterMap_cons] at *
  cases hr : r'.v.ownBlock with
  | none =>
    simp only [hr]
    cases hr2 : r.v.ownBlock with
    | none => rw [hr2] at h; exact h
    | some k =>
      rw [hr2] at h
      refine h.sublist ?_
      exact (List.Sublist.append_left (List.sublist_cons_self _ _) _).cons_cons _
  | some k =>
    simp only [hr]
    rcases hat k hr with h1 | h1
    · rw [h1] at h; exact h
    · have hbase : (p :: (a.filterMap (·.v.ownBlock) ++ b.filterMap (·.v.ownBlock))).Nodup := by
        cases hr2 : r.v.ownBlock with
        | none => rw [hr2] at h; exact h
        | some k2 =>
          rw [hr2] at h
          exact h.sublist ((List.Sublist.append_left (List.sublist_cons_self _ _) _).cons_cons _)
      have hlt : ∀ x ∈ p :: (a.filterMap (·.v.ownBlock) ++ b.filterMap (·.v.ownBlock)), x < N := fun x hx => hl x (by
        rcases List.mem_cons.1 hx with rfl | hx
        · exact List.mem_cons_self ..
        · refine List.mem_cons_of_mem _ ?_
          rcases List.mem_append.1 hx with hx | hx
          · exact List.mem_append_left _ hx
          · refine List.mem_append_right _ ?_
            cases hr2 : r.v.ownBlock with
            | none => exact hx
            | some k2 => exact List.mem_cons_of_mem _ hx)
      have hk : k ∉ p :: (a.filterMap (·.v.ownBlock) ++ b.filterMap (·.v.ownBlock)) := fun hm => by have := hlt k hm; omega
      have hperm : (p :: (a.filterMap (·.v.ownBlock) ++ k :: b.filterMap (·.v.ownBlock))).Perm (k :: p :: (a.filterMap (·.v.ownBlock) ++ b.filterMap (·.v.ownBlock))) :=
        ((List.perm_middle).cons p).trans (List.Perm.swap k p _)
      exact hperm.nodup_iff.2 (List.nodup_cons.2 ⟨hk, hbase⟩)
/-- A row grows, or is set. -/
theorem ObjAt.grow {w w2 : World} {p t : Nat} {cs : Array Value} {a b : List RowD} {r r' : RowD} (h : ObjAt w p t cs (a ++ r :: b)) (hg : w.grownBy w2 r.v.ownBlock) (hrow : r'.At w2)
    (hat : ∀ k, r'.v.ownBlock = some k → r.v.ownBlock = some k ∨ w.heap.size ≤ k) : ObjAt w2 p t cs (a ++ r' :: b) ∧ (∀ x ∈ blks p (a ++ r' :: b), x ∈ blks p (a ++ r :: b) ∨ w.heap.size ≤ x) ∧ Chg (blks p (a ++ r :: b)) w w2 := by
  have hmr : r ∈ a ++ r :: b := List.mem_append_right _ (List.mem_cons_self ..)
  obtain ⟨h1, h2⟩ := row_swap (r' := r') h.apart h.lim hat
  have hc : Chg r.v.ownBlock.toList w w2 := (Chg.refl _ w).grown hg (fun k hk => .inl (by rw [hk]; simp))
  refine ⟨⟨hc.keep h.head ?_, fun q hq => ?_, h1⟩, h2, hc.mono (fun x hx => .inl (blks_row hmr (by simpa using hx)))⟩
  · intro hm
    exact h.row_ne hmr (by simpa using hm : r.v.ownBlock = some p) rfl
  · have hother : ∀ q, q ∈ a ∨ q ∈ b → q ∈ a ++ r :: b → q.At w2 := fun q hab hq => row_keep (h.rows q hq) (fun g hgq => hc.block g (World.ownsRow.lt (h.rows q hq) g hgq).2 (by
      intro hm
      have hrg : r.v.ownBlock = some g := by simpa using hm
      have hnd := (List.nodup_cons.1 h.apart).2
      rw [List.filterMap_append, List.filterMap_cons, hrg] at hnd
      simp only at hnd
      have hd := List.nodup_append.1 hnd
      rcases hab with hab | hab
      · exact hd.2.2 g (List.mem_filterMap.2 ⟨q, hab, hgq⟩) g (List.mem_cons_self ..) rfl
      · exact (List.nodup_cons.1 hd.2.1).1 (List.mem_filterMap.2 ⟨q, hab, hgq⟩)))
    rcases List.mem_append.1 hq with hq1 | hq1
    · exact hother q (.inl hq1) (List.mem_append_left _ hq1)
    · rcases List.mem_cons.1 hq1 with rfl | hq1
      · exact hrow
      · exact hother q (.inr hq1) (List.mem_append_right _ (List.mem_cons_of_mem _ hq1))

theorem row_set {w : World} {base e size n g cap : Nat} {xs : List Value} (h : w.ownsRow base e size (.slice (some ⟨g, 0, none⟩) n cap) n xs) (j : Nat) (u : Value) (hj : j < n * size) :
    (w.setCell ⟨g, j, none⟩ u).ownsRow base e size (.slice (some ⟨g, 0, none⟩) n cap) n (xs.set j u) := by
  refine ⟨by rw [List.length_set]; exact h.1, .inr ?_⟩
  rcases h.2 with ⟨h1, _⟩ | ⟨g', cap', cur, hv, hb, hg, h1, h2, h3, h4⟩
  · cases h1
  · obtain ⟨rfl, rfl⟩ : g = g' ∧ cap = cap' := by simpa using hv
    refine ⟨g, cap, cur.setIfInBounds j u, rfl, hb, set_blk hg, h1, h2, by simpa using h3, ?_⟩
    rw [Array.toList_setIfInBounds, ← h4]
    apply List.ext_getElem? (fun i => ?_)
    simp only [List.getElem?_take, List.getElem?_set]
    by_cases hi : i < n * size
    · rw [if_pos hi, if_pos hi]
      by_cases hij : j = i
      · subst hij
        rw [if_pos rfl, if_pos rfl]
        have hlt : j < cur.toList.length := by
          have : n * size ≤ cap * size := Nat.mul_le_mul_right _ h1
          simp; omega
        rw [if_pos hlt, if_pos (by rw [List.length_take]; omega)]
      · rw [if_neg hij, if_neg hij]
    · rw [if_neg hi, if_neg (show ¬ j = i by omega), if_neg hi]
end Go.Proofs.YtipfgghdoicdhaaDoor.W
