/- A row of elements of several cells, sorted by slices.SortFunc: what it owns behind it. -/
import Derived.Test.YtaiihklfeoeoeaaB0
import Derived.Shelf.SlSortCmp.NoneTotal
import Derived.Lib.Bytealg
namespace Go.Proofs.Ytaiihklfeoeoeaa.W
open Go.RowKit Go.Sort Go.Lib
set_option linter.unusedVariables false
set_option linter.unusedSimpArgs false

theorem flatMap_len {α : Type} (enc : α → List Value) {k : Nat} (hk : ∀ x, (enc x).length = k) : ∀ l : List α, (l.flatMap enc).length = l.length * k
  | [] => by simp
  | x :: r => by rw [List.flatMap_cons, List.length_append, hk, flatMap_len enc hk r, List.length_cons, Nat.add_mul]; omega
theorem flatMap_at {α : Type} [Inhabited α] (enc : α → List Value) {k : Nat} (hk : ∀ x, (enc x).length = k) : ∀ (l : List α) (i j : Nat), i < l.length → j < k → (l.flatMap enc)[i * k + j]? = (enc l[i]!)[j]?
  | [], i, j, h, _ => by simp at h
  | x :: r, 0, j, h, hj => by
    rw [List.flatMap_cons, Nat.zero_mul, Nat.zero_add, List.getElem?_append_left (by rw [hk]; exact hj)]; rfl
  | x :: r, i + 1, j, h, hj => by
    rw [List.flatMap_cons, List.getElem?_append_right (by rw [hk, Nat.add_mul]; omega), hk, show (i + 1) * k + j - k = i * k + j by rw [Nat.add_mul]; omega]
    exact flatMap_at enc hk r i j (by simpa using h) hj
theorem flat_eq {α : Type} [Inhabited α] (enc : α → List Value) {k : Nat} (hk : ∀ x, (enc x).length = k) (l : List α) : (flatK enc k l.toArray).toList = l.flatMap enc := by
  apply List.ext_getElem?
  intro t
  by_cases ht : t < l.length * k
  · have k0 : 0 < k := by
      rcases Nat.eq_zero_or_pos k with h | h
      · subst h; simp at ht
      · exact h
    have hi : t / k < l.length := (Nat.div_lt_iff_lt_mul k0).2 ht
    have hj : t % k < k := Nat.mod_lt _ k0
    have e : t = t / k * k + t % k := by rw [Nat.mul_comm]; exact (Nat.div_add_mod t k).symm
    rw [Array.getElem?_toList, Array.getElem?_eq_getElem (by simpa using ht)]
    have h1 := get_flatK enc k l.toArray t (by simpa using ht)
    rw [getElem!_pos _ t (by simpa using ht)] at h1
    rw [h1]
    conv => rhs; rw [e]
    rw [flatMap_at enc hk l _ _ hi hj]
    have h2 : l.toArray[t / k]! = l[t / k]! := by simp
    rw [h2, getElem!_pos _ (t % k) (by rw [hk]; exact hj), List.getElem?_eq_getElem]
  · rw [List.getElem?_eq_none (by simp; omega), List.getElem?_eq_none (by rw [flatMap_len enc hk]; omega)]

theorem holds_row {α : Type} [Inhabited α] (enc : α → List Value) {k : Nat} (hk : ∀ x, (enc x).length = k) {w : World} {g : Nat} {cur : Array Value} {e : TypeId} {ss : List α} (hb : w.heap[g]? = some (.cells cur e (0, 0))) (ht : cur.toList.take (ss.length * k) = ss.flatMap enc) : HoldsK enc k w g 0 ss.toArray := by
  intro j hj
  have hj' : j < ss.length * k := by simpa using hj
  rw [Nat.zero_add]
  have h1 : (flatK enc k ss.toArray)[j]! = (ss.flatMap enc)[j]'(by rw [flatMap_len enc hk]; exact hj') := by
    rw [getElem!_pos _ j hj]
    have := flat_eq enc hk ss
    rw [← Array.getElem_toList]
    simp only [this]
  have h2 : cur[j]? = some ((ss.flatMap enc)[j]'(by rw [flatMap_len enc hk]; exact hj')) := by
    rw [← Array.getElem?_toList, ← List.getElem?_take_of_lt hj', ht, List.getElem?_eq_getElem]
  refine ⟨?_, blk_frozen hb j⟩
  rw [blk_cell hb j _ h2, h1]; rfl
theorem heap_sortedK {w : World} {g n : Nat} {os : Array Obj} {cur : Array Value} {e : TypeId} {fr : Nat × Nat} (d : Array Value) (hb : w.heap[g]? = some (.cells cur e fr)) :
    (grow (putRow id (Sort.ahead w n) g 0 d) os).heap[g]? = some (.cells (putCells id 0 d cur) e fr) := by
  have hg : g < w.heap.size := (Array.getElem?_eq_some_iff.1 hb).1
  rw [heap_grow_old _ _ (by simpa using hg)]
  simp [putRow, mapBlock, Sort.ahead, Array.getElem?_modify, hb, onCells]
theorem chg_sortedK {α : Type} [Inhabited α] (enc : α → List Value) (k : Nat) {w : World} {g n : Nat} {os : Array Obj} (d : Array α) : Chg [g] w (sortWorldK enc k w g 0 n d os) := by
  refine ⟨rfl, rfl, rfl, by simp [sortWorldK, putRowK], fun j hj hne => ?_⟩
  unfold sortWorldK putRowK
  rw [heap_grow_old _ _ (by simpa using hj)]
  have : g ≠ j := fun e => hne (by simp [e])
  simp [putRow, mapBlock, Sort.ahead, Array.getElem?_modify, this]
theorem take_putK (cur : Array Value) (F : Array Value) (h : F.size ≤ cur.size) : (putCells id 0 F cur).toList.take F.size = F.toList := by
  apply List.ext_getElem?
  intro j
  by_cases hj : j < F.size
  · rw [List.getElem?_take_of_lt hj, Array.getElem?_toList, Array.getElem?_toList]
    simp [putCells, hj, show j < cur.size by omega]
  · rw [List.getElem?_take_eq_none (by omega), List.getElem?_eq_none (by simp; omega)]
theorem ownsRow_sortedK {α : Type} [Inhabited α] (enc : α → List Value) {k : Nat} (hk : ∀ x, (enc x).length = k) {w : World} {base g cap n : Nat} {e : TypeId} {os : Array Obj} {cur : Array Value} {m : Nat} {ts : List α} (hl : ts.length = m) (hbase : base ≤ g) (hb : w.heap[g]? = some (.cells cur e (0, 0)))
    (h1 : m ≤ cap) (h2 : cap ≤ maxLen) (h3 : cur.size = cap * k) :
    (sortWorldK enc k w g 0 n ts.toArray os).ownsRow base e k (.slice (some ⟨g, 0, none⟩) m cap) m (ts.flatMap enc) := by
  refine ⟨by rw [flatMap_len enc hk, hl], .inr ⟨g, cap, _, rfl, hbase, heap_sortedK _ hb, h1, h2, by simp [putCells, h3], ?_⟩⟩
  have hs : (flatK enc k ts.toArray).size = m * k := by simp [hl]
  rw [← hs, take_putK _ _ (by rw [hs, h3]; exact Nat.mul_le_mul_right k h1), flat_eq enc hk]

/-! ### Bytes in their order -/
theorem cmpB_self : ∀ a : List UInt8, compareBytes a a = 0
  | [] => rfl
  | x :: r => by
    unfold compareBytes
    rw [if_neg (by simp), if_neg (by simp), cmpB_self r]
theorem cmpB_zero : ∀ a b : List UInt8, compareBytes a b = 0 → a = b
  | [], [], _ => rfl
  | [], _ :: _, h => by simp [compareBytes] at h
  | _ :: _, [], h => by simp [compareBytes] at h
  | x :: r, y :: s, h => by
    unfold compareBytes at h
    by_cases h1 : x < y
    · rw [if_pos h1] at h; cases h
    · by_cases h2 : y < x
      · rw [if_neg h1, if_pos h2] at h; cases h
      · rw [if_neg h1, if_neg h2] at h
        have e : x = y := by
          have h3 := UInt8.not_lt.1 h1
          have h4 := UInt8.not_lt.1 h2
          exact UInt8.le_antisymm h4 h3
        rw [e, cmpB_zero r s h]
theorem cmpB_lt : ∀ a b : List UInt8, compareBytes a b < 0 ↔ a < b
  | [], [] => by simp [compareBytes]
  | [], _ :: _ => by simp [compareBytes]
  | _ :: _, [] => by simp [compareBytes]
  | x :: r, y :: s => by
    unfold compareBytes
    rw [List.cons_lt_cons_iff]
    by_cases h1 : x < y
    · rw [if_pos h1]; simp [h1]
    · by_cases h2 : y < x
      · rw [if_neg h1, if_pos h2]
        have : x ≠ y := fun e => by subst e; exact h1 h2
        simp [h1, this]
      · rw [if_neg h1, if_neg h2]
        have e : x = y := UInt8.le_antisymm (UInt8.not_lt.1 h2) (UInt8.not_lt.1 h1)
        subst e
        rw [cmpB_lt r s]; simp
theorem ltB (x y : List UInt8) : ltOf compareBytes x y = decide (x < y) := by
  unfold ltOf
  rw [Bool.eq_iff_iff]; simp [cmpB_lt]
theorem swoB : SWO (ltOf compareBytes) where
  irrefl x := by rw [ltB]; simp [List.lt_irrefl]
  trans x y z h1 h2 := by
    rw [ltB, decide_eq_true_eq] at *
    exact List.lt_trans h1 h2
  ntrans x y z h1 h2 := by
    rw [ltB, decide_eq_false_iff_not] at *
    rw [List.not_lt] at *
    exact List.le_trans h2 h1
theorem totB (x y : List UInt8) (h1 : ltOf compareBytes x y = false) (h2 : ltOf compareBytes y x = false) : x = y := by
  rw [ltB, decide_eq_false_iff_not, List.not_lt] at *
  exact List.le_antisymm h2 h1
theorem leB : (fun x y : List UInt8 => !ltOf compareBytes y x) = fun x y => decide (x ≤ y) := by
  funext x y
  rw [ltB, Bool.eq_iff_iff]
  simp [List.not_lt]
end Go.Proofs.Ytaiihklfeoeoeaa.W
