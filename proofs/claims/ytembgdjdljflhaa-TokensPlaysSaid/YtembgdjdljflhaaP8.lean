/- Plain: where a row is put in. -/
import Derived.Test.YtembgdjdljflhaaP5
namespace Go.Proofs.Ytembgdjdljflhaa
open Go.RowKit
set_option linter.unusedVariables false
set_option linter.unusedSimpArgs false

/-- The rows that were copied when k were looked at, x put in at j. -/
def insAt2 (l : List TRow) (x : TRow) (j k : Nat) : List TRow := if k ≤ j then l.take k else l.take j ++ x :: (l.take k).drop j
theorem insAt2_zero (l : List TRow) (x : TRow) (j : Nat) : insAt2 l x j 0 = [] := by unfold insAt2; rw [if_pos (Nat.zero_le _)]; rfl
theorem insAt2_other (l : List TRow) (x : TRow) (j k : Nat) (hk : k < l.length) (hj : j ≤ l.length) (hne : k ≠ j) : insAt2 l x j (k + 1) = insAt2 l x j k ++ [l.getD k default] := by
  unfold insAt2
  rcases Nat.lt_or_ge k j with h | h
  · rw [if_pos (by omega), if_pos (by omega)]
    exact take_succ_getD l k hk
  · rw [if_neg (by omega), if_neg (by omega), take_succ_getD l k hk, List.drop_append_of_le_length (by rw [List.length_take]; omega)]
    simp
theorem insAt2_here (l : List TRow) (x : TRow) (j : Nat) (hj : j < l.length) : insAt2 l x j (j + 1) = insAt2 l x j j ++ [x] ++ [l.getD j default] := by
  unfold insAt2
  rw [if_neg (by omega), if_pos (Nat.le_refl _), take_succ_getD l j hj, List.drop_append_of_le_length (by rw [List.length_take]; omega), List.drop_of_length_le (by rw [List.length_take]; omega)]
  simp
theorem insAt2_len (l : List TRow) (x : TRow) (j k : Nat) : (insAt2 l x j k).length ≤ l.length + 1 := by
  unfold insAt2
  split
  · have := List.length_take_le' k l; omega
  · simp only [List.length_append, List.length_cons, List.length_drop, List.length_take]; omega
structure Ins (l : List TRow) (x : TRow) (j : Nat) : Prop where
  le : j ≤ l.length
  before : ∀ k, k < j → lt (l.getD k default) x
  here : j < l.length → lt x (l.getD j default)
  last : insRow l x = if j < l.length then insAt2 l x j l.length else insAt2 l x j l.length ++ [x]
theorem ins_of (l : List TRow) (x : TRow) (hg : Good l) (hx : 0 ≤ x.c ∧ x.c < 4 ∧ 0 ≤ x.h ∧ x.h < 4) (hf : (find l x.c x.h).isSome = false) : ∃ j, Ins l x j := by
  refine ⟨(l.takeWhile (fun y => decide (0 < against x y))).length, ?_⟩
  have hT : ∀ y ∈ l.takeWhile (fun y => decide (0 < against x y)), lt y x := by
    intro y hy
    have h1 := takeWhile_all l y hy
    have hm := (List.takeWhile_sublist _).subset hy
    exact (against_pos hx (hg.rng y hm)).1 (by simpa using h1)
  have hle : (l.takeWhile (fun y => decide (0 < against x y))).length ≤ l.length := (List.takeWhile_sublist _).length_le
  have hD : ∀ y ∈ l.dropWhile (fun y => decide (0 < against x y)), lt x y := by
    refine dropWhile_all x l hg.ord ?_
    intro y hy hp
    have h1 : ¬ lt y x := fun hl => by
      have := (against_pos hx (hg.rng y hy)).2 hl
      simp at hp; omega
    have h2 : ¬ (y.c = x.c ∧ y.h = x.h) := fun h => by
      have : (find l x.c x.h).isSome = true := (find_isSome _ _ _).2 ⟨y, hy, h.1, h.2⟩
      rw [hf] at this
      cases this
    unfold lt at *
    omega
  have hl := List.takeWhile_append_dropWhile (p := fun y => decide (0 < against x y)) (l := l)
  generalize hj : (l.takeWhile (fun y => decide (0 < against x y))).length = j at *
  have hta : l.takeWhile (fun y => decide (0 < against x y)) = l.take j := by
    conv => rhs; rw [← hl]
    rw [List.take_append_of_le_length (by omega), List.take_of_length_le (by omega)]
  have hdr : l.dropWhile (fun y => decide (0 < against x y)) = l.drop j := by
    conv => rhs; rw [← hl]
    rw [List.drop_append_of_le_length (by omega), List.drop_of_length_le (by omega)]
    simp
  refine ⟨hle, ?_, ?_, ?_⟩
  · intro k hk
    refine hT _ ?_
    rw [hta, getD_getElem l k (by omega)]
    exact List.mem_take_iff_getElem.2 ⟨k, by omega, rfl⟩
  · intro hk
    refine hD _ ?_
    rw [hdr, getD_getElem l j hk]
    exact List.mem_drop_iff_getElem.2 ⟨0, by omega, rfl⟩
  · unfold insRow
    rw [hta, hdr]
    unfold insAt2
    by_cases hk : j < l.length
    · rw [if_pos hk, if_neg (by omega), List.take_length]
    · rw [if_neg hk, if_pos (by omega), List.take_length, List.take_of_length_le (by omega), List.drop_of_length_le (by omega)]

/-- wpList_app1, the new block's number a letter. -/
theorem wpList_app2 {P : Program} {w : World} {ops : Array Oper} {rest : List Oper} {o : Oper} {a : Act} {Q : Exit → Act → World → Prop} (hgd : o.guard = none) (s x : Operand) (t : TypeId)
    (ho : o.op = .call { callee := .builtin .append, args := #[s, x], argTypes := #[t, t] })
    (base : Nat) {e : TypeId} {z : Value} {size bytes : Nat} (hE : El P t e z size bytes)
    (v : Value) (n : Nat) (xs : List Value) (hs : a.eval s = v) (hown : w.ownsRow base e size v n xs) (H : Nat) (hH : w.heap.size = H)
    (c : Nat) (news : Array Value) (hx : a.eval x = .slice (some ⟨H, 0, none⟩) 1 c) (hl : news.size = size) (h1 : ∀ u ∈ news.toList, u.oneCell' = true)
    (h63 : n + 1 ≤ maxLen) (hbytes : (n + 1) * bytes ≤ 140737488355328) (hbase : base ≤ w.heap.size)
    (h : ∀ v' w', w'.ownsRow base e size v' (n + 1) (xs ++ news.toList) → w.grownBy w' v.ownBlock → wpList P ops Q rest (a.put o.dst v') w') : wpList P ops Q (o :: rest) a (w.alloc (.cells news e)) := by
  subst hH
  exact wpList_app1 hgd s x t ho base hE v n xs hs hown c news hx hl h1 h63 hbytes hbase h
end Go.Proofs.Ytembgdjdljflhaa
