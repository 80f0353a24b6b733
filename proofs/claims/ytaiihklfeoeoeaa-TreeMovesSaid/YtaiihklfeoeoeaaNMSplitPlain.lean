/- What Split's loop has still to give: the plain law of its rounds. -/
import Derived.Test.YtaiihklfeoeoeaaNMP
namespace Go.Proofs.Ytaiihklfeoeoeaa.NM

/-- What comes of the names so far and of the rest of the path. -/
def contR (ls : List Bs) (r : Bs) : Option (List Bs) :=
  match r with
  | [] => if ls = [] then none else some ls
  | c :: q => if c = 47 && (cuts q).all mayB && decide (ls.length + (cuts q).length ≤ 8) then some (ls ++ cuts q) else none

theorem contR_cons (ls : List Bs) (q : Bs) : contR ls (47 :: q) = if (cuts q).all mayB && decide (ls.length + (cuts q).length ≤ 8) then some (ls ++ cuts q) else none := by
  simp [contR]
theorem contR_nil (ls : List Bs) : contR ls [] = if ls = [] then none else some ls := rfl
theorem contR_start (s : Bs) (h : s ≠ [47]) : contR [] s = splitB s := by
  unfold contR splitB
  rw [if_neg h]
  cases s with
  | nil => rfl
  | cons c q => simp
theorem contR_other {ls : List Bs} {c : UInt8} {q : Bs} (h : c ≠ 47) : contR ls (c :: q) = none := by simp [contR, h]
theorem contR_full {ls : List Bs} {c : UInt8} {q : Bs} (h : ls.length = 8) : contR ls (c :: q) = none := by
  have := cuts_ne q
  have hl : 1 ≤ (cuts q).length := by
    cases e : cuts q with
    | nil => exact absurd e this
    | cons a b => simp
  unfold contR
  simp [h]; omega
/-- The piece ends at a stroke. -/
theorem contR_stroke {ls : List Bs} {p q : Bs} (h : (47 : UInt8) ∉ p) : contR ls (47 :: (p ++ 47 :: q)) = if mayB p then contR (ls ++ [p]) (47 :: q) else none := by
  rw [contR_cons, contR_cons, cuts_app p h]
  by_cases hm : mayB p = true
  · simp only [hm, if_true, List.all_cons, Bool.true_and, List.length_cons, List.length_append, List.length_nil, List.append_assoc, List.cons_append, List.nil_append]
    have : (ls.length + ((cuts q).length + 1) ≤ 8) ↔ (ls.length + (0 + 1) + (cuts q).length ≤ 8) := by omega
    simp only [this]
  · simp [hm]
theorem contR_end {ls : List Bs} {p : Bs} (h : (47 : UInt8) ∉ p) (h8 : ls.length < 8) : contR ls (47 :: p) = if mayB p then contR (ls ++ [p]) [] else none := by
  rw [contR_cons, contR_nil, cuts_end p h]
  by_cases hm : mayB p = true
  · have : ls.length + 1 ≤ 8 := by omega
    simp [hm, this]
  · simp [hm]
end Go.Proofs.Ytaiihklfeoeoeaa.NM
