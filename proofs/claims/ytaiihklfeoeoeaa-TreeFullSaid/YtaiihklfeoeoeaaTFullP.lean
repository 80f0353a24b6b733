/- Things of one directory, by their numbers: plain. -/
import Derived.Test.YtaiihklfeoeoeaaTP2
namespace Go.Proofs.Ytaiihklfeoeoeaa.W
open Go.Proofs.Ytaiihklfeoeoeaa.NM
set_option linter.unusedVariables false
set_option linter.unusedSimpArgs false

theorem split_one {p : List UInt8} (hm : mayB p = true) : splitB (47 :: p) = some [p] := by
  have := split_join [p] (by simpa using hm) (by simp)
  have e : joinB [p] = 47 :: p := by simp [joinB, tailB]
  rw [e] at this; exact this
theorem cons_root {p : List UInt8} (hm : mayB p = true) : (47 :: p : List UInt8) ≠ [47] := by
  intro h
  have := (may_len hm).1
  simp at h; subst h; simp at this
theorem place_one (T : PT) {p : List UInt8} (hm : mayB p = true) : tPlace T (47 :: p) = (1, p, 0) := by
  unfold tPlace
  rw [split_one hm]
  have e : tIsDir T 1 = true := rfl
  simp [tWalk, e]
theorem make_one {T : PT} {p : List UInt8} {d : Bool} (hT : TOk T) (hm : mayB p = true) (hk : tKidOf T 1 p = none) (hl : T.length + 1 < 128) :
    tMake T (47 :: p) d = ((tLeast 2 T, 0), tIns ⟨tLeast 2 T, 1, p, d⟩ T) := by
  unfold tMake
  rw [if_neg (cons_root hm), place_one T hm]
  have : tKid T 1 p = 0 := (kid_zero hT).2 hk
  simp only [ne_eq, not_true_eq_false, if_false, this]
  rw [if_neg (by omega)]
theorem make_full {T : PT} {p : List UInt8} {d : Bool} (hT : TOk T) (hm : mayB p = true) (hk : tKidOf T 1 p = none) (hl : 128 ≤ T.length + 1) :
    tMake T (47 :: p) d = ((0, 5), T) := by
  unfold tMake
  rw [if_neg (cons_root hm), place_one T hm]
  have : tKid T 1 p = 0 := (kid_zero hT).2 hk
  simp only [ne_eq, not_true_eq_false, if_false, this]
  rw [if_pos hl]
theorem look_one {T : PT} {p : List UInt8} (hT : TOk T) (hm : mayB p = true) {x : Th} (hk : tKidOf T 1 p = some x) : tLook T (47 :: p) = (x.ino, x.isDir, 0) := by
  have h0 : tKid T 1 p = x.ino := by unfold tKid; rw [hk]
  have hx := (kidOf_some hk).1
  have h2 := (hT.nums x hx).1
  have e : tIsDir T 1 = true := rfl
  have hd : tIsDir T x.ino = x.isDir := by
    unfold tIsDir
    rw [get_mem hT hx]
    have : (x.ino == 1) = false := by simp; omega
    rw [this]; rfl
  unfold tLook
  rw [split_one hm]
  simp only [tWalk, e, h0]
  rw [if_neg (show ¬ x.ino = 0 by omega)]
  simp [hd]
theorem look_no {T : PT} {p : List UInt8} (hT : TOk T) (hm : mayB p = true) (hk : tKidOf T 1 p = none) : tLook T (47 :: p) = (0, false, 6) := by
  have h0 : tKid T 1 p = 0 := (kid_zero hT).2 hk
  have e : tIsDir T 1 = true := rfl
  unfold tLook
  rw [split_one hm]
  simp [tWalk, e, h0]
theorem remove_one {T : PT} {p : List UInt8} (hT : TOk T) (hm : mayB p = true) {x : Th} (hk : tKidOf T 1 p = some x) (h1 : ∀ y ∈ T, y.dir = 1) : tRemove T (47 :: p) x.isDir = ((x.ino, 0), tDel T x.ino) := by
  have h2 := (hT.nums x (kidOf_some hk).1).1
  unfold tRemove
  rw [look_one hT hm hk]
  have e : T.any (fun y => y.dir == x.ino) = false := by
    rw [List.any_eq_false]
    intro y hy
    have := h1 y hy
    simp; omega
  have h3 : ¬ x.ino = 1 := by omega
  simp only [ne_eq, not_true_eq_false, if_false, h3, e]
  cases x.isDir <;> simp [tDel]
theorem remove_no {T : PT} {p : List UInt8} {d : Bool} (hT : TOk T) (hm : mayB p = true) (hk : tKidOf T 1 p = none) : tRemove T (47 :: p) d = ((0, 6), T) := by
  unfold tRemove
  rw [look_no hT hm hk]
  simp

/-- The things with the numbers a, a + 1, .. (n of them) whose names g tells. -/
def stL (d : Bool) (g : Nat → Option (List UInt8)) (a n : Nat) : PT := (List.range' a n).filterMap (fun j => (g j).map (fun s => ⟨j, 1, s, d⟩))
def updG (g : Nat → Option (List UInt8)) (k : Nat) (v : Option (List UInt8)) : Nat → Option (List UInt8) := fun j => if j = k then v else g j
theorem stL_zero (d : Bool) (g : Nat → Option (List UInt8)) (a : Nat) : stL d g a 0 = [] := rfl
theorem stL_succ (d : Bool) (g : Nat → Option (List UInt8)) (a n : Nat) : stL d g a (n + 1) = (match g a with | some s => [(⟨a, 1, s, d⟩ : Th)] | none => []) ++ stL d g (a + 1) n := by
  unfold stL
  rw [List.range'_succ, List.filterMap_cons]
  cases g a <;> rfl
theorem mem_stL {d : Bool} {g : Nat → Option (List UInt8)} {a n : Nat} {x : Th} : x ∈ stL d g a n ↔ a ≤ x.ino ∧ x.ino < a + n ∧ x.dir = 1 ∧ x.isDir = d ∧ g x.ino = some x.name := by
  unfold stL
  rw [List.mem_filterMap]
  constructor
  · rintro ⟨j, hj, he⟩
    rw [List.mem_range'_1] at hj
    cases hg : g j with
    | none => rw [hg] at he; cases he
    | some s =>
      rw [hg] at he
      simp at he
      subst he
      exact ⟨hj.1, hj.2, rfl, rfl, hg⟩
  · rintro ⟨h1, h2, h3, h4, h5⟩
    refine ⟨x.ino, List.mem_range'_1.2 ⟨h1, h2⟩, ?_⟩
    rw [h5]
    cases x
    simp only at h3 h4
    subst h3; subst h4; rfl
theorem fm_congr {α β : Type} {f g : α → Option β} : ∀ {l : List α}, (∀ x ∈ l, f x = g x) → l.filterMap f = l.filterMap g
  | [], _ => rfl
  | x :: r, h => by
    rw [List.filterMap_cons, List.filterMap_cons, h x (List.mem_cons_self ..), fm_congr (l := r) (fun y hy => h y (List.mem_cons_of_mem _ hy))]
theorem stL_congr {d : Bool} {g g' : Nat → Option (List UInt8)} {a n : Nat} (h : ∀ j, a ≤ j → j < a + n → g j = g' j) : stL d g a n = stL d g' a n := by
  unfold stL
  refine fm_congr fun j hj => ?_
  rw [List.mem_range'_1] at hj
  rw [h j hj.1 hj.2]
theorem least_stL {d : Bool} {g : Nat → Option (List UInt8)} {k : Nat} : ∀ (n a : Nat), a ≤ k → k < a + n → g k = none → (∀ j, a ≤ j → j < k → g j ≠ none) → tLeast a (stL d g a n) = k
  | 0, a, h1, h2, h3, h4 => by omega
  | n + 1, a, h1, h2, h3, h4 => by
    rw [stL_succ]
    by_cases e : a = k
    · subst e
      rw [h3]
      show tLeast a (stL d g (a + 1) n) = a
      cases hs : stL d g (a + 1) n with
      | nil => rfl
      | cons y r =>
        have := (mem_stL (d := d) (g := g) (a := a + 1) (n := n) (x := y)).1 (by rw [hs]; exact List.mem_cons_self ..)
        unfold tLeast
        rw [if_neg (by omega)]
    · cases hg : g a with
      | none => exact absurd hg (h4 a (Nat.le_refl _) (by omega))
      | some s =>
        show tLeast a ((⟨a, 1, s, d⟩ : Th) :: stL d g (a + 1) n) = k
        unfold tLeast
        rw [if_pos rfl]
        exact least_stL n (a + 1) (by omega) (by omega) h3 (fun j h5 h6 => h4 j (by omega) h6)
theorem ins_head {y : Th} {l : PT} (h : ∀ x ∈ l, y.ino < x.ino) : tIns y l = y :: l := by
  cases l with
  | nil => rfl
  | cons z r => unfold tIns; rw [if_pos (h z (List.mem_cons_self ..))]
theorem ins_stL {d : Bool} {g : Nat → Option (List UInt8)} {k : Nat} {s : List UInt8} : ∀ (n a : Nat), a ≤ k → k < a + n → g k = none → tIns ⟨k, 1, s, d⟩ (stL d g a n) = stL d (updG g k (some s)) a n
  | 0, a, h1, h2, h3 => by omega
  | n + 1, a, h1, h2, h3 => by
    rw [stL_succ, stL_succ]
    by_cases e : a = k
    · subst e
      have e1 : stL d (updG g a (some s)) (a + 1) n = stL d g (a + 1) n := stL_congr (fun j h5 h6 => by unfold updG; rw [if_neg (by omega)])
      rw [h3, e1]
      have e2 : updG g a (some s) a = some s := by unfold updG; rw [if_pos rfl]
      rw [e2]
      exact ins_head (fun x hx => by have := (mem_stL.1 hx).1; exact this)
    · have e2 : updG g k (some s) a = g a := by unfold updG; rw [if_neg e]
      rw [e2]
      have ih := ins_stL (d := d) (g := g) (k := k) (s := s) n (a + 1) (by omega) (by omega) h3
      cases hg : g a with
      | none => exact ih
      | some u =>
        show tIns _ ((⟨a, 1, u, d⟩ : Th) :: stL d g (a + 1) n) = _
        unfold tIns
        rw [if_neg (by simp; omega), ih]
        rfl
theorem del_stL {d : Bool} {g : Nat → Option (List UInt8)} {k a n : Nat} : tDel (stL d g a n) k = stL d (updG g k none) a n := by
  unfold tDel stL
  rw [List.filter_filterMap]
  refine fm_congr fun j hj => ?_
  by_cases e : j = k
  · subst e
    have : updG g j none j = none := by unfold updG; rw [if_pos rfl]
    rw [this]
    cases g j <;> simp
  · have : updG g k none j = g j := by unfold updG; rw [if_neg e]
    rw [this]
    cases g j with
    | none => rfl
    | some s => simp [e]
theorem len_stL_le {d : Bool} {g : Nat → Option (List UInt8)} (a n : Nat) : (stL d g a n).length ≤ n := by
  unfold stL
  have := List.length_filterMap_le (fun j => (g j).map (fun s => (⟨j, 1, s, d⟩ : Th))) (List.range' a n)
  simpa using this
theorem len_stL_lt {d : Bool} {g : Nat → Option (List UInt8)} {k : Nat} : ∀ (n a : Nat), a ≤ k → k < a + n → g k = none → (stL d g a n).length < n
  | 0, a, h1, h2, h3 => by omega
  | n + 1, a, h1, h2, h3 => by
    rw [stL_succ, List.length_append]
    by_cases e : a = k
    · subst e
      rw [h3]
      have := len_stL_le (d := d) (g := g) (a + 1) n
      simp; omega
    · have := len_stL_lt (d := d) (g := g) n (a + 1) (by omega) (by omega) h3
      cases g a <;> simp <;> omega
theorem len_stL_all {d : Bool} {g : Nat → Option (List UInt8)} : ∀ (n a : Nat), (∀ j, a ≤ j → j < a + n → g j ≠ none) → (stL d g a n).length = n
  | 0, a, h => rfl
  | n + 1, a, h => by
    rw [stL_succ, List.length_append, len_stL_all n (a + 1) (fun j h1 h2 => h j (by omega) (by omega))]
    cases hg : g a with
    | none => exact absurd hg (h a (Nat.le_refl _) (by omega))
    | some s => simp; omega
theorem kidOf_stL {d : Bool} {g : Nat → Option (List UInt8)} {a n : Nat} (hT : TOk (stL d g a n)) {k : Nat} {s : List UInt8} (h1 : a ≤ k) (h2 : k < a + n) (h3 : g k = some s) : tKidOf (stL d g a n) 1 s = some ⟨k, 1, s, d⟩ :=
  (kidOf_iff hT).2 ⟨mem_stL.2 ⟨h1, h2, rfl, rfl, h3⟩, rfl, rfl⟩
theorem kidOf_stL_no {d : Bool} {g : Nat → Option (List UInt8)} {a n : Nat} {s : List UInt8} (h : ∀ k, a ≤ k → k < a + n → g k ≠ some s) : tKidOf (stL d g a n) 1 s = none := by
  cases hk : tKidOf (stL d g a n) 1 s with
  | none => rfl
  | some x =>
    obtain ⟨h1, h2, h3⟩ := kidOf_some hk
    obtain ⟨g1, g2, g3, g4, g5⟩ := mem_stL.1 h1
    exact absurd (g5.trans (by rw [h3])) (h _ g1 g2)

/-! ### Labels -/
def lab (n : Nat) : List UInt8 := [UInt8.ofNat (97 + n / 100 % 10), UInt8.ofNat (97 + n / 10 % 10), UInt8.ofNat (97 + n % 10)]
def labOk : Bool := (List.range 129).all fun n => mayB (lab n) && mayB (121 :: lab n)
theorem lab_may {n : Nat} (h : n < 129) : mayB (lab n) = true ∧ mayB (121 :: lab n) = true := by
  have := List.all_eq_true.1 (show labOk = true by kernel_rfl) n (List.mem_range.2 h)
  simpa using this
def labV (l : List UInt8) : Nat := match l with | [a, b, c] => (a.toNat - 97) * 100 + (b.toNat - 97) * 10 + (c.toNat - 97) | _ => 0
def labOk2 : Bool := (List.range 129).all fun n => labV (lab n) == n
theorem lab_inj {n m : Nat} (hn : n < 129) (hm : m < 129) (h : lab n = lab m) : n = m := by
  have h1 := List.all_eq_true.1 (show labOk2 = true by kernel_rfl) n (List.mem_range.2 hn)
  have h2 := List.all_eq_true.1 (show labOk2 = true by kernel_rfl) m (List.mem_range.2 hm)
  simp at h1 h2
  rw [← h1, ← h2, h]
theorem lab_len (n : Nat) : (lab n).length = 3 := rfl
end Go.Proofs.Ytaiihklfeoeoeaa.W
