/- A tree, plainly. -/
import Derived.Test.YtaiihklfeoeoeaaNMP
namespace Go.Proofs.Ytaiihklfeoeoeaa.W
open Go.Proofs.Ytaiihklfeoeoeaa.NM
set_option linter.unusedVariables false
set_option linter.unusedSimpArgs false

/-- A thing. -/
structure Th where
  ino : Nat
  dir : Nat
  name : List UInt8
  isDir : Bool
  deriving DecidableEq
abbrev PT := List Th
def rootTh : Th := ⟨1, 0, [], true⟩
def tGet (T : PT) (a : Nat) : Option Th := T.find? (fun x => x.ino == a)
def tHas (T : PT) (a : Nat) : Bool := a == 1 || (tGet T a).isSome
def tIsDir (T : PT) (a : Nat) : Bool := a == 1 || (match tGet T a with | some x => x.isDir | none => false)
def tKidOf (T : PT) (d : Nat) (s : List UInt8) : Option Th := T.find? (fun x => x.dir == d && x.name == s)
def tKid (T : PT) (d : Nat) (s : List UInt8) : Nat := match tKidOf T d s with | some x => x.ino | none => 0
def tWalk (T : PT) : List (List UInt8) → Nat → Nat × Int
  | [], a => (a, 0)
  | s :: l, a => if tIsDir T a = false then (0, 10) else if tKid T a s = 0 then (0, 6) else tWalk T l (tKid T a s)
def tLook (T : PT) (p : List UInt8) : Nat × Bool × Int :=
  match splitB p with
  | none => (0, false, 12)
  | some l => if (tWalk T l 1).2 ≠ 0 then (0, false, (tWalk T l 1).2) else ((tWalk T l 1).1, tIsDir T (tWalk T l 1).1, 0)
def tPlace (T : PT) (p : List UInt8) : Nat × List UInt8 × Int :=
  match splitB p with
  | none => (0, [], 12)
  | some l => if l = [] then (0, [], 1) else if (tWalk T l.dropLast 1).2 ≠ 0 then (0, [], (tWalk T l.dropLast 1).2) else if tIsDir T (tWalk T l.dropLast 1).1 = false then (0, [], 10) else ((tWalk T l.dropLast 1).1, l.getLastD [], 0)
/-- The least number, from n on, that none of the rising ones has. -/
def tLeast : Nat → PT → Nat
  | n, [] => n
  | n, x :: r => if x.ino = n then tLeast (n + 1) r else n
def tIns (y : Th) : PT → PT
  | [] => [y]
  | x :: r => if y.ino < x.ino then y :: x :: r else x :: tIns y r
def tMake (T : PT) (p : List UInt8) (d : Bool) : (Nat × Int) × PT :=
  if p = [47] then ((0, 7), T) else if (tPlace T p).2.2 ≠ 0 then ((0, (tPlace T p).2.2), T) else
  if tKid T (tPlace T p).1 (tPlace T p).2.1 ≠ 0 then ((0, 7), T) else if 128 ≤ T.length + 1 then ((0, 5), T) else
  ((tLeast 2 T, 0), tIns ⟨tLeast 2 T, (tPlace T p).1, (tPlace T p).2.1, d⟩ T)
def tRemove (T : PT) (p : List UInt8) (d : Bool) : (Nat × Int) × PT :=
  if (tLook T p).2.2 ≠ 0 then ((0, (tLook T p).2.2), T) else if (tLook T p).1 = 1 then ((0, 8), T) else
  if (d && !(tLook T p).2.1) = true then ((0, 10), T) else if (!d && (tLook T p).2.1) = true then ((0, 9), T) else
  if T.any (fun x => x.dir == (tLook T p).1) = true then ((0, 11), T) else
  (((tLook T p).1, 0), T.filter (fun x => x.ino != (tLook T p).1))
def tRename (T : PT) (n d : Nat) (s : List UInt8) : PT := T.map (fun x => if x.ino = n then { x with dir := d, name := s } else x)
def tMove (T : PT) (p q : List UInt8) : Int × PT :=
  if (tLook T p).2.2 ≠ 0 then ((tLook T p).2.2, T) else if (tLook T p).1 = 1 then (8, T) else
  if splitB q = none then (12, T) else if (withinB q p || withinB p q) = true then (1, T) else
  if (tPlace T q).2.2 ≠ 0 then ((tPlace T q).2.2, T) else
  if tKid T (tPlace T q).1 (tPlace T q).2.1 ≠ 0 then (7, T) else
  (0, tRename T (tLook T p).1 (tPlace T q).1 (tPlace T q).2.1)

/-- A tree that may be. -/
structure TOk (T : PT) : Prop where
  rise : T.Pairwise (fun x y => x.ino < y.ino)
  nums : ∀ x ∈ T, 2 ≤ x.ino ∧ x.ino ≤ 128
  dirs : ∀ x ∈ T, tIsDir T x.dir = true
  apart : T.Pairwise (fun x y => ¬ (x.dir = y.dir ∧ x.name = y.name))
  may : ∀ x ∈ T, mayB x.name = true
theorem TOk.nil : TOk [] := ⟨.nil, by simp, by simp, .nil, by simp⟩

theorem get_mem {T : PT} (h : TOk T) {x : Th} (hx : x ∈ T) : tGet T x.ino = some x := by
  have h1 := h.rise
  clear h
  unfold tGet
  induction T with
  | nil => cases hx
  | cons y r ih =>
    rw [List.pairwise_cons] at h1
    rcases List.mem_cons.1 hx with rfl | hx'
    · simp
    · have := h1.1 x hx'
      rw [List.find?_cons_of_neg (by simp; omega)]
      exact ih hx' h1.2
theorem get_some {T : PT} {a : Nat} {x : Th} (h : tGet T a = some x) : x ∈ T ∧ x.ino = a := by
  unfold tGet at h
  exact ⟨List.mem_of_find?_eq_some h, by simpa using List.find?_some h⟩
theorem get_none {T : PT} {a : Nat} (h : tGet T a = none) : ∀ x ∈ T, x.ino ≠ a := by
  unfold tGet at h
  intro x hx
  simpa using List.find?_eq_none.1 h x hx
theorem kidOf_some {T : PT} {d : Nat} {s : List UInt8} {x : Th} (h : tKidOf T d s = some x) : x ∈ T ∧ x.dir = d ∧ x.name = s := by
  unfold tKidOf at h
  exact ⟨List.mem_of_find?_eq_some h, by simpa using List.find?_some h⟩
theorem kidOf_none {T : PT} {d : Nat} {s : List UInt8} (h : tKidOf T d s = none) : ∀ x ∈ T, ¬ (x.dir = d ∧ x.name = s) := by
  unfold tKidOf at h
  intro x hx
  simpa using List.find?_eq_none.1 h x hx
theorem kidOf_mem {T : PT} (h : TOk T) {x : Th} (hx : x ∈ T) : tKidOf T x.dir x.name = some x := by
  have h1 := h.apart
  clear h
  unfold tKidOf
  induction T with
  | nil => cases hx
  | cons y r ih =>
    rw [List.pairwise_cons] at h1
    rcases List.mem_cons.1 hx with rfl | hx'
    · simp
    · have := h1.1 x hx'
      rw [List.find?_cons_of_neg (by simpa using this)]
      exact ih hx' h1.2
theorem kid_zero {T : PT} (h : TOk T) {d : Nat} {s : List UInt8} : tKid T d s = 0 ↔ tKidOf T d s = none := by
  unfold tKid
  cases hk : tKidOf T d s with
  | none => simp
  | some x =>
    have := (h.nums x (kidOf_some hk).1).1
    simp; omega
theorem has_iff {T : PT} {a : Nat} : tHas T a = true ↔ a = 1 ∨ ∃ x ∈ T, x.ino = a := by
  unfold tHas
  simp only [Bool.or_eq_true, beq_iff_eq]
  refine or_congr Iff.rfl ?_
  constructor
  · intro h
    obtain ⟨x, hx⟩ := Option.isSome_iff_exists.1 h
    exact ⟨x, get_some hx⟩
  · rintro ⟨x, hx, rfl⟩
    cases hg : tGet T x.ino with
    | none => exact absurd rfl (get_none hg x hx)
    | some y => rfl
theorem dir_has {T : PT} {a : Nat} (h : tIsDir T a = true) : tHas T a = true := by
  unfold tIsDir at h
  unfold tHas
  simp only [Bool.or_eq_true, beq_iff_eq] at h ⊢
  rcases h with h | h
  · exact .inl h
  · right
    cases hg : tGet T a with
    | none => rw [hg] at h; cases h
    | some x => rfl
theorem kid_has {T : PT} {d : Nat} {s : List UInt8} (h : tKid T d s ≠ 0) : tHas T (tKid T d s) = true := by
  unfold tKid at h ⊢
  cases hk : tKidOf T d s with
  | none => rw [hk] at h; exact absurd rfl h
  | some x => exact has_iff.2 (.inr ⟨x, (kidOf_some hk).1, rfl⟩)
theorem walk_has {T : PT} : ∀ (l : List (List UInt8)) (a : Nat), tHas T a = true → (tWalk T l a).2 = 0 → tHas T (tWalk T l a).1 = true
  | [], a, h, _ => h
  | s :: l, a, h, h2 => by
    unfold tWalk at h2 ⊢
    by_cases h1 : tIsDir T a = false
    · rw [if_pos h1] at h2; cases h2
    · rw [if_neg h1] at h2 ⊢
      by_cases h3 : tKid T a s = 0
      · rw [if_pos h3] at h2; cases h2
      · rw [if_neg h3] at h2 ⊢
        exact walk_has l _ (kid_has h3) h2
theorem has_small {T : PT} (h : TOk T) {a : Nat} (ha : tHas T a = true) : 1 ≤ a ∧ a ≤ 128 := by
  rcases has_iff.1 ha with rfl | ⟨x, hx, rfl⟩
  · omega
  · have := h.nums x hx; omega
theorem walk_small {T : PT} (h : TOk T) : ∀ (l : List (List UInt8)) (a : Nat), tHas T a = true → (tWalk T l a).1 ≤ 128
  | [], a, ha => (has_small h ha).2
  | s :: l, a, ha => by
    unfold tWalk
    by_cases h1 : tIsDir T a = false
    · rw [if_pos h1]; simp
    · rw [if_neg h1]
      by_cases h3 : tKid T a s = 0
      · rw [if_pos h3]; simp
      · rw [if_neg h3]
        exact walk_small h l _ (kid_has h3)
theorem walk_err {T : PT} : ∀ (l : List (List UInt8)) (a : Nat), (tWalk T l a).2 = 0 ∨ (tWalk T l a).2 = 10 ∨ (tWalk T l a).2 = 6
  | [], a => .inl rfl
  | s :: l, a => by
    unfold tWalk
    by_cases h1 : tIsDir T a = false
    · rw [if_pos h1]; exact .inr (.inl rfl)
    · rw [if_neg h1]
      by_cases h3 : tKid T a s = 0
      · rw [if_pos h3]; exact .inr (.inr rfl)
      · rw [if_neg h3]
        exact walk_err l _
theorem has_one (T : PT) : tHas T 1 = true := rfl

/-! ### The least number -/
theorem least_ge : ∀ (T : PT) (n : Nat), n ≤ tLeast n T
  | [], n => Nat.le_refl _
  | x :: r, n => by
    unfold tLeast
    by_cases h : x.ino = n
    · rw [if_pos h]; have := least_ge r (n + 1); omega
    · rw [if_neg h]; exact Nat.le_refl _
theorem least_le : ∀ (T : PT) (n : Nat), tLeast n T ≤ n + T.length
  | [], n => Nat.le_refl _
  | x :: r, n => by
    unfold tLeast
    by_cases h : x.ino = n
    · rw [if_pos h]; have := least_le r (n + 1); simp; omega
    · rw [if_neg h]; omega
theorem least_free : ∀ (T : PT) (n : Nat), T.Pairwise (fun x y => x.ino < y.ino) → (∀ x ∈ T, n ≤ x.ino) → ∀ x ∈ T, x.ino ≠ tLeast n T
  | [], n, _, _ => by simp
  | y :: r, n, h1, h2 => by
    rw [List.pairwise_cons] at h1
    unfold tLeast
    by_cases h : y.ino = n
    · rw [if_pos h]
      intro x hx
      have h3 := least_ge r (n + 1)
      rcases List.mem_cons.1 hx with rfl | hx
      · omega
      · exact least_free r (n + 1) h1.2 (fun z hz => by have := h1.1 z hz; omega) x hx
    · rw [if_neg h]
      intro x hx
      have h3 := h2 y (List.mem_cons_self ..)
      rcases List.mem_cons.1 hx with rfl | hx
      · exact h
      · have := h1.1 x hx; omega
theorem least_taken : ∀ (T : PT) (n k : Nat), n ≤ k → k < tLeast n T → ∃ x ∈ T, x.ino = k
  | [], n, k, h1, h2 => by simp [tLeast] at h2; omega
  | y :: r, n, k, h1, h2 => by
    unfold tLeast at h2
    by_cases h : y.ino = n
    · rw [if_pos h] at h2
      by_cases e : k = n
      · exact ⟨y, List.mem_cons_self .., by omega⟩
      · obtain ⟨x, hx, e2⟩ := least_taken r (n + 1) k (by omega) h2
        exact ⟨x, List.mem_cons_of_mem _ hx, e2⟩
    · rw [if_neg h] at h2; omega
theorem mem_ins {y : Th} : ∀ (T : PT) (x : Th), x ∈ tIns y T ↔ x = y ∨ x ∈ T
  | [], x => by simp [tIns]
  | z :: r, x => by
    unfold tIns
    by_cases h : y.ino < z.ino
    · rw [if_pos h]; simp
    · rw [if_neg h, List.mem_cons, mem_ins r x, List.mem_cons]
      constructor
      · rintro (h | h | h)
        · exact .inr (.inl h)
        · exact .inl h
        · exact .inr (.inr h)
      · rintro (h | h | h)
        · exact .inr (.inl h)
        · exact .inl h
        · exact .inr (.inr h)
theorem ins_len (y : Th) : ∀ (T : PT), (tIns y T).length = T.length + 1
  | [] => rfl
  | z :: r => by
    unfold tIns
    by_cases h : y.ino < z.ino
    · rw [if_pos h]; rfl
    · rw [if_neg h, List.length_cons, ins_len y r]; rfl
theorem ins_perm (y : Th) : ∀ (T : PT), (tIns y T).Perm (y :: T)
  | [] => .refl _
  | z :: r => by
    unfold tIns
    by_cases h : y.ino < z.ino
    · rw [if_pos h]
    · rw [if_neg h]
      exact ((ins_perm y r).cons z).trans (.swap ..)
theorem ins_rise {y : Th} : ∀ (T : PT), T.Pairwise (fun x y => x.ino < y.ino) → (∀ x ∈ T, x.ino ≠ y.ino) → (tIns y T).Pairwise (fun x y => x.ino < y.ino)
  | [], _, _ => by simp [tIns]
  | z :: r, h1, h2 => by
    have h1' := List.pairwise_cons.1 h1
    unfold tIns
    by_cases h : y.ino < z.ino
    · rw [if_pos h]
      refine List.pairwise_cons.2 ⟨fun x hx => ?_, h1⟩
      rcases List.mem_cons.1 hx with rfl | hx
      · exact h
      · have := h1'.1 x hx; omega
    · rw [if_neg h]
      refine List.pairwise_cons.2 ⟨fun x hx => ?_, ins_rise r h1'.2 (fun x hx => h2 x (List.mem_cons_of_mem _ hx))⟩
      rcases (mem_ins r x).1 hx with rfl | hx
      · have := h2 z (List.mem_cons_self ..); omega
      · exact h1'.1 x hx
/-- What has one number, has it after as before. -/
theorem get_ins {T : PT} (h : TOk T) {y : Th} (hy : ∀ x ∈ T, x.ino ≠ y.ino) (a : Nat) : tGet (tIns y T) a = if a = y.ino then some y else tGet T a := by
  have hr := ins_rise T h.rise hy
  by_cases e : a = y.ino
  · rw [if_pos e]
    cases hg : tGet (tIns y T) a with
    | none => exact absurd e.symm (get_none hg y ((mem_ins T y).2 (.inl rfl)))
    | some z =>
      obtain ⟨h1, h2⟩ := get_some hg
      rcases (mem_ins T z).1 h1 with rfl | h3
      · rfl
      · exact absurd (by omega) (hy z h3)
  · rw [if_neg e]
    cases hg : tGet T a with
    | none =>
      cases hg2 : tGet (tIns y T) a with
      | none => rfl
      | some z =>
        obtain ⟨h1, h2⟩ := get_some hg2
        rcases (mem_ins T z).1 h1 with rfl | h3
        · exact absurd h2.symm e
        · exact absurd h2 (get_none hg z h3)
    | some x =>
      obtain ⟨hx, rfl⟩ := get_some hg
      cases hg2 : tGet (tIns y T) x.ino with
      | none => exact absurd rfl (get_none hg2 x ((mem_ins T x).2 (.inr hx)))
      | some z =>
        obtain ⟨h1, h2⟩ := get_some hg2
        rcases (mem_ins T z).1 h1 with rfl | h3
        · exact absurd h2.symm e
        · have := get_mem h h3
          rw [h2, hg] at this
          exact this.symm
theorem isDir_ins {T : PT} (h : TOk T) {y : Th} (hy : ∀ x ∈ T, x.ino ≠ y.ino) {a : Nat} (ha : a ≠ y.ino) : tIsDir (tIns y T) a = tIsDir T a := by
  unfold tIsDir
  rw [get_ins h hy, if_neg ha]
theorem isDir_ins_mono {T : PT} (h : TOk T) {y : Th} (hy : ∀ x ∈ T, x.ino ≠ y.ino) {a : Nat} (ha : tIsDir T a = true) : tIsDir (tIns y T) a = true := by
  by_cases e : a = y.ino
  · rcases has_iff.1 (dir_has ha) with h1 | ⟨x, hx, h1⟩
    · rw [h1]; rfl
    · exact absurd (h1.trans e) (hy x hx)
  · rw [isDir_ins h hy e]; exact ha
theorem TOk.ins {T : PT} (h : TOk T) {y : Th} (hy : ∀ x ∈ T, x.ino ≠ y.ino) (h2 : 2 ≤ y.ino ∧ y.ino ≤ 128) (hd : tIsDir T y.dir = true) (hk : tKidOf T y.dir y.name = none) (hm : mayB y.name = true) : TOk (tIns y T) where
  rise := ins_rise T h.rise hy
  nums x hx := by
    rcases (mem_ins T x).1 hx with rfl | hx
    · exact h2
    · exact h.nums x hx
  dirs x hx := by
    rcases (mem_ins T x).1 hx with rfl | hx
    · exact isDir_ins_mono h hy hd
    · exact isDir_ins_mono h hy (h.dirs x hx)
  apart := by
    refine ((ins_perm y T).pairwise_iff (fun {a b} hab h => hab ⟨h.1.symm, h.2.symm⟩)).2 (List.pairwise_cons.2 ⟨fun x hx hh => kidOf_none hk x hx ⟨hh.1.symm, hh.2.symm⟩, h.apart⟩)
  may x hx := by
    rcases (mem_ins T x).1 hx with rfl | hx
    · exact hm
    · exact h.may x hx
theorem kidOf_ins {T : PT} (h : TOk T) {y : Th} (hok : TOk (tIns y T)) (d : Nat) (s : List UInt8) : tKidOf (tIns y T) d s = if d = y.dir ∧ s = y.name then some y else tKidOf T d s := by
  by_cases e : d = y.dir ∧ s = y.name
  · rw [if_pos e, e.1, e.2]
    exact kidOf_mem hok ((mem_ins T y).2 (.inl rfl))
  · rw [if_neg e]
    cases hg : tKidOf T d s with
    | none =>
      cases hg2 : tKidOf (tIns y T) d s with
      | none => rfl
      | some z =>
        obtain ⟨h1, h2, h3⟩ := kidOf_some hg2
        rcases (mem_ins T z).1 h1 with rfl | h4
        · exact absurd ⟨h2.symm, h3.symm⟩ e
        · exact absurd ⟨h2, h3⟩ (kidOf_none hg z h4)
    | some x =>
      obtain ⟨hx, rfl, rfl⟩ := kidOf_some hg
      exact kidOf_mem hok ((mem_ins T x).2 (.inr hx))
/-! ### Removing -/
theorem TOk.del {T : PT} (h : TOk T) {n : Nat} (hn : n ≠ 1) (hno : ∀ x ∈ T, x.dir ≠ n) : TOk (T.filter (fun x => x.ino != n)) := by
  have hget : ∀ a, a ≠ n → tGet (T.filter (fun x => x.ino != n)) a = tGet T a := fun a ha => by
    unfold tGet
    rw [List.find?_filter]
    congr 1
    funext x
    by_cases e : x.ino = a
    · have : x.ino ≠ n := by omega
      simp [e]; omega
    · simp [e]
  exact {
    rise := h.rise.filter _
    nums := fun x hx => h.nums x (List.mem_filter.1 hx).1
    dirs := fun x hx => by
      have hx' := (List.mem_filter.1 hx).1
      have := h.dirs x hx'
      unfold tIsDir at this ⊢
      rw [hget _ (hno x hx')]
      exact this
    apart := h.apart.filter _
    may := fun x hx => h.may x (List.mem_filter.1 hx).1 }
theorem get_del {T : PT} (n a : Nat) : tGet (T.filter (fun x => x.ino != n)) a = if a = n then none else tGet T a := by
  by_cases e : a = n
  · rw [if_pos e]
    unfold tGet
    rw [List.find?_eq_none]
    intro x hx
    have := (List.mem_filter.1 hx).2
    simp at this ⊢
    omega
  · rw [if_neg e]
    unfold tGet
    rw [List.find?_filter]
    congr 1
    funext x
    by_cases e2 : x.ino = a
    · simp [e2]; omega
    · simp [e2]
theorem kidOf_del {T : PT} (h : TOk T) {n : Nat} (d : Nat) (s : List UInt8) : tKidOf (T.filter (fun x => x.ino != n)) d s = if tKid T d s = n then none else tKidOf T d s := by
  cases hg : tKidOf T d s with
  | none =>
    have : tKidOf (T.filter (fun x => x.ino != n)) d s = none := by
      cases hg2 : tKidOf (T.filter (fun x => x.ino != n)) d s with
      | none => rfl
      | some z =>
        obtain ⟨h1, h2⟩ := kidOf_some hg2
        exact absurd h2 (kidOf_none hg z (List.mem_filter.1 h1).1)
    rw [this]; simp
  | some x =>
    have hk : tKid T d s = x.ino := by unfold tKid; rw [hg]
    obtain ⟨hx, rfl, rfl⟩ := kidOf_some hg
    rw [hk]
    by_cases e : x.ino = n
    · rw [if_pos e]
      cases hg2 : tKidOf (T.filter (fun x => x.ino != n)) x.dir x.name with
      | none => rfl
      | some z =>
        obtain ⟨h1, h2, h3⟩ := kidOf_some hg2
        obtain ⟨h4, h5⟩ := List.mem_filter.1 h1
        have := kidOf_mem h h4
        rw [h2, h3, hg] at this
        cases this
        simp [e] at h5
    · rw [if_neg e]
      have hm : x ∈ T.filter (fun x => x.ino != n) := List.mem_filter.2 ⟨hx, by simpa using e⟩
      unfold tKidOf
      cases hg2 : (T.filter (fun x => x.ino != n)).find? (fun y => y.dir == x.dir && y.name == x.name) with
      | none => exact absurd ⟨rfl, rfl⟩ (kidOf_none hg2 x hm)
      | some z =>
        obtain ⟨h1, h2, h3⟩ := kidOf_some hg2
        have := kidOf_mem h (List.mem_filter.1 h1).1
        rw [h2, h3, hg] at this
        exact this.symm
/-! ### Moving -/
theorem mem_ren {T : PT} {n d : Nat} {s : List UInt8} {y : Th} : y ∈ tRename T n d s ↔ ∃ x ∈ T, (if x.ino = n then { x with dir := d, name := s } else x) = y := by
  unfold tRename; exact List.mem_map
theorem ren_ino (x : Th) (n d : Nat) (s : List UInt8) : (if x.ino = n then { x with dir := d, name := s } else x : Th).ino = x.ino ∧ (if x.ino = n then { x with dir := d, name := s } else x : Th).isDir = x.isDir := by
  by_cases e : x.ino = n
  · rw [if_pos e]; exact ⟨rfl, rfl⟩
  · rw [if_neg e]; exact ⟨rfl, rfl⟩
theorem get_ren {T : PT} (n d : Nat) (s : List UInt8) (a : Nat) : tGet (tRename T n d s) a = (tGet T a).map (fun x => if x.ino = n then { x with dir := d, name := s } else x) := by
  unfold tGet tRename
  rw [List.find?_map]
  congr 1
  congr 1
  funext x
  simp [Function.comp, (ren_ino x n d s).1]
theorem isDir_ren {T : PT} (n d : Nat) (s : List UInt8) (a : Nat) : tIsDir (tRename T n d s) a = tIsDir T a := by
  unfold tIsDir
  rw [get_ren]
  cases tGet T a with
  | none => rfl
  | some x => simp [(ren_ino x n d s).2]
theorem has_ren {T : PT} (n d : Nat) (s : List UInt8) (a : Nat) : tHas (tRename T n d s) a = tHas T a := by
  unfold tHas
  rw [get_ren]
  cases tGet T a <;> rfl
theorem TOk.ren {T : PT} (h : TOk T) {n d : Nat} {s : List UInt8} (hd : tIsDir T d = true) (hk : tKidOf T d s = none) (hm : mayB s = true) : TOk (tRename T n d s) where
  rise := by
    unfold tRename
    rw [List.pairwise_map]
    exact h.rise.imp fun {x y} hxy => by rw [(ren_ino x n d s).1, (ren_ino y n d s).1]; exact hxy
  nums y hy := by
    obtain ⟨x, hx, rfl⟩ := mem_ren.1 hy
    rw [(ren_ino x n d s).1]
    exact h.nums x hx
  dirs y hy := by
    obtain ⟨x, hx, rfl⟩ := mem_ren.1 hy
    rw [isDir_ren]
    by_cases e : x.ino = n
    · rw [if_pos e]; exact hd
    · rw [if_neg e]; exact h.dirs x hx
  apart := by
    unfold tRename
    rw [List.pairwise_map]
    refine List.Pairwise.imp_of_mem ?_ (h.apart.and h.rise)
    rintro x y hx hy ⟨h1, h2⟩
    by_cases e1 : x.ino = n
    · rw [if_pos e1, if_neg (by omega)]
      rintro ⟨h3, h4⟩
      exact kidOf_none hk y hy ⟨h3.symm, h4.symm⟩
    · rw [if_neg e1]
      by_cases e2 : y.ino = n
      · rw [if_pos e2]
        rintro ⟨h3, h4⟩
        exact kidOf_none hk x hx ⟨h3, h4⟩
      · rw [if_neg e2]; exact h1
  may y hy := by
    obtain ⟨x, hx, rfl⟩ := mem_ren.1 hy
    by_cases e : x.ino = n
    · rw [if_pos e]; exact hm
    · rw [if_neg e]; exact h.may x hx
end Go.Proofs.Ytaiihklfeoeoeaa.W
