/- A tree, plainly: a thing less, a thing with another name. -/
import Derived.Test.YtaiihklfeoeoeaaTP
namespace Go.Proofs.Ytaiihklfeoeoeaa.W
open Go.Proofs.Ytaiihklfeoeoeaa.NM
set_option linter.unusedVariables false
set_option linter.unusedSimpArgs false

def tDel (T : PT) (n : Nat) : PT := T.filter (fun x => x.ino != n)
theorem mem_del {T : PT} {n : Nat} {x : Th} : x ∈ tDel T n ↔ x ∈ T ∧ x.ino ≠ n := by
  unfold tDel; rw [List.mem_filter]; simp
theorem del_perm {T : PT} (h : T.Pairwise (fun x y => x.ino < y.ino)) {x : Th} (hx : x ∈ T) : T.Perm (x :: tDel T x.ino) := by
  unfold tDel
  induction T with
  | nil => cases hx
  | cons y r ih =>
    have h' := List.pairwise_cons.1 h
    rcases List.mem_cons.1 hx with rfl | hx'
    · have e : (x :: r).filter (fun z => z.ino != x.ino) = r := by
        rw [List.filter_cons_of_neg (by simp), List.filter_eq_self]
        intro z hz
        have := h'.1 z hz
        simp; omega
      rw [e]
    · have hlt := h'.1 x hx'
      rw [List.filter_cons_of_pos (by simp; omega)]
      exact ((ih h'.2 hx').cons y).trans (.swap ..)
theorem kidOf_iff {T : PT} (h : TOk T) {d : Nat} {s : List UInt8} {x : Th} : tKidOf T d s = some x ↔ x ∈ T ∧ x.dir = d ∧ x.name = s :=
  ⟨kidOf_some, fun ⟨h1, h2, h3⟩ => by rw [← h2, ← h3]; exact kidOf_mem h h1⟩
theorem kidOf_cons {T U : PT} (hT : TOk T) (hU : ∀ x ∈ U, tKidOf U x.dir x.name = some x) {y : Th} (hp : T.Perm (y :: U)) (d : Nat) (s : List UInt8) : tKidOf T d s = if d = y.dir ∧ s = y.name then some y else tKidOf U d s := by
  by_cases e : d = y.dir ∧ s = y.name
  · rw [if_pos e, kidOf_iff hT]
    exact ⟨hp.mem_iff.2 (List.mem_cons_self ..), e.1.symm, e.2.symm⟩
  · rw [if_neg e]
    cases hg : tKidOf U d s with
    | some x =>
      obtain ⟨h1, h2, h3⟩ := kidOf_some hg
      exact (kidOf_iff hT).2 ⟨hp.mem_iff.2 (List.mem_cons_of_mem _ h1), h2, h3⟩
    | none =>
      cases hg2 : tKidOf T d s with
      | none => rfl
      | some z =>
        obtain ⟨h1, h2, h3⟩ := kidOf_some hg2
        rcases List.mem_cons.1 (hp.mem_iff.1 h1) with rfl | h4
        · exact absurd ⟨h2.symm, h3.symm⟩ e
        · exact absurd ⟨h2, h3⟩ (kidOf_none hg z h4)
theorem kidOf_self_del {T : PT} (h : TOk T) (n : Nat) : ∀ x ∈ tDel T n, tKidOf (tDel T n) x.dir x.name = some x := by
  intro x hx
  cases hg : tKidOf (tDel T n) x.dir x.name with
  | none => exact absurd ⟨rfl, rfl⟩ (kidOf_none hg x hx)
  | some z =>
    obtain ⟨h1, h2, h3⟩ := kidOf_some hg
    have e1 := kidOf_mem h (mem_del.1 h1).1
    have e2 := kidOf_mem h (mem_del.1 hx).1
    rw [h2, h3, e2] at e1
    exact e1.symm
theorem ren_perm {T : PT} (h : T.Pairwise (fun x y => x.ino < y.ino)) {x : Th} (hx : x ∈ T) (d : Nat) (s : List UInt8) : (tRename T x.ino d s).Perm ({ x with dir := d, name := s } :: tDel T x.ino) := by
  have h1 := (del_perm h hx).map (fun y => if y.ino = x.ino then { y with dir := d, name := s } else y)
  have h2 : (tDel T x.ino).map (fun y => if y.ino = x.ino then { y with dir := d, name := s } else y) = tDel T x.ino := by
    conv => rhs; rw [← List.map_id (tDel T x.ino)]
    refine List.map_congr_left fun y hy => ?_
    rw [if_neg (mem_del.1 hy).2]; rfl
  rw [List.map_cons, h2, if_pos rfl] at h1
  exact h1
theorem any_kids {T : PT} {a : Nat} : T.any (fun x => x.dir == a) = true ↔ (T.filter (fun x => x.dir == a)).length ≠ 0 := by
  rw [List.any_eq_true]
  constructor
  · rintro ⟨x, hx, h⟩ h0
    have := List.eq_nil_of_length_eq_zero h0
    rw [List.filter_eq_nil_iff] at this
    exact this x hx h
  · intro h
    obtain ⟨x, hx⟩ := List.exists_mem_of_length_pos (Nat.pos_of_ne_zero h)
    obtain ⟨h1, h2⟩ := List.mem_filter.1 hx
    exact ⟨x, h1, h2⟩
end Go.Proofs.Ytaiihklfeoeoeaa.W
