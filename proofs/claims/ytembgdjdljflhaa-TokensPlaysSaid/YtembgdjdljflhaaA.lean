/- Plain: what Open and Close keep of the rows. -/
import Derived.Test.YtembgdjdljflhaaS
namespace Go.Proofs.Ytembgdjdljflhaa
open Go.RowKit
set_option linter.unusedVariables false
set_option linter.unusedSimpArgs false

def lt (r x : TRow) : Prop := r.c < x.c ∨ r.c = x.c ∧ r.h < x.h
def apartR (r x : TRow) : Prop := r.i = x.i → r.b = false ∧ x.b = false
structure Good (l : List TRow) : Prop where
  rng : ∀ r ∈ l, 0 ≤ r.c ∧ r.c < 4 ∧ 0 ≤ r.h ∧ r.h < 4
  ord : l.Pairwise lt
  alone : l.Pairwise apartR
theorem good_nil : Good [] := ⟨by simp, List.Pairwise.nil, List.Pairwise.nil⟩
theorem Good.sub {l m : List TRow} (h : Good l) (hs : m.Sublist l) : Good m :=
  ⟨fun r hr => h.rng r (hs.subset hr), h.ord.sublist hs, h.alone.sublist hs⟩
theorem Good.close {l : List TRow} (h : Good l) (c n : Int) : Good (closeL l (find l c n)) := by
  cases hf : find l c n with
  | none => exact h
  | some r => exact h.sub List.filter_sublist
theorem lt_trans' {a b c : TRow} (h1 : lt a b) (h2 : lt b c) : lt a c := by unfold lt at *; omega

theorem against_pos {r x : TRow} (hr : 0 ≤ r.c ∧ r.c < 4 ∧ 0 ≤ r.h ∧ r.h < 4) (hx : 0 ≤ x.c ∧ x.c < 4 ∧ 0 ≤ x.h ∧ x.h < 4) : 0 < against r x ↔ lt x r := by
  unfold against lt
  have w : ∀ z : Int, -4 < z → z < 4 → wrap64 z = z := fun z h1 h2 => by
    rw [wrap64]
    omega
  split
  · rw [w _ (by omega) (by omega)]; omega
  · rw [w _ (by omega) (by omega)]; omega

theorem least_free (l : List TRow) (c : Int) : (find l c (least l c)).isSome = false ∧ ∀ q, q < least l c → (find l c q).isSome = true := by
  have key : ∀ d n : Nat, cnt l c n + n ≤ l.length → l.length - n ≤ d → (∀ q, q < n → (find l c q).isSome = true) → ∃ m, m ≤ l.length ∧ (find l c m).isSome = false ∧ ∀ q, q < m → (find l c q).isSome = true := by
    intro d
    induction d with
    | zero =>
      intro n h1 h2 h3
      cases hf : (find l c n).isSome with
      | false => exact ⟨n, by omega, hf, h3⟩
      | true =>
        have := cnt_step l c n hf
        omega
    | succ d ih =>
      intro n h1 h2 h3
      cases hf : (find l c n).isSome with
      | false => exact ⟨n, by omega, hf, h3⟩
      | true =>
        have := cnt_step l c n hf
        refine ih (n + 1) (by omega) (by omega) (fun q hq => ?_)
        rcases Nat.lt_or_ge q n with h | h
        · exact h3 q h
        · obtain rfl : q = n := by omega
          exact hf
  obtain ⟨m, h1, h2, h3⟩ := key l.length 0 (by have := cnt_le l c 0; omega) (by omega) (fun q hq => absurd hq (by omega))
  rw [least_at l c m h2 h1 h3]
  exact ⟨h2, h3⟩

theorem takeWhile_all {α : Type} {p : α → Bool} : ∀ (l : List α), ∀ x ∈ l.takeWhile p, p x = true
  | [], x, h => by simp at h
  | a :: l, x, h => by
    rw [List.takeWhile_cons] at h
    split at h
    · rcases List.mem_cons.1 h with rfl | h'
      · assumption
      · exact takeWhile_all l x h'
    · simp at h

theorem dropWhile_all {p : TRow → Bool} (r : TRow) : ∀ (l : List TRow), l.Pairwise lt → (∀ x ∈ l, p x = false → lt r x) → ∀ x ∈ l.dropWhile p, lt r x
  | [], _, _, x, h => by simp at h
  | a :: l, ho, hp, x, h => by
    rw [List.dropWhile_cons] at h
    split at h
    · exact dropWhile_all r l (List.Pairwise.of_cons ho) (fun y hy => hp y (List.mem_cons_of_mem _ hy)) x h
    · rename_i hf
      have ha : lt r a := hp a (List.mem_cons_self ..) (by simpa using hf)
      rcases List.mem_cons.1 h with rfl | h'
      · exact ha
      · exact lt_trans' ha ((List.pairwise_cons.1 ho).1 x h')

theorem Good.ins {l : List TRow} (h : Good l) (r : TRow) (hr : 0 ≤ r.c ∧ r.c < 4 ∧ 0 ≤ r.h ∧ r.h < 4) (hf : (find l r.c r.h).isSome = false) (hb : busyL l r.i r.b = false) : Good (insRow l r) := by
  have hfree : ∀ x ∈ l, ¬ (x.c = r.c ∧ x.h = r.h) := by
    intro x hx hc
    have : (find l r.c r.h).isSome = true := by
      unfold find
      rw [List.find?_isSome]
      exact ⟨x, hx, by simp [hc.1, hc.2]⟩
    rw [hf] at this
    cases this
  have hap : ∀ x ∈ l, apartR r x ∧ apartR x r := by
    intro x hx
    unfold busyL at hb
    rw [List.any_eq_false] at hb
    have := hb x hx
    simp at this
    constructor
    · intro e; have := this e.symm; exact ⟨this.1, this.2⟩
    · intro e; have := this e; exact ⟨this.2, this.1⟩
  have hT : ∀ x ∈ l.takeWhile (fun x => decide (0 < against r x)), lt x r := by
    intro x hx
    have h1 := takeWhile_all l x hx
    have hm := (List.takeWhile_sublist _).subset hx
    exact (against_pos hr (h.rng x hm)).1 (by simpa using h1)
  have hD : ∀ x ∈ l.dropWhile (fun x => decide (0 < against r x)), lt r x := by
    refine dropWhile_all r l h.ord ?_
    intro x hx hp
    have h1 : ¬ lt x r := fun hl => by
      have := (against_pos hr (h.rng x hx)).2 hl
      simp at hp; omega
    have h2 := hfree x hx
    unfold lt at *
    omega
  have hl : l = l.takeWhile (fun x => decide (0 < against r x)) ++ l.dropWhile (fun x => decide (0 < against r x)) := (List.takeWhile_append_dropWhile).symm
  have hsT : ∀ x ∈ l.takeWhile (fun x => decide (0 < against r x)), x ∈ l := fun x hx => (List.takeWhile_sublist _).subset hx
  have hsD : ∀ x ∈ l.dropWhile (fun x => decide (0 < against r x)), x ∈ l := fun x hx => (List.dropWhile_sublist _).subset hx
  have po := h.ord
  have pa := h.alone
  rw [hl] at po pa
  obtain ⟨po1, po2, po3⟩ := List.pairwise_append.1 po
  obtain ⟨pa1, pa2, pa3⟩ := List.pairwise_append.1 pa
  unfold insRow
  refine ⟨?_, ?_, ?_⟩
  · intro x hx
    rcases List.mem_append.1 hx with h1 | h1
    · exact h.rng x (hsT x h1)
    · rcases List.mem_cons.1 h1 with rfl | h2
      · exact hr
      · exact h.rng x (hsD x h2)
  · refine List.pairwise_append.2 ⟨po1, List.pairwise_cons.2 ⟨hD, po2⟩, ?_⟩
    intro x hx y hy
    rcases List.mem_cons.1 hy with rfl | h2
    · exact hT x hx
    · exact po3 x hx y h2
  · refine List.pairwise_append.2 ⟨pa1, List.pairwise_cons.2 ⟨fun y hy => (hap y (hsD y hy)).1, pa2⟩, ?_⟩
    intro x hx y hy
    rcases List.mem_cons.1 hy with rfl | h2
    · exact (hap x (hsT x hx)).2
    · exact pa3 x hx y h2

theorem Good.opens {l : List TRow} (h : Good l) (c i : Int) (mw : Bool) : Good (openR l c i mw).2.2 := by
  unfold openR
  split
  · exact h
  · rename_i hm
    split
    · exact h
    · rename_i h4
      split
      · exact h
      · rename_i hb
        have hc : 0 ≤ c ∧ c < 4 := by
          unfold mayB at hm; simp at hm; omega
        exact h.ins ⟨c, least l c, i, mw⟩ ⟨hc.1, hc.2, by simp, by simp; omega⟩ (least_free l c).1 (by simpa using hb)
theorem open_len (l : List TRow) (c i : Int) (mw : Bool) : (openR l c i mw).2.2.length ≤ l.length + 1 := by
  unfold openR
  split
  · simp
  · split
    · simp
    · split
      · simp
      · show (insRow l _).length ≤ _
        unfold insRow
        rw [List.length_append, List.length_cons]
        have h1 : (l.takeWhile (fun x => decide (0 < against ⟨c, least l c, i, mw⟩ x)) ++ l.dropWhile (fun x => decide (0 < against ⟨c, least l c, i, mw⟩ x))).length = l.length := by rw [List.takeWhile_append_dropWhile]
        rw [List.length_append] at h1
        omega
theorem close_len (l : List TRow) (o : Option TRow) : (closeL l o).length ≤ l.length := by
  cases o with
  | none => exact Nat.le_refl _
  | some r => exact List.length_filter_le _ _
end Go.Proofs.Ytembgdjdljflhaa
