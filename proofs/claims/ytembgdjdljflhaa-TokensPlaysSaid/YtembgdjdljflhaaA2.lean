/- Plain: what the tests of TokensAlone ask of good rows. -/
import Derived.Test.YtembgdjdljflhaaA
namespace Go.Proofs.Ytembgdjdljflhaa
set_option linter.unusedVariables false
set_option linter.unusedSimpArgs false

theorem getD_getElem (l : List TRow) (q : Nat) (hq : q < l.length) : l.getD q default = l[q] := by
  rw [List.getD_eq_getElem?_getD, List.getElem?_eq_getElem hq]; rfl
theorem Good.pair {l : List TRow} (h : Good l) (p q : Nat) (hp : p < l.length) (hq : q < l.length) (hne : p ≠ q) :
    apartR (l.getD p default) (l.getD q default) ∧ ¬ ((l.getD p default).c = (l.getD q default).c ∧ (l.getD p default).h = (l.getD q default).h) := by
  rw [getD_getElem l p hp, getD_getElem l q hq]
  rcases Nat.lt_or_ge p q with hlt | hge
  · have h1 := List.pairwise_iff_getElem.1 h.ord p q hp hq hlt
    have h2 := List.pairwise_iff_getElem.1 h.alone p q hp hq hlt
    refine ⟨h2, ?_⟩
    unfold lt at h1; omega
  · have h1 := List.pairwise_iff_getElem.1 h.ord q p hq hp (by omega)
    have h2 := List.pairwise_iff_getElem.1 h.alone q p hq hp (by omega)
    refine ⟨fun e => ?_, ?_⟩
    · have := h2 e.symm; exact ⟨this.2, this.1⟩
    · unfold lt at h1; omega
def cm (l : List TRow) (c : Int) (q : Nat) : Nat := (l.take q).countP fun r => r.c == c
theorem cm_succ (l : List TRow) (c : Int) (q : Nat) (hq : q < l.length) : cm l c (q + 1) = cm l c q + if (l.getD q default).c = c then 1 else 0 := by
  unfold cm
  rw [take_succ_getD l q hq, List.countP_append]
  congr 1
  by_cases e : (l.getD q default).c = c
  · rw [if_pos e, List.countP_cons_of_pos (by simp only [beq_iff_eq]; exact e)]; rfl
  · rw [if_neg e, List.countP_cons_of_neg (by simp only [beq_iff_eq]; exact e)]; rfl
theorem len_of_rising (l : List TRow) (lo : Int) (n : Nat) (h1 : ∀ r ∈ l, lo ≤ r.h ∧ r.h < lo + n) (h2 : l.Pairwise (fun a b => a.h < b.h)) : l.length ≤ n := by
  induction l generalizing lo n with
  | nil => simp
  | cons r l ih =>
    have hr := h1 r (List.mem_cons_self ..)
    obtain ⟨ha, hb⟩ := List.pairwise_cons.1 h2
    cases n with
    | zero => simp at hr; omega
    | succ n =>
      have := ih (lo + 1) n (fun x hx => by have := ha x hx; have := h1 x (List.mem_cons_of_mem _ hx); omega) hb
      simp; omega
theorem Good.few4 {l : List TRow} (h : Good l) (c : Int) (q : Nat) : cm l c q ≤ 4 := by
  unfold cm
  rw [List.countP_eq_length_filter]
  refine len_of_rising _ 0 4 ?_ ?_
  · intro r hr
    have hm := (List.take_sublist _ _).subset (List.mem_filter.1 hr).1
    have := h.rng r hm
    omega
  · have hs : ((l.take q).filter (fun r => r.c == c)).Sublist l := List.filter_sublist.trans (List.take_sublist _ _)
    have ho := h.ord.sublist hs
    refine List.Pairwise.imp_of_mem ?_ ho
    intro a b ha hb hl
    have h1 := (List.mem_filter.1 ha).2
    have h2 := (List.mem_filter.1 hb).2
    simp at h1 h2
    unfold lt at hl; omega
end Go.Proofs.Ytembgdjdljflhaa
