/- Plain: the reference's Open and Close answer as the program's do, on good rows. -/
import Derived.Test.YtembgdjdljflhaaA2
import Derived.Test.YtembgdjdljflhaaP2
namespace Go.Proofs.Ytembgdjdljflhaa
open Go.RowKit
set_option linter.unusedVariables false
set_option linter.unusedSimpArgs false

theorem Good.left {l m : List TRow} (h : Good (l ++ m)) : Good l := h.sub (List.sublist_append_left l m)
theorem find_append (l m : List TRow) (c n : Int) : find (l ++ m) c n = (find l c n).or (find m c n) := by
  unfold find; exact List.find?_append
theorem find_isSome (l : List TRow) (c n : Int) : (find l c n).isSome = true ↔ ∃ x ∈ l, x.c = c ∧ x.h = n := by
  unfold find
  rw [List.find?_isSome]
  constructor
  · rintro ⟨x, hx, h⟩; simp at h; exact ⟨x, hx, h.1, h.2⟩
  · rintro ⟨x, hx, h1, h2⟩; exact ⟨x, hx, by simp [h1, h2]⟩
def hStep (c : Int) (h : Int) (r : TRow) : Int := if r.c == c && r.h == h then h + 1 else h
def hFold (l : List TRow) (c : Int) : Int := l.foldl (hStep c) 0
theorem hFold_snoc (l : List TRow) (r : TRow) (c : Int) : hFold (l ++ [r]) c = hStep c (hFold l c) r := by simp [hFold]
theorem hFold_spec (c : Int) : ∀ n (l : List TRow), l.length = n → Good l → 0 ≤ hFold l c ∧ (∀ q : Int, 0 ≤ q → q < hFold l c → (find l c q).isSome = true) ∧ (find l c (hFold l c)).isSome = false := by
  intro n
  induction n with
  | zero =>
    intro l hl _
    rw [List.eq_nil_of_length_eq_zero hl]
    exact ⟨by simp [hFold], fun q h1 h2 => by simp [hFold] at h2; omega, by simp [find]⟩
  | succ n ih =>
    intro l hl hg
    have hne : l ≠ [] := by intro e; rw [e] at hl; simp at hl
    obtain ⟨l0, r, rfl⟩ : ∃ l0 r, l = l0 ++ [r] := ⟨l.dropLast, l.getLast hne, (List.dropLast_concat_getLast hne).symm⟩
    have hg0 := hg.left
    obtain ⟨h0, h1, h2⟩ := ih l0 (by simpa using hl) hg0
    rw [hFold_snoc]
    have hso : ∀ q, (find (l0 ++ [r]) c q).isSome = true ↔ (find l0 c q).isSome = true ∨ (r.c = c ∧ r.h = q) := by
      intro q
      rw [find_isSome, find_isSome]
      constructor
      · rintro ⟨x, hx, h⟩
        rcases List.mem_append.1 hx with hx | hx
        · exact .inl ⟨x, hx, h⟩
        · rw [List.mem_singleton] at hx; subst hx; exact .inr h
      · rintro (⟨x, hx, h⟩ | h)
        · exact ⟨x, List.mem_append_left _ hx, h⟩
        · exact ⟨r, by simp, h⟩
    unfold hStep
    by_cases hm : r.c = c ∧ r.h = hFold l0 c
    · rw [if_pos (by simp [hm.1, hm.2])]
      refine ⟨by omega, fun q hq1 hq2 => ?_, ?_⟩
      · rw [hso]
        by_cases he : q = hFold l0 c
        · right; exact ⟨hm.1, by rw [he]; exact hm.2⟩
        · left; exact h1 q hq1 (by omega)
      · rw [Bool.eq_false_iff]
        intro hs
        rw [hso] at hs
        rcases hs with hs | hs
        · obtain ⟨x, hx, hxc, hxh⟩ := (find_isSome _ _ _).1 hs
          have := (List.pairwise_append.1 hg.ord).2.2 x hx r (by simp)
          unfold lt at this
          omega
        · omega
    · rw [if_neg (by simp; intro h3 h4; exact hm ⟨h3, h4⟩)]
      refine ⟨h0, fun q hq1 hq2 => ?_, ?_⟩
      · rw [hso]; exact .inl (h1 q hq1 hq2)
      · rw [Bool.eq_false_iff]
        intro hs
        rw [hso] at hs
        rcases hs with hs | hs
        · rw [h2] at hs; cases hs
        · exact hm hs
theorem hFold_least (l : List TRow) (c : Int) (hg : Good l) : hFold l c = (least l c : Int) := by
  obtain ⟨h0, h1, h2⟩ := hFold_spec c l.length l rfl hg
  obtain ⟨g1, g2⟩ := least_free l c
  rcases Int.lt_trichotomy (hFold l c) (least l c) with h | h | h
  · have := g2 (hFold l c).toNat (by omega)
    rw [show (((hFold l c).toNat : Nat) : Int) = hFold l c by omega, h2] at this
    cases this
  · exact h
  · have := h1 (least l c) (by omega) h
    rw [g1] at this
    cases this
def mineL (l : List TRow) (c : Int) : Nat := l.countP fun r => r.c == c
theorem split_len (p : TRow → Bool) (l : List TRow) : l.length = (l.filter p).length + (l.filter fun r => !p r).length := by
  induction l with
  | nil => rfl
  | cons r l ih =>
    cases h : p r <;> simp [List.filter_cons, h] <;> omega
theorem rising_avoid (l : List TRow) (m : Nat) (hm : m < 4) (h1 : ∀ r ∈ l, 0 ≤ r.h ∧ r.h < 4 ∧ r.h ≠ m) (h2 : l.Pairwise (fun a b => a.h < b.h)) : l.length ≤ 3 := by
  have e := split_len (fun r => decide (r.h < (m : Int))) l
  have a := len_of_rising (l.filter fun r => decide (r.h < (m : Int))) 0 m (fun r hr => by
    have h := List.mem_filter.1 hr
    have := h1 r h.1
    have h3 := h.2
    simp at h3
    omega) (h2.sublist List.filter_sublist)
  have b := len_of_rising (l.filter fun r => !decide (r.h < (m : Int))) (m + 1) (3 - m) (fun r hr => by
    have h := List.mem_filter.1 hr
    have := h1 r h.1
    have h3 := h.2
    simp at h3
    omega) (h2.sublist List.filter_sublist)
  omega
theorem mine_full (l : List TRow) (c : Int) (hg : Good l) : 4 ≤ mineL l c ↔ 4 ≤ least l c := by
  obtain ⟨g1, g2⟩ := least_free l c
  have hsub : (l.filter (fun r => r.c == c)).Sublist l := List.filter_sublist
  have hp : (l.filter (fun r => r.c == c)).Pairwise (fun a b => a.h < b.h) := by
    refine List.Pairwise.imp_of_mem ?_ (hg.ord.sublist hsub)
    intro a b ha hb hl
    have h1 := (List.mem_filter.1 ha).2
    have h2 := (List.mem_filter.1 hb).2
    simp at h1 h2
    unfold lt at hl; omega
  have hml : mineL l c = (l.filter (fun r => r.c == c)).length := List.countP_eq_length_filter
  rw [hml]
  constructor
  · intro h4
    apply Classical.byContradiction
    intro hlt
    have := rising_avoid (l.filter (fun r => r.c == c)) (least l c) (by omega) (fun r hr => by
      have hm := (List.mem_filter.1 hr).1
      have hc := (List.mem_filter.1 hr).2
      simp at hc
      have hrng := hg.rng r hm
      refine ⟨hrng.2.2.1, hrng.2.2.2, fun e => ?_⟩
      have : (find l c (least l c)).isSome = true := (find_isSome _ _ _).2 ⟨r, hm, hc, e⟩
      rw [g1] at this
      cases this) hp
    omega
  · intro h4
    have key : ∀ (n : Nat) (m : List TRow) (lo : Int), m.Pairwise (fun a b => a.h < b.h) → (∀ q : Nat, q < n → ∃ x ∈ m, x.h = lo + q) → n ≤ m.length := by
      intro n
      induction n with
      | zero => intro m _ _ _; omega
      | succ n ih =>
        intro m lo hm hq
        have := ih (m.filter fun r => decide (lo < r.h)) (lo + 1) (hm.sublist List.filter_sublist) (fun q hqn => by
          obtain ⟨x, hx, he⟩ := hq (q + 1) (by omega)
          exact ⟨x, List.mem_filter.2 ⟨hx, by simp; omega⟩, by omega⟩)
        obtain ⟨x, hx, he⟩ := hq 0 (by omega)
        have h1 := split_len (fun r => decide (lo < r.h)) m
        have h2 : 0 < (m.filter fun r => !decide (lo < r.h)).length := List.length_pos_of_mem (a := x) (List.mem_filter.2 ⟨hx, by simp; omega⟩)
        omega
    refine Nat.le_trans ?_ (key 4 _ 0 hp (fun q hq => ?_))
    · omega
    · have := g2 q (by omega)
      obtain ⟨x, hx, hc, he⟩ := (find_isSome _ _ _).1 this
      exact ⟨x, List.mem_filter.2 ⟨hx, by simp [hc]⟩, by omega⟩

theorem close_same (l : List TRow) (c n : Int) (hg : Good l) : rcloseL l c n = closeL l (find l c n) := by
  unfold rcloseL closeL
  cases hf : find l c n with
  | none => rfl
  | some r =>
    simp only
    have hr : r.c = c ∧ r.h = n := by
      have := List.find?_some hf
      simpa using this
    have hm : r ∈ l := List.mem_of_find?_eq_some hf
    unfold keep
    apply List.filter_congr
    intro x hx
    congr 1
    rw [Bool.eq_iff_iff]
    unfold hit rowEq
    constructor
    · intro h
      simp at h
      obtain ⟨p, hp, hpe⟩ := List.mem_iff_getElem.1 hm
      obtain ⟨q, hq, hqe⟩ := List.mem_iff_getElem.1 hx
      have : p = q := by
        apply Classical.byContradiction
        intro hne
        have := (hg.pair p q hp hq hne).2
        rw [getD_getElem l p hp, getD_getElem l q hq, hpe, hqe] at this
        exact this ⟨by omega, by omega⟩
      subst this
      have : r = x := by rw [← hpe, ← hqe]
      subst this
      simp
    · intro h
      simp at h
      simp; omega
end Go.Proofs.Ytembgdjdljflhaa
