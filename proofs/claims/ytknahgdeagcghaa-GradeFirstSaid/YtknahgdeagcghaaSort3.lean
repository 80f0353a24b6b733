/- Go's stable sort, plainly: blocks, passes, the whole. -/
import Derived.Test.YtknahgdeagcghaaSort2
namespace Go.Proofs.Ytknahgdeagcghaa.St

/-- Blocks of s, each sorted, the last one may be shorter; what stands in an earlier one is less. -/
def Chain (s : Nat) : List (List Int) → Prop
  | [] => True
  | [B] => 0 < B.length ∧ B.length ≤ s
  | B :: C :: l => B.length = s ∧ Chain s (C :: l)
def Cross (bl : List (List Int)) : Prop := bl.Pairwise fun B C => ∀ x ∈ B, ∀ y ∈ C, x < y
def AllS (K : Int → Int) (bl : List (List Int)) : Prop := ∀ B ∈ bl, Sorted K B

/-- The first pass: insertion, block by block. -/
def blk (K : Int → Int) (n s : Nat) : Nat → Nat → List Int → Nat × List Int
  | 0, a, l => (a, l)
  | f + 1, a, l => if a + s ≤ n then blk K n s f (a + s) (insSort K a (a + s) l) else (a, l)
theorem blk_more (K : Int → Int) (n s : Nat) (hs : 0 < s) : ∀ f a l, n - a ≤ f → ∀ f', f ≤ f' → blk K n s f' a l = blk K n s f a l := by
  intro f
  induction f with
  | zero =>
    intro a l h f' hf
    cases f' with
    | zero => rfl
    | succ f' => unfold blk; rw [if_neg (by omega)]
  | succ f ih =>
    intro a l h f' hf
    obtain ⟨f', rfl⟩ : ∃ k, f' = k + 1 := ⟨f' - 1, by omega⟩
    unfold blk
    split
    · exact ih _ _ (by omega) f' (by omega)
    · rfl
def blkr (K : Int → Int) (n s a : Nat) (l : List Int) : Nat × List Int := blk K n s (n - a) a l
theorem blkr_go (K : Int → Int) (n s a : Nat) (l : List Int) (hs : 0 < s) (h : a + s ≤ n) : blkr K n s a l = blkr K n s (a + s) (insSort K a (a + s) l) := by
  unfold blkr
  obtain ⟨k, hk⟩ : ∃ k, n - a = k + 1 := ⟨n - a - 1, by omega⟩
  rw [hk]; conv => lhs; unfold blk
  rw [if_pos h]
  exact blk_more K n s hs _ _ _ (by omega) _ (by omega)
theorem blkr_end (K : Int → Int) (n s a : Nat) (l : List Int) (h : ¬ a + s ≤ n) : blkr K n s a l = (a, l) := by
  unfold blkr
  cases hk : n - a with
  | zero => rfl
  | succ k => unfold blk; rw [if_neg h]
/-- One pass of merges. -/
def mrg (K : Int → Int) (n s : Nat) : Nat → Nat → List Int → List Int
  | 0, _, l => l
  | f + 1, a, l => if a + 2 * s ≤ n then mrg K n s f (a + 2 * s) (symM K n a (a + s) (a + 2 * s) l) else if a + s < n then symM K n a (a + s) n l else l
theorem mrg_more (K : Int → Int) (n s : Nat) (hs : 0 < s) : ∀ f a l, n - a ≤ f → ∀ f', f ≤ f' → mrg K n s f' a l = mrg K n s f a l := by
  intro f
  induction f with
  | zero =>
    intro a l h f' hf
    cases f' with
    | zero => rfl
    | succ f' => unfold mrg; rw [if_neg (by omega), if_neg (by omega)]
  | succ f ih =>
    intro a l h f' hf
    obtain ⟨f', rfl⟩ : ∃ k, f' = k + 1 := ⟨f' - 1, by omega⟩
    unfold mrg
    split
    · exact ih _ _ (by omega) f' (by omega)
    · rfl
def mrgr (K : Int → Int) (n s a : Nat) (l : List Int) : List Int := mrg K n s (n - a) a l
theorem mrgr_go (K : Int → Int) (n s a : Nat) (l : List Int) (hs : 0 < s) (h : a + 2 * s ≤ n) : mrgr K n s a l = mrgr K n s (a + 2 * s) (symM K n a (a + s) (a + 2 * s) l) := by
  unfold mrgr
  obtain ⟨k, hk⟩ : ∃ k, n - a = k + 1 := ⟨n - a - 1, by omega⟩
  rw [hk]; conv => lhs; unfold mrg
  rw [if_pos h]
  exact mrg_more K n s hs _ _ _ (by omega) _ (by omega)
theorem mrgr_end (K : Int → Int) (n s a : Nat) (l : List Int) (h : ¬ a + 2 * s ≤ n) : mrgr K n s a l = if a + s < n then symM K n a (a + s) n l else l := by
  unfold mrgr
  cases hk : n - a with
  | zero => unfold mrg; rw [if_neg (by omega)]
  | succ k => unfold mrg; rw [if_neg h]
def passes (K : Int → Int) (n : Nat) : Nat → Nat → List Int → List Int
  | 0, _, l => l
  | f + 1, s, l => if s < n then passes K n f (2 * s) (mrgr K n s 0 l) else l
theorem passes_more (K : Int → Int) (n : Nat) : ∀ f s l, 0 < s → n - s ≤ f → ∀ f', f ≤ f' → passes K n f' s l = passes K n f s l := by
  intro f
  induction f with
  | zero =>
    intro s l hs h f' hf
    cases f' with
    | zero => rfl
    | succ f' => unfold passes; rw [if_neg (by omega)]
  | succ f ih =>
    intro s l hs h f' hf
    obtain ⟨f', rfl⟩ : ∃ k, f' = k + 1 := ⟨f' - 1, by omega⟩
    unfold passes
    split
    · exact ih _ _ (by omega) (by omega) f' (by omega)
    · rfl
def passr (K : Int → Int) (n s : Nat) (l : List Int) : List Int := passes K n (n - s) s l
theorem passr_go (K : Int → Int) (n s : Nat) (l : List Int) (hs : 0 < s) (h : s < n) : passr K n s l = passr K n (2 * s) (mrgr K n s 0 l) := by
  unfold passr
  obtain ⟨k, hk⟩ : ∃ k, n - s = k + 1 := ⟨n - s - 1, by omega⟩
  rw [hk]; conv => lhs; unfold passes
  rw [if_pos h]
  exact passes_more K n _ _ _ (by omega) (by omega) _ (by omega)
theorem passr_end (K : Int → Int) (n s : Nat) (l : List Int) (h : ¬ s < n) : passr K n s l = l := by
  unfold passr
  have : n - s = 0 := by omega
  rw [this]; rfl
def stable (K : Int → Int) (n : Nat) (l : List Int) : List Int := passr K n 20 (insSort K (blkr K n 20 0 l).1 n (blkr K n 20 0 l).2)

/-- The blocks of the first pass. -/
theorem blk_ok (K : Int → Int) (s : Nat) (hs : 0 < s) : ∀ (k : Nat) (P T : List Int), T.length ≤ k → T.Pairwise (· < ·) → ∀ a n, a = P.length → n = a + T.length →
    ∃ bl : List (List Int), insSort K (blkr K n s a (P ++ T)).1 n (blkr K n s a (P ++ T)).2 = P ++ bl.flatten ∧ bl.flatten.Perm T ∧ Chain s bl ∧ Cross bl ∧ AllS K bl := by
  intro k
  induction k with
  | zero =>
    intro P T h _ a n ha hn
    have : T = [] := List.eq_nil_of_length_eq_zero (by omega)
    subst this
    refine ⟨[], ?_, List.Perm.refl _, trivial, List.Pairwise.nil, fun B hB => by cases hB⟩
    rw [blkr_end K n s a _ (by simp at hn; omega)]
    simp only [List.flatten_nil]
    unfold insSort
    have : n - (a + 1) = 0 := by simp at hn; omega
    rw [this]; rfl
  | succ k ih =>
    intro P T h hinc a n ha hn
    by_cases c : a + s ≤ n
    · rw [blkr_go K n s a _ hs c]
      obtain ⟨B, U, rfl, hB⟩ : ∃ B U, T = B ++ U ∧ B.length = s := ⟨T.take s, T.drop s, (List.take_append_drop _ _).symm, by simp; omega⟩
      have hp := List.pairwise_append.1 hinc
      obtain ⟨E, e1, e2, e3⟩ := insSort_ok K P B U hp.1 a (a + s) ha (by omega)
      have hE : E.length = s := by rw [e2.length_eq, hB]
      rw [e1, ← List.append_assoc]
      obtain ⟨bl, b1, b2, b3, b4, b5⟩ := ih (P ++ E) U (by simp at h; omega) hp.2.1 (a + s) n (by simp; omega) (by simp at hn; omega)
      rw [b1]
      refine ⟨E :: bl, by simp, ?_, ?_, ?_, ?_⟩
      · rw [List.flatten_cons]; exact e2.append b2
      · cases bl with
        | nil => exact ⟨by omega, by omega⟩
        | cons C l => exact ⟨hE, b3⟩
      · refine List.pairwise_cons.2 ⟨fun C hC x hx y hy => hp.2.2 x (e2.subset hx) y (b2.subset (List.mem_flatten.2 ⟨C, hC, hy⟩)), b4⟩
      · intro C hC
        rcases List.mem_cons.1 hC with rfl | hC
        · exact e3
        · exact b5 C hC
    · rw [blkr_end K n s a _ c]
      simp only
      obtain ⟨E, e1, e2, e3⟩ := insSort_ok K P T [] hinc a n ha hn
      simp only [List.append_nil] at e1
      rw [e1]
      cases hT : T with
      | nil =>
        subst hT
        have : E = [] := List.eq_nil_of_length_eq_zero (by rw [e2.length_eq]; rfl)
        subst this
        exact ⟨[], rfl, List.Perm.refl _, trivial, List.Pairwise.nil, fun B hB => by cases hB⟩
      | cons x U =>
        rw [← hT]
        have hl : 0 < T.length := by rw [hT]; simp
        refine ⟨[E], by simp, by simpa using e2, ⟨by rw [e2.length_eq]; exact hl, by rw [e2.length_eq]; omega⟩, List.pairwise_singleton _ _, fun B hB => ?_⟩
        have : B = E := by simpa using hB
        rw [this]; exact e3
/-- A pass of merges. -/
theorem mrg_ok (K : Int → Int) (s : Nat) (hs : 0 < s) : ∀ (k : Nat) (P : List Int) (bl : List (List Int)), bl.length ≤ k → Chain s bl → Cross bl → AllS K bl → ∀ a n, a = P.length → n = a + bl.flatten.length →
    ∃ cl : List (List Int), mrgr K n s a (P ++ bl.flatten) = P ++ cl.flatten ∧ cl.flatten.Perm bl.flatten ∧ Chain (2 * s) cl ∧ Cross cl ∧ AllS K cl := by
  intro k
  induction k using Nat.strongRecOn with
  | ind k ih =>
    intro P bl hk hc hx hS a n ha hn
    match bl, hk, hc, hx, hS, hn with
    | [], hk, hc, hx, hS, hn =>
      refine ⟨[], ?_, List.Perm.refl _, trivial, List.Pairwise.nil, fun B hB => by cases hB⟩
      simp at hn
      rw [mrgr_end K n s a _ (by omega), if_neg (by omega)]
    | [B], hk, hc, hx, hS, hn =>
      obtain ⟨h1, h2⟩ := hc
      simp at hn
      refine ⟨[B], ?_, List.Perm.refl _, ⟨h1, by omega⟩, hx, hS⟩
      rw [mrgr_end K n s a _ (by omega), if_neg (by omega)]
    | B :: C :: rest, hk, hc, hx, hS, hn =>
      obtain ⟨h1, h2⟩ := hc
      have hx' := List.pairwise_cons.1 hx
      have hx2 := List.pairwise_cons.1 hx'.2
      have hBC : ∀ x ∈ B, ∀ y ∈ C, x < y := hx'.1 C (by simp)
      have hCl : 0 < C.length ∧ C.length ≤ s ∧ (rest ≠ [] → C.length = s) := by
        cases rest with
        | nil => exact ⟨h2.1, h2.2, fun h => absurd rfl h⟩
        | cons D l => exact ⟨by have := h2.1; omega, by have := h2.1; omega, fun _ => h2.1⟩
      have hfl : P ++ (B :: C :: rest).flatten = P ++ (B ++ (C ++ rest.flatten)) := by simp
      have hn' : n = a + (B.length + (C.length + rest.flatten.length)) := by
        rw [hn]; simp only [List.flatten_cons, List.length_append]
      rw [hfl]
      obtain ⟨M, m1, m2, m3⟩ := symM_ok K n P B C rest.flatten (hS B (by simp)) (hS C (by simp)) hBC (by omega) hCl.1 a (a + s) (a + s + C.length) ha (by omega) (by omega) (by omega)
      have hM : M.length = s + C.length := by rw [m2.length_eq]; simp; omega
      have hperm : ∀ cl : List (List Int), cl.flatten.Perm rest.flatten → (M :: cl).flatten.Perm (B :: C :: rest).flatten := by
        intro cl hp
        rw [List.flatten_cons, List.flatten_cons, List.flatten_cons, ← List.append_assoc]
        exact m2.append hp
      have hcross : ∀ cl : List (List Int), cl.flatten.Perm rest.flatten → Cross cl → Cross (M :: cl) := by
        intro cl hp hcr
        refine List.pairwise_cons.2 ⟨?_, hcr⟩
        intro D hD x hxm y hy
        obtain ⟨D', hD', hy'⟩ := List.mem_flatten.1 (hp.subset (List.mem_flatten.2 ⟨D, hD, hy⟩))
        rcases List.mem_append.1 (m2.subset hxm) with u | u
        · exact hx'.1 D' (by simp [hD']) x u y hy'
        · exact hx2.1 D' hD' x u y hy'
      have hsorted : ∀ cl : List (List Int), AllS K cl → AllS K (M :: cl) := by
        intro cl h D hD
        rcases List.mem_cons.1 hD with rfl | hD
        · exact m3
        · exact h D hD
      by_cases c : C.length = s
      · have c2 : a + 2 * s ≤ n := by omega
        rw [mrgr_go K n s a _ hs c2]
        have e : a + s + C.length = a + 2 * s := by omega
        rw [e] at m1
        rw [m1, ← List.append_assoc]
        have hrest : Chain s rest := by
          cases rest with
          | nil => trivial
          | cons D l => exact h2.2
        obtain ⟨cl, c3, c4, c5, c6, c7⟩ := ih (k - 1) (by simp at hk; omega) (P ++ M) rest (by simp at hk; omega) hrest hx2.2 (fun D hD => hS D (by simp [hD])) (a + 2 * s) n (by simp; omega) (by omega)
        rw [c3]
        refine ⟨M :: cl, by simp, hperm cl c4, ?_, hcross cl c4 c6, hsorted cl c7⟩
        cases cl with
        | nil => exact ⟨by omega, by omega⟩
        | cons D l => exact ⟨by omega, c5⟩
      · have hr : rest = [] := by
          cases rest with
          | nil => rfl
          | cons D l => exact absurd (hCl.2.2 (by simp)) c
        subst hr
        simp only [List.flatten_nil, List.length_nil, Nat.add_zero] at hn'
        rw [mrgr_end K n s a _ (by omega), if_pos (by omega)]
        have e : a + s + C.length = n := by omega
        rw [e] at m1
        rw [m1]
        exact ⟨[M], by simp, by simpa using m2, ⟨by omega, by omega⟩, List.pairwise_singleton _ _, hsorted [] (fun B hB => by cases hB)⟩
theorem chain_one {s : Nat} {bl : List (List Int)} (hs : 0 < s) (h : Chain s bl) (hn : bl.flatten.length ≤ s) : bl = [] ∨ ∃ B, bl = [B] := by
  match bl, h, hn with
  | [], _, _ => exact .inl rfl
  | [B], _, _ => exact .inr ⟨B, rfl⟩
  | B :: C :: l, h, hn =>
    exfalso
    obtain ⟨h1, h2⟩ := h
    have : 0 < C.length := by
      cases l with
      | nil => exact h2.1
      | cons D l => have := h2.1; omega
    simp only [List.flatten_cons, List.length_append] at hn
    omega
theorem pass_ok (K : Int → Int) (n : Nat) : ∀ (f s : Nat) (bl : List (List Int)), n - s ≤ f → 0 < s → Chain s bl → Cross bl → AllS K bl → n = bl.flatten.length →
    (passr K n s bl.flatten).Perm bl.flatten ∧ Sorted K (passr K n s bl.flatten) := by
  intro f
  induction f with
  | zero =>
    intro s bl hf hs hc hx hS hn
    rw [passr_end K n s _ (by omega)]
    refine ⟨List.Perm.refl _, ?_⟩
    rcases chain_one hs hc (by omega) with rfl | ⟨B, rfl⟩
    · exact List.Pairwise.nil
    · simpa using hS B (by simp)
  | succ f ih =>
    intro s bl hf hs hc hx hS hn
    by_cases c : s < n
    · rw [passr_go K n s _ hs c]
      obtain ⟨cl, c1, c2, c3, c4, c5⟩ := mrg_ok K s hs bl.length [] bl (Nat.le_refl _) hc hx hS 0 n rfl (by simpa using hn)
      simp only [List.nil_append] at c1
      rw [c1]
      have := ih (2 * s) cl (by omega) (by omega) c3 c4 c5 (by rw [c2.length_eq]; exact hn)
      exact ⟨this.1.trans c2, this.2⟩
    · rw [passr_end K n s _ c]
      refine ⟨List.Perm.refl _, ?_⟩
      rcases chain_one hs hc (by omega) with rfl | ⟨B, rfl⟩
      · exact List.Pairwise.nil
      · simpa using hS B (by simp)
/-- The sort of a rising list of places. -/
theorem stable_ok (K : Int → Int) (l : List Int) (hinc : l.Pairwise (· < ·)) : (stable K l.length l).Perm l ∧ Sorted K (stable K l.length l) := by
  unfold stable
  obtain ⟨bl, b1, b2, b3, b4, b5⟩ := blk_ok K 20 (by omega) l.length [] l (Nat.le_refl _) hinc 0 l.length rfl (by simp)
  simp only [List.nil_append] at b1
  rw [b1]
  have := pass_ok K l.length _ 20 bl (Nat.le_refl _) (by omega) b3 b4 b5 b2.length_eq.symm
  exact ⟨this.1.trans b2, this.2⟩
end Go.Proofs.Ytknahgdeagcghaa.St
