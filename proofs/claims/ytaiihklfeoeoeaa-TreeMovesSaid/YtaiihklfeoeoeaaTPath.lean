/- Paths in a tree, plainly: one thing has one path; each thing is below the root. -/
import Derived.Test.YtaiihklfeoeoeaaTP2
namespace Go.Proofs.Ytaiihklfeoeoeaa.W
open Go.Proofs.Ytaiihklfeoeoeaa.NM
set_option linter.unusedVariables false
set_option linter.unusedSimpArgs false

theorem walk_app (T : PT) : ∀ (l m : List (List UInt8)) (a : Nat), (tWalk T l a).2 = 0 → tWalk T (l ++ m) a = tWalk T m (tWalk T l a).1
  | [], m, a, _ => rfl
  | s :: l, m, a, h => by
    unfold tWalk at h
    rw [List.cons_append]
    conv => lhs; unfold tWalk
    conv => rhs; arg 3; unfold tWalk
    by_cases h1 : tIsDir T a = false
    · rw [if_pos h1] at h; cases h
    · rw [if_neg h1] at h ⊢
      rw [if_neg h1]
      by_cases h3 : tKid T a s = 0
      · rw [if_pos h3] at h; cases h
      · rw [if_neg h3] at h ⊢
        rw [if_neg h3]
        exact walk_app T l m _ h
theorem walk_stop (T : PT) : ∀ (l m : List (List UInt8)) (a : Nat), (tWalk T l a).2 ≠ 0 → tWalk T (l ++ m) a = tWalk T l a
  | [], m, a, h => absurd rfl h
  | s :: l, m, a, h => by
    unfold tWalk at h
    rw [List.cons_append]
    unfold tWalk
    by_cases h1 : tIsDir T a = false
    · rw [if_pos h1, if_pos h1]
    · rw [if_neg h1] at h ⊢
      rw [if_neg h1]
      by_cases h3 : tKid T a s = 0
      · rw [if_pos h3, if_pos h3]
      · rw [if_neg h3] at h ⊢
        rw [if_neg h3]
        exact walk_stop T l m _ h
theorem walk_one (T : PT) (s : List UInt8) (a : Nat) : tWalk T [s] a = if tIsDir T a = false then (0, 10) else if tKid T a s = 0 then (0, 6) else (tKid T a s, 0) := rfl
theorem walk_snoc {T : PT} {l : List (List UInt8)} {s : List UInt8} {a c : Nat} (h : tWalk T l a = (c, 0)) (hd : tIsDir T c = true) (hk : tKid T c s ≠ 0) : tWalk T (l ++ [s]) a = (tKid T c s, 0) := by
  rw [walk_app T l [s] a (by rw [h]), h, walk_one, if_neg (by rw [hd]; simp), if_neg hk]
theorem walk_snoc_inv {T : PT} {l : List (List UInt8)} {s : List UInt8} {a b : Nat} (h : tWalk T (l ++ [s]) a = (b, 0)) : ∃ c, tWalk T l a = (c, 0) ∧ tIsDir T c = true ∧ tKid T c s = b ∧ tKid T c s ≠ 0 := by
  by_cases h2 : (tWalk T l a).2 = 0
  · rw [walk_app T l [s] a h2, walk_one] at h
    by_cases h1 : tIsDir T (tWalk T l a).1 = false
    · rw [if_pos h1] at h; cases h
    · rw [if_neg h1] at h
      by_cases h3 : tKid T (tWalk T l a).1 s = 0
      · rw [if_pos h3] at h; cases h
      · rw [if_neg h3] at h
        exact ⟨_, Prod.ext rfl h2, by simpa using h1, (Prod.mk.inj h).1, h3⟩
  · rw [walk_stop T l [s] a h2] at h
    rw [h] at h2; exact absurd rfl h2
theorem kid_some {T : PT} {c : Nat} {s : List UInt8} (h : tKid T c s ≠ 0) : ∃ x, tKidOf T c s = some x ∧ x ∈ T ∧ x.dir = c ∧ x.name = s ∧ tKid T c s = x.ino := by
  unfold tKid at h
  cases hk : tKidOf T c s with
  | none => rw [hk] at h; exact absurd rfl h
  | some x =>
    obtain ⟨h1, h2, h3⟩ := kidOf_some hk
    exact ⟨x, rfl, h1, h2, h3, by unfold tKid; rw [hk]⟩
theorem kid_of_mem {T : PT} (h : TOk T) {x : Th} (hx : x ∈ T) : tKid T x.dir x.name = x.ino ∧ tKid T x.dir x.name ≠ 0 := by
  have := (h.nums x hx).1
  have e : tKid T x.dir x.name = x.ino := by unfold tKid; rw [kidOf_mem h hx]
  exact ⟨e, by rw [e]; omega⟩
theorem ino_inj {T : PT} (h : TOk T) {x y : Th} (hx : x ∈ T) (hy : y ∈ T) (e : x.ino = y.ino) : x = y := by
  have h1 := get_mem h hx
  rw [e, get_mem h hy] at h1
  exact (Option.some.inj h1).symm
/-- One thing has one path. -/
theorem walk_uniq {T : PT} (h : TOk T) : ∀ (n : Nat) (l m : List (List UInt8)) (b : Nat), l.length = n → tWalk T l 1 = (b, 0) → tWalk T m 1 = (b, 0) → l = m
  | 0, l, m, b, hn, h1, h2 => by
    obtain rfl := List.eq_nil_of_length_eq_zero hn
    obtain rfl : 1 = b := (Prod.mk.inj h1).1
    rcases List.eq_nil_or_concat m with rfl | ⟨m', s, rfl⟩
    · rfl
    · rw [List.concat_eq_append] at h2
      obtain ⟨c, _, _, e, hk⟩ := walk_snoc_inv h2
      obtain ⟨x, _, hx, _, _, e2⟩ := kid_some hk
      have := (h.nums x hx).1
      omega
  | n + 1, l, m, b, hn, h1, h2 => by
    rcases List.eq_nil_or_concat l with rfl | ⟨l', s, rfl⟩
    · simp at hn
    · rw [List.concat_eq_append] at h1 hn ⊢
      obtain ⟨c, g1, g2, g3, g4⟩ := walk_snoc_inv h1
      obtain ⟨x, _, hx, xd, xn, xe⟩ := kid_some g4
      rcases List.eq_nil_or_concat m with rfl | ⟨m', s', rfl⟩
      · obtain rfl : 1 = b := (Prod.mk.inj h2).1
        have := (h.nums x hx).1
        omega
      · rw [List.concat_eq_append] at h2 ⊢
        obtain ⟨c', k1, k2, k3, k4⟩ := walk_snoc_inv h2
        obtain ⟨y, _, hy, yd, yn, ye⟩ := kid_some k4
        obtain rfl := ino_inj h hx hy (by omega)
        obtain rfl : c = c' := by omega
        obtain rfl : s = s' := by rw [← xn, yn]
        rw [walk_uniq h n l' m' c (by simpa using hn) g1 k1]
theorem walk_inj {T : PT} (h : TOk T) {l m : List (List UInt8)} {b : Nat} (h1 : tWalk T l 1 = (b, 0)) (h2 : tWalk T m 1 = (b, 0)) : l = m := walk_uniq h _ l m b rfl h1 h2

/-! ### Below the root -/
inductive Reach (T : PT) : Nat → Prop
  | root : Reach T 1
  | step {x : Th} : x ∈ T → Reach T x.dir → Reach T x.ino
def TR (T : PT) : Prop := ∀ x ∈ T, Reach T x.ino
theorem TR.nil : TR [] := fun x hx => by cases hx
theorem Reach.mono {T U : PT} (h : ∀ x ∈ T, x ∈ U) {a : Nat} (hr : Reach T a) : Reach U a := by
  induction hr with
  | root => exact .root
  | step hx _ ih => exact .step (h _ hx) ih
theorem walk_reach {T : PT} : ∀ (l : List (List UInt8)) (a b : Nat), Reach T a → tWalk T l a = (b, 0) → Reach T b
  | [], a, b, ha, h => by obtain rfl : a = b := (Prod.mk.inj h).1; exact ha
  | s :: l, a, b, ha, h => by
    unfold tWalk at h
    by_cases h1 : tIsDir T a = false
    · rw [if_pos h1] at h; cases h
    · rw [if_neg h1] at h
      by_cases h3 : tKid T a s = 0
      · rw [if_pos h3] at h; cases h
      · rw [if_neg h3] at h
        obtain ⟨x, _, hx, xd, xn, xe⟩ := kid_some h3
        rw [xe] at h
        exact walk_reach l _ b (.step hx (by rw [xd]; exact ha)) h
theorem place_walk {T : PT} {p : List UInt8} (h : (tPlace T p).2.2 = 0) : ∃ l s, splitB p = some (l ++ [s]) ∧ tWalk T l 1 = ((tPlace T p).1, 0) ∧ (tPlace T p).2.1 = s ∧ tIsDir T (tPlace T p).1 = true := by
  unfold tPlace at h ⊢
  cases hs : splitB p with
  | none => rw [hs] at h; cases h
  | some l =>
    rw [hs] at h
    simp only at h ⊢
    by_cases h0 : l = []
    · rw [if_pos h0] at h; cases h
    · rw [if_neg h0] at h ⊢
      by_cases h1 : (tWalk T l.dropLast 1).2 ≠ 0
      · rw [if_pos h1] at h; exact absurd h h1
      · rw [if_neg h1] at h ⊢
        by_cases h2 : tIsDir T (tWalk T l.dropLast 1).1 = false
        · rw [if_pos h2] at h; cases h
        · rw [if_neg h2]
          have e : l.dropLast ++ [l.getLastD []] = l := by
            rw [List.getLastD_eq_getLast?, List.getLast?_eq_some_getLast h0]
            exact List.dropLast_concat_getLast h0
          exact ⟨l.dropLast, l.getLastD [], by rw [e], Prod.ext rfl (by simpa using h1), rfl, by simpa using h2⟩
theorem TR.make {T : PT} (hT : TOk T) (h : TR T) (p : List UInt8) (d : Bool) : TR (tMake T p d).2 := by
  unfold tMake
  split
  · exact h
  · split
    · exact h
    · rename_i h0
      split
      · exact h
      · split
        · exact h
        · obtain ⟨l, s, _, hw, _, _⟩ := place_walk (T := T) (p := p) (by simpa using h0)
          have hr := walk_reach l 1 _ .root hw
          intro x hx
          have hm : ∀ z ∈ T, z ∈ tIns ⟨tLeast 2 T, (tPlace T p).1, (tPlace T p).2.1, d⟩ T := fun z hz => (mem_ins T z).2 (.inr hz)
          rcases (mem_ins T x).1 hx with rfl | hx'
          · exact .step hx (hr.mono hm)
          · exact (h x hx').mono hm
theorem reach_del {T : PT} {n : Nat} (hno : ∀ x ∈ T, x.dir ≠ n) {a : Nat} (hr : Reach T a) (ha : a ≠ n) : Reach (T.filter (fun x => x.ino != n)) a := by
  induction hr with
  | root => exact .root
  | @step x hx _ ih => exact .step (List.mem_filter.2 ⟨hx, by simpa using ha⟩) (ih (hno x hx))
theorem TR.remove {T : PT} (h : TR T) (p : List UInt8) (d : Bool) : TR (tRemove T p d).2 := by
  unfold tRemove
  split
  · exact h
  · split
    · exact h
    · split
      · exact h
      · split
        · exact h
        · split
          · exact h
          · rename_i h5
            intro x hx
            obtain ⟨h1, h2⟩ := List.mem_filter.1 hx
            refine reach_del (fun y hy e => h5 ?_) (h x h1) (by simpa using h2)
            rw [List.any_eq_true]
            exact ⟨y, hy, by simpa using e⟩
/-- A walk that doesn't meet n goes as before when n is given another name. -/
theorem walk_ren {T : PT} (hT : TOk T) {n q : Nat} {s : List UInt8} (hok : TOk (tRename T n q s)) : ∀ (l : List (List UInt8)) (a b : Nat), tWalk T l a = (b, 0) → (∀ k, k ≤ l.length → k ≠ 0 → tWalk T (l.take k) a ≠ (n, 0)) → tWalk (tRename T n q s) l a = (b, 0)
  | [], a, b, h, _ => h
  | u :: l, a, b, h, hno => by
    have h' := h
    unfold tWalk at h ⊢
    rw [isDir_ren]
    by_cases h1 : tIsDir T a = false
    · rw [if_pos h1] at h; cases h
    · rw [if_neg h1] at h ⊢
      by_cases h3 : tKid T a u = 0
      · rw [if_pos h3] at h; cases h
      · rw [if_neg h3] at h
        obtain ⟨x, _, hx, xd, xn, xe⟩ := kid_some h3
        have h1w : tWalk T ((u :: l).take 1) a = (x.ino, 0) := by
          show tWalk T [u] a = _
          rw [walk_one, if_neg h1, if_neg h3, xe]
        have hne : x.ino ≠ n := fun e => hno 1 (by simp) (by omega) (by rw [h1w, e])
        have hx' : x ∈ tRename T n q s := mem_ren.2 ⟨x, hx, by rw [if_neg hne]⟩
        have hk : tKid (tRename T n q s) a u = x.ino := by
          have := (kid_of_mem hok hx').1
          rw [xd, xn] at this; exact this
        have := (hT.nums x hx).1
        rw [hk, if_neg (by omega)]
        rw [xe] at h
        refine walk_ren hT hok l _ b h (fun k hk hk0 he => hno (k + 1) (by simp; omega) (by omega) ?_)
        rw [List.take_succ_cons]
        unfold tWalk
        rw [if_neg h1, if_neg h3, xe, he]
theorem look_walk {T : PT} {p : List UInt8} (h : (tLook T p).2.2 = 0) : ∃ l, splitB p = some l ∧ tWalk T l 1 = ((tLook T p).1, 0) ∧ (tLook T p).2.1 = tIsDir T (tLook T p).1 := by
  unfold tLook at h ⊢
  cases hs : splitB p with
  | none => rw [hs] at h; cases h
  | some l =>
    rw [hs] at h
    simp only at h ⊢
    by_cases h1 : (tWalk T l 1).2 ≠ 0
    · rw [if_pos h1] at h; exact absurd h h1
    · rw [if_neg h1]
      exact ⟨l, rfl, Prod.ext rfl (by simpa using h1), rfl⟩
/-- What a move that goes looks like. -/
theorem move_goes {T : PT} {p q : List UInt8} (h : (tMove T p q).1 = 0) : ∃ l m s n d, splitB p = some l ∧ splitB q = some (m ++ [s]) ∧ tWalk T l 1 = (n, 0) ∧ n ≠ 1 ∧ tWalk T m 1 = (d, 0) ∧ tIsDir T d = true ∧ tKid T d s = 0 ∧
    l.isPrefixOf (m ++ [s]) = false ∧ (m ++ [s]).isPrefixOf l = false ∧ tMove T p q = (0, tRename T n d s) ∧ tLook T p = (n, tIsDir T n, 0) := by
  have h0 := h
  unfold tMove at h
  by_cases h1 : (tLook T p).2.2 ≠ 0
  · rw [if_pos h1] at h; exact absurd h h1
  · rw [if_neg h1] at h
    by_cases h2 : (tLook T p).1 = 1
    · rw [if_pos h2] at h; cases h
    · rw [if_neg h2] at h
      by_cases h3 : splitB q = none
      · rw [if_pos h3] at h; cases h
      · rw [if_neg h3] at h
        by_cases h4 : (withinB q p || withinB p q) = true
        · rw [if_pos h4] at h; cases h
        · rw [if_neg h4] at h
          by_cases h5 : (tPlace T q).2.2 ≠ 0
          · rw [if_pos h5] at h; exact absurd h h5
          · rw [if_neg h5] at h
            by_cases h6 : tKid T (tPlace T q).1 (tPlace T q).2.1 ≠ 0
            · rw [if_pos h6] at h; cases h
            · obtain ⟨l, e1, e2, e3⟩ := look_walk (T := T) (p := p) (by simpa using h1)
              obtain ⟨m, s, f1, f2, f3, f4⟩ := place_walk (T := T) (p := q) (by simpa using h5)
              have hw : withinB q p = false ∧ withinB p q = false := by simpa using h4
              unfold withinB at hw
              rw [e1, f1] at hw
              refine ⟨l, m, s, _, _, e1, f1, e2, h2, f2, f4, by rw [← f3]; simpa using h6, hw.1, hw.2, ?_, ?_⟩
              · unfold tMove
                rw [if_neg h1, if_neg h2, if_neg h3, if_neg h4, if_neg h5, if_neg h6, f3]
              · exact Prod.ext rfl (Prod.ext e3 (by simpa using h1))
theorem move_stays {T : PT} {p q : List UInt8} (h : (tMove T p q).1 ≠ 0) : (tMove T p q).2 = T := by
  unfold tMove at h ⊢
  split
  · rfl
  · split
    · rfl
    · split
      · rfl
      · split
        · rfl
        · split
          · rfl
          · split
            · rfl
            · rename_i h1 h2 h3 h4 h5 h6
              rw [if_neg h1, if_neg h2, if_neg h3, if_neg h4, if_neg h5, if_neg h6] at h
              exact absurd rfl h
/-- Where no way leads through what is moved. -/
theorem free_walk {T : PT} (hT : TOk T) {l m : List (List UInt8)} {s : List UInt8} {n : Nat} (hl : tWalk T l 1 = (n, 0)) (hp : l.isPrefixOf (m ++ [s]) = false) : ∀ k, k ≤ m.length → k ≠ 0 → tWalk T (m.take k) 1 ≠ (n, 0) := by
  intro k hk _ he
  have e := walk_inj hT hl he
  have : l.isPrefixOf (m ++ [s]) = true := by
    rw [List.isPrefixOf_iff_prefix, e]
    exact (List.take_prefix k m).trans (List.prefix_append m [s])
  rw [hp] at this; cases this
theorem ren_tok {T : PT} (hT : TOk T) {n d : Nat} {s : List UInt8} {q : List UInt8} {m : List (List UInt8)} (hq : splitB q = some (m ++ [s])) (hd : tIsDir T d = true) (hk : tKid T d s = 0) : TOk (tRename T n d s) :=
  hT.ren hd ((kid_zero hT).1 hk) ((split_some hq).1 s (by simp))
theorem reach_ren {T : PT} (hT : TOk T) (h : TR T) {n d : Nat} {s : List UInt8} {m : List (List UInt8)} (hok : TOk (tRename T n d s)) (hm : tWalk T m 1 = (d, 0)) (hf : ∀ k, k ≤ m.length → k ≠ 0 → tWalk T (m.take k) 1 ≠ (n, 0)) : TR (tRename T n d s) := by
  have hd : Reach (tRename T n d s) d := walk_reach m 1 d .root (walk_ren hT hok m 1 d hm hf)
  have key : ∀ a, Reach T a → Reach (tRename T n d s) a := by
    intro a ha
    induction ha with
    | root => exact .root
    | @step x hx _ ih =>
      by_cases e : x.ino = n
      · have : ({ x with dir := d, name := s } : Th) ∈ tRename T n d s := mem_ren.2 ⟨x, hx, by rw [if_pos e]⟩
        exact Reach.step (x := { x with dir := d, name := s }) this hd
      · exact Reach.step (mem_ren.2 ⟨x, hx, by rw [if_neg e]⟩) ih
  intro y hy
  obtain ⟨x, hx, rfl⟩ := mem_ren.1 hy
  rw [(ren_ino x n d s).1]
  exact key _ (h x hx)
theorem TR.move {T : PT} (hT : TOk T) (h : TR T) (p q : List UInt8) : TR (tMove T p q).2 := by
  by_cases h0 : (tMove T p q).1 = 0
  · obtain ⟨l, m, s, n, d, e1, e2, e3, e4, e5, e6, e7, e8, e9, e10, e11⟩ := move_goes h0
    rw [e10]
    exact reach_ren hT h (ren_tok hT e2 e6 e7) e5 (free_walk hT e3 e8)
  · rw [move_stays h0]; exact h
end Go.Proofs.Ytaiihklfeoeoeaa.W
