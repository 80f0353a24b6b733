/- Texts laid together. -/
import Derived.Test.YtbkajnjboipbhaaGreatDoorBP5
import Derived.Test.YtbkajnjboipbhaaGreatDoorBP1
import Derived.Test.YtbkajnjboipbhaaGreatDoorBP2
import Derived.DeepKeys
import Derived.Laws.StructEq
import Derived.Deep.Slices
import Derived.ChangeSlices
import Derived.Lib.SmallJoins
/- A store on a disk that lives, plainly. -/
namespace Go.Proofs.YtbkajnjboipbhaaGreatDoor.W
set_option linter.unusedVariables false
set_option linter.unusedSimpArgs false

/-! ### Formatting -/
theorem DS.wipe_live : ∀ (k a : Nat) (d : DS), d.Live → a + 8 * k ≤ d.n + 7 → (∀ i, d.now i = zeros 64) → (d.wipe k a).1 = 0 ∧ (d.wipe k a).2.Live ∧ (d.wipe k a).2.n = d.n ∧ (∀ i, (d.wipe k a).2.now i = zeros 64) ∧ (d.wipe k a).2.since = []
  | 0, a, d, hd, hn, hz => by
    obtain ⟨h1, h2, h3, h4, h5⟩ := d.sync_live hd
    exact ⟨h1, h2, h3, fun i => by show (d.sync).2.now i = _; rw [h4, hz], h5⟩
  | k + 1, a, d, hd, hn, hz => by
    obtain ⟨h1, h2, h3, h4⟩ := DS.write_live hd a (zeros 64) (by omega) (by simp [zeros])
    obtain ⟨i1, i2, i3, i4, i5⟩ := DS.wipe_live k (a + 8) _ h2 (by rw [h3]; omega) (fun i => by
      rw [h4]; unfold upd
      split
      · rfl
      · exact hz i)
    unfold DS.wipe
    rw [if_neg (by rw [h1]; simp)]
    exact ⟨i1, i2, by rw [i3, h3], i4, i5⟩
theorem DS.sign_live {d : DS} (hd : d.Live) (n : UInt8) (hn : 1 ≤ d.n) : (d.sign n).1 = 0 ∧ (d.sign n).2.Live ∧ (d.sign n).2.n = d.n ∧ (d.sign n).2.now = upd d.now 0 (n :: zeros 63) ∧ (d.sign n).2.since = [] := by
  obtain ⟨h1, h2, h3, h4⟩ := DS.write_live hd 0 (n :: zeros 63) (by omega) (by simp [zeros])
  obtain ⟨g1, g2, g3, g4, g5⟩ := DS.sync_live h2
  unfold DS.sign
  rw [show ((0 : Nat) : Int) = 0 from rfl] at *
  rw [if_neg (by rw [h1]; simp)]
  exact ⟨g1, g2, by rw [g3, h3], by rw [g4, h4], g5⟩
theorem rowsFrom_zero {d : DS} {first : Nat} (h : ∀ i, 1 ≤ i → d.now i = zeros 64) (hf : 1 ≤ first) : ∀ m k, rowsFrom d first m k = some (List.replicate m noRow)
  | 0, _ => rfl
  | m + 1, k => by
    unfold rowsFrom
    rw [h _ (by omega)]
    have : headOf (zeros 64) = some noRow := by rfl
    rw [this]
    dsimp only
    rw [rowsFrom_zero h hf m (k + 1)]
    rfl
/-- A new disk, formatted. -/
theorem format_new (n : Nat) (h9 : 9 ≤ n) : ∃ d, (DS.new n).format = ((0, some ⟨⟨d, 1, List.replicate ((n - 1) / 8) noRow⟩, false⟩), d) ∧ d.Live ∧ d.n = n ∧ d.since = [] ∧ (∀ i, 1 ≤ i → d.now i = zeros 64) ∧ d.ops ≤ n ∧ d.now 0 = 1 :: zeros 63 := by
  have hl : (DS.new n).Live := ⟨rfl, by show (-1 : Int) < 0; omega⟩
  obtain ⟨a1, a2, a3, a4, a5⟩ := DS.wipe_live ((n - 1) / 8) 1 (DS.new n) hl (by show _ ≤ n + 7; omega) (fun i => rfl)
  have a3' : ((DS.new n).wipe ((n - 1) / 8) 1).2.n = n := a3
  obtain ⟨w1, w2, w3⟩ := DS.wipe_ok ((n - 1) / 8) 1 (DS.new n)
  obtain ⟨b1, b2, b3, b4, b5⟩ := DS.sign_live a2 1 (by rw [a3']; omega)
  obtain ⟨s1, s2, s3⟩ := ((DS.new n).wipe ((n - 1) / 8) 1).2.sign_ok 1
  have hw0 : (DS.new n).ops = 0 := rfl
  obtain ⟨d, hd⟩ : ∃ d, d = (((DS.new n).wipe ((n - 1) / 8) 1).2.sign 1).2 := ⟨_, rfl⟩
  have hfm : (DS.new n).format = if ((DS.new n).wipe ((n - 1) / 8) 1).1 ≠ 0 then ((((DS.new n).wipe ((n - 1) / 8) 1).1, none), ((DS.new n).wipe ((n - 1) / 8) 1).2) else if (((DS.new n).wipe ((n - 1) / 8) 1).2.sign 1).1 ≠ 0 then (((((DS.new n).wipe ((n - 1) / 8) 1).2.sign 1).1, none), (((DS.new n).wipe ((n - 1) / 8) 1).2.sign 1).2) else ((((DS.new n).wipe ((n - 1) / 8) 1).2.sign 1).2.stOpen, (((DS.new n).wipe ((n - 1) / 8) 1).2.sign 1).2) := by
    unfold DS.format
    rw [if_neg (by show ¬ n < 9; omega)]
    rfl
  rw [hfm, if_neg (by rw [a1]; simp), if_neg (by rw [b1]; simp), ← hd]
  rw [← hd] at b2 b3 b4 b5 s2
  have hn : d.n = n := by rw [b3, a3']
  have h0 : d.now 0 = 1 :: zeros 63 := by rw [b4]; unfold upd; rw [if_pos rfl]
  have h1 : ∀ i, 1 ≤ i → d.now i = zeros 64 := fun i hi => by rw [b4]; unfold upd; rw [if_neg (by omega), a4]
  refine ⟨d, ?_, b2, hn, b5, h1, by omega, h0⟩
  have hsl : d.slots 1 = (0, some ⟨d, 1, List.replicate ((n - 1) / 8) noRow⟩) := by
    unfold DS.slots
    rw [if_neg (by omega), if_neg (by rw [b2.1]; simp; omega), show (1 : Int).toNat = 1 from rfl, rowsFrom_zero h1 (by omega), hn]
  have hop : d.stOpen = (0, some ⟨⟨d, 1, List.replicate ((n - 1) / 8) noRow⟩, false⟩) := by
    unfold DS.stOpen
    rw [if_neg (by omega), if_neg (by rw [b2.1]; simp), h0]
    rw [if_neg (by
      rintro (⟨h, _⟩ | h)
      · exact h rfl
      · rw [show (1 :: zeros 63).drop 1 = zeros 63 from rfl, allZ_zeros] at h; cases h), hsl]
    dsimp only
    rw [if_pos (stKeys_iff.2 (fun r hr hu => by
      obtain rfl := List.eq_of_mem_replicate hr
      simp [noRow] at hu))]
    rfl
  rw [hop]

/-! ### A store whose fragments are known -/
abbrev Frag := Id → Option (List UInt8)
def setF (F : Frag) (x : Id) (o : Option (List UInt8)) : Frag := fun y => if y = x then o else F y
theorem setF_self (F : Frag) (x : Id) (o : Option (List UInt8)) : setF F x o x = o := if_pos rfl
theorem setF_other (F : Frag) {x y : Id} (o : Option (List UInt8)) (h : y ≠ x) : setF F x o y = F y := if_neg h
structure Kept (t : Sto) (F : Frag) : Prop where
  told : ∃ u v, Told t.s u v ∧ ∀ x, mayId x = true → (F x = none ∧ t.at x = []) ∨ ∃ i b, F x = some b ∧ t.at x = [i] ∧ v i = b
  out : ∀ x, mayId x = false → F x = none
  keys : keysOk t.s.rows
  since : t.s.d.since = []
  first : t.s.first = 1
theorem Kept.live {t : Sto} {F : Frag} (h : Kept t F) : t.s.d.Live := by obtain ⟨u, v, h1, _⟩ := h.told; exact h1.live
theorem Kept.room {t : Sto} {F : Frag} (h : Kept t F) : t.s.first + 8 * t.s.rows.length ≤ t.s.d.n := by obtain ⟨u, v, h1, _⟩ := h.told; exact h1.room
theorem Kept.new (n : Nat) (h9 : 9 ≤ n) : ∃ t d, (DS.new n).format = ((0, some t), d) ∧ Kept t (fun _ => none) ∧ t.s.d = d ∧ t.s.rows = List.replicate ((n - 1) / 8) noRow ∧ d.n = n ∧ d.ops ≤ n ∧ t.whole = false := by
  obtain ⟨d, h1, h2, h3, h4, h5, h6, _⟩ := format_new n h9
  refine ⟨_, d, h1, ⟨⟨fun _ => false, fun _ => [], ⟨h2, by show 1 + 8 * (List.replicate _ noRow).length ≤ d.n; rw [List.length_replicate]; omega, fun k hk => ?_, fun k hk => ?_, fun k hk hu => by cases hu⟩, fun x hx => .inl ⟨rfl, ?_⟩⟩, fun _ _ => rfl, fun r hr hu => ?_, h4, rfl⟩, rfl, rfl, h3, h6, rfl⟩
  · rw [List.length_replicate] at hk
    show headOf (d.now (1 + 8 * k)) = _
    rw [h5 _ (by omega), List.getD_eq_getElem?_getD, List.getElem?_replicate, if_pos hk]
    rfl
  · rw [List.length_replicate] at hk
    show ((List.replicate _ noRow).getD k noRow).used = false
    rw [List.getD_eq_getElem?_getD, List.getElem?_replicate, if_pos hk]
    rfl
  · rw [Sto.at_may hx]
    cases hu : upto (List.replicate ((n - 1) / 8) noRow) (List.replicate ((n - 1) / 8) noRow).length (idKey x) with
    | nil => rfl
    | cons j r =>
      have hj : j ∈ upto (List.replicate ((n - 1) / 8) noRow) (List.replicate ((n - 1) / 8) noRow).length (idKey x) := by rw [hu]; simp
      obtain ⟨a, b, _⟩ := upto_mem.1 hj
      rw [List.length_replicate] at a
      rw [List.getD_eq_getElem?_getD, List.getElem?_replicate, if_pos a] at b
      simp [noRow] at b
  · obtain rfl := List.eq_of_mem_replicate hr
    simp [noRow] at hu
theorem Kept.at_none {t : Sto} {F : Frag} (h : Kept t F) {x : Id} (hx : F x = none) : t.at x = [] := by
  by_cases hm : mayId x = true
  · obtain ⟨u, v, _, h2⟩ := h.told
    rcases h2 x hm with ⟨_, h3⟩ | ⟨i, b, h3, _⟩
    · exact h3
    · rw [hx] at h3; cases h3
  · exact Sto.at_not (by simpa using hm)
theorem Kept.at_some {t : Sto} {F : Frag} (h : Kept t F) {x : Id} {b : List UInt8} (hx : F x = some b) : mayId x = true ∧ t.at x ≠ [] := by
  by_cases hm : mayId x = true
  · obtain ⟨u, v, _, h2⟩ := h.told
    rcases h2 x hm with ⟨h3, _⟩ | ⟨i, b', h3, h4, _⟩
    · rw [hx] at h3; cases h3
    · exact ⟨hm, by rw [h4]; simp⟩
  · rw [h.out x (by simpa using hm)] at hx; cases hx
/-- Get. -/
theorem Kept.get {t : Sto} {F : Frag} (h : Kept t F) (x : Id) : t.get x = if mayId x = false then (([] : List UInt8), (1 : Int)) else match F x with | none => ([], 6) | some b => (b, 0) := by
  unfold Sto.get
  by_cases hm : mayId x = true
  · rw [if_neg (by simp [hm]), if_neg (by simp [hm])]
    obtain ⟨u, v, h1, h2⟩ := h.told
    rcases h2 x hm with ⟨h3, h4⟩ | ⟨i, b, h3, h4, h5⟩
    · rw [h3, h4]
    · rw [h3, h4]
      dsimp only
      have hi : i ∈ upto t.s.rows t.s.rows.length (idKey x) := by rw [← Sto.at_may hm, h4]; simp
      obtain ⟨a, b1, _⟩ := upto_mem.1 hi
      rw [h1.get i a, if_pos (by rw [← h1.used i a]; exact b1), h5]
  · rw [if_pos (by simpa using hm), if_pos (by simpa using hm)]
theorem Kept.mem_ids {t : Sto} {F : Frag} (h : Kept t F) (x : Id) : x ∈ t.ids ↔ (F x).isSome = true := by
  rw [Sto.mem_ids h.keys]
  cases hx : F x with
  | none => simp [h.at_none hx]
  | some b => simp [(h.at_some hx).2]
theorem SS.put_ok (s : SS) (i : Int) (key b : List UInt8) : (s.put i key b).2.d.ops ≤ s.d.ops + 20 ∧ (s.put i key b).2.d.since.length ≤ s.d.since.length + 20 ∧ (s.put i key b).2.d.n = s.d.n ∧ (s.put i key b).2.first = s.first ∧ (s.put i key b).2.rows.length = s.rows.length := by
  unfold SS.put
  split
  · exact ⟨Nat.le_add_right _ _, Nat.le_add_right _ _, rfl, rfl, rfl⟩
  · split
    · exact ⟨Nat.le_add_right _ _, Nat.le_add_right _ _, rfl, rfl, rfl⟩
    · rename_i h1 h2
      obtain ⟨a1, a2, a3⟩ := s.d.lays_ok (s.pos i + 1) b
      obtain ⟨b1, b2, b3⟩ := (s.d.lays (s.pos i + 1) b).2.lays_ok (s.pos i) (headBytes b.length key)
      have hn1 : nsec b.length ≤ 7 := by unfold nsec; omega
      have hn2 : nsec (headBytes b.length key).length ≤ 1 := by rw [headBytes_len _ _ (by omega) (by omega)]; unfold nsec; omega
      split
      · exact ⟨Nat.le_add_right _ _, Nat.le_add_right _ _, rfl, rfl, rfl⟩
      · split
        · exact ⟨by dsimp only; omega, by dsimp only; omega, a1, rfl, rfl⟩
        · split
          · exact ⟨by dsimp only; omega, by dsimp only; omega, by dsimp only; rw [b1, a1], rfl, rfl⟩
          · exact ⟨by dsimp only; omega, by dsimp only; omega, by dsimp only; rw [b1, a1], rfl, by dsimp only; rw [List.length_set]⟩
theorem Sto.put_ok (t : Sto) (x : Id) (b : List UInt8) : (t.put x b).2.s.d.ops ≤ t.s.d.ops + 20 ∧ (t.put x b).2.s.d.since.length ≤ t.s.d.since.length + 20 ∧ (t.put x b).2.s.d.n = t.s.d.n ∧ (t.put x b).2.s.rows.length = t.s.rows.length ∧ (t.put x b).2.whole = t.whole := by
  have h0 : t.s.d.ops ≤ t.s.d.ops + 20 ∧ t.s.d.since.length ≤ t.s.d.since.length + 20 ∧ t.s.d.n = t.s.d.n ∧ t.s.rows.length = t.s.rows.length ∧ t.whole = t.whole := ⟨Nat.le_add_right _ _, Nat.le_add_right _ _, rfl, rfl, rfl⟩
  unfold Sto.put
  split
  · exact h0
  · split
    · exact h0
    · split
      · split
        · exact h0
        · split
          · exact h0
          · exact h0
      · split
        · exact h0
        · obtain ⟨a1, a2, a3, a4, a5⟩ := t.s.put_ok t.s.free (idKey x) b
          exact ⟨a1, a2, a3, a5, rfl⟩
theorem countP_put {l : List SRow} {i : Nat} (r : SRow) (hi : i < l.length) (f : SRow → Bool) : (l.set i r).countP f + (if f (l.getD i noRow) then 1 else 0) = l.countP f + if f r then 1 else 0 := by
  induction l generalizing i with
  | nil => simp at hi
  | cons a l ih =>
    cases i with
    | zero =>
      simp only [List.set_cons_zero, List.countP_cons, List.getD_cons_zero]
      omega
    | succ i =>
      have := ih (i := i) (by simpa using hi)
      simp only [List.set_cons_succ, List.countP_cons, List.getD_cons_succ]
      omega
/-- Put, where there is none and there is room. -/
theorem Kept.put_new {t : Sto} {F : Frag} (h : Kept t F) {x : Id} (hm : mayId x = true) (hF : F x = none) {b : List UInt8} (hb : b.length ≤ 448) (hr : 0 < t.room) : (t.put x b).1 = 0 ∧ Kept (t.put x b).2 (setF F x (some b)) ∧ (t.put x b).2.room + 1 = t.room := by
  have hfree : ¬ t.s.free < 0 := by
    intro hf
    unfold SS.free at hf
    rcases rowFree_spec t.s.rows 0 with ⟨_, h2⟩ | ⟨n, h1, h2, h3, _⟩
    · unfold Sto.room at hr
      obtain ⟨r, hr1, hr2⟩ := List.countP_pos_iff.1 hr
      rw [h2 r hr1] at hr2; simp at hr2
    · rw [h2] at hf; omega
  obtain ⟨i, hfi, hil, hiu⟩ := SS.free_ok hfree
  have hat := h.at_none hF
  obtain ⟨u, v, htold, hall⟩ := h.told
  have hui : u i = false := by rw [← htold.used i hil]; exact hiu
  obtain ⟨p1, p2, p3, p4, p5, p6⟩ := htold.put i hil (idKey x) b hui (by rw [idKey_len]; omega) hb
  have hput : t.put x b = ((t.s.put (i : Int) (idKey x) b).1, { t with s := (t.s.put (i : Int) (idKey x) b).2 }) := by
    unfold Sto.put
    rw [if_neg (by simp [hm]), if_neg (by omega), hat]
    dsimp only
    rw [if_neg hfree, hfi]
  obtain ⟨_, _, hrows⟩ := SS.put_done p1
  rw [hput]
  have hrows' : (t.s.put (i : Int) (idKey x) b).2.rows = t.s.rows.set i ⟨true, b.length, idKey x⟩ := by rw [hrows]; simp
  have hat2 : upto t.s.rows t.s.rows.length (idKey x) = [] := by rw [← Sto.at_may hm]; exact hat
  have hat' : ∀ y, mayId y = true → Sto.at { t with s := (t.s.put (i : Int) (idKey x) b).2 } y = if y = x then [i] else t.at y := fun y hy => by
    rw [Sto.at_may hy, Sto.at_may hy]
    show upto (t.s.put (i : Int) (idKey x) b).2.rows (t.s.put (i : Int) (idKey x) b).2.rows.length (idKey y) = _
    rw [hrows', upto_put hil hiu hat2]
    by_cases e : y = x
    · subst e; rw [if_pos rfl, if_pos rfl]
    · rw [if_neg e, if_neg (fun h => e (idKey_inj hy hm h))]
  refine ⟨p1, ⟨⟨_, _, p2, fun y hy => ?_⟩, fun y hy => ?_, ?_, p6, by show (t.s.put (i : Int) (idKey x) b).2.first = 1; rw [p4]; exact h.first⟩, ?_⟩
  · rw [hat' y hy]
    by_cases e : y = x
    · subst e
      rw [setF_self, if_pos rfl]
      exact .inr ⟨i, b, rfl, rfl, by simp⟩
    · rw [setF_other _ _ e, if_neg e]
      rcases hall y hy with h1 | ⟨j, c, h1, h2, h3⟩
      · exact .inl h1
      · refine .inr ⟨j, c, h1, h2, ?_⟩
        have hj : j ∈ upto t.s.rows t.s.rows.length (idKey y) := by rw [← Sto.at_may hy, h2]; simp
        obtain ⟨_, hju, _⟩ := upto_mem.1 hj
        have : j ≠ i := fun e => by subst e; rw [hiu] at hju; cases hju
        simp only [this, if_false]
        exact h3
  · have : y ≠ x := fun e => by subst e; rw [hm] at hy; cases hy
    rw [setF_other _ _ this]
    exact h.out y hy
  · show keysOk (t.s.put (i : Int) (idKey x) b).2.rows
    rw [hrows']
    exact h.keys.set i (fun _ => (un_key hm).2)
  · show (t.s.put (i : Int) (idKey x) b).2.rows.countP (fun r => !r.used) + 1 = t.s.rows.countP (fun r => !r.used)
    rw [hrows']
    have := countP_put ⟨true, b.length, idKey x⟩ hil (fun r => !r.used)
    simp only [hiu, Bool.not_false, if_true, Bool.not_true, Bool.false_eq_true, if_false, Nat.add_zero] at this
    exact this
/-- Put, where there is no room. -/
theorem Kept.put_full {t : Sto} {F : Frag} (h : Kept t F) {x : Id} (hm : mayId x = true) (hF : F x = none) {b : List UInt8} (hb : b.length ≤ 448) (hr : t.room = 0) : t.put x b = (5, t) := by
  have hfree : t.s.free < 0 := by
    unfold SS.free
    rcases rowFree_spec t.s.rows 0 with ⟨h1, _⟩ | ⟨n, h1, h2, h3, _⟩
    · rw [h1]; omega
    · unfold Sto.room at hr
      have := List.countP_eq_zero.1 hr _ (row_mem h1)
      rw [h3] at this; simp at this
  unfold Sto.put
  rw [if_neg (by simp [hm]), if_neg (by omega), h.at_none hF]
  dsimp only
  rw [if_pos hfree]
/-- Put, where there is one. -/
theorem Kept.put_there {t : Sto} {F : Frag} (h : Kept t F) {x : Id} {c : List UInt8} (hF : F x = some c) (b : List UInt8) (hb : b.length ≤ 448) : t.put x b = (if c = b then 0 else 7, t) := by
  obtain ⟨hm, hne⟩ := h.at_some hF
  have hg := h.get x
  rw [if_neg (by simp [hm]), hF] at hg
  unfold Sto.get at hg
  rw [if_neg (by simp [hm])] at hg
  unfold Sto.put
  rw [if_neg (by simp [hm]), if_neg (by omega)]
  cases hat : t.at x with
  | nil => exact absurd hat hne
  | cons i r =>
    rw [hat] at hg
    dsimp only at hg ⊢
    rw [hg, if_neg (by simp)]
    split <;> rfl
theorem Kept.put_bad {t : Sto} {F : Frag} (h : Kept t F) {x : Id} {b : List UInt8} (hm : mayId x = false ∨ 448 < b.length) : (t.put x b).1 ≠ 0 ∧ (t.put x b).2 = t := by
  unfold Sto.put
  by_cases h1 : mayId x = false
  · rw [if_pos h1]; exact ⟨by simp, rfl⟩
  · rw [if_neg h1, if_pos (by rcases hm with h2 | h2; exact absurd h2 h1; exact h2)]
    exact ⟨by simp, rfl⟩
/-- Delete. -/
theorem Kept.del {t : Sto} {F : Frag} (h : Kept t F) {x : Id} (hm : mayId x = true) : (t.del x).1 = 0 ∧ Kept (t.del x).2 (setF F x none) ∧ (t.del x).2.room = t.room + (if (F x).isSome then 1 else 0) ∧ (F x = none → (t.del x).2 = t) ∧ (t.del x).2.s.d.n = t.s.d.n ∧ (t.del x).2.s.rows.length = t.s.rows.length := by
  obtain ⟨u, v, htold, hall⟩ := h.told
  unfold Sto.del
  rw [if_neg (by simp [hm])]
  rcases hall x hm with ⟨h1, h2⟩ | ⟨i, b, h1, h2, h3⟩
  · rw [h2, h1]
    have e : setF F x none = F := by
      funext y
      unfold setF
      split
      · rename_i e; rw [e, h1]
      · rfl
    rw [e]
    exact ⟨rfl, h, rfl, fun _ => rfl, rfl, rfl⟩
  · have hi : i ∈ upto t.s.rows t.s.rows.length (idKey x) := by rw [← Sto.at_may hm, h2]; simp
    obtain ⟨hil, hiu, hik⟩ := upto_mem.1 hi
    have hui : u i = true := by rw [← htold.used i hil]; exact hiu
    obtain ⟨p1, p2, p3, p4, p5, p6⟩ := htold.clear i hil hui
    have hcl : t.s.clears [i] = (0, (t.s.clear (i : Int)).2) := by
      unfold SS.clears
      rw [if_neg (by rw [p1]; simp)]
      rfl
    rw [h2, hcl, h1]
    obtain ⟨_, _, hrows⟩ := SS.clear_done p1
    have hrows' : (t.s.clear (i : Int)).2.rows = t.s.rows.set i noRow := by rw [hrows]; simp
    have hat2 : upto t.s.rows t.s.rows.length (idKey x) = [i] := by rw [← Sto.at_may hm]; exact h2
    have hat' : ∀ y, mayId y = true → Sto.at { t with s := (t.s.clear (i : Int)).2 } y = if y = x then [] else t.at y := fun y hy => by
      rw [Sto.at_may hy, Sto.at_may hy]
      show upto (t.s.clear (i : Int)).2.rows (t.s.clear (i : Int)).2.rows.length (idKey y) = _
      rw [hrows', upto_clear hat2]
      by_cases e : y = x
      · subst e; rw [if_pos rfl, if_pos rfl]
      · rw [if_neg e, if_neg (fun h => e (idKey_inj hy hm h))]
    refine ⟨rfl, ⟨⟨_, _, p2, fun y hy => ?_⟩, fun y hy => ?_, ?_, p6, by show (t.s.clear (i : Int)).2.first = 1; rw [p4]; exact h.first⟩, ?_, (fun h => by cases h), p5, p3⟩
    · rw [hat' y hy]
      by_cases e : y = x
      · subst e
        rw [setF_self, if_pos rfl]
        exact .inl ⟨rfl, rfl⟩
      · rw [setF_other _ _ e, if_neg e]
        exact hall y hy
    · have : y ≠ x := fun e => by subst e; rw [hm] at hy; cases hy
      rw [setF_other _ _ this]
      exact h.out y hy
    · show keysOk (t.s.clear (i : Int)).2.rows
      rw [hrows']
      exact h.keys.set i (fun h => by simp [noRow] at h)
    · show (t.s.clear (i : Int)).2.rows.countP (fun r => !r.used) = t.s.rows.countP (fun r => !r.used) + _
      rw [hrows']
      have := countP_put noRow hil (fun r => !r.used)
      rw [hiu] at this
      simpa [noRow] using this
theorem Kept.del_bad {t : Sto} {x : Id} (hm : mayId x = false) : t.del x = (1, t) := by
  unfold Sto.del
  rw [if_pos hm]
end Go.Proofs.YtbkajnjboipbhaaGreatDoor.W

/- The reference's Same. -/
namespace Go.Proofs.YtbkajnjboipbhaaGreatDoor.W
open Go.RowKit
set_option linter.unusedVariables false
set_option linter.unusedSimpArgs false

theorem same_of (l m : List UInt8) (h : l.length = m.length) (hq : ∀ q, q < l.length → l.getD q 0 = m.getD q 0) : l = m := by
  apply List.ext_getElem h
  intro i h1 h2
  have := hq i h1
  simpa [List.getD_eq_getElem?_getD, List.getElem?_eq_getElem h1, List.getElem?_eq_getElem h2] using this
theorem bv_neq (a b : UInt8) (h : a ≠ b) : (((a.toNat : Int) != (b.toNat : Int)) = true) := by
  rw [bne_iff_ne]
  intro e
  exact h (UInt8.toNat_inj.1 (by omega))

set_option maxHeartbeats 4000000 in
set_option maxRecDepth 100000 in
/-- Same. -/
theorem same_any (u v : Value) (l m : List UInt8) (w : World) (hu : BytesAt w u l) (hv : BytesAt w v m) (hl : l.length ≤ 1000000000) (hm : m.length ≤ 1000000000) :
    Calls Tryz.prog 14 #[u, v] w fun e w' => e = .returned (.bool (decide (l = m))) ∧ ∃ n, w' = w.drewN n := by
  obtain ⟨au, cu, rfl, hlu, _, hu⟩ := hu
  obtain ⟨av, cv, rfl, hlv, _, hv⟩ := hv
  obtain ⟨d, hd⟩ : ∃ d, d = decide (l = m) := ⟨_, rfl⟩
  rw [← hd]
  have HD := Lib.hid hd
  clear hd
  have HU := Lib.hid hu
  have HV := Lib.hid hv
  clear hu hv
  by_cases hlen : l.length = m.length
  · have hmz : ((l.length : Int) != (m.length : Int)) = false := by rw [hlen]; simp
    have HL := Lib.hid hlen
    have hml : m.length = l.length := hlen.symm
    rw [hml]
    clear hlen hml hmz
    go_enter Tryz.func14, Tryz.ntmps14
    go_wp2
    go_loopg [5] l.length (fun g' s5 wr => ∃ (j n : Nat), s5 = .int .i64 j ∧ j ≤ l.length ∧ l.length ≤ j + g' ∧ Hid (∀ q, q < j → l.getD q 0 = m.getD q 0) ∧ wr = w.drewN n)
    case atStart => exact ⟨0, 0, rfl, by omega, by omega, fun q hq => absurd hq (by omega), rfl⟩
    case round =>
      obtain ⟨j, n, rfl, hj, hjg, HQ, rfl⟩ := hrel
      by_cases hlt : j < l.length
      · rcases HU.out with ⟨h0, _⟩ | ⟨gu, ou, rfl, hcu⟩
        · rw [h0] at hlt; simp at hlt
        rcases HV.out with ⟨h0, _⟩ | ⟨gv, ov, rfl, hcv⟩
        · have := HL.out; rw [h0, List.length_nil] at this; omega
        obtain ⟨x, hx, c0⟩ : ∃ x, l.getD j 0 = x ∧ w.cell? ⟨gu, ou + j, none⟩ = some (.int .u8 (x.toNat : Int)) := ⟨_, rfl, hcu j hlt⟩
        obtain ⟨y, hy, c1⟩ : ∃ y, m.getD j 0 = y ∧ w.cell? ⟨gv, ov + j, none⟩ = some (.int .u8 (y.toNat : Int)) := ⟨_, rfl, hcv j (by rw [← HL.out]; exact hlt)⟩
        have HX := Lib.hid hx
        have HY := Lib.hid hy
        have hjz : (j : Int) < (l.length : Int) := by omega
        have hjz0 : (0 : Int) ≤ (j : Int) := by omega
        have hjz1 : (j : Int).toNat = j := by omega
        clear hcu hcv hx hy
        by_cases hxy : x = y
        · subst hxy
          go_wp2
          go_quiet (fail)
          go_wp2
          go_roundg (gk - 1)
          case measure => omega
          case rel =>
            refine ⟨j + 1, _, by go_num, by omega, by omega, ?_, rfl⟩
            intro q hq
            rcases Nat.lt_or_ge q j with h | h
            · exact HQ.out q h
            · obtain rfl : q = j := by omega
              rw [HX.out, HY.out]
        · have hne := bv_neq x y hxy
          have hd : Hid (d = false) := Lib.hid (by
            rw [HD.out, decide_eq_false_iff_not]
            intro e
            have h1 := HX.out
            rw [e] at h1
            exact hxy (h1.symm.trans HY.out))
          clear hxy
          go_wp2
          go_quiet (fail)
          go_wp2
          go_ret
          exact ⟨ret_bool hd.out.symm, _, World.drewN_drewN ..⟩
      · have hd : Hid (d = true) := Lib.hid (by
          rw [HD.out, decide_eq_true_iff]
          exact same_of l m HL.out (fun q hq => HQ.out q (by omega)))
        go_wp2
        go_ret
        exact ⟨ret_bool hd.out.symm, _, rfl⟩
  · have hmz : ((l.length : Int) != (m.length : Int)) = true := by rw [bne_iff_ne]; omega
    have hd : Hid (d = false) := Lib.hid (by
      rw [HD.out, decide_eq_false_iff_not]
      intro e
      exact hlen (by rw [e]))
    clear hlen
    go_enter Tryz.func14, Tryz.ntmps14
    go_wp2
    go_ret
    exact ⟨ret_bool hd.out.symm, 0, rfl⟩
end Go.Proofs.YtbkajnjboipbhaaGreatDoor.W

/- The law's own: equality of ids, Id, a store of its own. -/
namespace Go.Proofs.YtbkajnjboipbhaaGreatDoor.W
open Go.RowKit
set_option linter.unusedVariables false
set_option linter.unusedSimpArgs false

theorem lits_id3 (m : Nat) (x : Id) : Tryz.prog.keyLits (m + 3) 25 (idC x).toList = litD (idC x).toList := by
  unfold Program.keyLits
  simp only [Tryz.underlying25, cells_id]
  rw [if_pos ⟨rfl, by kernel_rfl⟩]
  simp only [List.mapM_cons, List.mapM_nil, cells_intD, cells_stripe, List.drop_zero, List.drop_succ_cons, List.take_succ_cons, List.take_zero, lits_int, lits_stripe, litD]
  generalize litI (.int .i64 x.c) = a
  generalize litI (.int .i64 x.l) = b
  generalize litI (.int .i64 x.n) = c
  generalize litI (.int .i64 x.i) = d
  cases a <;> cases b <;> cases c <;> cases d <;> simp
theorem litD_ok {x : Id} (h : okD x) : litD (idC x).toList = some [.int .i64 x.c, .int .i64 x.l, .int .i64 x.n, .int .i64 x.i] := by
  obtain ⟨h1, h2, h3, h4⟩ := h
  simp [litD, litI_ok h1, litI_ok h2, litI_ok h3, litI_ok h4]
theorem eq_id (x y : Id) (hx : okD x) (hy : okD y) (w : World) : (binOp .eql 25 (idV x) (idV y)).run Tryz.prog w = .ok (.bool (decide (x = y))) w := by
  rw [run_eql_struct]
  obtain ⟨r, h1, h2⟩ := run_equalIn_deep (P := Tryz.prog) 9997 3 25 (by kernel_rfl) w 3 3 (idV x) (idV y) _ _
    (by simp [Value.formed, Tryz.underlying25, cells_id]) (by simp [Value.formed, Tryz.underlying25, cells_id])
    (by simpa [Value.cells] using (lits_id3 0 x).trans (litD_ok hx)) (by simpa [Value.cells] using (lits_id3 0 y).trans (litD_ok hy))
  have hr : r = decide (x = y) := by
    by_cases e : x = y
    · rw [decide_eq_true e]; exact h2.2 (by rw [e])
    · rw [decide_eq_false e]
      cases r with
      | false => rfl
      | true =>
        refine absurd ?_ e
        have := h2.1 rfl
        obtain ⟨a, b, c, d⟩ := x
        obtain ⟨a', b', c', d'⟩ := y
        simpa using this
  rw [← hr]
  have h3 : (Op.equalIn 10000 25 (idV x) (idV y)).run Tryz.prog w = .ok r w := h1
  rw [h3]
  rfl
theorem ret_id1 {fn : Func} {p : Tmp} (h : fn.results = #[.cell p 25]) (tmps : Array Value) {w : World} {b t : Nat} {x : Id} (hp : tmps.getD p undef = .pointer (some ⟨b, 0, none⟩)) (hb : w.heap[b]? = some (.cells (idC x) t (0, 0))) :
    (results fn tmps).run Tryz.prog w = .ok (idV x) w := by
  have hl := run_loadVar_row (P := Tryz.prog) w b t 25 (idC x) (0, 0) _ hb Tryz.underlying25 rfl (by rw [idSize]; rfl)
  have e : (results fn tmps).run Tryz.prog w = ((asAddr (tmps.getD p undef)).run Tryz.prog w).andThen fun a w₁ => (loadVar 25 a).run Tryz.prog w₁ := by
    simp only [results, h]
    simp [Sem.run_bind, Result.andThen]
  rw [e, hp]
  simp only [asAddr, Sem.run_pure, Result.andThen_ok, hl]
set_option maxHeartbeats 2000000 in
set_option maxRecDepth 100000 in
theorem lawid_any (c l n i : Int) (w : World) : Calls Tryz.prog 31 #[.int .i64 c, .int .i64 l, .int .i64 n, .int .i64 i] w fun e w' => e = .returned (.agg #[.int .i64 c, .int .i64 l, .int .i64 n, .int .i64 i]) ∧ Chg [] w w' := by
  go_enter Tryz.func31, Tryz.ntmps31
  go_wp2_with fail
  have HW := Lib.hid (show (w.alloc (.cells (idC ⟨c, l, n, i⟩) 25)).heap[w.heap.size]? = some (.cells (idC ⟨c, l, n, i⟩) 25 (0, 0)) from heap_alloc_new w _)
  refine bodyPost_ret (ret_id1 rfl _ rfl HW.out) rfl ?_
  exact ⟨rfl, (Chg.refl [] w).alloc _⟩

/-! ### A store of the law's own -/
def Kp (X : List Nat) (w w' : World) : Prop := ∀ k ∈ X, w'.heap[k]? = w.heap[k]?
theorem Kp.refl (X : List Nat) (w : World) : Kp X w w := fun _ _ => rfl
theorem Kp.trans {X : List Nat} {a b c : World} (h : Kp X a b) (k : Kp X b c) : Kp X a c := fun x hx => (k x hx).trans (h x hx)
theorem Kp.bytes {X : List Nat} {w w' : World} {v : Value} {l : List UInt8} (h : BytesAt w v l) (hk : Kp X w w') (hX : ∀ g, v.ownBlock = some g → g ∈ X) : BytesAt w' v l := h.keep fun g hg => hk g (hX g hg)
/-- All its blocks are new since w0, and none of them is in X. -/
def Own6 (X : List Nat) (w0 w : World) (q p : Nat) (t : Sto) : Prop := ∃ U, StAt w q p U t ∧ (∀ x ∈ U, w0.heap.size ≤ x) ∧ Chg [] w0 w ∧ ∀ x ∈ X, x ∉ U ∧ x < w.heap.size
variable {X : List Nat} {w0 w : World} {q p : Nat} {t : Sto}
theorem Own6.chg (h : Own6 X w0 w q p t) : Chg [] w0 w := by obtain ⟨U, h1, h2, h3, h4⟩ := h; exact h3
theorem Own6.keep0 {w' : World} (h : Own6 X w0 w q p t) (hc : Chg [] w w') : Own6 X w0 w' q p t := by
  obtain ⟨U, h1, h2, h3, h4⟩ := h
  exact ⟨U, h1.keep0 hc, h2, h3.trans hc (by simp), fun x hx => ⟨(h4 x hx).1, Nat.lt_of_lt_of_le (h4 x hx).2 hc.size⟩⟩
theorem Own6.kp {w' : World} (h : Own6 X w0 w q p t) (hc : Chg [] w w') : Kp X w w' := by
  obtain ⟨U, h1, h2, h3, h4⟩ := h
  exact fun x hx => hc.block x (h4 x hx).2 (by simp)
theorem Own6.add {Y : List Nat} {w' : World} (h : Own6 X w0 w q p t) (hc : Chg [] w w') (hY : ∀ k ∈ Y, k ∈ X ∨ w.heap.size ≤ k ∧ k < w'.heap.size) : Own6 Y w0 w' q p t := by
  obtain ⟨U, h1, h2, h3, h4⟩ := h
  refine ⟨U, h1.keep0 hc, h2, h3.trans hc (by simp), fun x hx => ?_⟩
  rcases hY x hx with h5 | ⟨h5, h6⟩
  · exact ⟨(h4 x h5).1, Nat.lt_of_lt_of_le (h4 x h5).2 hc.size⟩
  · exact ⟨fun hm => by have := h1.lim x hm; omega, h6⟩
theorem Own6.mono {Y : List Nat} (h : Own6 X w0 w q p t) (hY : ∀ x ∈ Y, x ∈ X) : Own6 Y w0 w q p t := by
  obtain ⟨U, h1, h2, h3, h4⟩ := h
  exact ⟨U, h1, h2, h3, fun x hx => h4 x (hY x hx)⟩
theorem Own6.did {w' : World} {t' : Sto} {U : List Nat} (h2 : ∀ x ∈ U, w0.heap.size ≤ x) (h3 : Chg [] w0 w) (h4 : ∀ x ∈ X, x ∉ U ∧ x < w.heap.size) (hd : Std w w' q p U t') : Own6 X w0 w' q p t' ∧ Kp X w w' := by
  obtain ⟨U', d1, d2, d3⟩ := hd
  have hs := h3.size
  refine ⟨⟨U', d1, fun x hx => ?_, h3.trans d3 (fun x hx => .inr (h2 x hx)), fun x hx => ⟨fun hm => ?_, Nat.lt_of_lt_of_le (h4 x hx).2 d3.size⟩⟩, fun x hx => d3.block x (h4 x hx).2 (h4 x hx).1⟩
  · rcases d2 x hx with h | h
    · exact h2 x h
    · omega
  · rcases d2 x hm with h | h
    · exact (h4 x hx).1 h
    · have := (h4 x hx).2; omega
theorem own_put (h : Own6 X w0 w q p t) (x : Id) (hx : okD x) (v : Value) (b : List UInt8) (hb : BytesAt w v b) (hv : b ≠ [] → ∀ k, v.ownBlock = some k → k < w0.heap.size ∨ k ∈ X) (hl : b.length ≤ 1000000) (ho : t.s.d.ops ≤ 900000000) (hw : t.s.d.since.length ≤ 900000) :
    Calls Tryz.prog 19 #[.pointer (some ⟨q, 0, none⟩), idV x, v] w fun e w' => e = .returned (.int .i64 (t.put x b).1) ∧ Own6 X w0 w' q p (t.put x b).2 ∧ Kp X w w' := by
  obtain ⟨U, h1, h2, h3, h4⟩ := h
  refine (stput_any q p U t x v b w h1 hx hb (fun hn k hk hm => ?_) hl ho hw).mono ?_
  · rcases hv hn k hk with h | h
    · have := h2 k hm; omega
    · exact (h4 k h).1 hm
  · rintro e w' ⟨rfl, hd⟩
    exact ⟨rfl, Own6.did h2 h3 h4 hd⟩
theorem own_get (h : Own6 X w0 w q p t) (x : Id) (hx : okD x) : Calls Tryz.prog 23 #[.pointer (some ⟨q, 0, none⟩), idV x] w fun e w' => (∃ v, e = .returned (.tuple #[v, .int .i64 (t.get x).2]) ∧ BytesAt w' v (t.get x).1 ∧ ∀ k, v.ownBlock = some k → w.heap.size ≤ k) ∧ Own6 X w0 w' q p t ∧ Kp X w w' ∧ Chg [] w w' := by
  have h' := h
  obtain ⟨U, h1, h2, h3, h4⟩ := h
  refine (stget_any q p U t x w h1 hx).mono ?_
  rintro e w' ⟨h5, hc⟩
  exact ⟨h5, h'.keep0 hc, h'.kp hc, hc⟩
theorem own_del (h : Own6 X w0 w q p t) (x : Id) (hx : okD x) (ho : t.s.d.ops ≤ 800000000) (hw : t.s.d.since.length ≤ 800000) :
    Calls Tryz.prog 33 #[.pointer (some ⟨q, 0, none⟩), idV x] w fun e w' => e = .returned (.int .i64 (t.del x).1) ∧ Own6 X w0 w' q p (t.del x).2 ∧ Kp X w w' := by
  obtain ⟨U, h1, h2, h3, h4⟩ := h
  refine (stdel_any q p U t x w h1 hx ho hw).mono ?_
  rintro e w' ⟨rfl, hd⟩
  exact ⟨rfl, Own6.did h2 h3 h4 hd⟩
theorem own_list (h : Own6 X w0 w q p t) : Calls Tryz.prog 20 #[.pointer (some ⟨q, 0, none⟩)] w fun e w' => (∃ v, e = .returned v ∧ w'.ownsRow w.heap.size 25 4 v t.ids.length (t.ids.flatMap idE)) ∧ Own6 X w0 w' q p t ∧ Kp X w w' ∧ Chg [] w w' := by
  have h' := h
  obtain ⟨U, h1, h2, h3, h4⟩ := h
  refine (stlist_any q p U t w h1).mono ?_
  rintro e w' ⟨v, rfl, hr, hc⟩
  exact ⟨⟨v, rfl, hr⟩, h'.keep0 hc, h'.kp hc, hc⟩
theorem own_room (h : Own6 X w0 w q p t) : Calls Tryz.prog 32 #[.pointer (some ⟨q, 0, none⟩)] w fun e w' => e = .returned (.int .i64 (t.room : Int)) ∧ w = w' := by
  obtain ⟨U, h1, h2, h3, h4⟩ := h
  exact stroom_any q p U t w h1
/-- A new disk. -/
theorem own_disk (n : Nat) (w : World) (h2 : 2 ≤ n) (hm : n ≤ 4160) : Calls Tryz.prog 17 #[.int .i64 (n : Int)] w fun e w' => ∃ p S, e = .returned (.tuple #[.pointer (some ⟨p, 0, none⟩), .int .i64 0]) ∧ DiskAt w' p S (DS.new n) ∧ (∀ x ∈ S, w.heap.size ≤ x) ∧ Chg [] w w' :=
  (dnew_any n w h2 hm).mono fun e w' ⟨p, S, h1, h3, h4, h5⟩ => ⟨p, S, h1, h3, h4, h5⟩
/-- A new store. -/
theorem own_format {S : List Nat} {w1 : World} {n : Nat} {t : Sto} {d : DS} (hd : DiskAt w1 p S (DS.new n)) (hS : ∀ x ∈ S, w0.heap.size ≤ x) (hc : Chg [] w0 w1) (hf : (DS.new n).format = ((0, some t), d)) : Calls Tryz.prog 18 #[.pointer (some ⟨p, 0, none⟩)] w1 fun e w' => ∃ q, e = .returned (.tuple #[.pointer (some ⟨q, 0, none⟩), .int .i64 0]) ∧ Own6 [] w0 w' q p t := by
  have h := format_any p S (DS.new n) w1 hd (by show 0 ≤ _; omega) (by show 0 ≤ _; omega)
  rw [hf] at h
  refine h.mono ?_
  rintro e w' ⟨q, U, rfl, h1, h2, h3⟩
  have hs := hc.size
  refine ⟨q, rfl, U, h1, fun x hx => ?_, hc.trans h3 (fun x hx => .inr (hS x hx)), by simp⟩
  rcases h2 x hx with h | h
  · exact hS x h
  · omega
theorem one_byte6 (w : World) (a : UInt8) : BytesAt (w.alloc (.cells #[bv a] 5)) (.slice (some ⟨w.heap.size, 0, none⟩) 1 1) [a] :=
  (row_of_block (l := [a]) (heap_alloc_new w _) (by unfold maxLen; simp)).bytes
theorem ids_one {t : Sto} (hk : keysOk t.s.rows) {x : Id} (h : ∀ y, y ∈ t.ids ↔ y = x) : t.ids = [x] := by
  have hr := t.ids_rise hk
  cases hl : t.ids with
  | nil => rw [hl] at h; exact absurd ((h x).2 rfl) (by simp)
  | cons a r =>
    rw [hl] at h hr
    have ha := (h a).1 (by simp)
    subst ha
    cases r with
    | nil => rfl
    | cons b r =>
      have hb := (h b).1 (by simp)
      subst hb
      exact absurd ((List.pairwise_cons.1 hr).1 b (by simp)) (idLt_irrefl _)
end Go.Proofs.YtbkajnjboipbhaaGreatDoor.W

/- The law's awake. -/
namespace Go.Proofs.YtbkajnjboipbhaaGreatDoor.W
open Go.RowKit
set_option linter.unusedVariables false
set_option linter.unusedSimpArgs false

structure Wake where
  t0 : Sto
  t1 : Sto
  d : DS
  fmt : (DS.new 25).format = ((0, some t0), d)
  small : t0.s.d.ops ≤ 25 ∧ t0.s.d.since.length = 0
  put : (t0.put ⟨1, 0, 5, 2⟩ [9]).1 = 0
  t1_eq : t1 = (t0.put ⟨1, 0, 5, 2⟩ [9]).2
  get : t1.get ⟨1, 0, 5, 2⟩ = ([9], 0)
  ids : t1.ids = [⟨1, 0, 5, 2⟩]
  room : t1.room = 2
theorem wake_is : Nonempty Wake := by
  obtain ⟨t, d, h1, h2, h3, h4, h5, h6, _⟩ := Kept.new 25 (by omega)
  have hm : mayId ⟨1, 0, 5, 2⟩ = true := by decide
  have hr : t.room = 3 := by unfold Sto.room; rw [h4]; rfl
  obtain ⟨p1, p2, p3⟩ := h2.put_new hm rfl (b := [9]) (by simp) (by omega)
  refine ⟨⟨t, _, d, h1, ⟨by rw [h3]; exact h6, by rw [h2.since]; rfl⟩, p1, rfl, ?_, ?_, by omega⟩⟩
  · rw [p2.get, if_neg (by rw [hm]; simp), setF_self]
  · refine ids_one p2.keys (fun y => ?_)
    rw [p2.mem_ids]
    by_cases e : y = ⟨1, 0, 5, 2⟩
    · rw [e, setF_self]; simp
    · rw [setF_other _ _ e]; simp [e]
theorem okD_c : okD ⟨1, 0, 5, 2⟩ := by decide

set_option maxHeartbeats 8000000 in
set_option maxRecDepth 100000 in
theorem awake6_any (w : World) : Calls Tryz.prog 11 #[] w fun e w' => e = .returned (.bool true) ∧ Chg [] w w' := by
  obtain ⟨⟨t0, t1, d, hf, hsm, hp, ht1, hg, hi, hrm⟩⟩ := wake_is
  have CN := Lib.hid (own_disk 25 w (by omega) (by omega))
  have HI := Lib.hid hi
  clear hi
  go_enter Tryz.func11, Tryz.ntmps11
  go_wp2_with fail
  refine CN.out.mono ?_
  rintro e w1 ⟨p, S, rfl, hd1, hS1, hc1⟩
  have CF := Lib.hid (own_format (w0 := w) hd1 hS1 hc1 hf)
  clear hd1 hS1 hc1 CN hf
  go_wp2_with fail
  refine CF.out.mono ?_
  rintro e w2 ⟨q, rfl, ho2⟩
  have CI := Lib.hid (lawid_any 1 0 5 2 w2)
  have HO2 := Lib.hid ho2
  clear ho2 CF
  go_wp2_with fail
  refine CI.out.mono ?_
  rintro e w3 ⟨rfl, hc3⟩
  have hcA : Chg [] w3 (w3.alloc (.cells #[bv 9] 5)) := (Chg.refl _ _).alloc _
  have HO3 := Lib.hid ((HO2.out.keep0 hc3).add hcA (Y := [w3.heap.size]) (fun k hk => .inr (by
    rw [List.mem_singleton.1 hk]
    exact ⟨Nat.le_refl _, by simp⟩)))
  have CP := Lib.hid (own_put HO3.out ⟨1, 0, 5, 2⟩ okD_c _ [9] (one_byte6 w3 9) (fun _ k hk => .inr (by
    obtain rfl : w3.heap.size = k := by simpa [Value.ownBlock] using hk
    simp)) (by simp) (by omega) (by omega))
  rw [hp, ← ht1, show bv 9 = .int .u8 9 from rfl] at CP
  clear hc3 hcA CI HO2
  go_wp2_with fail
  refine CP.out.mono ?_
  rintro e w4 ⟨rfl, ho4, _⟩
  have CI := Lib.hid (lawid_any 1 0 5 2 w4)
  have HO4 := Lib.hid ho4
  clear ho4 CP
  go_wp2_with fail
  refine CI.out.mono ?_
  rintro e w5 ⟨rfl, hc5⟩
  have CG := Lib.hid (own_get (HO4.out.keep0 hc5) ⟨1, 0, 5, 2⟩ okD_c)
  rw [hg] at CG
  clear hc5 CI
  go_wp2_with fail
  refine CG.out.mono ?_
  rintro e w6 ⟨⟨v6, rfl, hb6, _⟩, ho6, _, _⟩
  have CL := Lib.hid (own_list ho6)
  have HB6 := Lib.hid hb6
  obtain ⟨a6, c6, rfl⟩ := hb6.slice
  rw [HI.out] at CL
  clear hb6 ho6 CG
  go_wp2_with fail
  refine CL.out.mono ?_
  rintro e w7 ⟨⟨v7, rfl, hr7⟩, ho7, _, hc7⟩
  have hform : ∃ g cap, v7 = .slice (some ⟨g, 0, none⟩) 1 cap := by
    rcases hr7.2 with ⟨h1, h2⟩ | ⟨g, cap, cur, h1, _⟩
    · simp at h2
    · exact ⟨g, cap, h1⟩
  obtain ⟨g, cap, rfl⟩ := hform
  obtain ⟨m0, m1, m2, m3⟩ := id_row (l := [⟨1, 0, 5, 2⟩]) hr7 0 (by simp) ⟨1, 0, 5, 2⟩ rfl
  have hcap : 1 ≤ cap := by
    rcases hr7.2 with ⟨h1, h2⟩ | ⟨g, cap', cur, h1, _, _, h3, _⟩
    · simp at h2
    · obtain ⟨_, _, rfl⟩ := Value.slice.inj h1
      exact h3
  have HB7 := Lib.hid (HB6.out.chg hc7 (by simp))
  have HO7 := Lib.hid ho7
  have heq : ∀ w, (binOp .eql 25 (.agg #[.int .i64 1, .int .i64 0, .int .i64 5, .int .i64 2]) (.agg #[.int .i64 1, .int .i64 0, .int .i64 5, .int .i64 2])).run Tryz.prog w = .ok (.bool true) w := fun w => by
    have := eq_id ⟨1, 0, 5, 2⟩ ⟨1, 0, 5, 2⟩ okD_c okD_c w
    simpa using this
  simp only [Nat.zero_mul] at m0 m1 m2 m3
  clear hr7 ho7 hc7 CL HB6
  go_wp2_with fail
  refine wp_region_L [(17, fun w' => (w'.cell? ⟨g, 0, none⟩ = some (.int .i64 1) ∧ w'.cell? ⟨g, 1, none⟩ = some (.int .i64 0) ∧ w'.cell? ⟨g, 2, none⟩ = some (.int .i64 5) ∧ w'.cell? ⟨g, 3, none⟩ = some (.int .i64 2)))] (by kernel_rfl) ?_ (fun hHeld => ?_)
  · exact (HoldC.cons (⟨m0, m1, m2, m3⟩) HoldC.nil)
  refine wpAnyL_take (i := 0) (oi := _) (v := ?_) rfl (by kernel_rfl) (by kernel_rfl) (by kernel_rfl) (by kernel_rfl) (by kernel_rfl) (fun _ _ _ h => h) (Or.inl ⟨by rfl, ?_⟩) (by assumption) (fun hNew => ?_)
  rotate_left
  · intro w _
    go_simp
    try with_reducible rfl
  clear hHeld
  have hHeld := hNew
  clear hNew
  try simp only [List.getElem_toArray, List.getElem_cons_succ, List.getElem_cons_zero, Act.put, List.setIfInBounds_toArray, List.set_cons_zero, List.set_cons_succ]
  refine wpAnyL_take (i := 1) (oi := _) (v := ?_) rfl (by kernel_rfl) (by kernel_rfl) (by kernel_rfl) (by kernel_rfl) (by kernel_rfl) (fun _ _ _ h => h) (Or.inl ⟨by rfl, ?_⟩) (by assumption) (fun hNew => ?_)
  rotate_left
  · intro w _
    go_simp
    try with_reducible rfl
  clear hHeld
  have hHeld := hNew
  clear hNew
  try simp only [List.getElem_toArray, List.getElem_cons_succ, List.getElem_cons_zero, Act.put, List.setIfInBounds_toArray, List.set_cons_zero, List.set_cons_succ]
  refine wpAnyL_take (i := 2) (oi := _) (v := ?_) rfl (by kernel_rfl) (by kernel_rfl) (by kernel_rfl) (by kernel_rfl) (by kernel_rfl) (fun _ _ _ h => h) (Or.inl ⟨by rfl, ?_⟩) (by assumption) (fun hNew => ?_)
  rotate_left
  · intro w _
    go_simp
    try with_reducible rfl
  clear hHeld
  have hHeld := hNew
  clear hNew
  try simp only [List.getElem_toArray, List.getElem_cons_succ, List.getElem_cons_zero, Act.put, List.setIfInBounds_toArray, List.set_cons_zero, List.set_cons_succ]
  refine wpAnyL_take (i := 3) (oi := _) (v := ?_) rfl (by kernel_rfl) (by kernel_rfl) (by kernel_rfl) (by kernel_rfl) (by kernel_rfl) (fun _ _ _ h => h) (Or.inl ⟨by rfl, ?_⟩) (by assumption) (fun hNew => ?_)
  rotate_left
  · intro w _
    go_simp
    try with_reducible rfl
  clear hHeld
  have hHeld := hNew
  clear hNew
  try simp only [List.getElem_toArray, List.getElem_cons_succ, List.getElem_cons_zero, Act.put, List.setIfInBounds_toArray, List.set_cons_zero, List.set_cons_succ]
  refine wpAnyL_ready (rs := [4]) (by kernel_rfl) (by simp) ?_
  refine AllReadyL.cons (o := _) rfl (fun K hK => ?_) AllReadyL.nil
  try simp only [List.getElem_toArray, List.getElem_cons_succ, List.getElem_cons_zero]
  go_simp
  have hcW : Chg [] w7 (w7.alloc (.cells #[bv 9] 5)).drew := ((Chg.refl _ _).alloc _).drew
  have hbW : BytesAt (w7.alloc (.cells #[bv 9] 5)).drew (.slice (some ⟨w7.heap.size, 0, none⟩) 1 1) [9] := (one_byte6 w7 9).chg (Chg.drew (Chg.refl [] _)) (by simp)
  rw [show bv 9 = .int .u8 9 from rfl] at hcW hbW
  generalize (w7.alloc (.cells #[.int .u8 9] 5)).drew = W at *
  have CS := Lib.hid (same_any _ _ [9] [9] W (HB7.out.chg hcW (by simp)) hbW (by simp) (by simp))
  rw [decide_eq_true rfl] at CS
  have HOW := Lib.hid (HO7.out.keep0 hcW)
  have n0 := hcW.cell m0 (by simp)
  have n1 := hcW.cell m1 (by simp)
  have n2 := hcW.cell m2 (by simp)
  have n3 := hcW.cell m3 (by simp)
  clear hcW hbW
  clear hHeld
  refine hK.out _ _ ?_ (fun hHeld => ?_)
  · exact (HoldC.cons (⟨n0, n1, n2, n3⟩) HoldC.nil)
  clear hK K
  try simp only [List.getElem_toArray, List.getElem_cons_succ, List.getElem_cons_zero, Act.put, List.setIfInBounds_toArray, List.set_cons_zero, List.set_cons_succ]
  refine wpAnyL_ready (rs := [5]) (by kernel_rfl) (by simp) ?_
  refine AllReadyL.cons (o := _) rfl (fun K hK => ?_) AllReadyL.nil
  try simp only [List.getElem_toArray, List.getElem_cons_succ, List.getElem_cons_zero]
  go_simp
  refine CS.out.mono ?_
  rintro e w8 ⟨rfl, n, rfl⟩
  have CI := Lib.hid (lawid_any 1 0 5 2 (W.drewN n))
  have HO8 := Lib.hid (HOW.out.keep0 ((Chg.refl [] W).drewN n))
  have n0 : (W.drewN n).cell? ⟨g, 0, none⟩ = some (.int .i64 1) := n0
  have n1 : (W.drewN n).cell? ⟨g, 1, none⟩ = some (.int .i64 0) := n1
  have n2 : (W.drewN n).cell? ⟨g, 2, none⟩ = some (.int .i64 5) := n2
  have n3 : (W.drewN n).cell? ⟨g, 3, none⟩ = some (.int .i64 2) := n3
  clear hHeld
  refine hK.out _ _ ?_ (fun hHeld => ?_)
  · exact (HoldC.cons (⟨n0, n1, n2, n3⟩) HoldC.nil)
  clear hK K
  try simp only [List.getElem_toArray, List.getElem_cons_succ, List.getElem_cons_zero, Act.put, List.setIfInBounds_toArray, List.set_cons_zero, List.set_cons_succ]
  refine wpAnyL_take (i := 6) (oi := _) (v := ?_) rfl (by kernel_rfl) (by kernel_rfl) (by kernel_rfl) (by kernel_rfl) (by kernel_rfl) (fun _ _ _ h => h) (Or.inl ⟨by rfl, ?_⟩) (by assumption) (fun hNew => ?_)
  rotate_left
  · intro w _
    go_simp
    try with_reducible rfl
  clear hHeld
  have hHeld := hNew
  clear hNew
  try simp only [List.getElem_toArray, List.getElem_cons_succ, List.getElem_cons_zero, Act.put, List.setIfInBounds_toArray, List.set_cons_zero, List.set_cons_succ]
  refine wpAnyL_take (i := 7) (oi := _) (v := ?_) rfl (by kernel_rfl) (by kernel_rfl) (by kernel_rfl) (by kernel_rfl) (by kernel_rfl) (fun _ _ _ h => h) (Or.inl ⟨by rfl, ?_⟩) (by assumption) (fun hNew => ?_)
  rotate_left
  · intro w _
    go_simp
    try with_reducible rfl
  clear hHeld
  have hHeld := hNew
  clear hNew
  try simp only [List.getElem_toArray, List.getElem_cons_succ, List.getElem_cons_zero, Act.put, List.setIfInBounds_toArray, List.set_cons_zero, List.set_cons_succ]
  refine wpAnyL_take (i := 8) (oi := _) (v := ?_) rfl (by kernel_rfl) (by kernel_rfl) (by kernel_rfl) (by kernel_rfl) (by kernel_rfl) (fun _ _ _ h => h) (Or.inl ⟨by rfl, ?_⟩) (by assumption) (fun hNew => ?_)
  rotate_left
  · intro w _
    go_simp
    try with_reducible rfl
  clear hHeld
  have hHeld := hNew
  clear hNew
  try simp only [List.getElem_toArray, List.getElem_cons_succ, List.getElem_cons_zero, Act.put, List.setIfInBounds_toArray, List.set_cons_zero, List.set_cons_succ]
  refine wpAnyL_take (i := 9) (oi := _) (v := ?_) rfl (by kernel_rfl) (by kernel_rfl) (by kernel_rfl) (by kernel_rfl) (by kernel_rfl) (fun _ _ _ h => h) (Or.inl ⟨by rfl, ?_⟩) (by assumption) (fun hNew => ?_)
  rotate_left
  · intro w _
    go_simp
    try with_reducible rfl
  clear hHeld
  have hHeld := hNew
  clear hNew
  try simp only [List.getElem_toArray, List.getElem_cons_succ, List.getElem_cons_zero, Act.put, List.setIfInBounds_toArray, List.set_cons_zero, List.set_cons_succ]
  refine wpAnyL_take (i := 10) (oi := _) (v := ?_) rfl (by kernel_rfl) (by kernel_rfl) (by kernel_rfl) (by kernel_rfl) (by kernel_rfl) (fun _ _ _ h => h) (Or.inl ⟨by rfl, ?_⟩) (by assumption) (fun hNew => ?_)
  rotate_left
  · intro w _
    go_simp
    try with_reducible rfl
  clear hHeld
  have hHeld := hNew
  clear hNew
  try simp only [List.getElem_toArray, List.getElem_cons_succ, List.getElem_cons_zero, Act.put, List.setIfInBounds_toArray, List.set_cons_zero, List.set_cons_succ]
  refine wpAnyL_take (i := 11) (oi := _) (v := ?_) rfl (by kernel_rfl) (by kernel_rfl) (by kernel_rfl) (by kernel_rfl) (by kernel_rfl) (fun _ _ _ h => h) (Or.inl ⟨by rfl, ?_⟩) (by assumption) (fun hNew => ?_)
  rotate_left
  · intro w _
    go_simp
    try with_reducible rfl
  clear hHeld
  have hHeld := hNew
  clear hNew
  try simp only [List.getElem_toArray, List.getElem_cons_succ, List.getElem_cons_zero, Act.put, List.setIfInBounds_toArray, List.set_cons_zero, List.set_cons_succ]
  refine wpAnyL_take (i := 12) (oi := _) (v := ?_) rfl (by kernel_rfl) (by kernel_rfl) (by kernel_rfl) (by kernel_rfl) (by kernel_rfl) (fun _ _ _ h => h) (Or.inl ⟨by rfl, ?_⟩) (by assumption) (fun hNew => ?_)
  rotate_left
  · intro w _
    go_simp
    try with_reducible rfl
  clear hHeld
  have hHeld := hNew
  clear hNew
  try simp only [List.getElem_toArray, List.getElem_cons_succ, List.getElem_cons_zero, Act.put, List.setIfInBounds_toArray, List.set_cons_zero, List.set_cons_succ]
  refine wpAnyL_take (i := 13) (oi := _) (v := ?_) rfl (by kernel_rfl) (by kernel_rfl) (by kernel_rfl) (by kernel_rfl) (by kernel_rfl) (fun _ _ _ h => h) (Or.inl ⟨by rfl, ?_⟩) (by assumption) (fun hNew => ?_)
  rotate_left
  · intro w _
    go_simp
    try with_reducible rfl
  clear hHeld
  have hHeld := hNew
  clear hNew
  try simp only [List.getElem_toArray, List.getElem_cons_succ, List.getElem_cons_zero, Act.put, List.setIfInBounds_toArray, List.set_cons_zero, List.set_cons_succ]
  refine wpAnyL_take (i := 14) (oi := _) (v := ?_) rfl (by kernel_rfl) (by kernel_rfl) (by kernel_rfl) (by kernel_rfl) (by kernel_rfl) (fun _ _ _ h => h) (Or.inl ⟨by rfl, ?_⟩) (by assumption) (fun hNew => ?_)
  rotate_left
  · intro w _
    go_simp
    try with_reducible rfl
  clear hHeld
  have hHeld := hNew
  clear hNew
  try simp only [List.getElem_toArray, List.getElem_cons_succ, List.getElem_cons_zero, Act.put, List.setIfInBounds_toArray, List.set_cons_zero, List.set_cons_succ]
  refine wpAnyL_load 0 (i := 15) (oi := _) (v := ?_) rfl rfl (by kernel_rfl) (by kernel_rfl) (by kernel_rfl) (by kernel_rfl) (by kernel_rfl) (by kernel_rfl) (fun _ _ _ h => h) (Or.inl ⟨by rfl, ?_⟩) (by assumption) (fun hNew => ?_)
  rotate_left
  · intro w hSw
    (try dsimp only at hSw)
    go_simp
    try with_reducible rfl
  clear hHeld
  have hHeld := hNew
  clear hNew
  try simp only [List.getElem_toArray, List.getElem_cons_succ, List.getElem_cons_zero, Act.put, List.setIfInBounds_toArray, List.set_cons_zero, List.set_cons_succ]
  refine wpAnyL_ready (rs := [16]) (by kernel_rfl) (by simp) ?_
  refine AllReadyL.cons (o := _) rfl (fun K hK => ?_) AllReadyL.nil
  try simp only [List.getElem_toArray, List.getElem_cons_succ, List.getElem_cons_zero]
  go_simp
  refine CI.out.mono ?_
  rintro e w9 ⟨rfl, hc9⟩
  have HO9 := Lib.hid (HO8.out.keep0 hc9)
  have CR := Lib.hid (own_room HO9.out)
  rw [hrm] at CR
  have n0 := hc9.cell n0 (by simp)
  have n1 := hc9.cell n1 (by simp)
  have n2 := hc9.cell n2 (by simp)
  have n3 := hc9.cell n3 (by simp)
  clear hc9
  clear hHeld
  refine hK.out _ _ ?_ (fun hHeld => ?_)
  · exact (HoldC.cons (⟨n0, n1, n2, n3⟩) HoldC.nil)
  clear hK K
  try simp only [List.getElem_toArray, List.getElem_cons_succ, List.getElem_cons_zero, Act.put, List.setIfInBounds_toArray, List.set_cons_zero, List.set_cons_succ]
  refine wpAnyL_ready (rs := [17]) (by kernel_rfl) (by simp) ?_
  refine AllReadyL.cons (o := _) rfl (fun K hK => ?_) AllReadyL.nil
  try simp only [List.getElem_toArray, List.getElem_cons_succ, List.getElem_cons_zero]
  go_simp
  clear hHeld
  refine hK.out _ _ ?_ (fun hHeld => ?_)
  · exact (HoldC.past (by kernel_rfl) HoldC.nil)
  clear hK K
  try simp only [List.getElem_toArray, List.getElem_cons_succ, List.getElem_cons_zero, Act.put, List.setIfInBounds_toArray, List.set_cons_zero, List.set_cons_succ]
  refine wpAnyL_take (i := 18) (oi := _) (v := ?_) rfl (by kernel_rfl) (by kernel_rfl) (by kernel_rfl) (by kernel_rfl) (by kernel_rfl) (fun _ _ _ h => h) (Or.inl ⟨by rfl, ?_⟩) (by assumption) (fun hNew => ?_)
  rotate_left
  · intro w _
    go_simp
    try with_reducible rfl
  clear hHeld
  have hHeld := hNew
  clear hNew
  try simp only [List.getElem_toArray, List.getElem_cons_succ, List.getElem_cons_zero, Act.put, List.setIfInBounds_toArray, List.set_cons_zero, List.set_cons_succ]
  refine wpAnyL_take (i := 19) (oi := _) (v := ?_) rfl (by kernel_rfl) (by kernel_rfl) (by kernel_rfl) (by kernel_rfl) (by kernel_rfl) (fun _ _ _ h => h) (Or.inl ⟨by rfl, ?_⟩) (by assumption) (fun hNew => ?_)
  rotate_left
  · intro w _
    go_simp
    try with_reducible rfl
  clear hHeld
  have hHeld := hNew
  clear hNew
  try simp only [List.getElem_toArray, List.getElem_cons_succ, List.getElem_cons_zero, Act.put, List.setIfInBounds_toArray, List.set_cons_zero, List.set_cons_succ]
  refine wpAnyL_take (i := 20) (oi := _) (v := ?_) rfl (by kernel_rfl) (by kernel_rfl) (by kernel_rfl) (by kernel_rfl) (by kernel_rfl) (fun _ _ _ h => h) (Or.inl ⟨by rfl, ?_⟩) (by assumption) (fun hNew => ?_)
  rotate_left
  · intro w _
    go_simp
    try with_reducible rfl
  clear hHeld
  have hHeld := hNew
  clear hNew
  try simp only [List.getElem_toArray, List.getElem_cons_succ, List.getElem_cons_zero, Act.put, List.setIfInBounds_toArray, List.set_cons_zero, List.set_cons_succ]
  refine wpAnyL_ready (rs := [21]) (by kernel_rfl) (by simp) ?_
  refine AllReadyL.cons (o := _) rfl (fun K hK => ?_) AllReadyL.nil
  try simp only [List.getElem_toArray, List.getElem_cons_succ, List.getElem_cons_zero]
  go_simp
  refine CR.out.mono ?_
  rintro e w10 ⟨rfl, hq⟩
  subst hq
  clear hHeld
  refine hK.out _ _ ?_ (fun hHeld => ?_)
  · exact (HoldC.past (by kernel_rfl) HoldC.nil)
  clear hK K
  try simp only [List.getElem_toArray, List.getElem_cons_succ, List.getElem_cons_zero, Act.put, List.setIfInBounds_toArray, List.set_cons_zero, List.set_cons_succ]
  refine wpAnyL_take (i := 22) (oi := _) (v := ?_) rfl (by kernel_rfl) (by kernel_rfl) (by kernel_rfl) (by kernel_rfl) (by kernel_rfl) (fun _ _ _ h => h) (Or.inl ⟨by rfl, ?_⟩) (by assumption) (fun hNew => ?_)
  rotate_left
  · intro w _
    go_simp
    try with_reducible rfl
  clear hHeld
  have hHeld := hNew
  clear hNew
  try simp only [List.getElem_toArray, List.getElem_cons_succ, List.getElem_cons_zero, Act.put, List.setIfInBounds_toArray, List.set_cons_zero, List.set_cons_succ]
  refine wpAnyL_take (i := 23) (oi := _) (v := ?_) rfl (by kernel_rfl) (by kernel_rfl) (by kernel_rfl) (by kernel_rfl) (by kernel_rfl) (fun _ _ _ h => h) (Or.inl ⟨by rfl, ?_⟩) (by assumption) (fun hNew => ?_)
  rotate_left
  · intro w _
    go_simp
    try with_reducible rfl
  clear hHeld
  have hHeld := hNew
  clear hNew
  try simp only [List.getElem_toArray, List.getElem_cons_succ, List.getElem_cons_zero, Act.put, List.setIfInBounds_toArray, List.set_cons_zero, List.set_cons_succ]
  refine wpAnyL_ready (rs := [24]) (by kernel_rfl) (by simp) ?_
  refine AllReadyL.cons (o := _) rfl (fun K hK => ?_) AllReadyL.nil
  try simp only [List.getElem_toArray, List.getElem_cons_succ, List.getElem_cons_zero]
  go_simp
  clear hHeld
  refine hK.out _ _ ?_ (fun hHeld => ?_)
  · exact (HoldC.past (by kernel_rfl) HoldC.nil)
  clear hK K
  try simp only [List.getElem_toArray, List.getElem_cons_succ, List.getElem_cons_zero, Act.put, List.setIfInBounds_toArray, List.set_cons_zero, List.set_cons_succ]
  refine wpAnyL_done (by kernel_rfl) ?_ _
  clear hHeld
  go_wp2_with fail
  go_ret
  exact ⟨rfl, HO9.out.chg⟩
end Go.Proofs.YtbkajnjboipbhaaGreatDoor.W

/- Ids that came in: as an argument, in a slice. -/
namespace Go.Proofs.YtbkajnjboipbhaaGreatDoor.W
open Go.RowKit Go.ChangeShapes Go.WideShapes
set_option linter.unusedVariables false
set_option linter.unusedSimpArgs false

theorem fieldsI : ∃ f0 f1 : Field, Tryz.prog.underlying 25 = some (.struct #[f0, f1]) ∧ f0.offset = 0 ∧ f1.offset = 3 ∧ f0.type = 23 ∧ Tryz.prog.underlying f1.type = some (.int .i64) ∧ Tryz.prog.cellsOf f1.type = 1 :=
  ⟨_, _, Tryz.underlying25, rfl, rfl, rfl, by kernel_rfl, by kernel_rfl⟩
theorem fieldsT : ∃ f0 f1 f2 : Field, Tryz.prog.underlying 23 = some (.struct #[f0, f1, f2]) ∧ f0.offset = 0 ∧ f1.offset = 1 ∧ f2.offset = 2 ∧ Tryz.prog.underlying f0.type = some (.int .i64) ∧ Tryz.prog.underlying f1.type = some (.int .i64) ∧ Tryz.prog.underlying f2.type = some (.int .i64) ∧
    Tryz.prog.cellsOf f0.type = 1 ∧ Tryz.prog.cellsOf f1.type = 1 ∧ Tryz.prog.cellsOf f2.type = 1 :=
  ⟨_, _, _, Tryz.underlying23, rfl, rfl, rfl, by kernel_rfl, by kernel_rfl, by kernel_rfl, by kernel_rfl, by kernel_rfl, by kernel_rfl⟩
section
variable {H : Type} {enc : TypeId × Value → H} {w : World} {base : Nat} {held : Bool} {spare : Nat → Bool}
theorem open_idc {fuel : Nat} {v0 v1 v2 v3 : Value} {x : DataW H × List MemPlace} (h : DataW.trod enc Tryz.prog w base spare held fuel 25 [v0, v1, v2, v3] = some x) : ∃ y : Id, okD y ∧ v0 = .int .i64 y.c ∧ v1 = .int .i64 y.l ∧ v2 = .int .i64 y.n ∧ v3 = .int .i64 y.i := by
  obtain ⟨f0, f1, hs, o0, o1, t0, t1, c1⟩ := fieldsI
  obtain ⟨g0, g1, g2, hs2, p0, p1, p2, u0, u1, u2, d0, d1, d2⟩ := fieldsT
  obtain ⟨xs, k, hk, hxy, _, hxl, hf⟩ := DataW.trod_struct hs h
  match xs, hxl with
  | [y0, y1], _ =>
    have e0 := hf 0 f0 rfl
    have e1 := hf 1 f1 rfl
    rw [t0] at e0
    simp [o0, o1, c1, cells_stripe] at e0 e1
    obtain ⟨xs2, k2, hk2, hxy2, _, hxl2, hf2⟩ := DataW.trod_struct hs2 e0
    match xs2, hxl2 with
    | [z0, z1, z2], _ =>
      have r0 := hf2 0 g0 rfl
      have r1 := hf2 1 g1 rfl
      have r2 := hf2 2 g2 rfl
      simp [p0, p1, p2, d0, d1, d2] at r0 r1 r2
      obtain ⟨a0, q0, _, w0⟩ := DataW.trod_int u0 r0
      obtain ⟨a1, q1, _, w1⟩ := DataW.trod_int u1 r1
      obtain ⟨a2, q2, _, w2⟩ := DataW.trod_int u2 r2
      obtain ⟨a3, q3, _, w3⟩ := DataW.trod_int t1 e1
      simp at q0 q1 q2 q3
      refine ⟨⟨a0, a1, a2, a3⟩, ⟨?_, ?_, ?_, ?_⟩, q0, q1, q2, q3⟩
      · first | exact w0 | exact w0.1
      · first | exact w1 | exact w1.1
      · first | exact w2 | exact w2.1
      · first | exact w3 | exact w3.1

set_option maxRecDepth 100000 in
theorem open_id {r : Reach} {b0 : Nat} {v : Value} {d : DataW H} {p : List MemPlace} (hv : Value.okWide Tryz.prog w r b0 25 v) (h : DataW.Trod enc Tryz.prog w base spare held 25 v d p) : ∃ x : Id, okD x ∧ v = idV x := by
  obtain ⟨f0, f1, hs, _⟩ := fieldsI
  obtain ⟨cs, rfl, hsz⟩ := okWide_struct hs hv
  rw [cells_id] at hsz
  obtain ⟨fuel, hf⟩ := h
  have hl : cs.toList.length = 4 := by simpa using hsz
  match hcs : cs.toList, hl with
  | [v0, v1, v2, v3], _ =>
    have hf' : DataW.trod enc Tryz.prog w base spare held fuel 25 [v0, v1, v2, v3] = some (d, p) := by rw [← hcs]; exact hf
    obtain ⟨y, hy, rfl, rfl, rfl, rfl⟩ := open_idc hf'
    refine ⟨y, hy, ?_⟩
    have : cs = idC y := Array.ext' (by rw [hcs])
    rw [this]
end
end Go.Proofs.YtbkajnjboipbhaaGreatDoor.W

/- The reference's Key, MayId. -/
namespace Go.Proofs.YtbkajnjboipbhaaGreatDoor.W
open Go.RowKit
set_option linter.unusedVariables false
set_option linter.unusedSimpArgs false

def mayStripe (c l n : Int) : Bool := withinB6 c 4 && withinB6 l 1048576 && withinB6 n 1073741824
set_option maxHeartbeats 2000000 in
theorem rmaystripe_any (c l n : Int) (w : World) : Calls Tryz.prog 51 #[.agg #[.int .i64 c, .int .i64 l, .int .i64 n]] w fun e w' => e = .returned (.bool (mayStripe c l n)) ∧ Chg [] w w' := by
  unfold mayStripe withinB6
  go_enter Tryz.func51, Tryz.ntmps51
  go_wp2
  all_goals
    go_ret
    refine ⟨?_, (Chg.refl [] w).alloc _⟩
    first
      | (simp_all; done)
      | (simp; omega)
set_option maxHeartbeats 2000000 in
set_option maxRecDepth 100000 in
theorem rmayid_any (x : Id) (w : World) : Calls Tryz.prog 16 #[idV x] w fun e w' => e = .returned (.bool (mayId x)) ∧ Chg [] w w' := by
  obtain ⟨c, l, n, i⟩ := x
  have he : mayId ⟨c, l, n, i⟩ = (mayStripe c l n && withinB6 i 15) := rfl
  rw [he]
  obtain ⟨w1, hw1⟩ : ∃ w1, w1 = w.alloc (.cells (idC ⟨c, l, n, i⟩) 25) := ⟨_, rfl⟩
  have hc1 : Chg [] w w1 := by rw [hw1]; exact (Chg.refl [] w).alloc _
  have hb1 : w1.heap[w.heap.size]? = some (.cells (idC ⟨c, l, n, i⟩) 25 (0, 0)) := by rw [hw1]; exact heap_alloc_new w _
  have CM := Lib.hid (rmaystripe_any c l n w1)
  obtain ⟨m0, m1, m2, m3⟩ := id_cells hb1
  have HB := Lib.hid hb1
  have HC1 := Lib.hid hc1
  have HW1 := Lib.hid hw1
  rw [hw1] at m0 m1 m2 m3
  generalize mayStripe c l n = b at *
  clear hw1 hb1 hc1 he
  unfold withinB6
  go_enter Tryz.func16, Tryz.ntmps16
  go_wp2_with fail
  rw [← HW1.out]
  refine CM.out.mono ?_
  rintro e w2 ⟨rfl, hc2⟩
  obtain ⟨m0, m1, m2, m3⟩ := id_cells (hc2.keep HB.out (by simp))
  have HC2 := Lib.hid (HC1.out.trans hc2 (by simp))
  clear hc2
  cases b with
  | false =>
    go_wp2
    go_ret
    exact ⟨rfl, HC2.out⟩
  | true =>
    by_cases h0 : 0 ≤ i
    · by_cases h1 : i ≤ 15
      · have h2 : i < 16 := by omega
        go_wp2
        go_ret
        exact ⟨by first | (simp [h0, h1, h2]; done) | (simp [h0]; omega), HC2.out⟩
      · have h2 : ¬ i < 16 := by omega
        go_wp2
        go_ret
        exact ⟨by first | (simp [h0, h1, h2]; done) | (simp [h0]; omega), HC2.out⟩
    · have h2 : ¬ i ≥ 0 := by omega
      go_wp2
      go_ret
      exact ⟨by first | (simp [h0]; done) | (simp; omega), HC2.out⟩
structure RPenNew (w0 w : World) (b : Nat) (g : Option Nat) (l : List UInt8) : Prop where
  pen : PenAt 88 w b g l 0
  chg : Chg [] w0 w
  own : w0.heap.size ≤ b
  ownG : ∀ k, g = some k → w0.heap.size ≤ k
theorem RPenNew.num {w0 w : World} {b : Nat} {g : Option Nat} {l : List UInt8} (h : RPenNew w0 w b g l) (x : Int) (n : Nat) (h1 : 1 ≤ n) (h7 : n ≤ 7) (hx0 : 0 ≤ x) (hx : x < ((256 ^ n : Nat) : Int)) (hl : l.length ≤ 1000) :
    Calls Tryz.prog 49 #[.pointer (some ⟨b, 0, none⟩), .int .i64 x, .int .i64 n] w fun e w' => e = .returned (.tuple #[]) ∧ ∃ g', RPenNew w0 w' b g' (l ++ beBytes n x.toNat) := by
  refine (rpnum_any b g l 0 x n w h.pen (by omega) (by omega)).mono ?_
  rintro e w' ⟨rfl, g', k1, k2, k3⟩
  have e1 : penNum l 0 x n = (l ++ beBytes n x.toNat, 0) := by
    unfold penNum penAdd
    rw [if_neg (by simp), if_neg (by omega), if_neg (by simp), if_neg (by rw [beBytes_len]; omega)]
  rw [Int.toNat_natCast, e1] at k1
  refine ⟨rfl, g', k1, h.chg.trans k3 (fun x hx => .inr ?_), h.own, fun k hk => ?_⟩
  · rcases List.mem_cons.1 hx with rfl | hx
    · exact h.own
    · exact h.ownG x (by simpa using hx)
  · rcases k2 with rfl | ⟨k', rfl, h4⟩
    · exact h.ownG k hk
    · obtain rfl : k' = k := by simpa using hk
      exact Nat.le_trans h.chg.size h4
theorem RPenNew.fresh {w0 w : World} (hc : Chg [] w0 w) : RPenNew w0 (w.alloc (.cells #[.slice none 0 0, .int .i64 0] 88)) w.heap.size none [] :=
  ⟨⟨.slice none 0 0, heap_alloc_new w _, BRow.nil _, rfl, by simp, by simp⟩, hc.alloc _, hc.size, fun k hk => by cases hk⟩
set_option maxHeartbeats 2000000 in
set_option maxRecDepth 100000 in
theorem rkey_any (x : Id) (w : World) : Calls Tryz.prog 13 #[idV x] w (KeyPost x w) := by
  obtain ⟨w1, hw1⟩ : ∃ w1, w1 = w.alloc (.cells (idC x) 25) := ⟨_, rfl⟩
  have CM := Lib.hid (rmayid_any x w1)
  have hc1 : Chg [] w w1 := by rw [hw1]; exact (Chg.refl [] w).alloc _
  have hb1 : w1.heap[w.heap.size]? = some (.cells (idC x) 25 (0, 0)) := by rw [hw1]; exact heap_alloc_new w _
  have HB := Lib.hid hb1
  have HC1 := Lib.hid hc1
  have HW1 := Lib.hid hw1
  unfold KeyPost
  by_cases hm : mayId x = true
  · rw [hm] at CM
    simp only [hm, if_true]
    obtain ⟨⟨a0, a1⟩, ⟨b0, b1⟩, ⟨c0, c1⟩, d0, d1⟩ := may_bounds hm
    obtain ⟨xc, xl, xn, xi⟩ := x
    dsimp only at *
    clear hm hw1 hb1 hc1
    go_enter Tryz.func13, Tryz.ntmps13
    go_wp2_with fail
    rw [← HW1.out]
    refine CM.out.mono ?_
    rintro e w2 ⟨rfl, hc2⟩
    have HC2 := Lib.hid hc2
    clear hc2 CM
    have hp := RPenNew.fresh HC2.out
    obtain ⟨w3, hw3⟩ : ∃ w3, w3 = w2.alloc (.cells #[.slice none 0 0, .int .i64 0] 88) := ⟨_, rfl⟩
    rw [← hw3] at hp
    have HW3 := Lib.hid hw3
    have hl2 : w.heap.size < w2.heap.size := Nat.lt_of_lt_of_le (blk_lt HB.out) HC2.out.size
    have hC3 : Chg [] w1 w3 := by rw [hw3]; exact HC2.out.alloc _
    have k0 := (id_cells (hC3.keep HB.out (by simp))).1
    rw [hw3] at k0
    have CN := Lib.hid (hp.num xc 1 (by omega) (by omega) a0 (by omega) (by simp))
    have HP := Lib.hid hp
    clear hw3 hp hC3
    go_wp2_with fail
    rw [← HW3.out]
    refine CN.out.mono ?_
    rintro e w4 ⟨rfl, g4, hp4⟩
    obtain ⟨k0, k1, k2, k3⟩ := id_cells (hp4.chg.keep HB.out (by simp))
    have CN4 := Lib.hid (hp4.num xl 3 (by omega) (by omega) b0 (by omega) (by simp [beBytes_len]))
    clear hp4 CN
    go_wp2_with fail
    refine CN4.out.mono ?_
    rintro e w5 ⟨rfl, g5, hp5⟩
    obtain ⟨k0, k1, k2, k3⟩ := id_cells (hp5.chg.keep HB.out (by simp))
    have CN5 := Lib.hid (hp5.num xn 4 (by omega) (by omega) c0 (by omega) (by simp [beBytes_len]))
    clear hp5 CN4
    go_wp2_with fail
    refine CN5.out.mono ?_
    rintro e w6 ⟨rfl, g6, hp6⟩
    obtain ⟨k0, k1, k2, k3⟩ := id_cells (hp6.chg.keep HB.out (by simp))
    have CN6 := Lib.hid (hp6.num xi 1 (by omega) (by omega) d0 (by omega) (by simp [beBytes_len]))
    clear hp6 CN5
    go_wp2_with fail
    refine CN6.out.mono ?_
    rintro e w7 ⟨rfl, g7, hp7⟩
    have e9 : [] ++ beBytes 1 xc.toNat ++ beBytes 3 xl.toNat ++ beBytes 4 xn.toNat ++ beBytes 1 xi.toNat = idKey ⟨xc, xl, xn, xi⟩ := by simp [idKey]
    rw [e9] at hp7
    obtain ⟨v, hb, hr, hg, _, _⟩ := hp7.pen
    have p0 := blk_cell hb 0 _ rfl
    have hbl := blk_lt hb
    have HP7 := Lib.hid (And.intro hr (And.intro hg (And.intro hp7.chg hp7.ownG)))
    obtain ⟨av, cv, rfl⟩ := hr.slice
    clear hp7 CN6 hb hr hg
    go_wp2
    go_ret2
    refine ⟨HC1.out.trans HP7.out.2.2.1 (by simp), _, rfl, HP7.out.1, fun k hk => ?_⟩
    have := HP7.out.2.2.2 k (by rw [← HP7.out.2.1]; exact hk)
    have := HC1.out.size
    omega
  · have hm' : mayId x = false := by simpa using hm
    rw [hm'] at CM
    simp only [hm]
    obtain ⟨xc, xl, xn, xi⟩ := x
    clear hm hm' hw1 hb1 hc1
    go_enter Tryz.func13, Tryz.ntmps13
    go_wp2_with fail
    rw [← HW1.out]
    refine CM.out.mono ?_
    rintro e w2 ⟨rfl, hc2⟩
    have HC2 := Lib.hid (HC1.out.trans hc2 (by simp))
    clear hc2 CM
    go_wp2
    go_ret2
    exact ⟨HC2.out, rfl⟩
end Go.Proofs.YtbkajnjboipbhaaGreatDoor.W

/- Regions that draw their order: a load under a condition that ends far off: the way from it to its end is told. -/
namespace Go.Proofs.YtbkajnjboipbhaaGreatDoor.W
open Go.RowKit
set_option linter.unusedVariables false
set_option linter.unusedSimpArgs false

section
variable {P : Program} {ops : Array Oper} {Q : Exit → Act → World → Prop} {md : Region.Mode} {cs : List (Nat × (World → Prop))}

/-- Operation d waits for i, by this way. -/
def pathB (md : Region.Mode) (ops : Array Oper) : Nat → List Nat → Nat → Bool
  | d, [], i => match ops[d]? with
    | none => false
    | some o => o.after.any fun e => Region.binds md e && e.on == i
  | d, x :: xs, i => (match ops[d]? with
    | none => false
    | some o => o.after.any fun e => Region.binds md e && e.on == x) && pathB md ops x xs i
theorem step_open {L : Array Bool} (hc : Closed md ops L) {d x : Nat} (hx : L.getD x true = false) (h : (match ops[d]? with
    | none => false
    | some o => o.after.any fun e => Region.binds md e && e.on == x) = true) : L.getD d true = false := by
  cases ho : ops[d]? with
  | none => rw [ho] at h; cases h
  | some o =>
    simp only [ho] at h
    obtain ⟨e, he, h1⟩ := Array.any_eq_true'.1 h
    simp only [Bool.and_eq_true, beq_iff_eq] at h1
    cases hd : L.getD d true with
    | false => rfl
    | true =>
      have h2 := hc d o ho hd e he h1.1
      obtain ⟨_, rfl⟩ := h1
      rw [Array.getD_eq_getD_getElem?] at hx h2
      cases hq : L[e.on]? with
      | none => rw [hq] at h2; cases h2
      | some b => rw [hq] at hx h2; simp at hx h2; rw [hx] at h2; cases h2
theorem path_open {L : Array Bool} (hc : Closed md ops L) {i : Nat} (hi : L.getD i true = false) : ∀ (xs : List Nat) (d : Nat), pathB md ops d xs i = true → L.getD d true = false := by
  intro xs
  induction xs with
  | nil => intro d h; exact step_open hc hi h
  | cons x xs ih =>
    intro d h
    unfold pathB at h
    rw [Bool.and_eq_true] at h
    exact step_open hc (ih x h.2) h.1
theorem wpAnyL_loadP (k : Nat) (xs : List Nat) {i d : Nat} {C : World → Prop} {oi : Oper} {v : Value} {fuel : Nat} {L : Array Bool} {a : Act} {w : World} (hk : cs[k]? = some (d, C)) (hi : ops[i]? = some oi)
    (hs : Region.noSelect ops = true) (hcl : closedB md ops L = true) (hf : Region.free md ops L i = true) (hr : (Region.ready md ops L).contains i = true) (hne : cs.all (fun c => c.1 != i) = true) (hanc : pathB md ops d xs i = true)
    (hQ : ∀ c a w, Q (.panic c) (a.put oi.dst v) w → Q (.panic c) a w) (hy : YieldsIf P ops C oi v a) (hS : HoldC cs L w)
    (h : HoldC cs (L.setIfInBounds i true) w → wpAnyL P md ops Q cs fuel (L.setIfInBounds i true) (a.put oi.dst v) w) : wpAnyL P md ops Q cs (fuel + 1) L a w :=
  wpAnyL_first hi (Region.noSelect_spec hs) hQ (fun L w h1 h2 h3 => h3 _ (List.mem_of_getElem? hk) (path_open h1 h2 _ _ hanc)) (fun c hc => by simpa using List.all_eq_true.1 hne c hc) fuel L a w (closed_of hcl) (Region.free_spec hi hf) (by simpa using hr) hy hS (h (hS.set _))
end
end Go.Proofs.YtbkajnjboipbhaaGreatDoor.W
