/- Texts laid together. -/
import Derived.Test.YtdkhmfcfihbjeaaGreatDoorKL5
import Derived.Test.YtdkhmfcfihbjeaaGreatDoorKL4
import Derived.Test.YtdkhmfcfihbjeaaGreatDoorKL1
import Derived.Test.YtdkhmfcfihbjeaaGreatDoorKL2
import Derived.DeepKeys
import Derived.Laws.StructEq
import Derived.Deep.Slices
import Derived.ChangeSlices
import Derived.Lib.SmallJoins
import Derived.Test.YtdkhmfcfihbjeaaGreatDoorKL3
import Derived.Deep.AppendLies
import Derived.LoopTactic
import Derived.Deep.MidRow
/- A store on a disk that lives, plainly. -/
namespace Go.Proofs.YtdkhmfcfihbjeaaGreatDoor.W
set_option linter.unusedVariables false
set_option linter.unusedSimpArgs false

/-! ### Formatting -/
theorem DS.wipe_live : ∀ (k a : Nat) (d : DS), d.Live → a + 8 * k ≤ d.n + 7 → (∀ i, d.now i = zeros 64) → (d.wipe k a).1 = 0 ∧ (d.wipe k a).2.Live ∧ (d.wipe k a).2.n = d.n ∧ (∀ i, (d.wipe k a).2.now i = zeros 64) ∧ (d.wipe k a).2.since = []
  | 0, a, d, hd, hn, hz => by
    obtain ⟨h1, h2, h3, h4, h5⟩ := d.sync_live hd
    exact ⟨h1, h2, h3, fun i => by show (d.sync).2.now i = _; rw [h4, hz], h5⟩
  | k + 1, a, d, hd, hn, hz => by
    obtain ⟨h1, h2, h3, h4⟩ := DS.write_live hd a (zeros 64) (by omega) (by simp [zeros])
    obtain ⟨i1, i2, i3, i4, i5⟩ := DS.wipe_live k (a + 8) _ h2 (by rw [h3]; omega) (fun i => by
      rw [h4]; unfold upd
      split
      · rfl
      · exact hz i)
    unfold DS.wipe
    rw [if_neg (by rw [h1]; simp)]
    exact ⟨i1, i2, by rw [i3, h3], i4, i5⟩
theorem DS.sign_live {d : DS} (hd : d.Live) (n : UInt8) (hn : 1 ≤ d.n) : (d.sign n).1 = 0 ∧ (d.sign n).2.Live ∧ (d.sign n).2.n = d.n ∧ (d.sign n).2.now = upd d.now 0 (n :: zeros 63) ∧ (d.sign n).2.since = [] := by
  obtain ⟨h1, h2, h3, h4⟩ := DS.write_live hd 0 (n :: zeros 63) (by omega) (by simp [zeros])
  obtain ⟨g1, g2, g3, g4, g5⟩ := DS.sync_live h2
  unfold DS.sign
  rw [show ((0 : Nat) : Int) = 0 from rfl] at *
  rw [if_neg (by rw [h1]; simp)]
  exact ⟨g1, g2, by rw [g3, h3], by rw [g4, h4], g5⟩
theorem rowsFrom_zero {d : DS} {first : Nat} (h : ∀ i, 1 ≤ i → d.now i = zeros 64) (hf : 1 ≤ first) : ∀ m k, rowsFrom d first m k = some (List.replicate m noRow)
  | 0, _ => rfl
  | m + 1, k => by
    unfold rowsFrom
    rw [h _ (by omega)]
    have : headOf (zeros 64) = some noRow := by rfl
    rw [this]
    dsimp only
    rw [rowsFrom_zero h hf m (k + 1)]
    rfl
/-- A new disk, formatted. -/
theorem format_new (n : Nat) (h9 : 9 ≤ n) : ∃ d, (DS.new n).format = ((0, some ⟨⟨d, 1, List.replicate ((n - 1) / 8) noRow⟩, false⟩), d) ∧ d.Live ∧ d.n = n ∧ d.since = [] ∧ (∀ i, 1 ≤ i → d.now i = zeros 64) ∧ d.ops ≤ n ∧ d.now 0 = 1 :: zeros 63 := by
  have hl : (DS.new n).Live := ⟨rfl, by show (-1 : Int) < 0; omega⟩
  obtain ⟨a1, a2, a3, a4, a5⟩ := DS.wipe_live ((n - 1) / 8) 1 (DS.new n) hl (by show _ ≤ n + 7; omega) (fun i => rfl)
  have a3' : ((DS.new n).wipe ((n - 1) / 8) 1).2.n = n := a3
  obtain ⟨w1, w2, w3⟩ := DS.wipe_ok ((n - 1) / 8) 1 (DS.new n)
  obtain ⟨b1, b2, b3, b4, b5⟩ := DS.sign_live a2 1 (by rw [a3']; omega)
  obtain ⟨s1, s2, s3⟩ := ((DS.new n).wipe ((n - 1) / 8) 1).2.sign_ok 1
  have hw0 : (DS.new n).ops = 0 := rfl
  obtain ⟨d, hd⟩ : ∃ d, d = (((DS.new n).wipe ((n - 1) / 8) 1).2.sign 1).2 := ⟨_, rfl⟩
  have hfm : (DS.new n).format = if ((DS.new n).wipe ((n - 1) / 8) 1).1 ≠ 0 then ((((DS.new n).wipe ((n - 1) / 8) 1).1, none), ((DS.new n).wipe ((n - 1) / 8) 1).2) else if (((DS.new n).wipe ((n - 1) / 8) 1).2.sign 1).1 ≠ 0 then (((((DS.new n).wipe ((n - 1) / 8) 1).2.sign 1).1, none), (((DS.new n).wipe ((n - 1) / 8) 1).2.sign 1).2) else ((((DS.new n).wipe ((n - 1) / 8) 1).2.sign 1).2.stOpen, (((DS.new n).wipe ((n - 1) / 8) 1).2.sign 1).2) := by
    unfold DS.format
    rw [if_neg (by show ¬ n < 9; omega)]
    rfl
  rw [hfm, if_neg (by rw [a1]; simp), if_neg (by rw [b1]; simp), ← hd]
  rw [← hd] at b2 b3 b4 b5 s2
  have hn : d.n = n := by rw [b3, a3']
  have h0 : d.now 0 = 1 :: zeros 63 := by rw [b4]; unfold upd; rw [if_pos rfl]
  have h1 : ∀ i, 1 ≤ i → d.now i = zeros 64 := fun i hi => by rw [b4]; unfold upd; rw [if_neg (by omega), a4]
  refine ⟨d, ?_, b2, hn, b5, h1, by omega, h0⟩
  have hsl : d.slots 1 = (0, some ⟨d, 1, List.replicate ((n - 1) / 8) noRow⟩) := by
    unfold DS.slots
    rw [if_neg (by omega), if_neg (by rw [b2.1]; simp; omega), show (1 : Int).toNat = 1 from rfl, rowsFrom_zero h1 (by omega), hn]
  have hop : d.stOpen = (0, some ⟨⟨d, 1, List.replicate ((n - 1) / 8) noRow⟩, false⟩) := by
    unfold DS.stOpen
    rw [if_neg (by omega), if_neg (by rw [b2.1]; simp), h0]
    rw [if_neg (by
      rintro (⟨h, _⟩ | h)
      · exact h rfl
      · rw [show (1 :: zeros 63).drop 1 = zeros 63 from rfl, allZ_zeros] at h; cases h), hsl]
    dsimp only
    rw [if_pos (stKeys_iff.2 (fun r hr hu => by
      obtain rfl := List.eq_of_mem_replicate hr
      simp [noRow] at hu))]
    rfl
  rw [hop]

/-! ### A store whose fragments are known -/
abbrev Frag := Id → Option (List UInt8)
def setF (F : Frag) (x : Id) (o : Option (List UInt8)) : Frag := fun y => if y = x then o else F y
theorem setF_self (F : Frag) (x : Id) (o : Option (List UInt8)) : setF F x o x = o := if_pos rfl
theorem setF_other (F : Frag) {x y : Id} (o : Option (List UInt8)) (h : y ≠ x) : setF F x o y = F y := if_neg h
structure Kept (t : Sto) (F : Frag) : Prop where
  told : ∃ u v, Told t.s u v ∧ ∀ x, mayId x = true → (F x = none ∧ t.at x = []) ∨ ∃ i b, F x = some b ∧ t.at x = [i] ∧ v i = b
  out : ∀ x, mayId x = false → F x = none
  keys : keysOk t.s.rows
  since : t.s.d.since = []
  first : t.s.first = 1
theorem Kept.live {t : Sto} {F : Frag} (h : Kept t F) : t.s.d.Live := by obtain ⟨u, v, h1, _⟩ := h.told; exact h1.live
theorem Kept.room {t : Sto} {F : Frag} (h : Kept t F) : t.s.first + 8 * t.s.rows.length ≤ t.s.d.n := by obtain ⟨u, v, h1, _⟩ := h.told; exact h1.room
theorem Kept.new (n : Nat) (h9 : 9 ≤ n) : ∃ t d, (DS.new n).format = ((0, some t), d) ∧ Kept t (fun _ => none) ∧ t.s.d = d ∧ t.s.rows = List.replicate ((n - 1) / 8) noRow ∧ d.n = n ∧ d.ops ≤ n ∧ t.whole = false := by
  obtain ⟨d, h1, h2, h3, h4, h5, h6, _⟩ := format_new n h9
  refine ⟨_, d, h1, ⟨⟨fun _ => false, fun _ => [], ⟨h2, by show 1 + 8 * (List.replicate _ noRow).length ≤ d.n; rw [List.length_replicate]; omega, fun k hk => ?_, fun k hk => ?_, fun k hk hu => by cases hu⟩, fun x hx => .inl ⟨rfl, ?_⟩⟩, fun _ _ => rfl, fun r hr hu => ?_, h4, rfl⟩, rfl, rfl, h3, h6, rfl⟩
  · rw [List.length_replicate] at hk
    show headOf (d.now (1 + 8 * k)) = _
    rw [h5 _ (by omega), List.getD_eq_getElem?_getD, List.getElem?_replicate, if_pos hk]
    rfl
  · rw [List.length_replicate] at hk
    show ((List.replicate _ noRow).getD k noRow).used = false
    rw [List.getD_eq_getElem?_getD, List.getElem?_replicate, if_pos hk]
    rfl
  · rw [Sto.at_may hx]
    cases hu : upto (List.replicate ((n - 1) / 8) noRow) (List.replicate ((n - 1) / 8) noRow).length (idKey x) with
    | nil => rfl
    | cons j r =>
      have hj : j ∈ upto (List.replicate ((n - 1) / 8) noRow) (List.replicate ((n - 1) / 8) noRow).length (idKey x) := by rw [hu]; simp
      obtain ⟨a, b, _⟩ := upto_mem.1 hj
      rw [List.length_replicate] at a
      rw [List.getD_eq_getElem?_getD, List.getElem?_replicate, if_pos a] at b
      simp [noRow] at b
  · obtain rfl := List.eq_of_mem_replicate hr
    simp [noRow] at hu
theorem Kept.at_none {t : Sto} {F : Frag} (h : Kept t F) {x : Id} (hx : F x = none) : t.at x = [] := by
  by_cases hm : mayId x = true
  · obtain ⟨u, v, _, h2⟩ := h.told
    rcases h2 x hm with ⟨_, h3⟩ | ⟨i, b, h3, _⟩
    · exact h3
    · rw [hx] at h3; cases h3
  · exact Sto.at_not (by simpa using hm)
theorem Kept.at_some {t : Sto} {F : Frag} (h : Kept t F) {x : Id} {b : List UInt8} (hx : F x = some b) : mayId x = true ∧ t.at x ≠ [] := by
  by_cases hm : mayId x = true
  · obtain ⟨u, v, _, h2⟩ := h.told
    rcases h2 x hm with ⟨h3, _⟩ | ⟨i, b', h3, h4, _⟩
    · rw [hx] at h3; cases h3
    · exact ⟨hm, by rw [h4]; simp⟩
  · rw [h.out x (by simpa using hm)] at hx; cases hx
/-- Get. -/
theorem Kept.get {t : Sto} {F : Frag} (h : Kept t F) (x : Id) : t.get x = if mayId x = false then (([] : List UInt8), (1 : Int)) else match F x with | none => ([], 6) | some b => (b, 0) := by
  unfold Sto.get
  by_cases hm : mayId x = true
  · rw [if_neg (by simp [hm]), if_neg (by simp [hm])]
    obtain ⟨u, v, h1, h2⟩ := h.told
    rcases h2 x hm with ⟨h3, h4⟩ | ⟨i, b, h3, h4, h5⟩
    · rw [h3, h4]
    · rw [h3, h4]
      dsimp only
      have hi : i ∈ upto t.s.rows t.s.rows.length (idKey x) := by rw [← Sto.at_may hm, h4]; simp
      obtain ⟨a, b1, _⟩ := upto_mem.1 hi
      rw [h1.get i a, if_pos (by rw [← h1.used i a]; exact b1), h5]
  · rw [if_pos (by simpa using hm), if_pos (by simpa using hm)]
theorem Kept.mem_ids {t : Sto} {F : Frag} (h : Kept t F) (x : Id) : x ∈ t.ids ↔ (F x).isSome = true := by
  rw [Sto.mem_ids h.keys]
  cases hx : F x with
  | none => simp [h.at_none hx]
  | some b => simp [(h.at_some hx).2]
theorem SS.put_ok (s : SS) (i : Int) (key b : List UInt8) : (s.put i key b).2.d.ops ≤ s.d.ops + 20 ∧ (s.put i key b).2.d.since.length ≤ s.d.since.length + 20 ∧ (s.put i key b).2.d.n = s.d.n ∧ (s.put i key b).2.first = s.first ∧ (s.put i key b).2.rows.length = s.rows.length := by
  unfold SS.put
  split
  · exact ⟨Nat.le_add_right _ _, Nat.le_add_right _ _, rfl, rfl, rfl⟩
  · split
    · exact ⟨Nat.le_add_right _ _, Nat.le_add_right _ _, rfl, rfl, rfl⟩
    · rename_i h1 h2
      obtain ⟨a1, a2, a3⟩ := s.d.lays_ok (s.pos i + 1) b
      obtain ⟨b1, b2, b3⟩ := (s.d.lays (s.pos i + 1) b).2.lays_ok (s.pos i) (headBytes b.length key)
      have hn1 : nsec b.length ≤ 7 := by unfold nsec; omega
      have hn2 : nsec (headBytes b.length key).length ≤ 1 := by rw [headBytes_len _ _ (by omega) (by omega)]; unfold nsec; omega
      split
      · exact ⟨Nat.le_add_right _ _, Nat.le_add_right _ _, rfl, rfl, rfl⟩
      · split
        · exact ⟨by dsimp only; omega, by dsimp only; omega, a1, rfl, rfl⟩
        · split
          · exact ⟨by dsimp only; omega, by dsimp only; omega, by dsimp only; rw [b1, a1], rfl, rfl⟩
          · exact ⟨by dsimp only; omega, by dsimp only; omega, by dsimp only; rw [b1, a1], rfl, by dsimp only; rw [List.length_set]⟩
theorem Sto.put_ok (t : Sto) (x : Id) (b : List UInt8) : (t.put x b).2.s.d.ops ≤ t.s.d.ops + 20 ∧ (t.put x b).2.s.d.since.length ≤ t.s.d.since.length + 20 ∧ (t.put x b).2.s.d.n = t.s.d.n ∧ (t.put x b).2.s.rows.length = t.s.rows.length ∧ (t.put x b).2.whole = t.whole := by
  have h0 : t.s.d.ops ≤ t.s.d.ops + 20 ∧ t.s.d.since.length ≤ t.s.d.since.length + 20 ∧ t.s.d.n = t.s.d.n ∧ t.s.rows.length = t.s.rows.length ∧ t.whole = t.whole := ⟨Nat.le_add_right _ _, Nat.le_add_right _ _, rfl, rfl, rfl⟩
  unfold Sto.put
  split
  · exact h0
  · split
    · exact h0
    · split
      · split
        · exact h0
        · split
          · exact h0
          · exact h0
      · split
        · exact h0
        · obtain ⟨a1, a2, a3, a4, a5⟩ := t.s.put_ok t.s.free (idKey x) b
          exact ⟨a1, a2, a3, a5, rfl⟩
theorem countP_put {l : List SRow} {i : Nat} (r : SRow) (hi : i < l.length) (f : SRow → Bool) : (l.set i r).countP f + (if f (l.getD i noRow) then 1 else 0) = l.countP f + if f r then 1 else 0 := by
  induction l generalizing i with
  | nil => simp at hi
  | cons a l ih =>
    cases i with
    | zero =>
      simp only [List.set_cons_zero, List.countP_cons, List.getD_cons_zero]
      omega
    | succ i =>
      have := ih (i := i) (by simpa using hi)
      simp only [List.set_cons_succ, List.countP_cons, List.getD_cons_succ]
      omega
/-- Put, where there is none and there is room. -/
theorem Kept.put_new {t : Sto} {F : Frag} (h : Kept t F) {x : Id} (hm : mayId x = true) (hF : F x = none) {b : List UInt8} (hb : b.length ≤ 448) (hr : 0 < t.room) : (t.put x b).1 = 0 ∧ Kept (t.put x b).2 (setF F x (some b)) ∧ (t.put x b).2.room + 1 = t.room := by
  have hfree : ¬ t.s.free < 0 := by
    intro hf
    unfold SS.free at hf
    rcases rowFree_spec t.s.rows 0 with ⟨_, h2⟩ | ⟨n, h1, h2, h3, _⟩
    · unfold Sto.room at hr
      obtain ⟨r, hr1, hr2⟩ := List.countP_pos_iff.1 hr
      rw [h2 r hr1] at hr2; simp at hr2
    · rw [h2] at hf; omega
  obtain ⟨i, hfi, hil, hiu⟩ := SS.free_ok hfree
  have hat := h.at_none hF
  obtain ⟨u, v, htold, hall⟩ := h.told
  have hui : u i = false := by rw [← htold.used i hil]; exact hiu
  obtain ⟨p1, p2, p3, p4, p5, p6⟩ := htold.put i hil (idKey x) b hui (by rw [idKey_len]; omega) hb
  have hput : t.put x b = ((t.s.put (i : Int) (idKey x) b).1, { t with s := (t.s.put (i : Int) (idKey x) b).2 }) := by
    unfold Sto.put
    rw [if_neg (by simp [hm]), if_neg (by omega), hat]
    dsimp only
    rw [if_neg hfree, hfi]
  obtain ⟨_, _, hrows⟩ := SS.put_done p1
  rw [hput]
  have hrows' : (t.s.put (i : Int) (idKey x) b).2.rows = t.s.rows.set i ⟨true, b.length, idKey x⟩ := by rw [hrows]; simp
  have hat2 : upto t.s.rows t.s.rows.length (idKey x) = [] := by rw [← Sto.at_may hm]; exact hat
  have hat' : ∀ y, mayId y = true → Sto.at { t with s := (t.s.put (i : Int) (idKey x) b).2 } y = if y = x then [i] else t.at y := fun y hy => by
    rw [Sto.at_may hy, Sto.at_may hy]
    show upto (t.s.put (i : Int) (idKey x) b).2.rows (t.s.put (i : Int) (idKey x) b).2.rows.length (idKey y) = _
    rw [hrows', upto_put hil hiu hat2]
    by_cases e : y = x
    · subst e; rw [if_pos rfl, if_pos rfl]
    · rw [if_neg e, if_neg (fun h => e (idKey_inj hy hm h))]
  refine ⟨p1, ⟨⟨_, _, p2, fun y hy => ?_⟩, fun y hy => ?_, ?_, p6, by show (t.s.put (i : Int) (idKey x) b).2.first = 1; rw [p4]; exact h.first⟩, ?_⟩
  · rw [hat' y hy]
    by_cases e : y = x
    · subst e
      rw [setF_self, if_pos rfl]
      exact .inr ⟨i, b, rfl, rfl, by simp⟩
    · rw [setF_other _ _ e, if_neg e]
      rcases hall y hy with h1 | ⟨j, c, h1, h2, h3⟩
      · exact .inl h1
      · refine .inr ⟨j, c, h1, h2, ?_⟩
        have hj : j ∈ upto t.s.rows t.s.rows.length (idKey y) := by rw [← Sto.at_may hy, h2]; simp
        obtain ⟨_, hju, _⟩ := upto_mem.1 hj
        have : j ≠ i := fun e => by subst e; rw [hiu] at hju; cases hju
        simp only [this, if_false]
        exact h3
  · have : y ≠ x := fun e => by subst e; rw [hm] at hy; cases hy
    rw [setF_other _ _ this]
    exact h.out y hy
  · show keysOk (t.s.put (i : Int) (idKey x) b).2.rows
    rw [hrows']
    exact h.keys.set i (fun _ => (un_key hm).2)
  · show (t.s.put (i : Int) (idKey x) b).2.rows.countP (fun r => !r.used) + 1 = t.s.rows.countP (fun r => !r.used)
    rw [hrows']
    have := countP_put ⟨true, b.length, idKey x⟩ hil (fun r => !r.used)
    simp only [hiu, Bool.not_false, if_true, Bool.not_true, Bool.false_eq_true, if_false, Nat.add_zero] at this
    exact this
/-- Put, where there is no room. -/
theorem Kept.put_full {t : Sto} {F : Frag} (h : Kept t F) {x : Id} (hm : mayId x = true) (hF : F x = none) {b : List UInt8} (hb : b.length ≤ 448) (hr : t.room = 0) : t.put x b = (5, t) := by
  have hfree : t.s.free < 0 := by
    unfold SS.free
    rcases rowFree_spec t.s.rows 0 with ⟨h1, _⟩ | ⟨n, h1, h2, h3, _⟩
    · rw [h1]; omega
    · unfold Sto.room at hr
      have := List.countP_eq_zero.1 hr _ (row_mem h1)
      rw [h3] at this; simp at this
  unfold Sto.put
  rw [if_neg (by simp [hm]), if_neg (by omega), h.at_none hF]
  dsimp only
  rw [if_pos hfree]
/-- Put, where there is one. -/
theorem Kept.put_there {t : Sto} {F : Frag} (h : Kept t F) {x : Id} {c : List UInt8} (hF : F x = some c) (b : List UInt8) (hb : b.length ≤ 448) : t.put x b = (if c = b then 0 else 7, t) := by
  obtain ⟨hm, hne⟩ := h.at_some hF
  have hg := h.get x
  rw [if_neg (by simp [hm]), hF] at hg
  unfold Sto.get at hg
  rw [if_neg (by simp [hm])] at hg
  unfold Sto.put
  rw [if_neg (by simp [hm]), if_neg (by omega)]
  cases hat : t.at x with
  | nil => exact absurd hat hne
  | cons i r =>
    rw [hat] at hg
    dsimp only at hg ⊢
    rw [hg, if_neg (by simp)]
    split <;> rfl
theorem Kept.put_bad {t : Sto} {F : Frag} (h : Kept t F) {x : Id} {b : List UInt8} (hm : mayId x = false ∨ 448 < b.length) : (t.put x b).1 ≠ 0 ∧ (t.put x b).2 = t := by
  unfold Sto.put
  by_cases h1 : mayId x = false
  · rw [if_pos h1]; exact ⟨by simp, rfl⟩
  · rw [if_neg h1, if_pos (by rcases hm with h2 | h2; exact absurd h2 h1; exact h2)]
    exact ⟨by simp, rfl⟩
/-- Delete. -/
theorem Kept.del {t : Sto} {F : Frag} (h : Kept t F) {x : Id} (hm : mayId x = true) : (t.del x).1 = 0 ∧ Kept (t.del x).2 (setF F x none) ∧ (t.del x).2.room = t.room + (if (F x).isSome then 1 else 0) ∧ (F x = none → (t.del x).2 = t) ∧ (t.del x).2.s.d.n = t.s.d.n ∧ (t.del x).2.s.rows.length = t.s.rows.length := by
  obtain ⟨u, v, htold, hall⟩ := h.told
  unfold Sto.del
  rw [if_neg (by simp [hm])]
  rcases hall x hm with ⟨h1, h2⟩ | ⟨i, b, h1, h2, h3⟩
  · rw [h2, h1]
    have e : setF F x none = F := by
      funext y
      unfold setF
      split
      · rename_i e; rw [e, h1]
      · rfl
    rw [e]
    exact ⟨rfl, h, rfl, fun _ => rfl, rfl, rfl⟩
  · have hi : i ∈ upto t.s.rows t.s.rows.length (idKey x) := by rw [← Sto.at_may hm, h2]; simp
    obtain ⟨hil, hiu, hik⟩ := upto_mem.1 hi
    have hui : u i = true := by rw [← htold.used i hil]; exact hiu
    obtain ⟨p1, p2, p3, p4, p5, p6⟩ := htold.clear i hil hui
    have hcl : t.s.clears [i] = (0, (t.s.clear (i : Int)).2) := by
      unfold SS.clears
      rw [if_neg (by rw [p1]; simp)]
      rfl
    rw [h2, hcl, h1]
    obtain ⟨_, _, hrows⟩ := SS.clear_done p1
    have hrows' : (t.s.clear (i : Int)).2.rows = t.s.rows.set i noRow := by rw [hrows]; simp
    have hat2 : upto t.s.rows t.s.rows.length (idKey x) = [i] := by rw [← Sto.at_may hm]; exact h2
    have hat' : ∀ y, mayId y = true → Sto.at { t with s := (t.s.clear (i : Int)).2 } y = if y = x then [] else t.at y := fun y hy => by
      rw [Sto.at_may hy, Sto.at_may hy]
      show upto (t.s.clear (i : Int)).2.rows (t.s.clear (i : Int)).2.rows.length (idKey y) = _
      rw [hrows', upto_clear hat2]
      by_cases e : y = x
      · subst e; rw [if_pos rfl, if_pos rfl]
      · rw [if_neg e, if_neg (fun h => e (idKey_inj hy hm h))]
    refine ⟨rfl, ⟨⟨_, _, p2, fun y hy => ?_⟩, fun y hy => ?_, ?_, p6, by show (t.s.clear (i : Int)).2.first = 1; rw [p4]; exact h.first⟩, ?_, (fun h => by cases h), p5, p3⟩
    · rw [hat' y hy]
      by_cases e : y = x
      · subst e
        rw [setF_self, if_pos rfl]
        exact .inl ⟨rfl, rfl⟩
      · rw [setF_other _ _ e, if_neg e]
        exact hall y hy
    · have : y ≠ x := fun e => by subst e; rw [hm] at hy; cases hy
      rw [setF_other _ _ this]
      exact h.out y hy
    · show keysOk (t.s.clear (i : Int)).2.rows
      rw [hrows']
      exact h.keys.set i (fun h => by simp [noRow] at h)
    · show (t.s.clear (i : Int)).2.rows.countP (fun r => !r.used) = t.s.rows.countP (fun r => !r.used) + _
      rw [hrows']
      have := countP_put noRow hil (fun r => !r.used)
      rw [hiu] at this
      simpa [noRow] using this
theorem Kept.del_bad {t : Sto} {x : Id} (hm : mayId x = false) : t.del x = (1, t) := by
  unfold Sto.del
  rw [if_pos hm]
end Go.Proofs.YtdkhmfcfihbjeaaGreatDoor.W

/- A store on a disk that may die, plainly: what Put and Delete leave, what is there behind a crash. -/
namespace Go.Proofs.YtdkhmfcfihbjeaaGreatDoor.W
set_option linter.unusedVariables false
set_option linter.unusedSimpArgs false

/-- What a crash leaves of slots: the rows as they were, or with one row set. -/
def Lost2 (s : SS) (d2 : DS) (u : Nat → Bool) (v : Nat → List UInt8) (k : Nat) (r : SRow) (b : List UInt8) : Prop :=
  d2.dead = true ∧ d2.n = s.d.n ∧ ∀ ch, ToldR { s with d := d2.crash ch } u v ∨ ToldR { s with d := d2.crash ch, rows := s.rows.set k r } (fun j => if j = k then r.used else u j) (fun j => if j = k then b else v j)
theorem ToldR.put2 {s : SS} {u : Nat → Bool} {v : Nat → List UInt8} (h : ToldR s u v) (k : Nat) (hk : k < s.rows.length) (key b : List UInt8) (hu : u k = false) (hkey : key.length ≤ 40) (hb : b.length ≤ 448) :
    ((s.put (k : Int) key b).1 = 0 ∧ ToldR (s.put (k : Int) key b).2 (fun j => if j = k then true else u j) (fun j => if j = k then b else v j) ∧ (s.put (k : Int) key b).2.rows.length = s.rows.length ∧ (s.put (k : Int) key b).2.first = s.first ∧ (s.put (k : Int) key b).2.d.n = s.d.n) ∨
    ((s.put (k : Int) key b).1 = 14 ∧ (s.put (k : Int) key b).2.rows = s.rows ∧ (s.put (k : Int) key b).2.first = s.first ∧ Lost2 s (s.put (k : Int) key b).2.d u v k ⟨true, b.length, key⟩ b) := by
  have hh : s.has (k : Int) := ⟨by omega, by omega⟩
  have hr : s.row (k : Int) = s.rows.getD k noRow := rfl
  have hp : s.pos (k : Int) = s.first + 8 * k := rfl
  have hns : nsec b.length ≤ 7 := by unfold nsec; omega
  have hroom := h.room
  have hput : s.put (k : Int) key b = if (s.d.lays (s.pos k + 1) b).1 ≠ 0 then ((s.d.lays (s.pos k + 1) b).1, { s with d := (s.d.lays (s.pos k + 1) b).2 }) else
    if ((s.d.lays (s.pos k + 1) b).2.lays (s.pos k) (headBytes b.length key)).1 ≠ 0 then (((s.d.lays (s.pos k + 1) b).2.lays (s.pos k) (headBytes b.length key)).1, { s with d := ((s.d.lays (s.pos k + 1) b).2.lays (s.pos k) (headBytes b.length key)).2 }) else
    (0, { s with d := ((s.d.lays (s.pos k + 1) b).2.lays (s.pos k) (headBytes b.length key)).2, rows := s.rows.set k ⟨true, b.length, key⟩ }) := by
    unfold SS.put
    rw [if_neg (by simpa using hh), if_neg (by omega), hr, h.used k hk, hu, if_neg (by simp)]
    rfl
  rw [hput]
  have hh1 : nsec (headBytes b.length key).length = 1 := by rw [headBytes_len _ _ hb hkey]; unfold nsec; omega
  rcases DS.lays_may (s.pos k + 1) b h.rest (by rw [hp]; omega) with ⟨a1, a2, a3, a4⟩ | ⟨a1, a2, a3, a4, a5⟩
  · rw [if_neg (by rw [a1]; simp)]
    generalize (s.d.lays (s.pos k + 1) b).2 = d1 at *
    rw [hp] at a4
    have hfar1 : ∀ j i, j < s.rows.length → j ≠ k → i < 8 → d1.now (s.first + 8 * j + i) = s.d.now (s.first + 8 * j + i) := fun j i _ hj hi => by
      rw [a4, if_neg (by omega)]
    have hhd1 : d1.now (s.first + 8 * k) = s.d.now (s.first + 8 * k) := by rw [a4, if_neg (by omega)]
    rcases DS.lays_may (s.pos k) (headBytes b.length key) a2 (by rw [hh1, a3, hp]; omega) with ⟨b1, b2, b3, b4⟩ | ⟨b1, b2, b3, b4, b5⟩
    · left
      rw [if_neg (by rw [b1]; simp)]
      generalize (d1.lays (s.pos k) (headBytes b.length key)).2 = d2 at *
      rw [hp, hh1] at b4
      refine ⟨rfl, h.of_now d2 b2 (by rw [b3, a3]) k hk ⟨true, b.length, key⟩ ?_ (fun j i hj hjk hi => ?_) b (fun _ => ?_), by simp, rfl, by rw [← a3, ← b3]⟩
      · rw [b4, if_pos (by omega), Nat.sub_self]
        exact head_back _ _ hb hkey
      · rw [b4, if_neg (by omega)]
        exact hfar1 j i hj hjk hi
      · dsimp only
        rw [flat_congr _ _ (secAt b) (fun i hi => by rw [b4, if_neg (by omega), a4, if_pos (by omega)]; congr 1; omega)]
        exact flat_back b
    · right
      rw [if_pos (by rw [b1]; simp)]
      generalize (d1.lays (s.pos k) (headBytes b.length key)).2 = d2 at *
      refine ⟨b1, rfl, rfl, b2, by rw [b3, a3], fun ch => ?_⟩
      rw [hh1] at b5
      have hall : ∀ x ∈ chosen ch d2.since 0, x = (s.first + 8 * k, secAt (headBytes b.length key) 0) := fun x hx => by
        obtain ⟨i, hi, rfl⟩ := b5 x (chosen_mem _ _ hx)
        obtain rfl : i = 0 := by omega
        rw [hp, Nat.add_zero]
      have hn2 : (d2.crash ch).n = s.d.n := by show d2.n = _; rw [b3, a3]
      have hl1 : ∀ i, d2.lasts i = d1.now i := fun i => by rw [b4]; exact a2.same i
      have hoth : ∀ i, i ≠ s.first + 8 * k → (d2.crash ch).now i = d1.now i := fun i hi => by
        rw [crash_now, applied_far i _ _ (fun x hx => by rw [hall x hx]; exact fun e => hi e.symm), hl1]
      have hfar2 : ∀ j i, j < s.rows.length → j ≠ k → i < 8 → (d2.crash ch).now (s.first + 8 * j + i) = s.d.now (s.first + 8 * j + i) := fun j i hj hjk hi => by
        rw [hoth _ (by omega)]
        exact hfar1 j i hj hjk hi
      rcases applied_same (s.first + 8 * k) (secAt (headBytes b.length key) 0) (chosen ch d2.since 0) d2.lasts hall with hA | hA
      · refine .inl (h.again (d2.crash ch) (crash_rest _ _) hn2 k hk hu ?_ hfar2)
        rw [crash_now, hA, hl1, hhd1]
      · refine .inr (h.of_now (d2.crash ch) (crash_rest _ _) hn2 k hk ⟨true, b.length, key⟩ ?_ hfar2 b (fun _ => ?_))
        · rw [crash_now, hA]
          exact head_back _ _ hb hkey
        · dsimp only
          rw [flat_congr _ _ (secAt b) (fun i hi => by rw [hoth _ (by omega), a4, if_pos (by omega)]; congr 1; omega)]
          exact flat_back b
  · right
    rw [if_pos (by rw [a1]; simp)]
    generalize (s.d.lays (s.pos k + 1) b).2 = d1 at *
    refine ⟨a1, rfl, rfl, a2, a3, fun ch => .inl ?_⟩
    have hn2 : (d1.crash ch).n = s.d.n := a3
    have hoth : ∀ i, i < s.first + 8 * k + 1 ∨ s.first + 8 * k + 8 ≤ i → (d1.crash ch).now i = s.d.now i := fun i hi => by
      rw [crash_now, applied_far i _ _ (fun x hx => by
        obtain ⟨t, ht, rfl⟩ := a5 x (chosen_mem _ _ hx)
        rw [hp]
        show s.first + 8 * k + 1 + t ≠ i
        omega), a4]
      exact h.rest.same i
    refine h.again (d1.crash ch) (crash_rest _ _) hn2 k hk hu (hoth _ (by omega)) (fun j i hj hjk hi => hoth _ (by omega))
theorem ToldR.clear2 {s : SS} {u : Nat → Bool} {v : Nat → List UInt8} (h : ToldR s u v) (k : Nat) (hk : k < s.rows.length) (hu : u k = true) :
    ((s.clear (k : Int)).1 = 0 ∧ ToldR (s.clear (k : Int)).2 (fun j => if j = k then false else u j) v ∧ (s.clear (k : Int)).2.rows.length = s.rows.length ∧ (s.clear (k : Int)).2.first = s.first ∧ (s.clear (k : Int)).2.d.n = s.d.n) ∨
    ((s.clear (k : Int)).1 = 14 ∧ (s.clear (k : Int)).2.rows = s.rows ∧ (s.clear (k : Int)).2.first = s.first ∧ Lost2 s (s.clear (k : Int)).2.d u v k noRow (v k)) := by
  have hh : s.has (k : Int) := ⟨by omega, by omega⟩
  have hr : s.row (k : Int) = s.rows.getD k noRow := rfl
  have hp : s.pos (k : Int) = s.first + 8 * k := rfl
  have hroom := h.room
  have e2 : (fun j => if j = k then v k else v j) = v := by funext j; split <;> simp_all
  have hcl : s.clear (k : Int) = if (s.d.lays (s.pos k) (zeros 64)).1 ≠ 0 then ((s.d.lays (s.pos k) (zeros 64)).1, { s with d := (s.d.lays (s.pos k) (zeros 64)).2 }) else (0, { s with d := (s.d.lays (s.pos k) (zeros 64)).2, rows := s.rows.set k noRow }) := by
    unfold SS.clear
    rw [if_neg (by simpa using hh), hr, h.used k hk, hu, if_neg (by simp)]
    rfl
  rw [hcl]
  have hh1 : nsec (zeros 64).length = 1 := rfl
  rcases DS.lays_may (s.pos k) (zeros 64) h.rest (by rw [hh1, hp]; omega) with ⟨b1, b2, b3, b4⟩ | ⟨b1, b2, b3, b4, b5⟩
  · left
    rw [if_neg (by rw [b1]; simp)]
    generalize (s.d.lays (s.pos k) (zeros 64)).2 = d2 at *
    rw [hp, hh1] at b4
    have h1 := h.of_now d2 b2 b3 k hk noRow (by rw [b4, if_pos (by omega), Nat.sub_self]; exact head_none) (fun j i hj hjk hi => by rw [b4, if_neg (by omega)]) (v k) (fun e => by cases e)
    rw [e2] at h1
    exact ⟨rfl, h1, by simp, rfl, b3⟩
  · right
    rw [if_pos (by rw [b1]; simp)]
    generalize (s.d.lays (s.pos k) (zeros 64)).2 = d2 at *
    refine ⟨b1, rfl, rfl, b2, b3, fun ch => ?_⟩
    rw [hh1] at b5
    have hall : ∀ x ∈ chosen ch d2.since 0, x = (s.first + 8 * k, secAt (zeros 64) 0) := fun x hx => by
      obtain ⟨i, hi, rfl⟩ := b5 x (chosen_mem _ _ hx)
      obtain rfl : i = 0 := by omega
      rw [hp, Nat.add_zero]
    have hn2 : (d2.crash ch).n = s.d.n := b3
    have hl1 : ∀ i, d2.lasts i = s.d.now i := fun i => by rw [b4]; exact h.rest.same i
    have hoth : ∀ i, i ≠ s.first + 8 * k → (d2.crash ch).now i = s.d.now i := fun i hi => by
      rw [crash_now, applied_far i _ _ (fun x hx => by rw [hall x hx]; exact fun e => hi e.symm), hl1]
    have hfar2 : ∀ j i, j < s.rows.length → j ≠ k → i < 8 → (d2.crash ch).now (s.first + 8 * j + i) = s.d.now (s.first + 8 * j + i) := fun j i hj hjk hi => hoth _ (by omega)
    rcases applied_same (s.first + 8 * k) (secAt (zeros 64) 0) (chosen ch d2.since 0) d2.lasts hall with hA | hA
    · refine .inl ?_
      have h1 := h.of_now (d2.crash ch) (crash_rest _ _) hn2 k hk (s.rows.getD k noRow) (by rw [crash_now, hA, hl1]; exact h.head k hk) hfar2 (v k) (fun _ => by
        have hsm := h.small k hk
        rw [flat_congr _ _ (fun i => s.d.now (s.first + 8 * k + 1 + i)) (fun i hi => hoth _ (by omega))]
        exact h.data k hk hu)
      rw [set_self _ _ hk, h.used k hk] at h1
      have e1 : (fun j => if j = k then u k else u j) = u := by funext j; split <;> simp_all
      rw [e1, e2] at h1
      exact h1
    · refine .inr (h.of_now (d2.crash ch) (crash_rest _ _) hn2 k hk noRow ?_ hfar2 (v k) (fun e => by cases e))
      rw [crash_now, hA]
      exact head_none

/-! ### Sector 0 -/
structure DS.Zero (d : DS) (c : List UInt8) : Prop where
  now : d.now 0 = c
  lasts : d.lasts 0 = c
  since : ∀ x ∈ d.since, x.1 ≠ 0
theorem DS.Zero.write {d : DS} {c : List UInt8} (h : d.Zero c) (k : Nat) (hk : k ≠ 0) (b : List UInt8) : (d.write (k : Int) b).2.Zero c := by
  unfold DS.write
  split
  · exact h
  · split
    · have hs : ∀ x ∈ d.since ++ [((k : Int).toNat, b)], x.1 ≠ 0 := fun x hx => by
        rcases List.mem_append.1 hx with hx | hx
        · exact h.since x hx
        · rw [List.mem_singleton.1 hx]; simpa using hk
      dsimp only
      unfold DS.op
      dsimp only
      by_cases hf : d.fuse = 0
      · rw [if_pos hf]
        exact ⟨h.now, h.lasts, hs⟩
      · rw [if_neg hf]
        refine ⟨?_, h.lasts, hs⟩
        show upd d.now (k : Int).toNat b 0 = c
        unfold upd
        rw [if_neg (by simp; omega)]
        exact h.now
    · exact h
theorem DS.Zero.sync {d : DS} {c : List UInt8} (h : d.Zero c) : (d.sync).2.Zero c := by
  unfold DS.sync
  split
  · exact h
  · unfold DS.op
    by_cases hf : d.fuse = 0
    · simp only [hf, if_true]
      exact ⟨h.now, h.lasts, h.since⟩
    · simp only [hf, if_false, if_true]
      refine ⟨h.now, ?_, by simp⟩
      show applied d.since d.lasts 0 = c
      rw [applied_far 0 _ _ h.since]
      exact h.lasts
theorem DS.Zero.lay {c : List UInt8} (pos : Nat) (hp : pos ≠ 0) (b : List UInt8) : ∀ (k j : Nat) (d : DS), d.Zero c → (d.lay pos b k j).2.Zero c
  | 0, j, d, h => h.sync
  | k + 1, j, d, h => by
    unfold DS.lay
    split
    · exact h.write (pos + j) (by omega) _
    · exact DS.Zero.lay pos hp b k (j + 1) _ (h.write (pos + j) (by omega) _)
theorem DS.Zero.lays {d : DS} {c : List UInt8} (h : d.Zero c) (pos : Nat) (hp : pos ≠ 0) (b : List UInt8) : (d.lays pos b).2.Zero c := DS.Zero.lay pos hp b _ _ d h
theorem DS.Zero.put {s : SS} {c : List UInt8} (h : s.d.Zero c) (hf : s.first ≠ 0) (i : Int) (key b : List UInt8) : (s.put i key b).2.d.Zero c := by
  have h1 : s.pos i ≠ 0 := by unfold SS.pos; omega
  have a := h.lays (s.pos i + 1) (by omega) b
  have a2 := a.lays (s.pos i) h1 (headBytes b.length key)
  unfold SS.put
  split
  · exact h
  · split
    · exact h
    · split
      · exact h
      · split
        · exact a
        · split
          · exact a2
          · exact a2
theorem DS.Zero.clear {s : SS} {c : List UInt8} (h : s.d.Zero c) (hf : s.first ≠ 0) (i : Int) : (s.clear i).2.d.Zero c := by
  have h1 : s.pos i ≠ 0 := by unfold SS.pos; omega
  have a := h.lays (s.pos i) h1 (zeros 64)
  unfold SS.clear
  split
  · exact h
  · split
    · exact h
    · split
      · exact a
      · exact a
theorem DS.Zero.crash {d : DS} {c : List UInt8} (h : d.Zero c) (ch : List UInt8) : (d.crash ch).Zero c := by
  have e : applied (chosen ch d.since 0) d.lasts 0 = c := by
    rw [applied_far 0 _ _ (fun x hx => h.since x (chosen_mem _ _ hx))]
    exact h.lasts
  exact ⟨e, e, by intro x hx; cases hx⟩

/-! ### A store at rest whose fragments are known -/
structure KeptR (t : Sto) (F : Frag) : Prop where
  told : ∃ u v, ToldR t.s u v ∧ ∀ x, mayId x = true → (F x = none ∧ t.at x = []) ∨ ∃ i b, F x = some b ∧ t.at x = [i] ∧ v i = b
  out : ∀ x, mayId x = false → F x = none
  keys : keysOk t.s.rows
  first : t.s.first = 1
  full : (t.s.d.n - 1) / 8 = t.s.rows.length ∧ 9 ≤ t.s.d.n
  zero : t.s.d.Zero ((if t.whole then 2 else 1) :: zeros 63)
theorem KeptR.rest {t : Sto} {F : Frag} (h : KeptR t F) : t.s.d.Rest := by obtain ⟨u, v, h1, _⟩ := h.told; exact h1.rest
/-- Opened it is a store of these fragments. -/
def Reopens (d : DS) (wh : Bool) (F : Frag) : Prop := ∃ t, d.stOpen = (0, some t) ∧ KeptR t F ∧ t.whole = wh ∧ t.s.d = d
theorem reopens_of {t : Sto} {F : Frag} (h : KeptR t F) : Reopens t.s.d t.whole F := by
  refine ⟨t, ?_, h, rfl, rfl⟩
  obtain ⟨u, v, h1, _⟩ := h.told
  have hsl := h1.anew (by rw [h.first]; exact h.full.1) (by have := h.full.2; omega)
  rw [h.first] at hsl
  have hn := h.full.2
  unfold DS.stOpen
  rw [if_neg (by omega), if_neg (by rw [h1.rest.alive]; simp), h.zero.now]
  cases hw : t.whole with
  | true =>
    rw [if_neg (by
      rintro (⟨_, h2⟩ | h2)
      · exact h2 rfl
      · rw [show (((if true = true then (2 : UInt8) else 1) :: zeros 63)).drop 1 = zeros 63 from rfl, allZ_zeros] at h2; cases h2)]
    rw [show ((1 : Nat) : Int) = 1 from rfl] at hsl
    rw [hsl]
    dsimp only
    rw [if_pos (stKeys_iff.2 h.keys)]
    obtain ⟨ts, tw⟩ := t
    dsimp only at hw
    subst hw
    rfl
  | false =>
    rw [if_neg (by
      rintro (⟨h2, _⟩ | h2)
      · exact h2 rfl
      · rw [show (((if false = true then (2 : UInt8) else 1) :: zeros 63)).drop 1 = zeros 63 from rfl, allZ_zeros] at h2; cases h2)]
    rw [show ((1 : Nat) : Int) = 1 from rfl] at hsl
    rw [hsl]
    dsimp only
    rw [if_pos (stKeys_iff.2 h.keys)]
    obtain ⟨ts, tw⟩ := t
    dsimp only at hw
    subst hw
    rfl
theorem KeptR.at_none {t : Sto} {F : Frag} (h : KeptR t F) {x : Id} (hx : F x = none) : t.at x = [] := by
  by_cases hm : mayId x = true
  · obtain ⟨u, v, _, h2⟩ := h.told
    rcases h2 x hm with ⟨_, h3⟩ | ⟨i, b, h3, _⟩
    · exact h3
    · rw [hx] at h3; cases h3
  · exact Sto.at_not (by simpa using hm)
theorem KeptR.at_some {t : Sto} {F : Frag} (h : KeptR t F) {x : Id} {b : List UInt8} (hx : F x = some b) : mayId x = true ∧ t.at x ≠ [] := by
  by_cases hm : mayId x = true
  · obtain ⟨u, v, _, h2⟩ := h.told
    rcases h2 x hm with ⟨h3, _⟩ | ⟨i, b', h3, h4, _⟩
    · rw [hx] at h3; cases h3
    · exact ⟨hm, by rw [h4]; simp⟩
  · rw [h.out x (by simpa using hm)] at hx; cases hx
/-- Get. -/
theorem KeptR.get {t : Sto} {F : Frag} (h : KeptR t F) (x : Id) : t.get x = if mayId x = false then (([] : List UInt8), (1 : Int)) else match F x with | none => ([], 6) | some b => (b, 0) := by
  unfold Sto.get
  by_cases hm : mayId x = true
  · rw [if_neg (by simp [hm]), if_neg (by simp [hm])]
    obtain ⟨u, v, h1, h2⟩ := h.told
    rcases h2 x hm with ⟨h3, h4⟩ | ⟨i, b, h3, h4, h5⟩
    · rw [h3, h4]
    · rw [h3, h4]
      dsimp only
      have hi : i ∈ upto t.s.rows t.s.rows.length (idKey x) := by rw [← Sto.at_may hm, h4]; simp
      obtain ⟨a, b1, _⟩ := upto_mem.1 hi
      rw [h1.get i a, if_pos (by rw [← h1.used i a]; exact b1), h5]
  · rw [if_pos (by simpa using hm), if_pos (by simpa using hm)]
theorem KeptR.mem_ids {t : Sto} {F : Frag} (h : KeptR t F) (x : Id) : x ∈ t.ids ↔ (F x).isSome = true := by
  rw [Sto.mem_ids h.keys]
  cases hx : F x with
  | none => simp [h.at_none hx]
  | some b => simp [(h.at_some hx).2]
/-- Put, where there is no room. -/
theorem KeptR.put_full {t : Sto} {F : Frag} (h : KeptR t F) {x : Id} (hm : mayId x = true) (hF : F x = none) {b : List UInt8} (hb : b.length ≤ 448) (hr : t.room = 0) : t.put x b = (5, t) := by
  have hfree : t.s.free < 0 := by
    unfold SS.free
    rcases rowFree_spec t.s.rows 0 with ⟨h1, _⟩ | ⟨n, h1, h2, h3, _⟩
    · rw [h1]; omega
    · unfold Sto.room at hr
      have := List.countP_eq_zero.1 hr _ (row_mem h1)
      rw [h3] at this; simp at this
  unfold Sto.put
  rw [if_neg (by simp [hm]), if_neg (by omega), h.at_none hF]
  dsimp only
  rw [if_pos hfree]
/-- Put, where there is one. -/
theorem KeptR.put_there {t : Sto} {F : Frag} (h : KeptR t F) {x : Id} {c : List UInt8} (hF : F x = some c) (b : List UInt8) (hb : b.length ≤ 448) : t.put x b = (if c = b then 0 else 7, t) := by
  obtain ⟨hm, hne⟩ := h.at_some hF
  have hg := h.get x
  rw [if_neg (by simp [hm]), hF] at hg
  unfold Sto.get at hg
  rw [if_neg (by simp [hm])] at hg
  unfold Sto.put
  rw [if_neg (by simp [hm]), if_neg (by omega)]
  cases hat : t.at x with
  | nil => exact absurd hat hne
  | cons i r =>
    rw [hat] at hg
    dsimp only at hg ⊢
    rw [hg, if_neg (by simp)]
    split <;> rfl
theorem KeptR.put_bad {t : Sto} {F : Frag} (h : KeptR t F) {x : Id} {b : List UInt8} (hm : mayId x = false ∨ 448 < b.length) : (t.put x b).1 ≠ 0 ∧ (t.put x b).2 = t := by
  unfold Sto.put
  by_cases h1 : mayId x = false
  · rw [if_pos h1]; exact ⟨by simp, rfl⟩
  · rw [if_neg h1, if_pos (by rcases hm with h2 | h2; exact absurd h2 h1; exact h2)]
    exact ⟨by simp, rfl⟩

end Go.Proofs.YtdkhmfcfihbjeaaGreatDoor.W

/- A store on a disk that may die, plainly: Put, Delete, a crash. -/
namespace Go.Proofs.YtdkhmfcfihbjeaaGreatDoor.W
set_option linter.unusedVariables false
set_option linter.unusedSimpArgs false

/-! ### What lasts, as long as it lives -/
def DS.Fair (d : DS) : Prop := d.dead = false → ∀ i, applied d.since d.lasts i = d.now i
theorem DS.Fair.write {d : DS} (h : d.Fair) (k : Int) (b : List UInt8) : (d.write k b).2.Fair := by
  unfold DS.write
  split
  · exact h
  · rename_i hd
    have h := h (by simpa using hd)
    split
    · unfold DS.op
      by_cases hf : d.fuse = 0
      · simp only [hf, if_true]
        intro hh; cases hh
      · simp only [hf, if_false, if_true]
        intro _ i
        show applied (d.since ++ [(k.toNat, b)]) d.lasts i = upd d.now k.toNat b i
        rw [applied_snoc]
        unfold upd
        split
        · rfl
        · exact h i
    · exact fun _ => h
theorem DS.Fair.sync {d : DS} (h : d.Fair) : (d.sync).2.Fair := by
  unfold DS.sync
  split
  · exact h
  · rename_i hd
    have h := h (by simpa using hd)
    unfold DS.op
    by_cases hf : d.fuse = 0
    · simp only [hf, if_true]
      intro hh; cases hh
    · simp only [hf, if_false, if_true]
      intro _ i
      exact h i
theorem DS.Fair.wipe : ∀ (k a : Nat) (d : DS), d.Fair → (d.wipe k a).2.Fair
  | 0, a, d, h => h.sync
  | k + 1, a, d, h => by
    unfold DS.wipe
    split
    · exact h.write _ _
    · exact DS.Fair.wipe k (a + 8) _ (h.write _ _)
theorem DS.Fair.sign {d : DS} (h : d.Fair) (n : UInt8) : (d.sign n).2.Fair := by
  unfold DS.sign
  split
  · exact h.write _ _
  · exact (h.write _ _).sync
theorem format_fair {d : DS} (h : d.Fair) : d.format.2.Fair := by
  have h1 : d.fmt1.2.Fair := h.wipe _ _
  have h2 : d.fmt2.2.Fair := h1.sign 1
  unfold DS.format
  split
  · exact h
  · split
    · exact h1
    · split
      · exact h2
      · exact h2
theorem KeptR.new (n : Nat) (h9 : 9 ≤ n) : ∃ t d, (DS.new n).format = ((0, some t), d) ∧ KeptR t (fun _ => none) ∧ t.s.d = d ∧ t.s.rows = List.replicate ((n - 1) / 8) noRow ∧ d.n = n ∧ d.ops ≤ n ∧ t.whole = false ∧ d.Live := by
  obtain ⟨d, h1, h2, h3, h4, h5, h6, h7⟩ := format_new n h9
  have hf : d.Fair := by
    have := format_fair (d := DS.new n) (fun _ _ => rfl)
    rw [h1] at this
    exact this
  have hl : ∀ i, d.lasts i = d.now i := fun i => by
    have := hf h2.1 i
    rw [h4] at this
    exact this
  refine ⟨_, d, h1, ⟨⟨fun _ => false, fun _ => [], ⟨⟨h2.1, h4, hl⟩, by show 1 + 8 * (List.replicate _ noRow).length ≤ d.n; rw [List.length_replicate]; omega, fun k hk => ?_, fun k hk => ?_, fun k hk hu => by cases hu⟩, fun x hx => .inl ⟨rfl, ?_⟩⟩, fun _ _ => rfl, fun r hr hu => ?_, rfl, ⟨?_, by show 9 ≤ d.n; omega⟩, ⟨h7, by show d.lasts 0 = _; rw [hl]; exact h7, by show ∀ x ∈ d.since, _; rw [h4]; simp⟩⟩, rfl, rfl, h3, h6, rfl, h2⟩
  · rw [List.length_replicate] at hk
    show headOf (d.now (1 + 8 * k)) = _
    rw [h5 _ (by omega), List.getD_eq_getElem?_getD, List.getElem?_replicate, if_pos hk]
    rfl
  · rw [List.length_replicate] at hk
    show ((List.replicate _ noRow).getD k noRow).used = false
    rw [List.getD_eq_getElem?_getD, List.getElem?_replicate, if_pos hk]
    rfl
  · rw [Sto.at_may hx]
    cases hu : upto (List.replicate ((n - 1) / 8) noRow) (List.replicate ((n - 1) / 8) noRow).length (idKey x) with
    | nil => rfl
    | cons j r =>
      have hj : j ∈ upto (List.replicate ((n - 1) / 8) noRow) (List.replicate ((n - 1) / 8) noRow).length (idKey x) := by rw [hu]; simp
      obtain ⟨a, b, _⟩ := upto_mem.1 hj
      rw [List.length_replicate] at a
      rw [List.getD_eq_getElem?_getD, List.getElem?_replicate, if_pos a] at b
      simp [noRow] at b
  · obtain rfl := List.eq_of_mem_replicate hr
    simp [noRow] at hu
  · show (d.n - 1) / 8 = (List.replicate ((n - 1) / 8) noRow).length
    rw [List.length_replicate, h3]

/-! ### One row is set -/
section
variable {t : Sto} {F : Frag} {u : Nat → Bool} {v : Nat → List UInt8} {x : Id} {b : List UInt8} {i : Nat} {d2 : DS}
/-- What a store's slots tell. -/
def Tells (t : Sto) (F : Frag) (u : Nat → Bool) (v : Nat → List UInt8) : Prop := ∀ x, mayId x = true → (F x = none ∧ t.at x = []) ∨ ∃ i b, F x = some b ∧ t.at x = [i] ∧ v i = b
theorem KeptR.same_row (h : KeptR t F) (ht : ToldR { t.s with d := d2 } u v) (ha : Tells t F u v) (hz : d2.Zero ((if t.whole then 2 else 1) :: zeros 63)) (hn : d2.n = t.s.d.n) : KeptR ⟨{ t.s with d := d2 }, t.whole⟩ F :=
  ⟨⟨u, v, ht, ha⟩, h.out, h.keys, h.first, ⟨by show (d2.n - 1) / 8 = _; rw [hn]; exact h.full.1, by show 9 ≤ d2.n; rw [hn]; exact h.full.2⟩, hz⟩
theorem KeptR.put_row (h : KeptR t F) (hm : mayId x = true) (hF : F x = none) (hil : i < t.s.rows.length) (hiu : (t.s.rows.getD i noRow).used = false)
    (ht : ToldR { t.s with d := d2, rows := t.s.rows.set i ⟨true, b.length, idKey x⟩ } (fun j => if j = i then true else u j) (fun j => if j = i then b else v j)) (ha : Tells t F u v) (hz : d2.Zero ((if t.whole then 2 else 1) :: zeros 63)) (hn : d2.n = t.s.d.n) :
    KeptR ⟨{ t.s with d := d2, rows := t.s.rows.set i ⟨true, b.length, idKey x⟩ }, t.whole⟩ (setF F x (some b)) := by
  have hat := h.at_none hF
  have hat2 : upto t.s.rows t.s.rows.length (idKey x) = [] := by rw [← Sto.at_may hm]; exact hat
  have hat' : ∀ y, mayId y = true → Sto.at ⟨{ t.s with d := d2, rows := t.s.rows.set i ⟨true, b.length, idKey x⟩ }, t.whole⟩ y = if y = x then [i] else t.at y := fun y hy => by
    rw [Sto.at_may hy, Sto.at_may hy]
    show upto (t.s.rows.set i ⟨true, b.length, idKey x⟩) (t.s.rows.set i ⟨true, b.length, idKey x⟩).length (idKey y) = _
    rw [upto_put hil hiu hat2]
    by_cases e : y = x
    · subst e; rw [if_pos rfl, if_pos rfl]
    · rw [if_neg e, if_neg (fun h => e (idKey_inj hy hm h))]
  refine ⟨⟨_, _, ht, fun y hy => ?_⟩, fun y hy => ?_, h.keys.set i (fun _ => (un_key hm).2), h.first, ⟨?_, by show 9 ≤ d2.n; rw [hn]; exact h.full.2⟩, hz⟩
  · rw [hat' y hy]
    by_cases e : y = x
    · subst e
      rw [setF_self, if_pos rfl]
      exact .inr ⟨i, b, rfl, rfl, by simp⟩
    · rw [setF_other _ _ e, if_neg e]
      rcases ha y hy with h1 | ⟨j, c, h1, h2, h3⟩
      · exact .inl h1
      · refine .inr ⟨j, c, h1, h2, ?_⟩
        have hj : j ∈ upto t.s.rows t.s.rows.length (idKey y) := by rw [← Sto.at_may hy, h2]; simp
        obtain ⟨_, hju, _⟩ := upto_mem.1 hj
        have : j ≠ i := fun e => by subst e; rw [hiu] at hju; cases hju
        simp only [this, if_false]
        exact h3
  · have : y ≠ x := fun e => by subst e; rw [hm] at hy; cases hy
    rw [setF_other _ _ this]
    exact h.out y hy
  · show (d2.n - 1) / 8 = (t.s.rows.set i ⟨true, b.length, idKey x⟩).length
    rw [List.length_set, hn]; exact h.full.1
theorem KeptR.clear_row (h : KeptR t F) (hm : mayId x = true) (hat : t.at x = [i])
    (ht : ToldR { t.s with d := d2, rows := t.s.rows.set i noRow } (fun j => if j = i then false else u j) v) (ha : Tells t F u v) (hz : d2.Zero ((if t.whole then 2 else 1) :: zeros 63)) (hn : d2.n = t.s.d.n) :
    KeptR ⟨{ t.s with d := d2, rows := t.s.rows.set i noRow }, t.whole⟩ (setF F x none) := by
  have hat2 : upto t.s.rows t.s.rows.length (idKey x) = [i] := by rw [← Sto.at_may hm]; exact hat
  have hat' : ∀ y, mayId y = true → Sto.at ⟨{ t.s with d := d2, rows := t.s.rows.set i noRow }, t.whole⟩ y = if y = x then [] else t.at y := fun y hy => by
    rw [Sto.at_may hy, Sto.at_may hy]
    show upto (t.s.rows.set i noRow) (t.s.rows.set i noRow).length (idKey y) = _
    rw [upto_clear hat2]
    by_cases e : y = x
    · subst e; rw [if_pos rfl, if_pos rfl]
    · rw [if_neg e, if_neg (fun h => e (idKey_inj hy hm h))]
  refine ⟨⟨_, _, ht, fun y hy => ?_⟩, fun y hy => ?_, h.keys.set i (fun h => by simp [noRow] at h), h.first, ⟨?_, by show 9 ≤ d2.n; rw [hn]; exact h.full.2⟩, hz⟩
  · rw [hat' y hy]
    by_cases e : y = x
    · subst e
      rw [setF_self, if_pos rfl]
      exact .inl ⟨rfl, rfl⟩
    · rw [setF_other _ _ e, if_neg e]
      exact ha y hy
  · have : y ≠ x := fun e => by subst e; rw [hm] at hy; cases hy
    rw [setF_other _ _ this]
    exact h.out y hy
  · show (d2.n - 1) / 8 = (t.s.rows.set i noRow).length
    rw [List.length_set, hn]; exact h.full.1
end
theorem SS.eta3 (s z : SS) (rows : List SRow) (h1 : z.first = s.first) (h2 : z.rows = rows) : z = { s with d := z.d, rows := rows } := by
  obtain ⟨d, f, r⟩ := z
  dsimp only at h1 h2
  subst h1; subst h2
  rfl
/-- Put, where there is none and there is room: it is done, or the disk dies. -/
theorem KeptR.put_may {t : Sto} {F : Frag} (h : KeptR t F) {x : Id} (hm : mayId x = true) (hF : F x = none) {b : List UInt8} (hb : b.length ≤ 448) (hr : 0 < t.room) :
    ((t.put x b).1 = 0 ∧ KeptR (t.put x b).2 (setF F x (some b)) ∧ (t.put x b).2.room + 1 = t.room ∧ (t.put x b).2.whole = t.whole) ∨
    ((t.put x b).1 = 14 ∧ (t.put x b).2.s.d.dead = true ∧ ∀ ch, Reopens ((t.put x b).2.s.d.crash ch) t.whole F ∨ Reopens ((t.put x b).2.s.d.crash ch) t.whole (setF F x (some b))) := by
  have hfree : ¬ t.s.free < 0 := by
    intro hf
    unfold SS.free at hf
    rcases rowFree_spec t.s.rows 0 with ⟨_, h2⟩ | ⟨n, h1, h2, h3, _⟩
    · unfold Sto.room at hr
      obtain ⟨r, hr1, hr2⟩ := List.countP_pos_iff.1 hr
      rw [h2 r hr1] at hr2; simp at hr2
    · rw [h2] at hf; omega
  obtain ⟨i, hfi, hil, hiu⟩ := SS.free_ok hfree
  have hat := h.at_none hF
  obtain ⟨u, v, htold, hall⟩ := h.told
  have hui : u i = false := by rw [← htold.used i hil]; exact hiu
  have hput : t.put x b = ((t.s.put (i : Int) (idKey x) b).1, { t with s := (t.s.put (i : Int) (idKey x) b).2 }) := by
    unfold Sto.put
    rw [if_neg (by simp [hm]), if_neg (by omega), hat]
    dsimp only
    rw [if_neg hfree, hfi]
  have hz := h.zero.put (by rw [h.first]; simp) (i : Int) (idKey x) b
  rw [hput]
  dsimp only
  rcases htold.put2 i hil (idKey x) b hui (by rw [idKey_len]; omega) hb with ⟨p1, p2, p3, p4, p5⟩ | ⟨p1, p2, p3, p4, p5, p6⟩
  · left
    obtain ⟨_, _, hrows⟩ := SS.put_done p1
    have hrows' : (t.s.put (i : Int) (idKey x) b).2.rows = t.s.rows.set i ⟨true, b.length, idKey x⟩ := by rw [hrows]; simp
    have e := SS.eta3 t.s _ _ p4 hrows'
    refine ⟨p1, ?_, ?_, rfl⟩
    · rw [e] at p2
      show KeptR ⟨(t.s.put (i : Int) (idKey x) b).2, t.whole⟩ _
      rw [e]
      exact h.put_row hm hF hil hiu p2 hall hz p5
    · show (t.s.put (i : Int) (idKey x) b).2.rows.countP (fun r => !r.used) + 1 = t.s.rows.countP (fun r => !r.used)
      rw [hrows']
      have := countP_put ⟨true, b.length, idKey x⟩ hil (fun r => !r.used)
      simp only [hiu, Bool.not_false, if_true, Bool.not_true, Bool.false_eq_true, if_false, Nat.add_zero] at this
      exact this
  · right
    refine ⟨p1, p4, fun ch => ?_⟩
    have hzc := hz.crash ch
    have hnc : ((t.s.put (i : Int) (idKey x) b).2.d.crash ch).n = t.s.d.n := p5
    rcases p6 ch with h6 | h6
    · exact .inl (reopens_of (h.same_row h6 hall hzc hnc))
    · exact .inr (reopens_of (h.put_row hm hF hil hiu h6 hall hzc hnc))
/-- Delete: it is done, or the disk dies. -/
theorem KeptR.del_may {t : Sto} {F : Frag} (h : KeptR t F) {x : Id} (hm : mayId x = true) :
    ((t.del x).1 = 0 ∧ KeptR (t.del x).2 (setF F x none) ∧ (t.del x).2.room = t.room + (if (F x).isSome then 1 else 0) ∧ (F x = none → (t.del x).2 = t) ∧ (t.del x).2.whole = t.whole) ∨
    ((t.del x).1 = 14 ∧ (t.del x).2.s.d.dead = true ∧ (F x).isSome = true ∧ ∀ ch, Reopens ((t.del x).2.s.d.crash ch) t.whole F ∨ Reopens ((t.del x).2.s.d.crash ch) t.whole (setF F x none)) := by
  obtain ⟨u, v, htold, hall⟩ := h.told
  unfold Sto.del
  rw [if_neg (by simp [hm])]
  rcases hall x hm with ⟨h1, h2⟩ | ⟨i, b, h1, h2, h3⟩
  · left
    rw [h2, h1]
    have e : setF F x none = F := by
      funext y
      unfold setF
      split
      · rename_i e; rw [e, h1]
      · rfl
    rw [e]
    exact ⟨rfl, h, rfl, fun _ => rfl, rfl⟩
  · have hi : i ∈ upto t.s.rows t.s.rows.length (idKey x) := by rw [← Sto.at_may hm, h2]; simp
    obtain ⟨hil, hiu, hik⟩ := upto_mem.1 hi
    have hui : u i = true := by rw [← htold.used i hil]; exact hiu
    have hz := h.zero.clear (by rw [h.first]; simp) (i : Int)
    have e2 : (fun j => if j = i then v i else v j) = v := by funext j; split <;> simp_all
    rcases htold.clear2 i hil hui with ⟨p1, p2, p3, p4, p5⟩ | ⟨p1, p2, p3, p4, p5, p6⟩
    · left
      have hcl : t.s.clears [i] = (0, (t.s.clear (i : Int)).2) := by
        unfold SS.clears
        rw [if_neg (by rw [p1]; simp)]
        rfl
      rw [h2, hcl, h1]
      obtain ⟨_, _, hrows⟩ := SS.clear_done p1
      have hrows' : (t.s.clear (i : Int)).2.rows = t.s.rows.set i noRow := by rw [hrows]; simp
      have e := SS.eta3 t.s _ _ p4 hrows'
      refine ⟨rfl, ?_, ?_, (fun h => by cases h), rfl⟩
      · rw [e] at p2
        show KeptR ⟨(t.s.clear (i : Int)).2, t.whole⟩ _
        rw [e]
        exact h.clear_row hm h2 p2 hall hz p5
      · show (t.s.clear (i : Int)).2.rows.countP (fun r => !r.used) = t.s.rows.countP (fun r => !r.used) + _
        rw [hrows']
        have := countP_put noRow hil (fun r => !r.used)
        rw [hiu] at this
        simpa [noRow] using this
    · right
      have hcl : t.s.clears [i] = (14, (t.s.clear (i : Int)).2) := by
        unfold SS.clears
        rw [if_pos (by rw [p1]; simp)]
        rw [← p1]
      rw [h2, hcl, h1]
      refine ⟨rfl, p4, rfl, fun ch => ?_⟩
      have hzc := hz.crash ch
      have hnc : ((t.s.clear (i : Int)).2.d.crash ch).n = t.s.d.n := p5
      rcases p6 ch with h6 | h6
      · exact .inl (reopens_of (h.same_row h6 hall hzc hnc))
      · rw [e2] at h6
        exact .inr (reopens_of (h.clear_row hm h2 h6 hall hzc hnc))
/-- At rest, a crash loses nothing. -/
theorem KeptR.crash {t : Sto} {F : Frag} (h : KeptR t F) (ch : List UInt8) : Reopens (t.s.d.crash ch) t.whole F := by
  obtain ⟨u, v, htold, hall⟩ := h.told
  exact reopens_of (h.same_row (htold.crash ch) hall (h.zero.crash ch) rfl)
theorem KeptR.fuse {t : Sto} {F : Frag} (h : KeptR t F) (n : Int) : KeptR ⟨{ t.s with d := t.s.d.setFuse n }, t.whole⟩ F := by
  obtain ⟨u, v, htold, hall⟩ := h.told
  exact h.same_row (htold.fuse n) hall ⟨h.zero.now, h.zero.lasts, h.zero.since⟩ rfl
end Go.Proofs.YtdkhmfcfihbjeaaGreatDoor.W

/- The reference's Same. -/
namespace Go.Proofs.YtdkhmfcfihbjeaaGreatDoor.W
open Go.RowKit
set_option linter.unusedVariables false
set_option linter.unusedSimpArgs false

theorem same_of (l m : List UInt8) (h : l.length = m.length) (hq : ∀ q, q < l.length → l.getD q 0 = m.getD q 0) : l = m := by
  apply List.ext_getElem h
  intro i h1 h2
  have := hq i h1
  simpa [List.getD_eq_getElem?_getD, List.getElem?_eq_getElem h1, List.getElem?_eq_getElem h2] using this
theorem bv_neq (a b : UInt8) (h : a ≠ b) : (((a.toNat : Int) != (b.toNat : Int)) = true) := by
  rw [bne_iff_ne]
  intro e
  exact h (UInt8.toNat_inj.1 (by omega))

set_option maxHeartbeats 4000000 in
set_option maxRecDepth 100000 in
/-- Same. -/
theorem same_any (u v : Value) (l m : List UInt8) (w : World) (hu : BytesAt w u l) (hv : BytesAt w v m) (hl : l.length ≤ 1000000000) (hm : m.length ≤ 1000000000) :
    Calls Tryz.prog 22 #[u, v] w fun e w' => e = .returned (.bool (decide (l = m))) ∧ ∃ n, w' = w.drewN n := by
  obtain ⟨au, cu, rfl, hlu, _, hu⟩ := hu
  obtain ⟨av, cv, rfl, hlv, _, hv⟩ := hv
  obtain ⟨d, hd⟩ : ∃ d, d = decide (l = m) := ⟨_, rfl⟩
  rw [← hd]
  have HD := Lib.hid hd
  clear hd
  have HU := Lib.hid hu
  have HV := Lib.hid hv
  clear hu hv
  by_cases hlen : l.length = m.length
  · have hmz : ((l.length : Int) != (m.length : Int)) = false := by rw [hlen]; simp
    have HL := Lib.hid hlen
    have hml : m.length = l.length := hlen.symm
    rw [hml]
    clear hlen hml hmz
    go_enter Tryz.func22, Tryz.ntmps22
    go_wp2
    go_loopg [5] l.length (fun g' s5 wr => ∃ (j n : Nat), s5 = .int .i64 j ∧ j ≤ l.length ∧ l.length ≤ j + g' ∧ Hid (∀ q, q < j → l.getD q 0 = m.getD q 0) ∧ wr = w.drewN n)
    case atStart => exact ⟨0, 0, rfl, by omega, by omega, fun q hq => absurd hq (by omega), rfl⟩
    case round =>
      obtain ⟨j, n, rfl, hj, hjg, HQ, rfl⟩ := hrel
      by_cases hlt : j < l.length
      · rcases HU.out with ⟨h0, _⟩ | ⟨gu, ou, rfl, hcu⟩
        · rw [h0] at hlt; simp at hlt
        rcases HV.out with ⟨h0, _⟩ | ⟨gv, ov, rfl, hcv⟩
        · have := HL.out; rw [h0, List.length_nil] at this; omega
        obtain ⟨x, hx, c0⟩ : ∃ x, l.getD j 0 = x ∧ w.cell? ⟨gu, ou + j, none⟩ = some (.int .u8 (x.toNat : Int)) := ⟨_, rfl, hcu j hlt⟩
        obtain ⟨y, hy, c1⟩ : ∃ y, m.getD j 0 = y ∧ w.cell? ⟨gv, ov + j, none⟩ = some (.int .u8 (y.toNat : Int)) := ⟨_, rfl, hcv j (by rw [← HL.out]; exact hlt)⟩
        have HX := Lib.hid hx
        have HY := Lib.hid hy
        have hjz : (j : Int) < (l.length : Int) := by omega
        have hjz0 : (0 : Int) ≤ (j : Int) := by omega
        have hjz1 : (j : Int).toNat = j := by omega
        clear hcu hcv hx hy
        by_cases hxy : x = y
        · subst hxy
          go_wp2
          go_quiet (fail)
          go_wp2
          go_roundg (gk - 1)
          case measure => omega
          case rel =>
            refine ⟨j + 1, _, by go_num, by omega, by omega, ?_, rfl⟩
            intro q hq
            rcases Nat.lt_or_ge q j with h | h
            · exact HQ.out q h
            · obtain rfl : q = j := by omega
              rw [HX.out, HY.out]
        · have hne := bv_neq x y hxy
          have hd : Hid (d = false) := Lib.hid (by
            rw [HD.out, decide_eq_false_iff_not]
            intro e
            have h1 := HX.out
            rw [e] at h1
            exact hxy (h1.symm.trans HY.out))
          clear hxy
          go_wp2
          go_quiet (fail)
          go_wp2
          go_ret
          exact ⟨ret_bool hd.out.symm, _, World.drewN_drewN ..⟩
      · have hd : Hid (d = true) := Lib.hid (by
          rw [HD.out, decide_eq_true_iff]
          exact same_of l m HL.out (fun q hq => HQ.out q (by omega)))
        go_wp2
        go_ret
        exact ⟨ret_bool hd.out.symm, _, rfl⟩
  · have hmz : ((l.length : Int) != (m.length : Int)) = true := by rw [bne_iff_ne]; omega
    have hd : Hid (d = false) := Lib.hid (by
      rw [HD.out, decide_eq_false_iff_not]
      intro e
      exact hlen (by rw [e]))
    clear hlen
    go_enter Tryz.func22, Tryz.ntmps22
    go_wp2
    go_ret
    exact ⟨ret_bool hd.out.symm, 0, rfl⟩
end Go.Proofs.YtdkhmfcfihbjeaaGreatDoor.W

/- The law's own: equality of ids, Id, a store of its own. -/
namespace Go.Proofs.YtdkhmfcfihbjeaaGreatDoor.W
open Go.RowKit
set_option linter.unusedVariables false
set_option linter.unusedSimpArgs false

theorem ret_id1 {fn : Func} {p : Tmp} (h : fn.results = #[.cell p 38]) (tmps : Array Value) {w : World} {b t : Nat} {x : Id} (hp : tmps.getD p undef = .pointer (some ⟨b, 0, none⟩)) (hb : w.heap[b]? = some (.cells (idC x) t (0, 0))) :
    (results fn tmps).run Tryz.prog w = .ok (idV x) w := by
  have hl := run_loadVar_row (P := Tryz.prog) w b t 38 (idC x) (0, 0) _ hb Tryz.underlying38 rfl (by rw [idSize]; rfl)
  have e : (results fn tmps).run Tryz.prog w = ((asAddr (tmps.getD p undef)).run Tryz.prog w).andThen fun a w₁ => (loadVar 38 a).run Tryz.prog w₁ := by
    simp only [results, h]
    simp [Sem.run_bind, Result.andThen]
  rw [e, hp]
  simp only [asAddr, Sem.run_pure, Result.andThen_ok, hl]
set_option maxHeartbeats 2000000 in
set_option maxRecDepth 100000 in
theorem lawid_any (c l n i : Int) (w : World) : Calls Tryz.prog 36 #[.int .i64 c, .int .i64 l, .int .i64 n, .int .i64 i] w fun e w' => e = .returned (.agg #[.int .i64 c, .int .i64 l, .int .i64 n, .int .i64 i]) ∧ Chg [] w w' := by
  go_enter Tryz.func36, Tryz.ntmps36
  go_wp2_with fail
  have HW := Lib.hid (show (w.alloc (.cells (idC ⟨c, l, n, i⟩) 38)).heap[w.heap.size]? = some (.cells (idC ⟨c, l, n, i⟩) 38 (0, 0)) from heap_alloc_new w _)
  refine bodyPost_ret (ret_id1 rfl _ rfl HW.out) rfl ?_
  exact ⟨rfl, (Chg.refl [] w).alloc _⟩

/-! ### A store of the law's own -/
def Kp (X : List Nat) (w w' : World) : Prop := ∀ k ∈ X, w'.heap[k]? = w.heap[k]?
theorem Kp.refl (X : List Nat) (w : World) : Kp X w w := fun _ _ => rfl
theorem Kp.trans {X : List Nat} {a b c : World} (h : Kp X a b) (k : Kp X b c) : Kp X a c := fun x hx => (k x hx).trans (h x hx)
theorem Kp.bytes {X : List Nat} {w w' : World} {v : Value} {l : List UInt8} (h : BytesAt w v l) (hk : Kp X w w') (hX : ∀ g, v.ownBlock = some g → g ∈ X) : BytesAt w' v l := h.keep fun g hg => hk g (hX g hg)
/-- All its blocks are new since w0, and none of them is in X. -/
def Own6 (X : List Nat) (w0 w : World) (q p : Nat) (t : Sto) : Prop := ∃ U, StAt [] w q p U t ∧ (∀ x ∈ U, w0.heap.size ≤ x) ∧ Chg [] w0 w ∧ ∀ x ∈ X, x ∉ U ∧ x < w.heap.size
variable {X : List Nat} {w0 w : World} {q p : Nat} {t : Sto}
theorem Own6.chg (h : Own6 X w0 w q p t) : Chg [] w0 w := by obtain ⟨U, h1, h2, h3, h4⟩ := h; exact h3
theorem Own6.keep0 {w' : World} (h : Own6 X w0 w q p t) (hc : Chg [] w w') : Own6 X w0 w' q p t := by
  obtain ⟨U, h1, h2, h3, h4⟩ := h
  exact ⟨U, h1.keep0 hc, h2, h3.trans hc (by simp), fun x hx => ⟨(h4 x hx).1, Nat.lt_of_lt_of_le (h4 x hx).2 hc.size⟩⟩
theorem Own6.kp {w' : World} (h : Own6 X w0 w q p t) (hc : Chg [] w w') : Kp X w w' := by
  obtain ⟨U, h1, h2, h3, h4⟩ := h
  exact fun x hx => hc.block x (h4 x hx).2 (by simp)
theorem Own6.add {Y : List Nat} {w' : World} (h : Own6 X w0 w q p t) (hc : Chg [] w w') (hY : ∀ k ∈ Y, k ∈ X ∨ w.heap.size ≤ k ∧ k < w'.heap.size) : Own6 Y w0 w' q p t := by
  obtain ⟨U, h1, h2, h3, h4⟩ := h
  refine ⟨U, h1.keep0 hc, h2, h3.trans hc (by simp), fun x hx => ?_⟩
  rcases hY x hx with h5 | ⟨h5, h6⟩
  · exact ⟨(h4 x h5).1, Nat.lt_of_lt_of_le (h4 x h5).2 hc.size⟩
  · exact ⟨fun hm => by have := h1.lim x hm; omega, h6⟩
theorem Own6.mono {Y : List Nat} (h : Own6 X w0 w q p t) (hY : ∀ x ∈ Y, x ∈ X) : Own6 Y w0 w q p t := by
  obtain ⟨U, h1, h2, h3, h4⟩ := h
  exact ⟨U, h1, h2, h3, fun x hx => h4 x (hY x hx)⟩
theorem Own6.did {w' : World} {t' : Sto} {U : List Nat} (h2 : ∀ x ∈ U, w0.heap.size ≤ x) (h3 : Chg [] w0 w) (h4 : ∀ x ∈ X, x ∉ U ∧ x < w.heap.size) (hd : Std [] w w' q p U t') : Own6 X w0 w' q p t' ∧ Kp X w w' := by
  obtain ⟨U', d1, d2, d3⟩ := hd
  have hs := h3.size
  refine ⟨⟨U', d1, fun x hx => ?_, h3.trans d3 (fun x hx => .inr (h2 x hx)), fun x hx => ⟨fun hm => ?_, Nat.lt_of_lt_of_le (h4 x hx).2 d3.size⟩⟩, fun x hx => d3.block x (h4 x hx).2 (h4 x hx).1⟩
  · rcases d2 x hx with h | h
    · exact h2 x h
    · omega
  · rcases d2 x hm with h | h
    · exact (h4 x hx).1 h
    · have := (h4 x hx).2; omega
/-- A new disk. -/
theorem own_disk (n : Nat) (w : World) (h2 : 2 ≤ n) (hm : n ≤ 4160) : Calls Tryz.prog 14 #[.int .i64 (n : Int)] w fun e w' => ∃ p S, e = .returned (.tuple #[.pointer (some ⟨p, 0, none⟩), .int .i64 0]) ∧ DiskAt w' p S (DS.new n) ∧ (∀ x ∈ S, w.heap.size ≤ x) ∧ Chg [] w w' :=
  (dnew_any n w h2 hm).mono fun e w' ⟨p, S, h1, h3, h4, h5⟩ => ⟨p, S, h1, h3, h4, h5⟩
/-- A new store. -/
theorem own_format {S : List Nat} {w1 : World} {n : Nat} {t : Sto} {d : DS} (hd : DiskAt w1 p S (DS.new n)) (hS : ∀ x ∈ S, w0.heap.size ≤ x) (hc : Chg [] w0 w1) (hf : (DS.new n).format = ((0, some t), d)) : Calls Tryz.prog 37 #[.pointer (some ⟨p, 0, none⟩)] w1 fun e w' => ∃ q, e = .returned (.tuple #[.pointer (some ⟨q, 0, none⟩), .int .i64 0]) ∧ Own6 [] w0 w' q p t := by
  have h := format_any p S (DS.new n) w1 hd (by show 0 ≤ _; omega) (by show 0 ≤ _; omega)
  rw [hf] at h
  refine h.mono ?_
  rintro e w' ⟨q, U, rfl, h1, h2, h3⟩
  have hs := hc.size
  refine ⟨q, rfl, U, h1, fun x hx => ?_, hc.trans h3 (fun x hx => .inr (hS x hx)), by simp⟩
  rcases h2 x hx with h | h
  · exact hS x h
  · omega
theorem one_byte6 (w : World) (a : UInt8) : BytesAt (w.alloc (.cells #[bv a] 5)) (.slice (some ⟨w.heap.size, 0, none⟩) 1 1) [a] :=
  (row_of_block (l := [a]) (heap_alloc_new w _) (by unfold maxLen; simp)).bytes
end Go.Proofs.YtdkhmfcfihbjeaaGreatDoor.W

/- The law's awake. -/
namespace Go.Proofs.YtdkhmfcfihbjeaaGreatDoor.W
open Go.RowKit
set_option linter.unusedVariables false
set_option linter.unusedSimpArgs false

theorem okD_c : okD ⟨1, 0, 5, 2⟩ := by decide

end Go.Proofs.YtdkhmfcfihbjeaaGreatDoor.W

/- Ids that came in: as an argument, in a slice. -/
namespace Go.Proofs.YtdkhmfcfihbjeaaGreatDoor.W
open Go.RowKit Go.ChangeShapes Go.WideShapes
set_option linter.unusedVariables false
set_option linter.unusedSimpArgs false

section
variable {H : Type} {enc : TypeId × Value → H} {w : World} {base : Nat} {held : Bool} {spare : Nat → Bool}
end
end Go.Proofs.YtdkhmfcfihbjeaaGreatDoor.W

/- The reference's Key, MayId. -/
namespace Go.Proofs.YtdkhmfcfihbjeaaGreatDoor.W
open Go.RowKit
set_option linter.unusedVariables false
set_option linter.unusedSimpArgs false

structure RPenNew (w0 w : World) (b : Nat) (g : Option Nat) (l : List UInt8) : Prop where
  pen : PenAt 117 w b g l 0
  chg : Chg [] w0 w
  own : w0.heap.size ≤ b
  ownG : ∀ k, g = some k → w0.heap.size ≤ k
theorem RPenNew.num {w0 w : World} {b : Nat} {g : Option Nat} {l : List UInt8} (h : RPenNew w0 w b g l) (x : Int) (n : Nat) (h1 : 1 ≤ n) (h7 : n ≤ 7) (hx0 : 0 ≤ x) (hx : x < ((256 ^ n : Nat) : Int)) (hl : l.length ≤ 1000) :
    Calls Tryz.prog 49 #[.pointer (some ⟨b, 0, none⟩), .int .i64 x, .int .i64 n] w fun e w' => e = .returned (.tuple #[]) ∧ ∃ g', RPenNew w0 w' b g' (l ++ beBytes n x.toNat) := by
  refine (rpnum_any b g l 0 x n w h.pen (by omega) (by omega)).mono ?_
  rintro e w' ⟨rfl, g', k1, k2, k3⟩
  have e1 : penNum l 0 x n = (l ++ beBytes n x.toNat, 0) := by
    unfold penNum penAdd
    rw [if_neg (by simp), if_neg (by omega), if_neg (by simp), if_neg (by rw [beBytes_len]; omega)]
  rw [Int.toNat_natCast, e1] at k1
  refine ⟨rfl, g', k1, h.chg.trans k3 (fun x hx => .inr ?_), h.own, fun k hk => ?_⟩
  · rcases List.mem_cons.1 hx with rfl | hx
    · exact h.own
    · exact h.ownG x (by simpa using hx)
  · rcases k2 with rfl | ⟨k', rfl, h4⟩
    · exact h.ownG k hk
    · obtain rfl : k' = k := by simpa using hk
      exact Nat.le_trans h.chg.size h4
theorem RPenNew.fresh {w0 w : World} (hc : Chg [] w0 w) : RPenNew w0 (w.alloc (.cells #[.slice none 0 0, .int .i64 0] 117)) w.heap.size none [] :=
  ⟨⟨.slice none 0 0, heap_alloc_new w _, BRow.nil _, rfl, by simp, by simp⟩, hc.alloc _, hc.size, fun k hk => by cases hk⟩
end Go.Proofs.YtdkhmfcfihbjeaaGreatDoor.W

/- Regions that draw their order: a load under a condition that ends far off: the way from it to its end is told. -/
namespace Go.Proofs.YtdkhmfcfihbjeaaGreatDoor.W
open Go.RowKit
set_option linter.unusedVariables false
set_option linter.unusedSimpArgs false

section
variable {P : Program} {ops : Array Oper} {Q : Exit → Act → World → Prop} {md : Region.Mode} {cs : List (Nat × (World → Prop))}

end
end Go.Proofs.YtdkhmfcfihbjeaaGreatDoor.W

/- What the store's laws share. -/
namespace Go.Proofs.YtdkhmfcfihbjeaaGreatDoor.W
end Go.Proofs.YtdkhmfcfihbjeaaGreatDoor.W

/- StoreFull, plainly. -/
namespace Go.Proofs.YtdkhmfcfihbjeaaGreatDoor.W
set_option linter.unusedVariables false
set_option linter.unusedSimpArgs false

theorem range_getD (l : List SRow) : (List.range l.length).map (fun j => l.getD j noRow) = l := by
  apply List.ext_getElem (by simp)
  intro i h1 h2
  simp [List.getD_eq_getElem?_getD, List.getElem?_eq_getElem h2]
theorem used_len (l : List SRow) (P : Nat → Bool) (hP : ∀ j, j < l.length → P j = (l.getD j noRow).used) : ((List.range l.length).filter P).length + l.countP (fun r => !r.used) = l.length := by
  have h1 : ((List.range l.length).filter P).length = l.countP (fun r => r.used) := by
    rw [← List.countP_eq_length_filter]
    conv => rhs; rw [← range_getD l]
    rw [List.countP_map]
    refine List.countP_congr (fun j hj => ?_)
    rw [hP j (List.mem_range.1 hj)]
    rfl
  have h2 := List.length_eq_countP_add_countP (fun r : SRow => r.used) (l := l)
  rw [h1]
  have h3 : l.countP (fun r => decide ¬ r.used = true) = l.countP (fun r => !r.used) := List.countP_congr (fun r _ => by cases r.used <;> simp)
  omega
/-- How many ids there are. -/
theorem Kept.ids_len {t : Sto} {F : Frag} (h : Kept t F) : t.ids.length + t.room = t.s.rows.length := by
  unfold Sto.ids firsts Sto.room
  rw [List.length_mergeSort, List.length_map]
  refine used_len t.s.rows _ (fun j hj => ?_)
  cases hu : (t.s.rows.getD j noRow).used with
  | false => unfold isFirst; rw [hu]; rfl
  | true =>
    refine mem_isFirst.2 ⟨hu, fun k hk hh => ?_⟩
    obtain ⟨hm, he⟩ := un_back (h.keys _ (row_mem hj) hu)
    obtain ⟨u, v, _, h2⟩ := h.told
    have hjm : j ∈ t.at (unId (t.s.rows.getD j noRow).key) := by rw [Sto.at_may hm]; exact upto_mem.2 ⟨hj, hu, he⟩
    have hkm : k ∈ t.at (unId (t.s.rows.getD j noRow).key) := by rw [Sto.at_may hm]; exact upto_mem.2 ⟨by omega, hh.1, by rw [hh.2]; exact he⟩
    rcases h2 _ hm with ⟨_, h4⟩ | ⟨i, b, _, h4, _⟩
    · rw [h4] at hjm; cases hjm
    · rw [h4, List.mem_singleton] at hjm hkm
      omega
theorem SS.clears_ok : ∀ (l : List Nat) (s : SS), (s.clears l).2.d.ops ≤ s.d.ops + 2 * l.length ∧ (s.clears l).2.d.since.length ≤ s.d.since.length + l.length
  | [], s => ⟨Nat.le_refl _, Nat.le_refl _⟩
  | i :: r, s => by
    obtain ⟨h1, h2, _⟩ := s.clear_ok (i : Int)
    obtain ⟨g1, g2⟩ := SS.clears_ok r (s.clear (i : Int)).2
    rw [clears_cons, List.length_cons]
    split
    · exact ⟨by omega, by omega⟩
    · exact ⟨by omega, by omega⟩
theorem Sto.at_len (t : Sto) (x : Id) : (t.at x).length ≤ t.s.rows.length := by
  unfold Sto.at
  split
  · exact upto_len _ _ _
  · simp
theorem Sto.del_ok (t : Sto) (x : Id) : (t.del x).2.s.d.ops ≤ t.s.d.ops + 2 * t.s.rows.length ∧ (t.del x).2.s.d.since.length ≤ t.s.d.since.length + t.s.rows.length := by
  have hl := t.at_len x
  obtain ⟨h1, h2⟩ := SS.clears_ok (t.at x) t.s
  unfold Sto.del
  split
  · exact ⟨by dsimp only; omega, by dsimp only; omega⟩
  · exact ⟨by dsimp only; omega, by dsimp only; omega⟩
def idn (j : Nat) : Id := ⟨1, 0, (j : Int), 0⟩
theorem may_idn {j : Nat} (h : j ≤ 1000) : mayId (idn j) = true := may_iff.2 (by unfold idn; dsimp only; omega)
def fillF (b : List UInt8) (i : Nat) : Frag := fun x => if x.c = 1 ∧ x.l = 0 ∧ x.i = 0 ∧ 0 ≤ x.n ∧ x.n < i then some b else none
structure FullAt (t : Sto) (b : List UInt8) (n i : Nat) : Prop where
  kept : Kept t (fillF b i)
  room : t.room + i = n
  rows : t.s.rows.length = n
  small : t.s.d.ops ≤ 200 + 20 * i ∧ t.s.d.since.length = 0
theorem fillF_self (b : List UInt8) (i : Nat) : fillF b i (idn i) = none := if_neg (by unfold idn; dsimp only; omega)
theorem fillF_next (b : List UInt8) (i : Nat) : setF (fillF b i) (idn i) (some b) = fillF b (i + 1) := by
  funext x
  unfold setF
  by_cases e : x = idn i
  · subst e
    rw [if_pos rfl]
    exact (if_pos (by unfold idn; dsimp only; omega)).symm
  · rw [if_neg e]
    unfold fillF
    by_cases h : x.c = 1 ∧ x.l = 0 ∧ x.i = 0 ∧ 0 ≤ x.n ∧ x.n < i
    · rw [if_pos h, if_pos (by omega)]
    · rw [if_neg h, if_neg (fun h2 => ?_)]
      have : x.n = (i : Int) := by omega
      obtain ⟨a, b', c, d⟩ := x
      refine e ?_
      unfold idn
      simp only [Id.mk.injEq]
      dsimp only at *
      omega
theorem FullAt.step {t : Sto} {b : List UInt8} {n i : Nat} (h : FullAt t b n i) (hi : i < n) (hn : n ≤ 100) (hb : b.length ≤ 448) : (t.put (idn i) b).1 = 0 ∧ FullAt (t.put (idn i) b).2 b n (i + 1) := by
  obtain ⟨o1, o2, _, o4, _⟩ := t.put_ok (idn i) b
  have hr := h.room
  have hs := h.small
  obtain ⟨p1, p2, p3⟩ := h.kept.put_new (may_idn (by omega)) (fillF_self b i) hb (by omega)
  rw [fillF_next] at p2
  exact ⟨p1, p2, by omega, by rw [o4, h.rows], by omega, by rw [p2.since]; rfl⟩
theorem FullAt.new (b : List UInt8) (n : Nat) (h1 : 1 ≤ n) (h2 : n ≤ 12) : ∃ t d, (DS.new (1 + 8 * n)).format = ((0, some t), d) ∧ FullAt t b n 0 := by
  obtain ⟨t, d, f1, f2, f3, f4, f5, f6, _⟩ := Kept.new (1 + 8 * n) (by omega)
  have hrow : (1 + 8 * n - 1) / 8 = n := by omega
  rw [hrow] at f4
  refine ⟨t, d, f1, ?_, ?_, by rw [f4, List.length_replicate], by rw [f3]; omega, by rw [f2.since]; rfl⟩
  · have : fillF b 0 = fun _ => none := by
      funext x
      exact if_neg (by omega)
    rw [this]; exact f2
  · unfold Sto.room
    rw [f4]
    have := List.countP_replicate (p := fun r : SRow => !r.used) (a := noRow) (n := n)
    simp [noRow] at this ⊢
    first | omega | exact this
/-- When it is full. -/
theorem FullAt.after {t : Sto} {b : List UInt8} {n k : Nat} (h : FullAt t b n n) (hk : k < n) (hn : n ≤ 100) (hb : b.length ≤ 448) : t.put (idn n) b = (5, t) ∧ (t.del (idn k)).1 = 0 ∧ (((t.del (idn k)).2).put (idn n) b).1 = 0 ∧ (((t.del (idn k)).2).put (idn n) b).2.room = 0 ∧ (((t.del (idn k)).2).put (idn n) b).2.ids.length = n ∧ (t.del (idn k)).2.s.d.since.length = 0 := by
  have hr := h.room
  have e1 := h.kept.put_full (may_idn (by omega)) (fillF_self b n) hb (by omega)
  obtain ⟨d1, d2, d3, _, d5, d6⟩ := h.kept.del (may_idn (j := k) (by omega))
  have hF : fillF b n (idn k) = some b := if_pos (by unfold idn; dsimp only; omega)
  rw [hF] at d3
  simp only [Option.isSome_some, if_true] at d3
  have hne : idn n ≠ idn k := fun e => by
    have := congrArg Id.n e
    unfold idn at this
    dsimp only at this
    omega
  obtain ⟨p1, p2, p3⟩ := d2.put_new (may_idn (j := n) (by omega)) (by rw [setF_other _ _ hne]; exact fillF_self b n) hb (by omega)
  have hl := p2.ids_len
  obtain ⟨_, _, _, o4, _⟩ := ((t.del (idn k)).2).put_ok (idn n) b
  have hrows := h.rows
  exact ⟨e1, d1, p1, by omega, by omega, by rw [d2.since]; rfl⟩
end Go.Proofs.YtdkhmfcfihbjeaaGreatDoor.W

/- A server, plainly: what it does, and what it keeps. -/
namespace Go.Proofs.YtdkhmfcfihbjeaaGreatDoor.W
set_option linter.unusedVariables false
set_option linter.unusedSimpArgs false

def lostOf (wh : Bool) (e : Int) : Int := if e = 6 ∧ wh = false then 15 else e
/-- What a request does. -/
def Sto.step (t : Sto) (r : Rq) : Rp × Sto :=
  if r.k = 1 then (errRp (t.put r.x r.b).1, (t.put r.x r.b).2)
  else if r.k = 2 then (⟨lostOf t.whole (t.get r.x).2, (t.get r.x).1, [], 0, false⟩, t)
  else if r.k = 3 then (errRp (t.del r.x).1, (t.del r.x).2)
  else if r.k = 4 then (⟨0, [], t.ids, 0, false⟩, t)
  else if r.k = 5 then (⟨0, [], [], (t.room : Int), t.whole⟩, t)
  else if r.k = 6 then (errRp t.setWhole.1, t.setWhole.2)
  else (errRp 1, t)
/-- Do. -/
def Sto.run (t : Sto) (r : Rq) : (Rp × Int) × Sto :=
  if t.s.d.dead then ((noRp, 14), t) else if (t.step r).2.s.d.dead then ((noRp, 14), (t.step r).2) else (((t.step r).1, 0), (t.step r).2)
theorem step1 (t : Sto) (x : Id) (b : List UInt8) : t.step ⟨1, x, b⟩ = (errRp (t.put x b).1, (t.put x b).2) := rfl
theorem step2 (t : Sto) (x : Id) (b : List UInt8) : t.step ⟨2, x, b⟩ = (⟨lostOf t.whole (t.get x).2, (t.get x).1, [], 0, false⟩, t) := rfl
theorem step3 (t : Sto) (x : Id) (b : List UInt8) : t.step ⟨3, x, b⟩ = (errRp (t.del x).1, (t.del x).2) := rfl
theorem step4 (t : Sto) (x : Id) (b : List UInt8) : t.step ⟨4, x, b⟩ = (⟨0, [], t.ids, 0, false⟩, t) := rfl
theorem step5 (t : Sto) (x : Id) (b : List UInt8) : t.step ⟨5, x, b⟩ = (⟨0, [], [], (t.room : Int), t.whole⟩, t) := rfl
theorem step6 (t : Sto) (x : Id) (b : List UInt8) : t.step ⟨6, x, b⟩ = (errRp t.setWhole.1, t.setWhole.2) := rfl
theorem step0 (t : Sto) (r : Rq) (h : r.k < 1 ∨ 6 < r.k) : t.step r = (errRp 1, t) := by
  unfold Sto.step
  rw [if_neg (by omega), if_neg (by omega), if_neg (by omega), if_neg (by omega), if_neg (by omega), if_neg (by omega)]

/-! ### A disk that lives goes on living -/
theorem DS.Live.op {d : DS} (h : d.Live) : d.op.2.Live := by
  obtain ⟨h1, h2⟩ := h
  unfold DS.op
  rw [if_neg (by omega)]
  exact ⟨h1, by show (if 0 < d.fuse then d.fuse - 1 else d.fuse) < 0; rw [if_neg (by omega)]; exact h2⟩
theorem DS.Live.write {d : DS} (h : d.Live) (k : Int) (b : List UInt8) : (d.write k b).2.Live := by
  unfold DS.write
  split
  · exact h
  · split
    · have h1 := DS.Live.op (d := { d with since := d.since ++ [(k.toNat, b)] }) h
      dsimp only
      split
      · exact h1
      · exact h1
    · exact h
theorem DS.Live.sync {d : DS} (h : d.Live) : (d.sync).2.Live := by
  unfold DS.sync
  split
  · exact h
  · dsimp only
    split
    · exact h.op
    · exact h.op
theorem DS.Live.lay (pos : Nat) (b : List UInt8) : ∀ (k j : Nat) (d : DS), d.Live → (d.lay pos b k j).2.Live
  | 0, j, d, h => h.sync
  | k + 1, j, d, h => by
    unfold DS.lay
    split
    · exact h.write _ _
    · exact DS.Live.lay pos b k (j + 1) _ (h.write _ _)
theorem DS.Live.lays {d : DS} (h : d.Live) (pos : Nat) (b : List UInt8) : (d.lays pos b).2.Live := DS.Live.lay _ _ _ _ _ h
theorem DS.Live.put {s : SS} (h : s.d.Live) (i : Int) (key b : List UInt8) : (s.put i key b).2.d.Live := by
  unfold SS.put
  split
  · exact h
  · split
    · exact h
    · split
      · exact h
      · split
        · exact h.lays _ _
        · split
          · exact (h.lays _ _).lays _ _
          · exact (h.lays _ _).lays _ _
theorem DS.Live.clear {s : SS} (h : s.d.Live) (i : Int) : (s.clear i).2.d.Live := by
  unfold SS.clear
  split
  · exact h
  · split
    · exact h
    · split
      · exact h.lays _ _
      · exact h.lays _ _
theorem DS.Live.clears : ∀ (l : List Nat) (s : SS), s.d.Live → (s.clears l).2.d.Live
  | [], s, h => h
  | i :: r, s, h => by
    rw [clears_cons]
    split
    · exact h.clear _
    · exact DS.Live.clears r _ (h.clear _)
theorem live_put {t : Sto} (h : t.s.d.Live) (x : Id) (b : List UInt8) : (t.put x b).2.s.d.Live := by
  unfold Sto.put
  split
  · exact h
  · split
    · exact h
    · split
      · split
        · exact h
        · split <;> exact h
      · split
        · exact h
        · exact h.put _ _ _
theorem live_del {t : Sto} (h : t.s.d.Live) (x : Id) : (t.del x).2.s.d.Live := by
  unfold Sto.del
  split
  · exact h
  · exact DS.Live.clears _ _ h
theorem live_crash (d : DS) (ch : List UInt8) : (d.crash ch).Live := ⟨rfl, by show (-1 : Int) < 0; omega⟩

/-! ### What it keeps -/
/-- At rest, alive, and what it has. -/
structure Keep (t : Sto) (F : Frag) : Prop where
  kept : KeptR t F
  live : t.s.d.Live
variable {t : Sto} {F : Frag}
theorem Keep.alive (h : Keep t F) : t.s.d.dead = false := h.live.1
theorem Keep.new (n : Nat) (h9 : 9 ≤ n) : ∃ t d, (DS.new n).format = ((0, some t), d) ∧ Keep t (fun _ => none) ∧ t.room = (n - 1) / 8 ∧ t.s.d.n = n ∧ t.s.d.ops ≤ n ∧ t.whole = false := by
  obtain ⟨t, d, h1, h2, h3, h4, h5, h6, h7, h8⟩ := KeptR.new n h9
  refine ⟨t, d, h1, ⟨h2, by rw [h3]; exact h8⟩, ?_, by rw [h3]; exact h5, by rw [h3]; exact h6, h7⟩
  unfold Sto.room
  rw [h4]
  simp [List.countP_replicate, noRow]
theorem Keep.since (h : Keep t F) : t.s.d.since = [] := h.kept.rest.none
theorem KeptR.ids_len (h : KeptR t F) : t.ids.length + t.room = t.s.rows.length := by
  unfold Sto.ids firsts Sto.room
  rw [List.length_mergeSort, List.length_map]
  refine used_len t.s.rows _ (fun j hj => ?_)
  cases hu : (t.s.rows.getD j noRow).used with
  | false => unfold isFirst; rw [hu]; rfl
  | true =>
    refine mem_isFirst.2 ⟨hu, fun k hk hh => ?_⟩
    obtain ⟨hm, he⟩ := un_back (h.keys _ (row_mem hj) hu)
    obtain ⟨u, v, _, h2⟩ := h.told
    have hjm : j ∈ t.at (unId (t.s.rows.getD j noRow).key) := by rw [Sto.at_may hm]; exact upto_mem.2 ⟨hj, hu, he⟩
    have hkm : k ∈ t.at (unId (t.s.rows.getD j noRow).key) := by rw [Sto.at_may hm]; exact upto_mem.2 ⟨by omega, hh.1, by rw [hh.2]; exact he⟩
    rcases h2 _ hm with ⟨_, h4⟩ | ⟨i, b, _, h4, _⟩
    · rw [h4] at hjm; cases hjm
    · rw [h4, List.mem_singleton] at hjm hkm
      omega
theorem KeptR.del_bad {x : Id} (hm : mayId x = false) : t.del x = (1, t) := Kept.del_bad hm
/-- What a Put leaves. -/
theorem Keep.put (h : Keep t F) (x : Id) (b : List UInt8) : ∃ F', Keep (t.put x b).2 F' ∧ (t.put x b).2.whole = t.whole ∧
    (((t.put x b).1 = 0 ∧ F x = none ∧ F' = setF F x (some b) ∧ (t.put x b).2.room + 1 = t.room) ∨ (((t.put x b).1 = 0 → F x = some b) ∧ (t.put x b).2 = t ∧ F' = F)) := by
  have hl := live_put h.live x b
  by_cases hb : mayId x = false ∨ 448 < b.length
  · obtain ⟨h1, h2⟩ := h.kept.put_bad hb
    exact ⟨F, by rw [h2]; exact h, by rw [h2], .inr ⟨fun e => absurd e h1, h2, rfl⟩⟩
  · have hm : mayId x = true := by cases hx : mayId x with | true => rfl | false => exact absurd (.inl hx) hb
    have hbl : b.length ≤ 448 := by omega
    cases hF : F x with
    | some c =>
      have h1 := h.kept.put_there hF b hbl
      rw [h1]
      refine ⟨F, h, rfl, .inr ⟨fun e => ?_, rfl, rfl⟩⟩
      by_cases hc : c = b
      · rw [hc]
      · rw [if_neg hc] at e; cases e
    | none =>
      by_cases hr : t.room = 0
      · rw [h.kept.put_full hm hF hbl hr]
        exact ⟨F, h, rfl, .inr ⟨(fun e => by cases e), rfl, rfl⟩⟩
      · rcases h.kept.put_may hm hF hbl (by omega) with ⟨h1, h2, h3, h4⟩ | ⟨_, h2, _⟩
        · exact ⟨_, ⟨h2, hl⟩, h4, .inl ⟨h1, rfl, rfl, h3⟩⟩
        · rw [hl.1] at h2; cases h2
/-- What a Delete leaves. -/
theorem Keep.del (h : Keep t F) (x : Id) : ∃ F', Keep (t.del x).2 F' ∧ (t.del x).2.whole = t.whole ∧
    (((t.del x).1 = 0 ∧ mayId x = true ∧ F' = setF F x none ∧ (t.del x).2.room = t.room + (if (F x).isSome then 1 else 0)) ∨ ((t.del x).1 = 1 ∧ mayId x = false ∧ (t.del x).2 = t ∧ F' = F)) := by
  have hl := live_del h.live x
  cases hm : mayId x with
  | false =>
    rw [KeptR.del_bad hm]
    exact ⟨F, h, rfl, .inr ⟨rfl, rfl, rfl, rfl⟩⟩
  | true =>
    rcases h.kept.del_may hm with ⟨h1, h2, h3, h4, h5⟩ | ⟨_, h2, _⟩
    · exact ⟨_, ⟨h2, hl⟩, h5, .inl ⟨h1, rfl, rfl, h3⟩⟩
    · rw [hl.1] at h2; cases h2
/-- What SetWhole leaves. -/
theorem Keep.sets (h : Keep t F) : t.setWhole.1 = 0 ∧ Keep t.setWhole.2 F ∧ t.setWhole.2.whole = true ∧ t.setWhole.2.room = t.room := by
  have hfair : t.s.d.Fair := fun _ i => by rw [h.since]; exact h.kept.rest.same i
  obtain ⟨h1, h2, h3, h4, h5⟩ := DS.sign_live h.live 2 (by have := h.kept.full.2; omega)
  have h6 := hfair.sign 2
  obtain ⟨d2, hd2⟩ : ∃ d2, d2 = (t.s.d.sign 2).2 := ⟨_, rfl⟩
  have hset : t.setWhole = (0, ⟨{ t.s with d := d2 }, true⟩) := by
    unfold Sto.setWhole
    rw [h1, ← hd2]
    simp
  rw [← hd2] at h2 h3 h4 h5 h6
  rw [hset]
  have hsame : ∀ i, d2.lasts i = d2.now i := fun i => by
    have := h6 h2.1 i
    rw [h5] at this
    exact this
  have hnow : ∀ i, i ≠ 0 → d2.now i = t.s.d.now i := fun i hi => by rw [h4]; unfold upd; rw [if_neg hi]
  obtain ⟨u, v, htold, hall⟩ := h.kept.told
  refine ⟨rfl, ⟨⟨⟨u, v, ⟨⟨h2.1, h5, hsame⟩, by show t.s.first + 8 * t.s.rows.length ≤ d2.n; rw [h3]; exact htold.room, fun k hk => ?_, htold.used, fun k hk hu => ?_⟩, hall⟩, h.kept.out, h.kept.keys, h.kept.first, ⟨by show (d2.n - 1) / 8 = _; rw [h3]; exact h.kept.full.1, by show 9 ≤ d2.n; rw [h3]; exact h.kept.full.2⟩, ⟨?_, ?_, by show ∀ x ∈ d2.since, _; rw [h5]; simp⟩⟩, h2⟩, rfl, rfl⟩
  · have hf := h.kept.first
    show headOf (d2.now (t.s.first + 8 * k)) = _
    rw [hnow _ (by omega)]
    exact htold.head k hk
  · rw [← htold.data k hk hu]
    have hf := h.kept.first
    unfold SS.data SS.pos
    congr 2
    funext i
    exact hnow _ (by show t.s.first + 8 * (k : Int).toNat + 1 + i ≠ 0; omega)
  · show d2.now 0 = _
    rw [h4]; rfl
  · show d2.lasts 0 = _
    rw [hsame, h4]; rfl
/-- Opened behind a crash it is the same. -/
theorem Keep.crash (h : Keep t F) (ch : List UInt8) : (t.s.d.crash ch).stOpen = (0, some ⟨{ t.s with d := t.s.d.crash ch }, t.whole⟩) ∧ Keep ⟨{ t.s with d := t.s.d.crash ch }, t.whole⟩ F := by
  obtain ⟨u, v, htold, hall⟩ := h.kept.told
  have h2 : KeptR ⟨{ t.s with d := t.s.d.crash ch }, t.whole⟩ F := h.kept.same_row (htold.crash ch) hall (h.kept.zero.crash ch) rfl
  refine ⟨?_, h2, live_crash _ _⟩
  generalize hw : (⟨{ t.s with d := t.s.d.crash ch }, t.whole⟩ : Sto) = t2 at *
  have hd : t.s.d.crash ch = t2.s.d := by rw [← hw]
  rw [hd]
  clear hw hd h htold hall
  obtain ⟨u, v, h1, _⟩ := h2.told
  have hsl := h1.anew (by rw [h2.first]; exact h2.full.1) (by have := h2.full.2; omega)
  rw [h2.first] at hsl
  have hn := h2.full.2
  unfold DS.stOpen
  rw [if_neg (by omega), if_neg (by rw [h1.rest.alive]; simp), h2.zero.now]
  cases hw : t2.whole with
  | true =>
    rw [if_neg (by
      rintro (⟨_, h2⟩ | h2)
      · exact h2 rfl
      · rw [show (((if true = true then (2 : UInt8) else 1) :: zeros 63)).drop 1 = zeros 63 from rfl, allZ_zeros] at h2; cases h2)]
    rw [show ((1 : Nat) : Int) = 1 from rfl] at hsl
    rw [hsl]
    dsimp only
    rw [if_pos (stKeys_iff.2 h2.keys)]
    obtain ⟨ts, tw⟩ := t2
    dsimp only at hw
    subst hw
    rfl
  | false =>
    rw [if_neg (by
      rintro (⟨h2, _⟩ | h2)
      · exact h2 rfl
      · rw [show (((if false = true then (2 : UInt8) else 1) :: zeros 63)).drop 1 = zeros 63 from rfl, allZ_zeros] at h2; cases h2)]
    rw [show ((1 : Nat) : Int) = 1 from rfl] at hsl
    rw [hsl]
    dsimp only
    rw [if_pos (stKeys_iff.2 h2.keys)]
    obtain ⟨ts, tw⟩ := t2
    dsimp only at hw
    subst hw
    rfl
/-- A request leaves it alive. -/
theorem Keep.step (h : Keep t F) (r : Rq) : ∃ F', Keep (t.step r).2 F' := by
  by_cases h0 : r.k < 1 ∨ 6 < r.k
  · rw [step0 t r h0]; exact ⟨F, h⟩
  · obtain ⟨k, x, b⟩ := r
    dsimp only at h0
    obtain rfl | rfl | rfl | rfl | rfl | rfl : k = 1 ∨ k = 2 ∨ k = 3 ∨ k = 4 ∨ k = 5 ∨ k = 6 := by omega
    · obtain ⟨F', h1, _⟩ := h.put x b; exact ⟨F', h1⟩
    · exact ⟨F, h⟩
    · obtain ⟨F', h1, _⟩ := h.del x; exact ⟨F', h1⟩
    · exact ⟨F, h⟩
    · exact ⟨F, h⟩
    · exact ⟨F, h.sets.2.1⟩
theorem Keep.run (h : Keep t F) (r : Rq) : t.run r = (((t.step r).1, 0), (t.step r).2) := by
  obtain ⟨F', h1⟩ := h.step r
  unfold Sto.run
  rw [h.alive, h1.alive]
  rfl

/-! ### How far it goes -/
theorem srv_n : ∀ (l : List Nat) (s : SS), (s.clears l).2.d.n = s.d.n
  | [], s => rfl
  | i :: r, s => by
    obtain ⟨_, _, h1⟩ := s.clear_ok (i : Int)
    rw [clears_cons]
    split
    · exact h1
    · rw [srv_n r, h1]
theorem srv_row1 (s : SS) (i : Int) : (s.clear i).2.rows.length = s.rows.length := by
  by_cases he : (s.clear i).1 = 0
  · obtain ⟨_, _, h3⟩ := SS.clear_done he
    rw [h3, List.length_set]
  · rw [SS.clear_not he]
theorem srv_rows : ∀ (l : List Nat) (s : SS), (s.clears l).2.rows.length = s.rows.length
  | [], s => rfl
  | i :: r, s => by
    rw [clears_cons]
    split
    · exact srv_row1 s i
    · rw [srv_rows r, srv_row1]
/-- How far a request goes. -/
structure Far20 (t t' : Sto) : Prop where
  ops : t'.s.d.ops ≤ t.s.d.ops + 40
  since : t'.s.d.since.length ≤ t.s.d.since.length + 40
  n : t'.s.d.n = t.s.d.n
  rows : t'.s.rows.length = t.s.rows.length
theorem step_far (t : Sto) (r : Rq) (hr : t.s.rows.length ≤ 20) : Far20 t (t.step r).2 := by
  by_cases h0 : r.k < 1 ∨ 6 < r.k
  · rw [step0 t r h0]; exact ⟨by dsimp only; omega, by dsimp only; omega, rfl, rfl⟩
  · obtain ⟨k, x, b⟩ := r
    dsimp only at h0
    obtain rfl | rfl | rfl | rfl | rfl | rfl : k = 1 ∨ k = 2 ∨ k = 3 ∨ k = 4 ∨ k = 5 ∨ k = 6 := by omega
    · obtain ⟨a, b', c, d, _⟩ := t.put_ok x b
      rw [step1]
      exact ⟨by dsimp only; omega, by dsimp only; omega, c, d⟩
    · rw [step2]; exact ⟨by dsimp only; omega, by dsimp only; omega, rfl, rfl⟩
    · obtain ⟨a, b'⟩ := t.del_ok x
      rw [step3]
      refine ⟨by dsimp only; omega, by dsimp only; omega, ?_, ?_⟩
      · unfold Sto.del
        split
        · rfl
        · exact srv_n _ _
      · unfold Sto.del
        split
        · rfl
        · exact srv_rows _ _
    · rw [step4]; exact ⟨by dsimp only; omega, by dsimp only; omega, rfl, rfl⟩
    · rw [step5]; exact ⟨by dsimp only; omega, by dsimp only; omega, rfl, rfl⟩
    · obtain ⟨a, b', c⟩ := t.s.d.sign_ok 2
      rw [step6]
      exact ⟨by show (t.s.d.sign 2).2.ops ≤ _; omega, by show (t.s.d.sign 2).2.since.length ≤ _; omega, a, rfl⟩

/-! ### ServerLists -/
def keepB (r : Rq) (e : Int) (y : Id) : Bool := decide (y ≠ r.x) || (decide (r.k ≠ 3) || decide (e ≠ 0))
def thereB (H : List Id) (x : Id) : Bool := H.any (fun y => decide (y = x))
theorem thereB_iff {H : List Id} {x : Id} : thereB H x = true ↔ x ∈ H := by
  unfold thereB
  rw [List.any_eq_true]
  constructor
  · rintro ⟨y, hy, e⟩
    rw [← of_decide_eq_true e]; exact hy
  · intro h; exact ⟨x, h, by simp⟩
def nextH (H : List Id) (r : Rq) (e : Int) : List Id := H.filter (keepB r e) ++ if r.k = 1 ∧ e = 0 ∧ thereB H r.x = false then [r.x] else []
theorem keep_all {H : List Id} {r : Rq} {e : Int} (h : r.k ≠ 3 ∨ e ≠ 0) : H.filter (keepB r e) = H := List.filter_eq_self.2 (fun y _ => by
  unfold keepB
  rcases h with h | h <;> simp [h])
theorem next_same {H : List Id} {r : Rq} {e : Int} (h : r.k ≠ 3 ∨ e ≠ 0) (h1 : r.k ≠ 1 ∨ e ≠ 0 ∨ r.x ∈ H) : nextH H r e = H := by
  unfold nextH
  rw [keep_all h, if_neg, List.append_nil]
  rintro ⟨a, b, c⟩
  rcases h1 with h1 | h1 | h1
  · exact h1 a
  · exact h1 b
  · rw [thereB_iff.2 h1] at c; cases c
structure ListsAt (t : Sto) (H : List Id) (k : Nat) : Prop where
  keep : ∃ F, Keep t F ∧ ∀ x, x ∈ H ↔ (F x).isSome = true
  nodup : H.Nodup
  rows : t.s.rows.length = 12
  len : H.length + t.room = 12
  small : t.s.d.ops ≤ 100 + 40 * k ∧ t.s.d.n = 97
theorem ListsAt.new : ∃ t d, (DS.new 97).format = ((0, some t), d) ∧ ListsAt t [] 0 := by
  obtain ⟨t, d, h1, h2, h3, h4, h5, h6⟩ := Keep.new 97 (by omega)
  refine ⟨t, d, h1, ⟨_, h2, by simp⟩, by simp, ?_, by simp; omega, by omega, h4⟩
  have := h2.kept.full.1
  omega
theorem filter_one {H : List Id} (hn : H.Nodup) {x : Id} (hx : x ∈ H) : (H.filter (fun y => decide (y ≠ x))).length + 1 = H.length := by
  induction H with
  | nil => cases hx
  | cons a l ih =>
    obtain ⟨h1, h2⟩ := List.nodup_cons.1 hn
    by_cases e : a = x
    · subst e
      rw [List.filter_cons_of_neg (by simp), List.filter_eq_self.2 (fun y hy => by
        simp
        intro e; subst e; exact h1 hy)]
      rfl
    · rw [List.filter_cons_of_pos (by simp [e]), List.length_cons, List.length_cons, ih h2 (by
        rcases List.mem_cons.1 hx with h | h
        · exact absurd h.symm e
        · exact h)]
variable {H : List Id} {k : Nat}
theorem ListsAt.step (h : ListsAt t H k) (r : Rq) : ListsAt (t.step r).2 (nextH H r (t.step r).1.e) (k + 1) := by
  obtain ⟨⟨F, hk, hm⟩, hn, hr, hl, hs, hd⟩ := h
  have hf := step_far t r (by omega)
  have hsm : (t.step r).2.s.d.ops ≤ 100 + 40 * (k + 1) ∧ (t.step r).2.s.d.n = 97 := ⟨by have := hf.ops; omega, by rw [hf.n]; exact hd⟩
  have hrw : (t.step r).2.s.rows.length = 12 := by rw [hf.rows]; exact hr
  have same : (t.step r).2 = t → nextH H r (t.step r).1.e = H → ListsAt (t.step r).2 (nextH H r (t.step r).1.e) (k + 1) := fun e1 e2 => by
    rw [e2]
    exact ⟨⟨F, by rw [e1]; exact hk, hm⟩, hn, hrw, by rw [e1]; exact hl, hsm⟩
  by_cases h0 : r.k < 1 ∨ 6 < r.k
  · exact same (by rw [step0 t r h0]) (next_same (.inl (by omega)) (.inl (by omega)))
  · obtain ⟨kk, x, b⟩ := r
    dsimp only at h0
    obtain rfl | rfl | rfl | rfl | rfl | rfl : kk = 1 ∨ kk = 2 ∨ kk = 3 ∨ kk = 4 ∨ kk = 5 ∨ kk = 6 := by omega
    · obtain ⟨F', p1, p2, p3⟩ := hk.put x b
      rcases p3 with ⟨p3, p4, p5, p6⟩ | ⟨p3, p4, p5⟩
      · have hx : x ∉ H := fun hx => by rw [hm x, p4] at hx; cases hx
        have hth : thereB H x = false := by
          cases e : thereB H x with
          | false => rfl
          | true => exact absurd (thereB_iff.1 e) hx
        have e : nextH H ⟨1, x, b⟩ (t.step ⟨1, x, b⟩).1.e = H ++ [x] := by
          unfold nextH
          rw [keep_all (.inl (by simp)), if_pos ⟨rfl, p3, hth⟩]
        rw [e]
        refine ⟨⟨F', p1, fun y => ?_⟩, ?_, hrw, ?_, hsm⟩
        · rw [p5, List.mem_append, List.mem_singleton, hm y]
          by_cases hy : y = x
          · rw [hy, setF_self]; simp
          · rw [setF_other _ _ hy]; simp [hy]
        · rw [List.nodup_append]
          refine ⟨hn, by simp, fun a ha c hc => ?_⟩
          rw [List.mem_singleton.1 hc]
          exact fun e => hx (by rw [← e]; exact ha)
        · rw [List.length_append, List.length_singleton]
          show H.length + 1 + (t.put x b).2.room = 12
          omega
      · refine same p4 (next_same (.inl (by simp)) (.inr ?_))
        by_cases he : (t.put x b).1 = 0
        · exact .inr ((hm x).2 (by rw [p3 he]; rfl))
        · exact .inl he
    · exact same rfl (next_same (.inl (by simp)) (.inl (by simp)))
    · obtain ⟨F', p1, p2, p3⟩ := hk.del x
      rcases p3 with ⟨p3, p4, p5, p6⟩ | ⟨p3, p4, p5, p6⟩
      · have e : nextH H ⟨3, x, b⟩ (t.step ⟨3, x, b⟩).1.e = H.filter (fun y => decide (y ≠ x)) := by
          unfold nextH
          rw [if_neg (by simp), List.append_nil]
          congr 1
          funext y
          show (decide (y ≠ x) || (decide ((3 : Int) ≠ 3) || decide ((t.del x).1 ≠ 0))) = _
          rw [p3]; simp
        rw [e]
        refine ⟨⟨F', p1, fun y => ?_⟩, hn.filter _, hrw, ?_, hsm⟩
        · rw [p5, List.mem_filter, hm y]
          by_cases hy : y = x
          · rw [hy, setF_self]; simp
          · rw [setF_other _ _ hy]; simp [hy]
        · show (H.filter (fun y => decide (y ≠ x))).length + (t.del x).2.room = 12
          rw [p6]
          by_cases hx : x ∈ H
          · rw [if_pos ((hm x).1 hx)]
            have := filter_one hn hx
            omega
          · rw [if_neg (fun h => hx ((hm x).2 h)), List.filter_eq_self.2 (fun y hy => by
              simp
              intro e; subst e; exact hx hy)]
            omega
      · exact same p5 (next_same (.inr (by show (t.del x).1 ≠ 0; rw [p3]; simp)) (.inl (by simp)))
    · exact same rfl (next_same (.inl (by simp)) (.inl (by simp)))
    · exact same rfl (next_same (.inl (by simp)) (.inl (by simp)))
    · obtain ⟨p1, p2, p3, p4⟩ := hk.sets
      rw [next_same (.inl (by simp)) (.inl (by simp))]
      exact ⟨⟨F, p2, hm⟩, hn, hrw, by show H.length + t.setWhole.2.room = 12; omega, hsm⟩
theorem ListsAt.ends (h : ListsAt t H k) : t.ids.length = H.length ∧ t.room = 12 - H.length ∧ ∀ x ∈ H, x ∈ t.ids := by
  obtain ⟨⟨F, hk, hm⟩, hn, hr, hl, hs⟩ := h
  have := hk.kept.ids_len
  exact ⟨by omega, by omega, fun x hx => (hk.kept.mem_ids x).2 ((hm x).1 hx)⟩

/-! ### ServerDead -/
/-! ### ServerWhole -/
/-- What Get says of a store that lives. -/
theorem Keep.gets (h : Keep t F) (x : Id) (b : List UInt8) : (t.step ⟨2, x, b⟩).1 = if mayId x = false then errRp 1 else match F x with | none => errRp (if t.whole then 6 else 15) | some c => ⟨0, c, [], 0, false⟩ := by
  rw [step2, h.kept.get x]
  by_cases hm : mayId x = false
  · rw [if_pos hm, if_pos hm]
    rfl
  · rw [if_neg hm, if_neg hm]
    cases F x with
    | none =>
      cases t.whole <;> rfl
    | some c =>
      rfl
end Go.Proofs.YtdkhmfcfihbjeaaGreatDoor.W

/- Blocks that hold no bytes; append that says what the row's block holds. -/
namespace Go.Proofs.YtdkhmfcfihbjeaaGreatDoor.W
open Go.RowKit
set_option linter.unusedVariables false
set_option linter.unusedSimpArgs false

def No8 (c : Value) : Prop := ∀ z : Int, c ≠ .int .u8 z
/-- No cell of the block is a byte. -/
def NoU8 (w : World) (x : Nat) : Prop := ∀ cs t fr, w.heap[x]? = some (.cells cs t fr) → ∀ (j : Nat) (c : Value), cs[j]? = some c → No8 c
theorem NoU8.keep {w w' : World} {x : Nat} (h : NoU8 w x) (hb : w'.heap[x]? = w.heap[x]?) : NoU8 w' x := fun cs t fr hc => h cs t fr (hb.symm.trans hc)
theorem NoU8.mk {w : World} {x t : Nat} {cs : Array Value} {fr : Nat × Nat} (h : w.heap[x]? = some (.cells cs t fr)) (hc : ∀ (j : Nat) (c : Value), cs[j]? = some c → No8 c) : NoU8 w x := fun cs' t' fr' h' => by
  rw [h] at h'
  cases h'
  exact hc
theorem NoU8.set {w : World} {x j : Nat} {u : Value} (h : NoU8 w x) (hx : x < w.heap.size) (hu : No8 u) : NoU8 (w.setCell ⟨x, j, none⟩ u) x := fun cs t fr hc k c hk => by
  have hx' := Array.getElem?_eq_getElem hx
  unfold World.setCell at hc
  rw [Array.getElem?_modify, if_pos rfl, hx'] at hc
  cases ho : w.heap[x] with
  | cells cs0 t0 fr0 =>
    rw [ho] at hc hx'
    simp at hc
    obtain ⟨rfl, rfl, rfl⟩ := hc
    rw [Array.getElem?_setIfInBounds] at hk
    by_cases hjk : j = k
    · rw [if_pos hjk] at hk
      split at hk
      · rw [← Option.some.inj hk]; exact hu
      · cases hk
    · rw [if_neg hjk] at hk
      exact h cs0 _ _ hx' k c hk
  | _ => rw [ho] at hc; simp at hc
theorem NoU8.not_bytes {w : World} {x : Nat} (h : NoU8 w x) (v : Value) (l : List UInt8) (hb : BytesAt w v l) (hl : l ≠ []) : v.ownBlock ≠ some x := fun e => by
  obtain ⟨a, cap, rfl, h1, h2, h3⟩ := hb
  have hpos : 0 < l.length := by cases l; exact absurd rfl hl; simp
  rcases h3 with ⟨h3, _⟩ | ⟨g', o, rfl, hc⟩
  · exact hl h3
  · obtain rfl : g' = x := by simpa [Value.ownBlock] using e
    have h5 := hc 0 hpos
    rw [Nat.add_zero] at h5
    unfold World.cell? at h5
    cases hx : w.heap[g']? with
    | none => simp [hx] at h5
    | some o' =>
      cases o' with
      | cells cs t fr =>
        simp [hx] at h5
        exact h cs t fr hx o _ h5 _ rfl
      | _ => simp [hx] at h5
theorem no8_slice {a : Option Addr} {n c : Nat} : No8 (.slice a n c) := fun z => by simp
theorem no8_i64 {x : Int} : No8 (.int .i64 x) := fun z => by simp
theorem no8_bool {x : Bool} : No8 (.bool x) := fun z => by simp
theorem no8_ptr {a : Option Addr} : No8 (.pointer a) := fun z => by simp
theorem no8_list {l : List Value} (h : ∀ c ∈ l, No8 c) : ∀ (j : Nat) (c : Value), l.toArray[j]? = some c → No8 c := fun j c hj => by
  rw [List.getElem?_toArray] at hj
  exact h c (List.mem_of_getElem? hj)
theorem BytesAt.no8 {w : World} {v : Value} {l : List UInt8} (h : BytesAt w v l) : No8 v := by
  obtain ⟨a, cap, rfl, _⟩ := h
  exact no8_slice
end Go.Proofs.YtdkhmfcfihbjeaaGreatDoor.W

/- A store beside others' blocks; its disk: fuse, dead, crash. -/
namespace Go.Proofs.YtdkhmfcfihbjeaaGreatDoor.W
open Go.RowKit
set_option linter.unusedVariables false
set_option linter.unusedSimpArgs false

theorem SlotsAt.keepT {w w' : World} {q p : Nat} {U T : List Nat} {s : SS} (h : SlotsAt w q p U s) (hc : Chg T w w') (ha : ∀ x ∈ U, x ∉ T) (hT : ∀ x ∈ T, ∀ v l, BytesAt w v l → l ≠ [] → v.ownBlock ≠ some x) : SlotsAt w' q p U s := by
  obtain ⟨S, rv, R, h⟩ := h
  refine ⟨S, rv, R, h.obj.keep hc (fun x hx => ha x (h.uB x hx)), h.disk.keep hc (fun x hx => ha x (h.uS x hx)), h.rows, h.sep, fun x hx => ?_, h.uS, h.uB, fun x hx => Nat.lt_of_lt_of_le (h.uL x hx) hc.size, h.ok⟩
  obtain ⟨h1, h2⟩ := h.keys x hx
  exact ⟨h1.chgW hc (fun hl k hk hm => hT k hm _ _ h1 hl hk), fun g hg => ⟨Nat.lt_of_lt_of_le (h2 g hg).1 hc.size, (h2 g hg).2⟩⟩
/-- The reference was at work beside it. -/
theorem StAt.regroup {G G' : List Nat} {w w' : World} {q p : Nat} {U T : List Nat} {t : Sto} (h : StAt G w q p U t) (hc : Chg T w w') (hT : ∀ x ∈ T, x ∈ G) (h8 : ∀ x ∈ T, NoU8 w x) (hU : ∀ x ∈ U, x ∉ G) (hG : ∀ x ∈ G', (x ∈ G ∨ w.heap.size ≤ x) ∧ x < w'.heap.size) : StAt G' w' q p U t := by
  obtain ⟨sp, mb, Us, φ, N, h, rfl⟩ := h
  have hn : ∀ x ∈ q :: mb :: Us, x ∉ T := fun x hx hm => hU x hx (hT x hm)
  refine ⟨sp, mb, Us, φ, N, ⟨hc.keep h.head (hn q (by simp)), h.slots.keepT hc (fun x hx => hn x (by simp [hx])) (fun x hx v l hb hl => (h8 x hx).not_bytes v l hb hl), h.map.chg hc (hn mb (by simp)), h.apart, fun x hx => ?_, h.ok, fun k hk => ⟨(hG k hk).2, fun y v hy hv e => ?_⟩⟩, rfl⟩
  · rcases h.vals x hx with h1 | ⟨h1, v, h2, h3, h4⟩
    · exact .inl h1
    · refine .inr ⟨h1, v, h2, h3.keep (fun g hg => hc.block g (h4 g hg).1 (fun hm => (h.far g (hT g hm)).2 x v hx h2 hg)), fun g hg => ⟨Nat.lt_of_lt_of_le (h4 g hg).1 hc.size, (h4 g hg).2⟩⟩
  · rcases (hG k hk).1 with h1 | h1
    · exact (h.far k h1).2 y v hy hv e
    · rcases h.vals y hy with ⟨_, h2⟩ | ⟨_, v', h2, _, h4⟩
      · rw [h2] at hv; cases hv
      · rw [h2] at hv
        obtain rfl := Option.some.inj hv
        have := (h4 k e).1
        omega
theorem StAt.disk {G : List Nat} {w : World} {q p : Nat} {U : List Nat} {t : Sto} (h : StAt G w q p U t) : ∃ S, DiskAt w p S t.s.d := by
  obtain ⟨sp, mb, Us, φ, N, h, rfl⟩ := h
  obtain ⟨S, rv, R, H⟩ := h.slots
  exact ⟨S, H.disk⟩
theorem StAt.fuse {G : List Nat} {w : World} {q p : Nat} {U : List Nat} {t : Sto} (h : StAt G w q p U t) (n : Int) (hn : n ≤ 9223372036854775807) :
    Calls Tryz.prog 18 #[.pointer (some ⟨p, 0, none⟩), .int .i64 n] w fun e w' => e = .returned (.tuple #[]) ∧ Std G w w' q p U ⟨{ t.s with d := t.s.d.setFuse n }, t.whole⟩ := by
  obtain ⟨sp, mb, Us, φ, N, h, rfl⟩ := h
  obtain ⟨S, rv, R, H⟩ := h.slots
  refine (dfuse_any p S t.s.d n w H.disk hn).mono fun e w' ⟨h1, h2⟩ => ⟨h1, ?_⟩
  obtain ⟨Us', g1, g2, g3⟩ := h.slotsDid (SlotsAt.did H h2 rfl) rfl
  exact g1.std g2 (g3.mono (fun y hy => .inl (by simp [hy])))
theorem StAt.dead {G : List Nat} {w : World} {q p : Nat} {U : List Nat} {t : Sto} (h : StAt G w q p U t) : Calls Tryz.prog 38 #[.pointer (some ⟨p, 0, none⟩)] w fun e w' => e = .returned (.bool t.s.d.dead) ∧ w = w' := by
  obtain ⟨S, hd⟩ := h.disk
  exact ddead_any p S t.s.d w hd
end Go.Proofs.YtdkhmfcfihbjeaaGreatDoor.W

/- Package server: the deeds. -/
namespace Go.Proofs.YtdkhmfcfihbjeaaGreatDoor.W
open Go.RowKit
set_option linter.unusedVariables false
set_option linter.unusedSimpArgs false

/-! ### Requests and replies in memory -/
/-- A reply, its rows new since w0. -/
def RpAt (w0 w : World) (v : Value) (o : Rp) : Prop := ∃ bv iv, v = rpV o.e bv iv o.room o.whole ∧ BytesAt w bv o.b ∧ (∀ k, bv.ownBlock = some k → w0.heap.size ≤ k) ∧ w.ownsRow w0.heap.size 38 4 iv o.ids.length (o.ids.flatMap idE)
theorem RpAt.keep {w0 w w' : World} {v : Value} {o : Rp} (h : RpAt w0 w v o) {T : List Nat} (hc : Chg T w w') (hT : ∀ x ∈ T, ∀ bv iv, v = rpV o.e bv iv o.room o.whole → bv.ownBlock ≠ some x ∧ iv.ownBlock ≠ some x) : RpAt w0 w' v o := by
  obtain ⟨bv, iv, h1, h2, h3, h4⟩ := h
  exact ⟨bv, iv, h1, h2.chg hc (fun k hk hm => (hT k hm bv iv h1).1 hk), h3, row_keep h4 (fun g hg => hc.block g (World.ownsRow.lt h4 g hg).2 (fun hm => (hT g hm bv iv h1).2 hg))⟩
theorem RpAt.err {w0 w : World} (e : Int) : RpAt w0 w (rpV e (.slice none 0 0) (.slice none 0 0) 0 false) (errRp e) :=
  ⟨_, _, rfl, BytesAt.nil _, by simp [Value.ownBlock], World.ownsRow_nil _ _ _ _⟩
theorem ret_rp {fn : Func} {p : Tmp} (h : fn.results = #[.cell p 32]) (tmps : Array Value) {w : World} {b t : Nat} {e room : Int} {bv iv : Value} {wh : Bool} (hp : tmps.getD p undef = .pointer (some ⟨b, 0, none⟩)) (hb : w.heap[b]? = some (.cells (rpL e bv iv room wh).toArray t (0, 0))) :
    (results fn tmps).run Tryz.prog w = .ok (rpV e bv iv room wh) w := by
  have hl := run_loadVar_row (P := Tryz.prog) w b t 32 (rpL e bv iv room wh).toArray (0, 0) _ hb Tryz.underlying32 rfl (rp_size _ _ _ _ _)
  have he : (results fn tmps).run Tryz.prog w = ((asAddr (tmps.getD p undef)).run Tryz.prog w).andThen fun a w₁ => (loadVar 32 a).run Tryz.prog w₁ := by
    simp only [results, h]
    simp [Sem.run_bind, Result.andThen]
  rw [he, hp]
  simp only [asAddr, Sem.run_pure, Result.andThen_ok, hl]
  rfl
theorem zeroRp_no8 {w : World} {b t : Nat} (h : w.heap[b]? = some (.cells zeroRp t (0, 0))) : NoU8 w b := NoU8.mk h (by
  unfold zeroRp
  refine no8_list (l := [.int .i64 0, .slice none 0 0, .slice none 0 0, .int .i64 0, .bool false]) (fun c hc => ?_)
  simp only [List.mem_cons, List.mem_nil_iff, or_false] at hc
  rcases hc with rfl | rfl | rfl | rfl | rfl <;> (intro z; simp))

/-! ### Beside the caller's own blocks -/
section
variable {G T U : List Nat} {w w2 w3 w4 : World} {q p : Nat} {t t' : Sto}
theorem StAt.gl (h : StAt G w q p U t) : ∀ x ∈ G, x < w.heap.size := by
  obtain ⟨sp, mb, Us, φ, N, h, rfl⟩ := h
  exact fun x hx => (h.far x hx).1
theorem StAt.with (h : StAt G w q p U t) (hU : ∀ x ∈ U, x ∉ G) (h2 : Chg [] w w2) (hT : ∀ x ∈ T, w.heap.size ≤ x ∧ x < w2.heap.size) : StAt (T ++ G) w2 q p U t :=
  h.regroup (T := []) h2 (by simp) (by simp) hU (fun x hx => by
    rcases List.mem_append.1 hx with hx | hx
    · exact ⟨.inr (hT x hx).1, (hT x hx).2⟩
    · exact ⟨.inl hx, Nat.lt_of_lt_of_le (h.gl x hx) h2.size⟩)
/-- What a call left beside blocks of the caller's own, which are then written. -/
theorem Std.local (hG : ∀ x ∈ G, x < w.heap.size) (hU : ∀ x ∈ U, x ∉ G) (hl : ∀ x ∈ U, x < w.heap.size) (h2 : Chg [] w w2) (hT : ∀ x ∈ T, w.heap.size ≤ x ∧ x < w2.heap.size) (hs : Std (T ++ G) w2 w3 q p U t') (h8 : ∀ x ∈ T, NoU8 w3 x) (hc : Chg T w3 w4) : Std G w w4 q p U t' := by
  obtain ⟨U', a1, a2, a3⟩ := hs
  have hz := h2.size
  have hUT : ∀ x ∈ U', x ∉ T ++ G := fun x hx hm => by
    rcases a2 x hx with h | h
    · rcases List.mem_append.1 hm with hm | hm
      · have := hl x h; have := (hT x hm).1; omega
      · exact hU x h hm
    · rcases List.mem_append.1 hm with hm | hm
      · have := (hT x hm).2; omega
      · have := hG x hm; omega
  refine ⟨U', a1.regroup hc (fun x hx => List.mem_append_left _ hx) h8 hUT (fun x hx => ⟨.inl (List.mem_append_right _ hx), ?_⟩), fun x hx => ?_, ((h2.mono (T := U) (by simp)).trans a3 (fun x hx => .inl hx)).trans hc (fun x hx => .inr (hT x hx).1)⟩
  · have := hG x hx; have := a3.size; have := hc.size; omega
  · rcases a2 x hx with h | h
    · exact .inl h
    · exact .inr (by omega)
theorem Std.blk {b : Nat} {o : Obj} (hs : Std G w2 w3 q p U t') (hb : w2.heap[b]? = some o) (hU : b ∉ U) : w3.heap[b]? = some o := by
  obtain ⟨U', a1, a2, a3⟩ := hs
  exact a3.keep hb hU
/-- What a deed answers, and what it leaves. -/
def DeedPost (G : List Nat) (w : World) (q p : Nat) (U : List Nat) (o : Rp) (t' : Sto) (e : Ending) (w' : World) : Prop := ∃ v, e = .returned v ∧ RpAt w w' v o ∧ Std G w w' q p U t'
/-- A server in memory. -/
structure SvAt (G : List Nat) (w : World) (z q p : Nat) (U : List Nat) (t : Sto) : Prop where
  head : w.heap[z]? = some (.cells #[.pointer (some ⟨q, 0, none⟩)] 87 (0, 0))
  st : StAt G w q p U t
  out : z ∉ U
  far : ∀ x ∈ U, x ∉ G
theorem SvAt.keep0 {z : Nat} (h : SvAt G w z q p U t) (hc : Chg [] w w2) : SvAt G w2 z q p U t := ⟨hc.keep h.head (by simp), h.st.keep0 hc, h.out, h.far⟩
end

/-- The request's and the reply's own blocks, as a deed begins. -/
structure Begun (w w2 : World) (r : Rq) (bv : Value) : Prop where
  chg : Chg [] w w2
  rq : w2.heap[w.heap.size]? = some (.cells (rqL r bv).toArray 40 (0, 0))
  rp : w2.heap[w.heap.size + 1]? = some (.cells zeroRp 32 (0, 0))
theorem begun_of (w : World) (r : Rq) (bv : Value) : Begun w ((w.alloc (.cells (rqL r bv).toArray 40)).alloc (.cells zeroRp 32)) r bv :=
  ⟨((Chg.refl [] w).alloc _).alloc _, blk_alloc (heap_alloc_new w _), heap_at (by simp)⟩
section
variable {G U : List Nat} {z q p : Nat} {t : Sto}
/-- How a deed begins, all that its walk asks. -/
structure Begins (G : List Nat) (w w2 : World) (z q p : Nat) (U : List Nat) (t : Sto) (r : Rq) (bv : Value) : Prop where
  chg : Chg [] w w2
  head : w2.heap[z]? = some (.cells #[.pointer (some ⟨q, 0, none⟩)] 87 (0, 0))
  rq : w2.heap[w.heap.size]? = some (.cells (rqL r bv).toArray 40 (0, 0))
  rp : w2.heap[w.heap.size + 1]? = some (.cells zeroRp 32 (0, 0))
  st : StAt ([w.heap.size + 1] ++ G) w2 q p U t
  out : w.heap.size + 1 ∉ U
  new : ∀ x ∈ [w.heap.size + 1], w.heap.size ≤ x ∧ x < w2.heap.size
theorem SvAt.begins {w : World} (h : SvAt G w z q p U t) (r : Rq) (bv : Value) : Begins G w ((w.alloc (.cells (rqL r bv).toArray 40)).alloc (.cells zeroRp 32)) z q p U t r bv := by
  have B := begun_of w r bv
  generalize ((w.alloc (.cells (rqL r bv).toArray 40)).alloc (.cells zeroRp 32)) = w2 at *
  have hT : ∀ x ∈ [w.heap.size + 1], w.heap.size ≤ x ∧ x < w2.heap.size := fun x hx => by
    rw [List.mem_singleton.1 hx]
    exact ⟨by omega, blk_lt B.rp⟩
  exact ⟨B.chg, B.chg.keep h.head (by simp), B.rq, B.rp, h.st.with h.far B.chg hT, fun hm => by have := h.st.lim _ hm; omega, hT⟩
theorem Begins.drew {w w2 : World} {r : Rq} {bv : Value} (h : Begins G w w2 z q p U t r bv) : Begins G w w2.drew z q p U t r bv :=
  ⟨h.chg.drew, h.head, h.rq, h.rp, h.st.keep0 ((Chg.refl [] w2).drew), h.out, h.new⟩
/-- How a deed ends: its reply is laid down. -/
theorem Begins.ends {w w2 w3 : World} {r : Rq} {bv : Value} {t' : Sto} (hb : Begins G w w2 z q p U t r bv) (h : SvAt G w z q p U t) (hs : Std ([w.heap.size + 1] ++ G) w2 w3 q p U t') (u : List Value) : Std G w (w3.setCells (w.heap.size + 1) 0 u) q p U t' :=
  Std.local h.st.gl h.far h.st.lim hb.chg hb.new hs (fun x hx => by
    rw [List.mem_singleton.1 hx]
    exact zeroRp_no8 (hs.blk hb.rp hb.out)) ((Chg.refl _ w3).setCells (.inl (by simp)) u)
theorem rp_all (e : Int) (a c : Option Addr) (b d f g : Nat) (room : Int) (wh : Bool) : (rpL e (.slice a b f) (.slice c d g) room wh).toArray.all (·.oneCell') = true := all_oneCell_toArray (fun v hv => by
  simp only [rpL, List.mem_cons, List.mem_nil_iff, or_false] at hv
  rcases hv with rfl | rfl | rfl | rfl | rfl <;> rfl)
theorem err_all (e : Int) : (rpL e (.slice none 0 0) (.slice none 0 0) 0 false).toArray.all (·.oneCell') = true := rp_all e none none 0 0 0 0 0 false

set_option maxHeartbeats 4000000 in
set_option maxRecDepth 100000 in
theorem svput_any (r : Rq) (bv : Value) (w : World) (h : SvAt G w z q p U t) (hx : okD r.x) (hb : BytesAt w bv r.b) (hbU : r.b ≠ [] → ∀ k, bv.ownBlock = some k → k ∉ U) (hbl : r.b.length ≤ 1000000) (ho : t.s.d.ops ≤ 900000000) (hw : t.s.d.since.length ≤ 900000) :
    Calls Tryz.prog 82 #[.pointer (some ⟨z, 0, none⟩), rqV r bv] w (DeedPost G w q p U (errRp (t.put r.x r.b).1) (t.put r.x r.b).2) := by
  have HE0 := Lib.hid (h.begins r bv)
  obtain ⟨w2, hw2⟩ : ∃ w2, w2 = (w.alloc (.cells (rqL r bv).toArray 40)).alloc (.cells zeroRp 32) := ⟨_, rfl⟩
  rw [← hw2] at HE0
  have HE := Lib.hid HE0.out.drew
  have CP := Lib.hid (stput_any q p U t r.x bv r.b w2.drew HE.out.st hx ((hb.chg HE0.out.chg (by simp)).keep (fun _ _ => rfl)) hbU hbl ho hw)
  have c0 := blk_cell HE0.out.head 0 _ rfl
  obtain ⟨B, hB⟩ : ∃ B, B = w.heap.size := ⟨_, rfl⟩
  have hrq := HE0.out.rq
  rw [← hB] at hrq
  have q1 := blk_cell hrq 1 _ rfl
  have q2 := blk_cell hrq 2 _ rfl
  have q3 := blk_cell hrq 3 _ rfl
  have q4 := blk_cell hrq 4 _ rfl
  have q5 := blk_cell hrq 5 _ rfl
  have HH := Lib.hid h
  have HW2 := Lib.hid hw2
  have HB := Lib.hid hB
  obtain ⟨o, hoe⟩ : ∃ o, o = t.put r.x r.b := ⟨_, rfl⟩
  rw [← hoe] at CP
  rw [← hoe]
  obtain ⟨k, ⟨xc, xl, xn, xi⟩, b⟩ := r
  obtain ⟨ba, bc, hbv⟩ := hb.slice
  subst hbv
  clear hw2 hB hrq HE0 h hx hb hbU hoe
  unfold rqV rqL
  unfold rqL at HW2
  unfold idV idC at CP
  dsimp only at CP q1 q2 q3 q4 q5
  go_enter Tryz.func82, Tryz.ntmps82
  go_wp2_with fail
  rw [← HB.out]
  rw [show zeroRp = #[.int .i64 0, .slice none 0 0, .slice none 0 0, .int .i64 0, .bool false] from rfl] at HW2
  rw [← HW2.out]
  refine wp_region_L [(8, fun w' => w'.cell? ⟨z, 0, none⟩ = some (.pointer (some ⟨q, 0, none⟩))), (8, fun w' => (w'.cell? ⟨B, 1, none⟩ = some (.int .i64 xc) ∧ w'.cell? ⟨B, 2, none⟩ = some (.int .i64 xl) ∧ w'.cell? ⟨B, 3, none⟩ = some (.int .i64 xn) ∧ w'.cell? ⟨B, 4, none⟩ = some (.int .i64 xi))), (8, fun w' => w'.cell? ⟨B, 5, none⟩ = some (.slice ba b.length bc))] (by kernel_rfl) ?_ (fun hHeld => ?_)
  · exact (HoldC.cons (c0) (HoldC.cons (⟨q1, q2, q3, q4⟩) (HoldC.cons (q5) HoldC.nil)))
  refine wpAnyL_take (i := 0) (oi := _) (v := ?_) rfl (by kernel_rfl) (by kernel_rfl) (by kernel_rfl) (by kernel_rfl) (by kernel_rfl) (fun _ _ _ h => h) (Or.inl ⟨by rfl, ?_⟩) (by assumption) (fun hNew => ?_)
  rotate_left
  · intro w _
    go_simp
    try with_reducible rfl
  clear hHeld
  have hHeld := hNew
  clear hNew
  try simp only [List.getElem_toArray, List.getElem_cons_succ, List.getElem_cons_zero, Act.put, List.setIfInBounds_toArray, List.set_cons_zero, List.set_cons_succ]
  refine wpAnyL_take (i := 1) (oi := _) (v := ?_) rfl (by kernel_rfl) (by kernel_rfl) (by kernel_rfl) (by kernel_rfl) (by kernel_rfl) (fun _ _ _ h => h) (Or.inl ⟨by rfl, ?_⟩) (by assumption) (fun hNew => ?_)
  rotate_left
  · intro w _
    go_simp
    try with_reducible rfl
  clear hHeld
  have hHeld := hNew
  clear hNew
  try simp only [List.getElem_toArray, List.getElem_cons_succ, List.getElem_cons_zero, Act.put, List.setIfInBounds_toArray, List.set_cons_zero, List.set_cons_succ]
  refine wpAnyL_take (i := 2) (oi := _) (v := ?_) rfl (by kernel_rfl) (by kernel_rfl) (by kernel_rfl) (by kernel_rfl) (by kernel_rfl) (fun _ _ _ h => h) (Or.inl ⟨by rfl, ?_⟩) (by assumption) (fun hNew => ?_)
  rotate_left
  · intro w _
    go_simp
    try with_reducible rfl
  clear hHeld
  have hHeld := hNew
  clear hNew
  try simp only [List.getElem_toArray, List.getElem_cons_succ, List.getElem_cons_zero, Act.put, List.setIfInBounds_toArray, List.set_cons_zero, List.set_cons_succ]
  refine wpAnyL_take (i := 4) (oi := _) (v := ?_) rfl (by kernel_rfl) (by kernel_rfl) (by kernel_rfl) (by kernel_rfl) (by kernel_rfl) (fun _ _ _ h => h) (Or.inl ⟨by rfl, ?_⟩) (by assumption) (fun hNew => ?_)
  rotate_left
  · intro w _
    go_simp
    try with_reducible rfl
  clear hHeld
  have hHeld := hNew
  clear hNew
  try simp only [List.getElem_toArray, List.getElem_cons_succ, List.getElem_cons_zero, Act.put, List.setIfInBounds_toArray, List.set_cons_zero, List.set_cons_succ]
  refine wpAnyL_take (i := 6) (oi := _) (v := ?_) rfl (by kernel_rfl) (by kernel_rfl) (by kernel_rfl) (by kernel_rfl) (by kernel_rfl) (fun _ _ _ h => h) (Or.inl ⟨by rfl, ?_⟩) (by assumption) (fun hNew => ?_)
  rotate_left
  · intro w _
    go_simp
    try with_reducible rfl
  clear hHeld
  have hHeld := hNew
  clear hNew
  try simp only [List.getElem_toArray, List.getElem_cons_succ, List.getElem_cons_zero, Act.put, List.setIfInBounds_toArray, List.set_cons_zero, List.set_cons_succ]
  refine wpAnyL_load 0 (i := 3) (oi := _) (v := ?_) rfl rfl (by kernel_rfl) (by kernel_rfl) (by kernel_rfl) (by kernel_rfl) (by kernel_rfl) (by kernel_rfl) (fun _ _ _ h => h) (Or.inl ⟨by rfl, ?_⟩) (by assumption) (fun hNew => ?_)
  rotate_left
  · intro w hSw
    (try dsimp only at hSw)
    go_simp
    try with_reducible rfl
  clear hHeld
  have hHeld := hNew
  clear hNew
  try simp only [List.getElem_toArray, List.getElem_cons_succ, List.getElem_cons_zero, Act.put, List.setIfInBounds_toArray, List.set_cons_zero, List.set_cons_succ]
  refine wpAnyL_load 1 (i := 5) (oi := _) (v := ?_) rfl rfl (by kernel_rfl) (by kernel_rfl) (by kernel_rfl) (by kernel_rfl) (by kernel_rfl) (by kernel_rfl) (fun _ _ _ h => h) (Or.inl ⟨by rfl, ?_⟩) (by assumption) (fun hNew => ?_)
  rotate_left
  · intro w hSw
    (try dsimp only at hSw)
    go_simp
    try with_reducible rfl
  clear hHeld
  have hHeld := hNew
  clear hNew
  try simp only [List.getElem_toArray, List.getElem_cons_succ, List.getElem_cons_zero, Act.put, List.setIfInBounds_toArray, List.set_cons_zero, List.set_cons_succ]
  refine wpAnyL_load 2 (i := 7) (oi := _) (v := ?_) rfl rfl (by kernel_rfl) (by kernel_rfl) (by kernel_rfl) (by kernel_rfl) (by kernel_rfl) (by kernel_rfl) (fun _ _ _ h => h) (Or.inl ⟨by rfl, ?_⟩) (by assumption) (fun hNew => ?_)
  rotate_left
  · intro w hSw
    (try dsimp only at hSw)
    go_simp
    try with_reducible rfl
  clear hHeld
  have hHeld := hNew
  clear hNew
  try simp only [List.getElem_toArray, List.getElem_cons_succ, List.getElem_cons_zero, Act.put, List.setIfInBounds_toArray, List.set_cons_zero, List.set_cons_succ]
  refine wpAnyL_ready (rs := [8]) (by kernel_rfl) (by simp) ?_
  refine AllReadyL.cons (o := _) rfl (fun K hK => ?_) AllReadyL.nil
  try simp only [List.getElem_toArray, List.getElem_cons_succ, List.getElem_cons_zero]
  go_simp
  refine CP.out.mono ?_
  rintro e w3 ⟨rfl, hs3⟩
  have hz3 := hs3.blk HE.out.rp HE.out.out
  rw [← HB.out] at hz3
  have HZ := Lib.hid (five_set hz3 (.int .i64 o.1) (.slice none 0 0) (.slice none 0 0) (.int .i64 0) (.bool false))
  have HTH := Lib.hid (five_there hz3 _ rfl)
  have HS := Lib.hid (HE.out.ends HH.out hs3 (rpL o.1 (.slice none 0 0) (.slice none 0 0) 0 false))
  rw [← HB.out] at HS
  clear hz3 hs3 CP c0 q1 q2 q3 q4 q5
  clear hHeld
  refine hK.out _ _ ?_ (fun hHeld => ?_)
  · exact (HoldC.past (by kernel_rfl) (HoldC.past (by kernel_rfl) (HoldC.past (by kernel_rfl) HoldC.nil)))
  clear hK K
  try simp only [List.getElem_toArray, List.getElem_cons_succ, List.getElem_cons_zero, Act.put, List.setIfInBounds_toArray, List.set_cons_zero, List.set_cons_succ]
  refine wpAnyL_take (i := 9) (oi := _) (v := ?_) rfl (by kernel_rfl) (by kernel_rfl) (by kernel_rfl) (by kernel_rfl) (by kernel_rfl) (fun _ _ _ h => h) (Or.inl ⟨by rfl, ?_⟩) (by assumption) (fun hNew => ?_)
  rotate_left
  · intro w _
    go_simp
    try with_reducible rfl
  clear hHeld
  have hHeld := hNew
  clear hNew
  try simp only [List.getElem_toArray, List.getElem_cons_succ, List.getElem_cons_zero, Act.put, List.setIfInBounds_toArray, List.set_cons_zero, List.set_cons_succ]
  refine wpAnyL_ready (rs := [10]) (by kernel_rfl) (by simp) ?_
  refine AllReadyL.cons (o := _) rfl (fun K hK => ?_) AllReadyL.nil
  try simp only [List.getElem_toArray, List.getElem_cons_succ, List.getElem_cons_zero]
  rw [if_pos (by rfl)]
  refine wp_store_mid 32 (.tmp 4) (.tmp 14) (by rfl) (B + 1) 0 (rpL o.1 (.slice none 0 0) (.slice none 0 0) 0 false).toArray (by rfl) (by rfl) HTH.out (rp_size _ _ _ _ _) (err_all _) ?_
  clear hHeld
  refine hK.out _ _ ?_ (fun hHeld => ?_)
  · exact (HoldC.past (by kernel_rfl) (HoldC.past (by kernel_rfl) (HoldC.past (by kernel_rfl) HoldC.nil)))
  clear hK K
  try simp only [List.getElem_toArray, List.getElem_cons_succ, List.getElem_cons_zero, Act.put, List.setIfInBounds_toArray, List.set_cons_zero, List.set_cons_succ]
  refine wpAnyL_done (by kernel_rfl) ?_ _
  clear hHeld
  go_wp2
  exact bodyPost_ret (ret_rp rfl _ rfl HZ.out) rfl ⟨_, rfl, RpAt.err _, HS.out⟩
end
end Go.Proofs.YtdkhmfcfihbjeaaGreatDoor.W

/- The reference's disk in memory; op. -/
namespace Go.Proofs.YtdkhmfcfihbjeaaGreatDoor.W
open Go.RowKit
set_option linter.unusedVariables false
set_option linter.unusedSimpArgs false

def rrows (n : Nat) (nv lv av wv : Value) (NV LV AV WV : List Value) : List RowD := [⟨30, 1, nv, n, NV⟩, ⟨30, 1, lv, n, LV⟩, ⟨3, 1, av, AV.length, AV⟩, ⟨30, 1, wv, WV.length, WV⟩]
def rcs (d : DS) (nv lv av wv : Value) : Array Value := #[nv, lv, av, wv, .int .i64 (d.ops : Int), .int .i64 d.fuse, .bool d.dead]
/-- The reference's disk in block m; V: what may be written; F: all its blocks. -/
structure RDiskOk (w : World) (m : Nat) (V F : List Nat) (d : DS) (nv lv av wv : Value) (NV LV AV WV : List Value) : Prop where
  obj : ObjAt w m 134 (rcs d nv lv av wv) (rrows d.n nv lv av wv NV LV AV WV)
  now : ∀ k, k < d.n → (d.now k).length = 64 ∧ BytesAt w (NV.getD k undef) (d.now k) ∧ ∀ g, (NV.getD k undef).ownBlock = some g → g ∈ F ∧ g ∉ V
  lasts : ∀ c ∈ LV, No8 c
  ats : (∀ c ∈ AV, No8 c) ∧ AV.length ≤ d.since.length
  wrote : (∀ c ∈ WV, No8 c) ∧ WV.length ≤ d.since.length
  few : d.n ≤ 4160
  fuse : -1 ≤ d.fuse ∧ d.fuse ≤ 9223372036854775807
  mem : V = blks m (rrows d.n nv lv av wv NV LV AV WV)
  no8 : ∀ x ∈ V, NoU8 w x
  sub : ∀ x ∈ V, x ∈ F
  lim : ∀ x ∈ F, x < w.heap.size
def RDiskAt (w : World) (m : Nat) (V F : List Nat) (d : DS) : Prop := ∃ nv lv av wv NV LV AV WV, RDiskOk w m V F d nv lv av wv NV LV AV WV
theorem RDiskAt.keep {w w' : World} {m : Nat} {V F T : List Nat} {d : DS} (h : RDiskAt w m V F d) (hc : Chg T w w') (ha : ∀ x ∈ F, x ∉ T) : RDiskAt w' m V F d := by
  obtain ⟨nv, lv, av, wv, NV, LV, AV, WV, h⟩ := h
  refine ⟨nv, lv, av, wv, NV, LV, AV, WV, h.obj.keep hc (fun x hx => ha x (h.sub x (by rw [h.mem]; exact hx))), fun k hk => ?_, h.lasts, h.ats, h.wrote, h.few, h.fuse, h.mem, fun x hx => (h.no8 x hx).keep (hc.block x (h.lim x (h.sub x hx)) (ha x (h.sub x hx))), h.sub, fun x hx => Nat.lt_of_lt_of_le (h.lim x hx) hc.size⟩
  obtain ⟨h1, h2, h3⟩ := h.now k hk
  exact ⟨h1, h2.chg hc (fun g hg => ha g (h3 g hg).1), h3⟩
theorem RDiskOk.keep0 {w w' : World} {m : Nat} {V F : List Nat} {d : DS} {nv lv av wv : Value} {NV LV AV WV : List Value} (h : RDiskOk w m V F d nv lv av wv NV LV AV WV) (hc : Chg [] w w') : RDiskOk w' m V F d nv lv av wv NV LV AV WV := by
  refine ⟨h.obj.keep hc (by simp), fun k hk => ?_, h.lasts, h.ats, h.wrote, h.few, h.fuse, h.mem, fun x hx => (h.no8 x hx).keep (hc.block x (h.lim x (h.sub x hx)) (by simp)), h.sub, fun x hx => Nat.lt_of_lt_of_le (h.lim x hx) hc.size⟩
  obtain ⟨h1, h2, h3⟩ := h.now k hk
  exact ⟨h1, h2.chg hc (by simp), h3⟩
theorem RDiskAt.lim {w : World} {m : Nat} {V F : List Nat} {d : DS} (h : RDiskAt w m V F d) : (∀ x ∈ F, x < w.heap.size) ∧ (∀ x ∈ V, x ∈ F) ∧ ∀ x ∈ V, NoU8 w x := by
  obtain ⟨nv, lv, av, wv, NV, LV, AV, WV, h⟩ := h
  exact ⟨h.lim, h.sub, h.no8⟩
/-- What doing with it leaves. -/
def RDid (w w' : World) (m : Nat) (V F : List Nat) (d : DS) : Prop := ∃ V' F', RDiskAt w' m V' F' d ∧ (∀ x ∈ V', x ∈ V ∨ w.heap.size ≤ x) ∧ (∀ x ∈ F', x ∈ F ∨ w.heap.size ≤ x) ∧ Chg V w w'
theorem RDid.same {w : World} {m : Nat} {V F : List Nat} {d : DS} (h : RDiskAt w m V F d) : RDid w w m V F d := ⟨V, F, h, fun x hx => .inl hx, fun x hx => .inl hx, Chg.refl _ _⟩
theorem RDid.glue {w w1 w2 : World} {m : Nat} {V F V1 F1 : List Nat} {d : DS} (hv : ∀ x ∈ V1, x ∈ V ∨ w.heap.size ≤ x) (hf : ∀ x ∈ F1, x ∈ F ∨ w.heap.size ≤ x) (hc : Chg V w w1) (h : RDid w1 w2 m V1 F1 d) : RDid w w2 m V F d := by
  obtain ⟨V2, F2, b1, b2, b3, b4⟩ := h
  refine ⟨V2, F2, b1, fun x hx => ?_, fun x hx => ?_, hc.trans b4 hv⟩
  · rcases b2 x hx with h | h
    · exact hv x h
    · exact .inr (Nat.le_trans hc.size h)
  · rcases b3 x hx with h | h
    · exact hf x h
    · exact .inr (Nat.le_trans hc.size h)
theorem RDid.pre {w0 w w' : World} {m : Nat} {V F : List Nat} {d : DS} (hc : Chg [] w0 w) (h : RDid w w' m V F d) : RDid w0 w' m V F d := RDid.glue (fun x hx => .inl hx) (fun x hx => .inl hx) (hc.mono (by simp)) h
theorem RDid.trans {w w1 w2 : World} {m : Nat} {V F : List Nat} {d1 d2 : DS} (h1 : RDid w w1 m V F d1) (h2 : ∀ V1 F1, RDiskAt w1 m V1 F1 d1 → RDid w1 w2 m V1 F1 d2) : RDid w w2 m V F d2 := by
  obtain ⟨V1, F1, a1, a2, a3, a4⟩ := h1
  exact RDid.glue a2 a3 a4 (h2 V1 F1 a1)
theorem RDiskOk.head {w : World} {m : Nat} {V F : List Nat} {d : DS} {nv lv av wv : Value} {NV LV AV WV : List Value} (h : RDiskOk w m V F d nv lv av wv NV LV AV WV) : w.heap[m]? = some (.cells #[nv, lv, av, wv, .int .i64 (d.ops : Int), .int .i64 d.fuse, .bool d.dead] 134 (0, 0)) := h.obj.head
/-- A store into a counter. -/
theorem RDiskOk.put {w w' : World} {m : Nat} {V F : List Nat} {d d' : DS} {nv lv av wv : Value} {NV LV AV WV : List Value} (h : RDiskOk w m V F d nv lv av wv NV LV AV WV) (hc : Chg [m] w w') (hn : NoU8 w' m)
    (hh : w'.heap[m]? = some (.cells (rcs d' nv lv av wv) 134 (0, 0))) (e1 : d'.n = d.n) (e2 : d'.now = d.now) (e3 : d'.since = d.since) (e5 : -1 ≤ d'.fuse ∧ d'.fuse ≤ 9223372036854775807) : RDid w w' m V F d' := by
  have hmV : m ∈ V := by rw [h.mem]; exact blks_head
  have hNV : ∀ k, k < d.n → ∀ g, (NV.getD k undef).ownBlock = some g → g ∉ [m] := fun k hk g hg hm => (h.now k hk).2.2 g hg |>.2 (by rw [List.mem_singleton.1 hm]; exact hmV)
  refine ⟨V, F, ⟨nv, lv, av, wv, NV, LV, AV, WV, ⟨hh, fun r hr => ?_, by rw [e1]; exact h.obj.apart⟩, fun k hk => ?_, h.lasts, by rw [e3]; exact h.ats, by rw [e3]; exact h.wrote, by rw [e1]; exact h.few, e5, by rw [e1]; exact h.mem, fun x hx => ?_, h.sub, fun x hx => Nat.lt_of_lt_of_le (h.lim x hx) hc.size⟩, fun x hx => .inl hx, fun x hx => .inl hx, hc.mono (fun x hx => .inl (by rw [List.mem_singleton.1 hx]; exact hmV))⟩
  · rw [e1] at hr
    exact row_keep (h.obj.rows r hr) (fun g hg => hc.block g (World.ownsRow.lt (h.obj.rows r hr) g hg).2 (by
      intro hm
      exact h.obj.row_ne hr hg (List.mem_singleton.1 hm)))
  · rw [e1] at hk
    rw [e2]
    obtain ⟨h1, h2, h3⟩ := h.now k hk
    exact ⟨h1, h2.chg hc (hNV k hk), h3⟩
  · by_cases hxm : x = m
    · rw [hxm]; exact hn
    · exact (h.no8 x hx).keep (hc.block x (h.lim x (h.sub x hx)) (by simp; exact hxm))

end Go.Proofs.YtdkhmfcfihbjeaaGreatDoor.W

/- The reference's disk: its fields are set. -/
namespace Go.Proofs.YtdkhmfcfihbjeaaGreatDoor.W
open Go.RowKit
set_option linter.unusedVariables false
set_option linter.unusedSimpArgs false

/-- A field that is a row is another row: grown, or new. -/
theorem ObjAt.field {w w2 : World} {p t : Nat} {cs : Array Value} {a b : List RowD} {r r' : RowD} (h : ObjAt w p t cs (a ++ r :: b)) (j : Nat) (hg : w.grownBy w2 r.v.ownBlock) (hrow : r'.At w2)
    (hat : ∀ k, r'.v.ownBlock = some k → r.v.ownBlock = some k ∨ w.heap.size ≤ k) : ObjAt (w2.setCell ⟨p, j, none⟩ r'.v) p t (cs.setIfInBounds j r'.v) (a ++ r' :: b) ∧ (∀ x ∈ blks p (a ++ r' :: b), x ∈ blks p (a ++ r :: b) ∨ w.heap.size ≤ x) ∧ Chg (blks p (a ++ r :: b)) w (w2.setCell ⟨p, j, none⟩ r'.v) := by
  obtain ⟨g1, g2, g3⟩ := h.grow hg hrow hat
  exact ⟨g1.setHead j r'.v, g2, g3.setCell (p := ⟨p, j, none⟩) (.inl blks_head) _⟩
theorem RDiskOk.turn {w w3 : World} {m : Nat} {V F : List Nat} {d d' : DS} {nv lv av wv av' wv' : Value} {NV LV AV WV AV' WV' : List Value} (h : RDiskOk w m V F d nv lv av wv NV LV AV WV)
    (hobj : ObjAt w3 m 134 (rcs d' nv lv av' wv') (rrows d'.n nv lv av' wv' NV LV AV' WV')) (hb : ∀ x ∈ blks m (rrows d'.n nv lv av' wv' NV LV AV' WV'), x ∈ V ∨ w.heap.size ≤ x) (hc : Chg V w w3)
    (h8 : ∀ x ∈ blks m (rrows d'.n nv lv av' wv' NV LV AV' WV'), NoU8 w3 x) (en : d'.n = d.n) (enow : d'.now = d.now) (ef : d'.fuse = d.fuse) (hA : (∀ c ∈ AV', No8 c) ∧ AV'.length ≤ d'.since.length) (hW : (∀ c ∈ WV', No8 c) ∧ WV'.length ≤ d'.since.length) :
    RDiskOk w3 m (blks m (rrows d'.n nv lv av' wv' NV LV AV' WV')) (F ++ blks m (rrows d'.n nv lv av' wv' NV LV AV' WV')) d' nv lv av' wv' NV LV AV' WV' := by
  refine ⟨hobj, fun k hk => ?_, h.lasts, hA, hW, by rw [en]; exact h.few, by rw [ef]; exact h.fuse, rfl, h8, fun x hx => List.mem_append_right _ hx, fun x hx => ?_⟩
  · rw [en] at hk
    rw [enow]
    obtain ⟨h1, h2, h3⟩ := h.now k hk
    refine ⟨h1, h2.chg hc (fun g hg => (h3 g hg).2), fun g hg => ⟨List.mem_append_left _ (h3 g hg).1, fun hm => ?_⟩⟩
    rcases hb g hm with h4 | h4
    · exact (h3 g hg).2 h4
    · have := h.lim g (h3 g hg).1; omega
  · rcases List.mem_append.1 hx with hx | hx
    · exact Nat.lt_of_lt_of_le (h.lim x hx) hc.size
    · exact hobj.lim x hx
theorem RDiskOk.row {w : World} {m : Nat} {V F : List Nat} {d : DS} {nv lv av wv : Value} {NV LV AV WV : List Value} (h : RDiskOk w m V F d nv lv av wv NV LV AV WV) : w.ownsRow 0 30 1 nv d.n NV ∧ w.ownsRow 0 30 1 lv d.n LV ∧ w.ownsRow 0 3 1 av AV.length AV ∧ w.ownsRow 0 30 1 wv WV.length WV :=
  ⟨h.obj.rows _ (by simp [rrows] : (⟨30, 1, nv, d.n, NV⟩ : RowD) ∈ _), h.obj.rows _ (by simp [rrows] : (⟨30, 1, lv, d.n, LV⟩ : RowD) ∈ _), h.obj.rows _ (by simp [rrows] : (⟨3, 1, av, AV.length, AV⟩ : RowD) ∈ _), h.obj.rows _ (by simp [rrows] : (⟨30, 1, wv, WV.length, WV⟩ : RowD) ∈ _)⟩
theorem RDiskOk.in {w : World} {m : Nat} {V F : List Nat} {d : DS} {nv lv av wv : Value} {NV LV AV WV : List Value} (h : RDiskOk w m V F d nv lv av wv NV LV AV WV) : m ∈ V ∧ (∀ x, nv.ownBlock = some x → x ∈ V) ∧ (∀ x, lv.ownBlock = some x → x ∈ V) ∧ (∀ x, av.ownBlock = some x → x ∈ V) ∧ ∀ x, wv.ownBlock = some x → x ∈ V := by
  rw [h.mem]
  refine ⟨blks_head, fun x hx => ?_, fun x hx => ?_, fun x hx => ?_, fun x hx => ?_⟩
  · exact blks_row (r := ⟨30, 1, nv, d.n, NV⟩) (by simp [rrows]) hx
  · exact blks_row (r := ⟨30, 1, lv, d.n, LV⟩) (by simp [rrows]) hx
  · exact blks_row (r := ⟨3, 1, av, AV.length, AV⟩) (by simp [rrows]) hx
  · exact blks_row (r := ⟨30, 1, wv, WV.length, WV⟩) (by simp [rrows]) hx
theorem ObjAt.other_ne {w : World} {p t : Nat} {cs : Array Value} {a b : List RowD} {r q : RowD} (h : ObjAt w p t cs (a ++ r :: b)) (hq : q ∈ a ∨ q ∈ b) {x : Nat} (hx : q.v.ownBlock = some x) : r.v.ownBlock ≠ some x := fun hr => by
  have hnd := (List.nodup_cons.1 h.apart).2
  rw [List.filterMap_append, List.filterMap_cons, hr] at hnd
  simp only at hnd
  have hd := List.nodup_append.1 hnd
  rcases hq with hq | hq
  · exact hd.2.2 x (List.mem_filterMap.2 ⟨q, hq, hx⟩) x (List.mem_cons_self ..) rfl
  · exact (List.nodup_cons.1 hd.2.1).1 (List.mem_filterMap.2 ⟨q, hq, hx⟩)
/-- No byte comes into an object's blocks. -/
theorem ObjAt.field8 {w w2 : World} {p t : Nat} {cs : Array Value} {a b : List RowD} {r r' : RowD} (h : ObjAt w p t cs (a ++ r :: b)) (h8 : ∀ x ∈ blks p (a ++ r :: b), NoU8 w x) (j : Nat) (hg : w.grownBy w2 r.v.ownBlock)
    (hat : ∀ k, r'.v.ownBlock = some k → r.v.ownBlock = some k ∨ w.heap.size ≤ k) (h8' : ∀ x, r'.v.ownBlock = some x → NoU8 w2 x) (hu : No8 r'.v) : ∀ x ∈ blks p (a ++ r' :: b), NoU8 (w2.setCell ⟨p, j, none⟩ r'.v) x := fun x hx => by
  have hmr : r ∈ a ++ r :: b := List.mem_append_right _ (List.mem_cons_self ..)
  have hpl := blk_lt h.head
  have hp2 : w2.heap[p]? = w.heap[p]? := hg.block p hpl (fun e => h.row_ne hmr e.symm rfl)
  have hset : ∀ x, x ≠ p → (w2.setCell ⟨p, j, none⟩ r'.v).heap[x]? = w2.heap[x]? := fun x hx => Below.heap_setCell w2 ⟨p, j, none⟩ _ x hx
  have hother : ∀ q, q ∈ a ∨ q ∈ b → q ∈ a ++ r :: b → q.v.ownBlock = some x → NoU8 (w2.setCell ⟨p, j, none⟩ r'.v) x := fun q hq hm he => by
    have h1 := h.row_ne hm he
    have h2 := h.other_ne hq he
    have h3 := h.lim x (blks_row hm he)
    exact (h8 x (blks_row hm he)).keep ((hset x h1).trans (hg.block x h3 (fun e => h2 e.symm)))
  rcases mem_blks hx with rfl | ⟨q, hq, he⟩
  · exact ((h8 x blks_head).keep hp2).set (Nat.lt_of_lt_of_le hpl hg.size) hu
  · rcases List.mem_append.1 hq with hq | hq
    · exact hother q (.inl hq) (List.mem_append_left _ hq) he
    · rcases List.mem_cons.1 hq with rfl | hq
      · have hxp : x ≠ p := fun e => by
          rcases hat x he with h1 | h1
          · exact h.row_ne hmr h1 e
          · omega
        exact (h8' x he).keep (hset x hxp)
      · exact hother q (.inr hq) (List.mem_append_right _ (List.mem_cons_of_mem _ hq)) he
/-- At grows. -/
theorem RDiskOk.at {w w2 : World} {m : Nat} {V F : List Nat} {d : DS} {nv lv av wv : Value} {NV LV AV WV : List Value} (h : RDiskOk w m V F d nv lv av wv NV LV AV WV) (x : Nat × List UInt8) (u : Value) (g cap : Nat) (hg : w.grownBy w2 av.ownBlock)
    (hrow : w2.ownsRow 0 3 1 (.slice (some ⟨g, 0, none⟩) (AV.length + 1) cap) (AV.length + 1) (AV ++ [u])) (hat : av.ownBlock = some g ∨ g = w.heap.size) (h8 : NoU8 w2 g) (hu : No8 u) :
    ∃ V' F', RDiskOk (w2.setCell ⟨m, 2, none⟩ (.slice (some ⟨g, 0, none⟩) (AV.length + 1) cap)) m V' F' { d with since := d.since ++ [x] } nv lv (.slice (some ⟨g, 0, none⟩) (AV.length + 1) cap) wv NV LV (AV ++ [u]) WV ∧
      (∀ x ∈ V', x ∈ V ∨ w.heap.size ≤ x) ∧ (∀ x ∈ F', x ∈ F ∨ w.heap.size ≤ x) ∧ Chg V w (w2.setCell ⟨m, 2, none⟩ (.slice (some ⟨g, 0, none⟩) (AV.length + 1) cap)) := by
  have hloc : ∀ k, (Value.slice (some ⟨g, 0, none⟩) (AV.length + 1) cap).ownBlock = some k → av.ownBlock = some k ∨ w.heap.size ≤ k := fun k hk => by
    obtain rfl : g = k := by simpa [Value.ownBlock] using hk
    rcases hat with h4 | h4
    · exact .inl h4
    · exact .inr (by omega)
  have hobj : ObjAt w m 134 (rcs d nv lv av wv) ([⟨30, 1, nv, d.n, NV⟩, ⟨30, 1, lv, d.n, LV⟩] ++ (⟨3, 1, av, AV.length, AV⟩ : RowD) :: [⟨30, 1, wv, WV.length, WV⟩]) := h.obj
  obtain ⟨o1, o2, o3⟩ := hobj.field (r' := ⟨3, 1, .slice (some ⟨g, 0, none⟩) (AV.length + 1) cap, (AV ++ [u]).length, AV ++ [u]⟩) 2 hg (by
    show w2.ownsRow 0 3 1 (.slice (some ⟨g, 0, none⟩) (AV.length + 1) cap) (AV ++ [u]).length (AV ++ [u])
    rw [List.length_append]
    exact hrow) hloc
  have hV : V = blks m (rrows d.n nv lv av wv NV LV AV WV) := h.mem
  have hV' : ∀ x ∈ blks m (rrows d.n nv lv (.slice (some ⟨g, 0, none⟩) (AV.length + 1) cap) wv NV LV (AV ++ [u]) WV), x ∈ V ∨ w.heap.size ≤ x := fun x hx => by rw [hV]; exact o2 x hx
  have hc : Chg V w (w2.setCell ⟨m, 2, none⟩ (.slice (some ⟨g, 0, none⟩) (AV.length + 1) cap)) := by rw [hV]; exact o3
  refine ⟨_, _, h.turn (d' := { d with since := d.since ++ [x] }) o1 hV' hc (hobj.field8 (fun y hy => h.no8 y (by rw [h.mem]; exact hy)) 2 hg (r' := ⟨3, 1, .slice (some ⟨g, 0, none⟩) (AV.length + 1) cap, (AV ++ [u]).length, AV ++ [u]⟩) hloc (fun y hy => by
    obtain rfl : g = y := by simpa [Value.ownBlock] using hy
    exact h8) no8_slice) rfl rfl rfl ⟨fun c hc => ?_, by simp; exact h.ats.2⟩ ⟨h.wrote.1, by simp; exact Nat.le_succ_of_le h.wrote.2⟩, hV', fun y hy => ?_, hc⟩
  · rcases List.mem_append.1 hc with hc | hc
    · exact h.ats.1 c hc
    · rw [List.mem_singleton.1 hc]; exact hu
  · rcases List.mem_append.1 hy with hy | hy
    · exact .inl hy
    · rcases hV' y hy with h4 | h4
      · exact .inl (h.sub y h4)
      · exact .inr h4
/-- Wrote grows, behind At. -/
theorem RDiskOk.more {w w2 : World} {m : Nat} {V F : List Nat} {d : DS} {nv lv av wv : Value} {NV LV AV WV : List Value} (h : RDiskOk w m V F d nv lv av wv NV LV AV WV) (u : Value) (g cap : Nat) (hg : w.grownBy w2 wv.ownBlock)
    (hrow : w2.ownsRow 0 30 1 (.slice (some ⟨g, 0, none⟩) (WV.length + 1) cap) (WV.length + 1) (WV ++ [u])) (hat : wv.ownBlock = some g ∨ g = w.heap.size) (h8 : NoU8 w2 g) (hu : No8 u) (hl : WV.length + 1 ≤ d.since.length) :
    RDid w (w2.setCell ⟨m, 3, none⟩ (.slice (some ⟨g, 0, none⟩) (WV.length + 1) cap)) m V F d := by
  have hloc : ∀ k, (Value.slice (some ⟨g, 0, none⟩) (WV.length + 1) cap).ownBlock = some k → wv.ownBlock = some k ∨ w.heap.size ≤ k := fun k hk => by
    obtain rfl : g = k := by simpa [Value.ownBlock] using hk
    rcases hat with h4 | h4
    · exact .inl h4
    · exact .inr (by omega)
  have hobj : ObjAt w m 134 (rcs d nv lv av wv) ([⟨30, 1, nv, d.n, NV⟩, ⟨30, 1, lv, d.n, LV⟩, ⟨3, 1, av, AV.length, AV⟩] ++ (⟨30, 1, wv, WV.length, WV⟩ : RowD) :: []) := h.obj
  obtain ⟨o1, o2, o3⟩ := hobj.field (r' := ⟨30, 1, .slice (some ⟨g, 0, none⟩) (WV.length + 1) cap, (WV ++ [u]).length, WV ++ [u]⟩) 3 hg (by
    show w2.ownsRow 0 30 1 (.slice (some ⟨g, 0, none⟩) (WV.length + 1) cap) (WV ++ [u]).length (WV ++ [u])
    rw [List.length_append]
    exact hrow) hloc
  have hV : V = blks m (rrows d.n nv lv av wv NV LV AV WV) := h.mem
  have hV' : ∀ x ∈ blks m (rrows d.n nv lv av (.slice (some ⟨g, 0, none⟩) (WV.length + 1) cap) NV LV AV (WV ++ [u])), x ∈ V ∨ w.heap.size ≤ x := fun x hx => by rw [hV]; exact o2 x hx
  have hc : Chg V w (w2.setCell ⟨m, 3, none⟩ (.slice (some ⟨g, 0, none⟩) (WV.length + 1) cap)) := by rw [hV]; exact o3
  refine ⟨_, _, ⟨_, _, _, _, _, _, _, _, h.turn (d' := d) o1 hV' hc (hobj.field8 (fun y hy => h.no8 y (by rw [h.mem]; exact hy)) 3 hg (r' := ⟨30, 1, .slice (some ⟨g, 0, none⟩) (WV.length + 1) cap, (WV ++ [u]).length, WV ++ [u]⟩) hloc (fun y hy => by
    obtain rfl : g = y := by simpa [Value.ownBlock] using hy
    exact h8) no8_slice) rfl rfl rfl h.ats ⟨fun c hc => ?_, by simp; exact hl⟩⟩, hV', fun y hy => ?_, hc⟩
  · rcases List.mem_append.1 hc with hc | hc
    · exact h.wrote.1 c hc
    · rw [List.mem_singleton.1 hc]; exact hu
  · rcases List.mem_append.1 hy with hy | hy
    · exact .inl hy
    · rcases hV' y hy with h4 | h4
      · exact .inl (h.sub y h4)
      · exact .inr h4
/-- A sector that lasts is another. -/
theorem RDiskOk.last {w : World} {m : Nat} {V F : List Nat} {d : DS} {nv lv av wv : Value} {NV LV AV WV : List Value} (h : RDiskOk w m V F d nv lv av wv NV LV AV WV) (k g cap : Nat) (u : Value) (hk : k < d.n) (hlv : lv = .slice (some ⟨g, 0, none⟩) d.n cap) (hu : No8 u) :
    RDiskOk (w.setCell ⟨g, k, none⟩ u) m V F d nv lv av wv NV (LV.set k u) AV WV ∧ Chg V w (w.setCell ⟨g, k, none⟩ u) := by
  have hgV : g ∈ V := h.in.2.2.1 g (by rw [hlv]; rfl)
  have hc : Chg [g] w (w.setCell ⟨g, k, none⟩ u) := (Chg.refl _ w).setCell (p := ⟨g, k, none⟩) (.inl (by simp)) _
  have hcV : Chg V w (w.setCell ⟨g, k, none⟩ u) := hc.mono (fun x hx => .inl (by rw [List.mem_singleton.1 hx]; exact hgV))
  have hrows := h.row
  have hne : ∀ (r : RowD), r ∈ [(⟨30, 1, nv, d.n, NV⟩ : RowD), ⟨3, 1, av, AV.length, AV⟩, ⟨30, 1, wv, WV.length, WV⟩] → r.v.ownBlock ≠ some g := fun r hr he => by
    have hobj : ObjAt w m 134 (rcs d nv lv av wv) ([⟨30, 1, nv, d.n, NV⟩] ++ (⟨30, 1, lv, d.n, LV⟩ : RowD) :: [⟨3, 1, av, AV.length, AV⟩, ⟨30, 1, wv, WV.length, WV⟩]) := h.obj
    refine hobj.other_ne (q := r) ?_ he (by rw [hlv]; rfl)
    simp only [List.mem_cons, List.mem_nil_iff, or_false] at hr ⊢
    exact hr
  have hmg : m ≠ g := fun e => h.obj.row_ne (r := ⟨30, 1, lv, d.n, LV⟩) (by simp [rrows]) (k := g) (by rw [hlv]; rfl) e.symm
  refine ⟨⟨⟨hc.keep h.obj.head (by simp; exact hmg), fun r hr => ?_, h.obj.apart⟩, fun j hj => ?_, fun c hc => ?_, h.ats, h.wrote, h.few, h.fuse, h.mem, fun x hx => ?_, h.sub, fun x hx => Nat.lt_of_lt_of_le (h.lim x hx) hc.size⟩, hcV⟩
  · simp only [rrows, List.mem_cons, List.mem_nil_iff, or_false] at hr
    by_cases hrl : r = ⟨30, 1, lv, d.n, LV.set k u⟩
    · subst hrl
      show (w.setCell ⟨g, k, none⟩ u).ownsRow 0 30 1 lv d.n (LV.set k u)
      have h1 := hrows.2.1
      rw [hlv] at h1 ⊢
      exact row_set h1 k u (by omega)
    · have hmem : r ∈ rrows d.n nv lv av wv NV LV AV WV := by
        rcases hr with rfl | rfl | rfl | rfl
        · simp [rrows]
        · exact absurd rfl hrl
        · simp [rrows]
        · simp [rrows]
      have hr' : r ∈ [(⟨30, 1, nv, d.n, NV⟩ : RowD), ⟨3, 1, av, AV.length, AV⟩, ⟨30, 1, wv, WV.length, WV⟩] := by
        rcases hr with rfl | rfl | rfl | rfl
        · simp
        · exact absurd rfl hrl
        · simp
        · simp
      exact row_keep (h.obj.rows r hmem) (fun y hy => hc.block y (World.ownsRow.lt (h.obj.rows r hmem) y hy).2 (by
        intro hm
        rw [List.mem_singleton.1 hm] at hy
        exact hne r hr' hy))
  · obtain ⟨h1, h2, h3⟩ := h.now j hj
    exact ⟨h1, h2.chg hcV (fun x hx => (h3 x hx).2), h3⟩
  · rcases List.mem_or_eq_of_mem_set hc with hc | hc
    · exact h.lasts c hc
    · rw [hc]; exact hu
  · by_cases hxg : x = g
    · rw [hxg]
      exact (h.no8 g hgV).set (h.lim g (h.sub g hgV)) hu
    · exact (h.no8 x hx).keep (hc.block x (h.lim x (h.sub x hx)) (by simp; exact hxg))
/-- Nothing waits any more. -/
theorem RDiskOk.calm {w : World} {m : Nat} {V F : List Nat} {d : DS} {nv lv av wv : Value} {NV LV AV WV : List Value} (h : RDiskOk w m V F d nv lv av wv NV LV AV WV) (la : Nat → List UInt8) :
    RDid w ((w.setCell ⟨m, 2, none⟩ (.slice none 0 0)).setCell ⟨m, 3, none⟩ (.slice none 0 0)) m V F { d with lasts := la, since := [] } := by
  have hobj : ObjAt w m 134 (rcs d nv lv av wv) ([⟨30, 1, nv, d.n, NV⟩, ⟨30, 1, lv, d.n, LV⟩] ++ (⟨3, 1, av, AV.length, AV⟩ : RowD) :: [⟨30, 1, wv, WV.length, WV⟩]) := h.obj
  have hg0 : ∀ r, w.grownBy w r := fun r => ⟨rfl, rfl, rfl, Nat.le_refl _, fun _ _ _ => rfl⟩
  obtain ⟨o1, o2, o3⟩ := hobj.field (r' := ⟨3, 1, .slice none 0 0, 0, []⟩) 2 (hg0 _) (World.ownsRow_nil _ _ _ _) (fun k hk => by cases hk)
  have o8 := hobj.field8 (fun y hy => h.no8 y (by rw [h.mem]; exact hy)) 2 (hg0 _) (r' := ⟨3, 1, .slice none 0 0, 0, []⟩) (fun k hk => by cases hk) (fun y hy => by cases hy) no8_slice
  have hV : V = blks m (rrows d.n nv lv av wv NV LV AV WV) := h.mem
  have o3 : Chg V w (w.setCell ⟨m, 2, none⟩ (.slice none 0 0)) := by rw [hV]; exact o3
  have hV1 : ∀ x ∈ blks m (rrows d.n nv lv (.slice none 0 0) wv NV LV [] WV), x ∈ V ∨ w.heap.size ≤ x := fun x hx => by rw [hV]; exact o2 x hx
  have h1 := h.turn (d' := d) (av' := .slice none 0 0) (wv' := wv) (AV' := []) (WV' := WV) o1 hV1 o3 o8 rfl rfl rfl ⟨by simp, by simp⟩ h.wrote
  have hw1 : (w.setCell ⟨m, 2, none⟩ (.slice none 0 0)).heap.size = w.heap.size := by simp [World.setCell]
  generalize w.setCell ⟨m, 2, none⟩ (.slice none 0 0) = w1 at *
  have hobj1 : ObjAt w1 m 134 (rcs d nv lv (.slice none 0 0) wv) ([⟨30, 1, nv, d.n, NV⟩, ⟨30, 1, lv, d.n, LV⟩, ⟨3, 1, .slice none 0 0, ([] : List Value).length, []⟩] ++ (⟨30, 1, wv, WV.length, WV⟩ : RowD) :: []) := h1.obj
  have hg1 : ∀ r, w1.grownBy w1 r := fun r => ⟨rfl, rfl, rfl, Nat.le_refl _, fun _ _ _ => rfl⟩
  obtain ⟨q1, q2, q3⟩ := hobj1.field (r' := ⟨30, 1, .slice none 0 0, 0, []⟩) 3 (hg1 _) (World.ownsRow_nil _ _ _ _) (fun k hk => by cases hk)
  have q8 := hobj1.field8 (fun y hy => h1.no8 y hy) 3 (hg1 _) (r' := ⟨30, 1, .slice none 0 0, 0, []⟩) (fun k hk => by cases hk) (fun y hy => by cases hy) no8_slice
  have q2' : ∀ x ∈ blks m (rrows d.n nv lv (.slice none 0 0) (.slice none 0 0) NV LV [] []), x ∈ blks m (rrows d.n nv lv (.slice none 0 0) wv NV LV [] WV) ∨ w1.heap.size ≤ x := q2
  have h2 := h1.turn (d' := { d with lasts := la, since := [] }) (av' := .slice none 0 0) (wv' := .slice none 0 0) (AV' := []) (WV' := []) q1 q2' q3 q8 rfl rfl rfl ⟨by simp, by simp⟩ ⟨by simp, by simp⟩
  have hV2 : ∀ x ∈ blks m (rrows d.n nv lv (.slice none 0 0) (.slice none 0 0) NV LV [] []), x ∈ V ∨ w.heap.size ≤ x := fun x hx => by
    rcases q2' x hx with h4 | h4
    · exact hV1 x h4
    · exact .inr (by omega)
  refine ⟨_, _, ⟨_, _, _, _, _, _, _, _, h2⟩, hV2, fun x hx => ?_, o3.trans q3 hV1⟩
  have hin : ∀ x, x ∈ V ∨ w.heap.size ≤ x → x ∈ F ∨ w.heap.size ≤ x := fun x hx => hx.imp (h.sub x) id
  rcases List.mem_append.1 hx with hx | hx
  · rcases List.mem_append.1 hx with hx | hx
    · exact .inl hx
    · exact hin x (hV1 x hx)
  · exact hin x (hV2 x hx)
end Go.Proofs.YtdkhmfcfihbjeaaGreatDoor.W

/- The reference's disk: Write. -/
namespace Go.Proofs.YtdkhmfcfihbjeaaGreatDoor.W
open Go.RowKit
set_option linter.unusedVariables false
set_option linter.unusedSimpArgs false

end Go.Proofs.YtdkhmfcfihbjeaaGreatDoor.W

/- The reference's disk: Write of whatever disk, Sync, Image. -/
namespace Go.Proofs.YtdkhmfcfihbjeaaGreatDoor.W
open Go.RowKit
set_option linter.unusedVariables false
set_option linter.unusedSimpArgs false

theorem RDiskOk.form {w : World} {m : Nat} {V F : List Nat} {d : DS} {nv lv av wv : Value} {NV LV AV WV : List Value} (h : RDiskOk w m V F d nv lv av wv NV LV AV WV) (hn : 0 < d.n) :
    (∃ g cap, nv = .slice (some ⟨g, 0, none⟩) d.n cap) ∧ ∃ g cap, lv = .slice (some ⟨g, 0, none⟩) d.n cap := by
  constructor
  · rcases h.row.1.2 with ⟨_, h0⟩ | ⟨g, cap, cur, h1, _⟩
    · omega
    · exact ⟨g, cap, h1⟩
  · rcases h.row.2.1.2 with ⟨_, h0⟩ | ⟨g, cap, cur, h1, _⟩
    · omega
    · exact ⟨g, cap, h1⟩
theorem own_cell {w : World} {base e g n cap : Nat} {xs : List Value} (h : w.ownsRow base e 1 (.slice (some ⟨g, 0, none⟩) n cap) n xs) (k : Nat) (hk : k < n) : xs.length = n ∧ w.cell? ⟨g, k, none⟩ = some (xs.getD k undef) ∧ w.frozen? ⟨g, k, none⟩ = false ∧ g < w.heap.size := by
  have hl : xs.length = n := by have := h.1; omega
  refine ⟨hl, ?_, ?_, (World.ownsRow.lt h g rfl).2⟩
  · have := h.cells (g := g) rfl k xs[k] (List.getElem?_eq_getElem (by omega))
    rw [add_none, Nat.zero_add] at this
    rw [this, List.getD_eq_getElem?_getD, List.getElem?_eq_getElem (by omega)]
    rfl
  · rcases h.2 with ⟨h1, _⟩ | ⟨g', cap', cur, hv, _, hg, _⟩
    · cases h1
    · obtain rfl : g = g' := by simp at hv; exact hv.1
      exact blk_frozen hg k

end Go.Proofs.YtdkhmfcfihbjeaaGreatDoor.W

/- The reference's slots in memory. -/
namespace Go.Proofs.YtdkhmfcfihbjeaaGreatDoor.W
open Go.RowKit
set_option linter.unusedVariables false
set_option linter.unusedSimpArgs false

def qcell (x : SRow × Value) : List Value := [.bool x.1.used, x.2, .int .i64 (x.1.n : Int)]
def qcells (R : List (SRow × Value)) : List Value := R.flatMap qcell
theorem qcells_at : ∀ (R : List (SRow × Value)) (i j : Nat) (x : SRow × Value), R[i]? = some x → j < 3 → (qcells R)[i * 3 + j]? = (qcell x)[j]?
  | [], i, j, x, h, _ => by simp at h
  | y :: R, i, j, x, h, hj => by
    have e : qcells (y :: R) = qcell y ++ qcells R := rfl
    have hy : (qcell y).length = 3 := rfl
    rw [e]
    cases i with
    | zero =>
      simp at h; subst h
      rw [Nat.zero_mul, Nat.zero_add, List.getElem?_append_left (by omega)]
    | succ i =>
      rw [List.getElem?_append_right (by omega), hy, show (i + 1) * 3 + j - 3 = i * 3 + j by omega]
      exact qcells_at R i j x (by simpa using h) hj
theorem qcells_set : ∀ (R : List (SRow × Value)) (i : Nat) (x : SRow × Value), i < R.length → qcells (R.set i x) = (((qcells R).set (i * 3) (.bool x.1.used)).set (i * 3 + 1) x.2).set (i * 3 + 2) (.int .i64 (x.1.n : Int))
  | [], i, x, h => by simp at h
  | y :: R, i, x, h => by
    have e : ∀ z, qcells (z :: R) = qcell z ++ qcells R := fun _ => rfl
    cases i with
    | zero => rw [List.set_cons_zero, e, e]; rfl
    | succ i =>
      have ih := qcells_set R i x (by simpa using h)
      have e2 : qcells (y :: R.set i x) = qcell y ++ qcells (R.set i x) := rfl
      rw [List.set_cons_succ, e2, ih, e]
      have h3 : (qcell y).length = 3 := rfl
      rw [List.set_append_right _ _ (by omega), List.set_append_right _ _ (by omega), List.set_append_right _ _ (by omega), h3, show (i + 1) * 3 - 3 = i * 3 by omega, show (i + 1) * 3 + 1 - 3 = i * 3 + 1 by omega, show (i + 1) * 3 + 2 - 3 = i * 3 + 2 by omega]
def rowQ (rv : Value) (R : List (SRow × Value)) : RowD := ⟨168, 3, rv, R.length, qcells R⟩

/-- The reference's slots in block q over its disk in block m; W: what may be written; A: all their blocks. -/
structure RSlotsOk (w : World) (q m : Nat) (V F W A : List Nat) (s : SS) (rv : Value) (R : List (SRow × Value)) : Prop where
  obj : ObjAt w q 166 #[.pointer (some ⟨m, 0, none⟩), .int .i64 (s.first : Int), rv] [rowQ rv R]
  disk : RDiskAt w m V F s.d
  rows : R.map (·.1) = s.rows
  sep : ∀ x ∈ blks q [rowQ rv R], x ∉ F
  keys : ∀ x ∈ R, BytesAt w x.2 x.1.key ∧ ∀ g, x.2.ownBlock = some g → g ∈ A ∧ g ∉ W
  mem : W = V ++ blks q [rowQ rv R]
  no8 : ∀ x ∈ blks q [rowQ rv R], NoU8 w x
  aF : ∀ x ∈ F, x ∈ A
  aB : ∀ x ∈ blks q [rowQ rv R], x ∈ A
  lim : ∀ x ∈ A, x < w.heap.size
  ok : s.Ok
def RSlotsAt (w : World) (q m : Nat) (W A : List Nat) (s : SS) : Prop := ∃ V F rv R, RSlotsOk w q m V F W A s rv R
theorem RSlotsOk.sub {w : World} {q m : Nat} {V F W A : List Nat} {s : SS} {rv : Value} {R : List (SRow × Value)} (h : RSlotsOk w q m V F W A s rv R) : (∀ x ∈ V, x ∈ W) ∧ (∀ x ∈ blks q [rowQ rv R], x ∈ W) ∧ (∀ x ∈ W, x ∈ A) ∧ (∀ x ∈ W, NoU8 w x) ∧ (∀ x ∈ V, x ∈ F) := by
  obtain ⟨hl, hs, h8⟩ := h.disk.lim
  refine ⟨fun x hx => by rw [h.mem]; exact List.mem_append_left _ hx, fun x hx => by rw [h.mem]; exact List.mem_append_right _ hx, fun x hx => ?_, fun x hx => ?_, hs⟩
  · rw [h.mem] at hx
    rcases List.mem_append.1 hx with hx | hx
    · exact h.aF x (hs x hx)
    · exact h.aB x hx
  · rw [h.mem] at hx
    rcases List.mem_append.1 hx with hx | hx
    · exact h8 x hx
    · exact h.no8 x hx
theorem RSlotsOk.keep {w w' : World} {q m : Nat} {V F W A T : List Nat} {s : SS} {rv : Value} {R : List (SRow × Value)} (h : RSlotsOk w q m V F W A s rv R) (hc : Chg T w w') (ha : ∀ x ∈ A, x ∉ T) : RSlotsOk w' q m V F W A s rv R := by
  refine ⟨h.obj.keep hc (fun x hx => ha x (h.aB x hx)), h.disk.keep hc (fun x hx => ha x (h.aF x hx)), h.rows, h.sep, fun x hx => ?_, h.mem, fun x hx => (h.no8 x hx).keep (hc.block x (h.lim x (h.aB x hx)) (ha x (h.aB x hx))), h.aF, h.aB, fun x hx => Nat.lt_of_lt_of_le (h.lim x hx) hc.size, h.ok⟩
  obtain ⟨h1, h2⟩ := h.keys x hx
  exact ⟨h1.chg hc (fun k hk => ha k (h2 k hk).1), h2⟩
theorem RSlotsAt.keep {w w' : World} {q m : Nat} {W A T : List Nat} {s : SS} (h : RSlotsAt w q m W A s) (hc : Chg T w w') (ha : ∀ x ∈ A, x ∉ T) : RSlotsAt w' q m W A s := by
  obtain ⟨V, F, rv, R, h⟩ := h
  exact ⟨V, F, rv, R, h.keep hc ha⟩
theorem RSlotsAt.lim {w : World} {q m : Nat} {W A : List Nat} {s : SS} (h : RSlotsAt w q m W A s) : (∀ x ∈ A, x < w.heap.size) ∧ (∀ x ∈ W, x ∈ A) ∧ ∀ x ∈ W, NoU8 w x := by
  obtain ⟨V, F, rv, R, h⟩ := h
  exact ⟨h.lim, h.sub.2.2.1, h.sub.2.2.2.1⟩
/-- What doing with them leaves. -/
def RSid (w w' : World) (q m : Nat) (W A : List Nat) (s : SS) : Prop := ∃ W' A', RSlotsAt w' q m W' A' s ∧ (∀ x ∈ W', x ∈ W ∨ w.heap.size ≤ x) ∧ (∀ x ∈ A', x ∈ A ∨ w.heap.size ≤ x) ∧ Chg W w w'
theorem RSid.same {w : World} {q m : Nat} {W A : List Nat} {s : SS} (h : RSlotsAt w q m W A s) : RSid w w q m W A s := ⟨W, A, h, fun x hx => .inl hx, fun x hx => .inl hx, Chg.refl _ _⟩
theorem RSid.glue {w w1 w2 : World} {q m : Nat} {W A W1 A1 : List Nat} {s : SS} (hv : ∀ x ∈ W1, x ∈ W ∨ w.heap.size ≤ x) (hf : ∀ x ∈ A1, x ∈ A ∨ w.heap.size ≤ x) (hc : Chg W w w1) (h : RSid w1 w2 q m W1 A1 s) : RSid w w2 q m W A s := by
  obtain ⟨V2, F2, b1, b2, b3, b4⟩ := h
  refine ⟨V2, F2, b1, fun x hx => ?_, fun x hx => ?_, hc.trans b4 hv⟩
  · rcases b2 x hx with h | h
    · exact hv x h
    · exact .inr (Nat.le_trans hc.size h)
  · rcases b3 x hx with h | h
    · exact hf x h
    · exact .inr (Nat.le_trans hc.size h)
theorem RSid.pre {w0 w w' : World} {q m : Nat} {W A : List Nat} {s : SS} (hc : Chg [] w0 w) (h : RSid w w' q m W A s) : RSid w0 w' q m W A s := RSid.glue (fun x hx => .inl hx) (fun x hx => .inl hx) (hc.mono (by simp)) h
theorem RSid.post {w w1 w' : World} {q m : Nat} {W A : List Nat} {s : SS} (h : RSid w w1 q m W A s) (hc : Chg [] w1 w') : RSid w w' q m W A s := by
  obtain ⟨W1, A1, a1, a2, a3, a4⟩ := h
  exact ⟨W1, A1, a1.keep hc (by simp), a2, a3, a4.trans hc (by simp)⟩
theorem RSid.trans {w w1 w2 : World} {q m : Nat} {W A : List Nat} {s1 s2 : SS} (h1 : RSid w w1 q m W A s1) (h2 : ∀ W1 A1, RSlotsAt w1 q m W1 A1 s1 → RSid w1 w2 q m W1 A1 s2) : RSid w w2 q m W A s2 := by
  obtain ⟨V1, F1, a1, a2, a3, a4⟩ := h1
  exact RSid.glue a2 a3 a4 (h2 V1 F1 a1)
/-- The disk has been worked on. -/
theorem RSlotsOk.did {w w' : World} {q m : Nat} {V F W A : List Nat} {s : SS} {rv : Value} {R : List (SRow × Value)} {d : DS} (h : RSlotsOk w q m V F W A s rv R) (hd : RDid w w' m V F d) (hn : d.n = s.d.n) : RSid w w' q m W A { s with d := d } := by
  obtain ⟨V', F', b1, b2, b3, b4⟩ := hd
  obtain ⟨s1, s2, s3, s4, s5⟩ := h.sub
  have hbV : ∀ x ∈ blks q [rowQ rv R], x ∉ V := fun x hx hm => h.sep x hx (s5 x hm)
  have hsz := b4.size
  refine ⟨V' ++ blks q [rowQ rv R], A ++ F', ⟨V', F', rv, R, h.obj.keep b4 hbV, b1, h.rows, fun x hx hm => ?_, fun x hx => ?_, rfl, fun x hx => (h.no8 x hx).keep (b4.block x (h.obj.lim x hx) (hbV x hx)), fun x hx => List.mem_append_right _ hx, fun x hx => List.mem_append_left _ (h.aB x hx), fun x hx => ?_, ⟨by show s.first + 8 * s.rows.length ≤ d.n; rw [hn]; exact h.ok.room, h.ok.rows⟩⟩, fun x hx => ?_, fun x hx => ?_, b4.mono (fun x hx => .inl (s1 x hx))⟩
  · rcases b3 x hm with h1 | h1
    · exact h.sep x hx h1
    · have := h.obj.lim x hx; omega
  · obtain ⟨k1, k2⟩ := h.keys x hx
    refine ⟨k1.chg b4 (fun k hk hm => (k2 k hk).2 (s1 k hm)), fun g hg => ⟨List.mem_append_left _ (k2 g hg).1, fun hm => ?_⟩⟩
    rcases List.mem_append.1 hm with hm | hm
    · rcases b2 g hm with h1 | h1
      · exact (k2 g hg).2 (s1 g h1)
      · have := h.lim g (k2 g hg).1; omega
    · exact (k2 g hg).2 (s2 g hm)
  · rcases List.mem_append.1 hx with hx | hx
    · exact Nat.lt_of_lt_of_le (h.lim x hx) hsz
    · exact b1.lim.1 x hx
  · rcases List.mem_append.1 hx with hx | hx
    · exact (b2 x hx).imp (s1 x) id
    · exact .inl (s2 x hx)
  · rcases List.mem_append.1 hx with hx | hx
    · exact .inl hx
    · exact (b3 x hx).imp (h.aF x) id
theorem RSlotsOk.len {w : World} {q m : Nat} {V F W A : List Nat} {s : SS} {rv : Value} {R : List (SRow × Value)} (h : RSlotsOk w q m V F W A s rv R) : R.length = s.rows.length := by rw [← h.rows, List.length_map]
theorem RSlotsOk.few {w : World} {q m : Nat} {V F W A : List Nat} {s : SS} {rv : Value} {R : List (SRow × Value)} (h : RSlotsOk w q m V F W A s rv R) : s.first + 8 * s.rows.length ≤ s.d.n ∧ s.d.n ≤ 4160 := by
  obtain ⟨_, _, _, _, _, _, _, _, hd⟩ := h.disk
  exact ⟨h.ok.room, hd.few⟩
theorem RSlotsOk.row {w : World} {q m : Nat} {V F W A : List Nat} {s : SS} {rv : Value} {R : List (SRow × Value)} (h : RSlotsOk w q m V F W A s rv R) : w.ownsRow 0 168 3 rv R.length (qcells R) := h.obj.rows _ (List.mem_singleton.2 rfl)
theorem RSlotsOk.form {w : World} {q m : Nat} {V F W A : List Nat} {s : SS} {rv : Value} {R : List (SRow × Value)} (h : RSlotsOk w q m V F W A s rv R) : ∃ a cap, rv = .slice a s.rows.length cap ∧ s.rows.length ≤ cap := by
  rw [← h.len]
  rcases h.row.2 with ⟨h1, h2⟩ | ⟨g, cap, cur, h1, _, _, h3, h4, _⟩
  · exact ⟨none, 0, by rw [h1, h2], by omega⟩
  · exact ⟨_, cap, h1, h3⟩
/-- A row that is there. -/
theorem RSlotsOk.at {w : World} {q m : Nat} {V F W A : List Nat} {s : SS} {rv : Value} {R : List (SRow × Value)} (h : RSlotsOk w q m V F W A s rv R) (i : Nat) (hi : i < s.rows.length) :
    ∃ g cap kv, rv = .slice (some ⟨g, 0, none⟩) s.rows.length cap ∧ s.rows.length ≤ cap ∧ cap ≤ maxLen ∧ w.cell? ⟨g, i * 3, none⟩ = some (.bool (s.rows.getD i noRow).used) ∧
      w.cell? ⟨g, i * 3 + 1, none⟩ = some kv ∧ w.cell? ⟨g, i * 3 + 2, none⟩ = some (.int .i64 ((s.rows.getD i noRow).n : Int)) ∧ BytesAt w kv (s.rows.getD i noRow).key ∧ ∀ k, kv.ownBlock = some k → k ∈ A ∧ k ∉ W := by
  have hl := h.len
  have hr := h.row
  have hiR : i < R.length := by omega
  have hri : s.rows.getD i noRow = (R[i]).1 := by
    rw [← h.rows, List.getD_eq_getElem?_getD, List.getElem?_map, List.getElem?_eq_getElem hiR]; rfl
  rcases hr.2 with ⟨h1, h2⟩ | ⟨g, cap, cur, h1, _, _, h3, h4, _⟩
  · omega
  · subst h1
    have hcell : ∀ j, j < 3 → ∀ u, (qcell R[i])[j]? = some u → w.cell? ⟨g, i * 3 + j, none⟩ = some u := fun j hj u hu => by
      have := hr.cells (g := g) rfl (i * 3 + j) u (by rw [qcells_at R i j R[i] (List.getElem?_eq_getElem hiR) hj]; exact hu)
      rwa [add_none, Nat.zero_add] at this
    refine ⟨g, cap, (R[i]).2, by rw [hl], by omega, h4, ?_, ?_, ?_, ?_⟩
    · rw [hri]; exact hcell 0 (by omega) _ rfl
    · exact hcell 1 (by omega) _ rfl
    · rw [hri]; exact hcell 2 (by omega) _ rfl
    · rw [hri]; exact h.keys _ (List.getElem_mem hiR)
theorem RSlotsOk.there {w : World} {q m : Nat} {V F W A : List Nat} {s : SS} {rv : Value} {R : List (SRow × Value)} (h : RSlotsOk w q m V F W A s rv R) (i : Nat) (hi : i < s.rows.length) (g cap : Nat) (hrv : rv = .slice (some ⟨g, 0, none⟩) s.rows.length cap) : w.there g (i * 3) 3 := by
  have hl := h.len
  rcases h.row.2 with ⟨h1, h2⟩ | ⟨g', cap', cur, h1, _, hb, h3, h4, h5, _⟩
  · omega
  · rw [hrv] at h1
    obtain ⟨rfl, -, rfl⟩ : g = g' ∧ s.rows.length = R.length ∧ cap = cap' := by simpa using h1
    intro j hj
    have hlt : i * 3 + j < cur.size := by
      have : (i + 1) * 3 ≤ cap * 3 := Nat.mul_le_mul_right _ (by omega)
      omega
    exact ⟨by rw [blk_cell hb _ _ (Array.getElem?_eq_getElem hlt)]; rfl, blk_frozen hb _⟩
theorem NoU8.set3 {w : World} {g i : Nat} {a b c : Value} (h : NoU8 w g) (hl : g < w.heap.size) (ha : No8 a) (hb : No8 b) (hc : No8 c) : NoU8 (w.setCells g i [a, b, c]) g := by
  have s1 : (w.setCell ⟨g, i, none⟩ a).heap.size = w.heap.size := by simp [World.setCell]
  have s2 : ((w.setCell ⟨g, i, none⟩ a).setCell ⟨g, i + 1, none⟩ b).heap.size = w.heap.size := by simp [World.setCell]
  exact ((h.set hl ha).set (by rw [s1]; exact hl) hb).set (by rw [s2]; exact hl) hc
/-- A row is set. -/
theorem RSlotsOk.setRow {w : World} {q m : Nat} {V F W A : List Nat} {s : SS} {rv : Value} {R : List (SRow × Value)} {N : Nat} (h : RSlotsOk w q m V F W A s rv R) (i : Nat) (hi : i < s.rows.length) (g cap : Nat) (hrv : rv = .slice (some ⟨g, 0, none⟩) s.rows.length cap)
    (r : SRow) (kv : Value) (hk : BytesAt w kv r.key) (hkU : ∀ k, kv.ownBlock = some k → k < w.heap.size ∧ k ∉ W) (hkA : ∀ k, kv.ownBlock = some k → k ∉ A → N ≤ k) (hN : N ≤ w.heap.size) (hr : r.n ≤ 448 ∧ r.key.length ≤ 40) :
    ∃ A', RSlotsAt (w.setCells g (i * 3) [.bool r.used, kv, .int .i64 (r.n : Int)]) q m W A' { s with rows := s.rows.set i r } ∧ (∀ x ∈ A', x ∈ A ∨ N ≤ x) ∧ Chg W w (w.setCells g (i * 3) [.bool r.used, kv, .int .i64 (r.n : Int)]) := by
  have hl := h.len
  obtain ⟨s1, s2, s3, s4, s5⟩ := h.sub
  have hC : Chg [g] w (w.setCells g (i * 3) [.bool r.used, kv, .int .i64 (r.n : Int)]) := (Chg.refl _ _).setCells (.inl (by simp)) _
  have hob : rv.ownBlock = some g := by rw [hrv]; rfl
  have hgb : g ∈ blks q [rowQ rv R] := blks_row (r := rowQ rv R) (List.mem_singleton.2 rfl) hob
  have hgW := s2 g hgb
  have hrow := h.row
  have hR' : (rowQ rv (R.set i (r, kv))).At (w.setCells g (i * 3) [.bool r.used, kv, .int .i64 (r.n : Int)]) := by
    show (w.setCells g (i * 3) [.bool r.used, kv, .int .i64 (r.n : Int)]).ownsRow 0 168 3 rv (R.set i (r, kv)).length (qcells (R.set i (r, kv)))
    rw [List.length_set, qcells_set R i _ (by omega)]
    rw [hrv, ← hl] at hrow ⊢
    exact row_set (row_set (row_set hrow (i * 3) _ (by omega)) (i * 3 + 1) _ (by omega)) (i * 3 + 2) _ (by omega)
  have hgr := ObjAt.grow (a := []) (b := []) h.obj (r' := rowQ rv (R.set i (r, kv))) (by rw [show (rowQ rv R).v.ownBlock = some g from hob]; exact hC.grownBy) hR' (fun k hk => .inl hk)
  have h8 := (h.no8 g hgb).set3 (i := i * 3) (h.obj.lim g hgb) (no8_bool (x := r.used)) hk.no8 (no8_i64 (x := (r.n : Int)))
  generalize w.setCells g (i * 3) [.bool r.used, kv, .int .i64 (r.n : Int)] = X at *
  have hgu : ∀ x ∈ [g], x ∈ W := fun x hx => (List.mem_singleton.1 hx) ▸ hgW
  have hnot : ∀ k, k ∉ W → k ∉ [g] := fun k hk hm => hk (hgu k hm)
  refine ⟨A ++ kv.ownBlock.toList, ⟨V, F, rv, R.set i (r, kv), hgr.1, h.disk.keep hC (fun x hx hm => ?_), ?_, h.sep, fun x hx => ?_, h.mem, fun x hx => ?_, fun x hx => List.mem_append_left _ (h.aF x hx), fun x hx => List.mem_append_left _ (h.aB x hx), fun x hx => ?_, ⟨?_, fun x hx => ?_⟩⟩, fun x hx => ?_, hC.mono (fun x hx => .inl (hgu x hx))⟩
  · exact h.sep _ hgb (by rw [← List.mem_singleton.1 hm]; exact hx)
  · rw [List.map_set, h.rows]
  · rcases List.mem_or_eq_of_mem_set hx with hx | rfl
    · obtain ⟨k1, k2⟩ := h.keys x hx
      exact ⟨k1.chg hC (fun k hk => hnot k (k2 k hk).2), fun g' hg' => ⟨List.mem_append_left _ (k2 g' hg').1, (k2 g' hg').2⟩⟩
    · exact ⟨hk.chg hC (fun k hk => hnot k (hkU k hk).2), fun g' hg' => ⟨List.mem_append_right _ (by rw [hg']; simp), (hkU g' hg').2⟩⟩
  · by_cases hxg : x = g
    · rw [hxg]; exact h8
    · exact (h.no8 x hx).keep (hC.block x (h.obj.lim x hx) (by simp; exact hxg))
  · rcases List.mem_append.1 hx with hx | hx
    · exact Nat.lt_of_lt_of_le (h.lim x hx) hC.size
    · exact Nat.lt_of_lt_of_le (hkU x (by simpa using hx)).1 hC.size
  · show s.first + 8 * (s.rows.set i r).length ≤ s.d.n
    rw [List.length_set]
    exact h.ok.room
  · rcases List.mem_or_eq_of_mem_set hx with hx | rfl
    · exact h.ok.rows x hx
    · exact hr
  · rcases List.mem_append.1 hx with hx | hx
    · exact .inl hx
    · by_cases hA : x ∈ A
      · exact .inl hA
      · exact .inr (hkA x (by simpa using hx) hA)
end Go.Proofs.YtdkhmfcfihbjeaaGreatDoor.W

/- The reference's slots: Free, Find. -/
namespace Go.Proofs.YtdkhmfcfihbjeaaGreatDoor.W
open Go.RowKit
set_option linter.unusedVariables false
set_option linter.unusedSimpArgs false

end Go.Proofs.YtdkhmfcfihbjeaaGreatDoor.W

/- The reference's noughts. -/
namespace Go.Proofs.YtdkhmfcfihbjeaaGreatDoor.W
open Go.RowKit
set_option linter.unusedVariables false
set_option linter.unusedSimpArgs false

end Go.Proofs.YtdkhmfcfihbjeaaGreatDoor.W

/- The reference's readHead. -/
namespace Go.Proofs.YtdkhmfcfihbjeaaGreatDoor.W
open Go.RowKit
set_option linter.unusedVariables false
set_option linter.unusedSimpArgs false

end Go.Proofs.YtdkhmfcfihbjeaaGreatDoor.W

/- The reference's slots: Get. -/
namespace Go.Proofs.YtdkhmfcfihbjeaaGreatDoor.W
open Go.RowKit
set_option linter.unusedVariables false
set_option linter.unusedSimpArgs false

/-- What is read of the disk. -/
theorem RDiskAt.read {w : World} {m : Nat} {V F : List Nat} {d : DS} (h : RDiskAt w m V F d) :
    w.cell? ⟨m, 6, none⟩ = some (.bool d.dead) ∧ d.n ≤ 4160 ∧ ∃ a cap, w.cell? ⟨m, 0, none⟩ = some (.slice a d.n cap) ∧ ∀ k, k < d.n → ∃ g ax cx, a = some ⟨g, 0, none⟩ ∧ w.cell? ⟨g, k, none⟩ = some (.slice ax 64 cx) ∧ BytesAt w (.slice ax 64 cx) (d.now k) ∧ (d.now k).length = 64 := by
  obtain ⟨nv, lv, av, wv, NV, LV, AV, WV, H⟩ := h
  have hrow := H.row.1
  have c0 : w.cell? ⟨m, 0, none⟩ = some nv := blk_cell H.head 0 _ rfl
  refine ⟨blk_cell H.head 6 _ rfl, H.few, ?_⟩
  by_cases hn : 0 < d.n
  · obtain ⟨⟨gn, cn, hnv⟩, _⟩ := H.form hn
    refine ⟨_, cn, by rw [c0, hnv], fun k hk => ?_⟩
    rw [hnv] at hrow
    obtain ⟨hNl, k0, _, _⟩ := own_cell hrow k hk
    obtain ⟨b1, b2, b3⟩ := H.now k hk
    obtain ⟨ax, cx, hx⟩ := b2.slice
    rw [b1] at hx
    rw [hx] at k0 b2
    exact ⟨gn, ax, cx, rfl, k0, b2, b1⟩
  · rcases hrow.2 with ⟨h1, h2⟩ | ⟨g, cap, cur, h1, _⟩
    · exact ⟨none, 0, by rw [c0, h1]; simp; omega, fun k hk => by omega⟩
    · exact ⟨_, cap, by rw [c0, h1], fun k hk => by omega⟩

end Go.Proofs.YtdkhmfcfihbjeaaGreatDoor.W

/- The reference's store: plainly; in memory; unkey. -/
namespace Go.Proofs.YtdkhmfcfihbjeaaGreatDoor.W
open Go.RowKit
set_option linter.unusedVariables false
set_option linter.unusedSimpArgs false

/-! ### Plainly -/
/-! ### In memory -/
structure RStOk (w : World) (q sp m : Nat) (W A : List Nat) (t : Sto) : Prop where
  head : w.heap[q]? = some (.cells #[.pointer (some ⟨m, 0, none⟩), .pointer (some ⟨sp, 0, none⟩), .bool t.whole] 141 (0, 0))
  slots : RSlotsAt w sp m W A t.s
  out : q ∉ A
  ok : keysOk t.s.rows
/-- The reference's store in block q, its disk in block m; U: what may be written; B: all its blocks. -/
def RStAt (w : World) (q m : Nat) (U B : List Nat) (t : Sto) : Prop := ∃ sp W A, RStOk w q sp m W A t ∧ U = q :: W ∧ B = q :: A
theorem RStOk.lt {w : World} {q sp m : Nat} {W A : List Nat} {t : Sto} (h : RStOk w q sp m W A t) : (∀ x ∈ q :: A, x < w.heap.size) ∧ (∀ x ∈ q :: W, x ∈ q :: A) ∧ ∀ x ∈ q :: W, NoU8 w x := by
  obtain ⟨h1, h2, h3⟩ := h.slots.lim
  refine ⟨fun x hx => ?_, fun x hx => ?_, fun x hx => ?_⟩
  · rcases List.mem_cons.1 hx with rfl | hx
    · exact blk_lt h.head
    · exact h1 x hx
  · rcases List.mem_cons.1 hx with rfl | hx
    · simp
    · exact List.mem_cons_of_mem _ (h2 x hx)
  · rcases List.mem_cons.1 hx with rfl | hx
    · exact NoU8.mk h.head (no8_list (by simp [no8_ptr, no8_bool]))
    · exact h3 x hx
theorem RStAt.lim {w : World} {q m : Nat} {U B : List Nat} {t : Sto} (h : RStAt w q m U B t) : (∀ x ∈ B, x < w.heap.size) ∧ (∀ x ∈ U, x ∈ B) ∧ ∀ x ∈ U, NoU8 w x := by
  obtain ⟨sp, W, A, h, rfl, rfl⟩ := h
  exact h.lt
theorem RStOk.keep {w w' : World} {q sp m : Nat} {W A T : List Nat} {t : Sto} (h : RStOk w q sp m W A t) (hc : Chg T w w') (ha : ∀ x ∈ q :: A, x ∉ T) : RStOk w' q sp m W A t :=
  ⟨hc.keep h.head (ha q (by simp)), h.slots.keep hc (fun x hx => ha x (List.mem_cons_of_mem _ hx)), h.out, h.ok⟩
theorem RStAt.keep {w w' : World} {q m : Nat} {U B T : List Nat} {t : Sto} (h : RStAt w q m U B t) (hc : Chg T w w') (ha : ∀ x ∈ B, x ∉ T) : RStAt w' q m U B t := by
  obtain ⟨sp, W, A, h, rfl, rfl⟩ := h
  exact ⟨sp, W, A, h.keep hc ha, rfl, rfl⟩
/-- What doing with it leaves. -/
def RStd (w w' : World) (q m : Nat) (U B : List Nat) (t : Sto) : Prop := ∃ U' B', RStAt w' q m U' B' t ∧ (∀ x ∈ U', x ∈ U ∨ w.heap.size ≤ x) ∧ (∀ x ∈ B', x ∈ B ∨ w.heap.size ≤ x) ∧ Chg U w w'
theorem RStd.same {w : World} {q m : Nat} {U B : List Nat} {t : Sto} (h : RStAt w q m U B t) : RStd w w q m U B t := ⟨U, B, h, fun x hx => .inl hx, fun x hx => .inl hx, Chg.refl _ _⟩
theorem RStd.glue {w w1 w2 : World} {q m : Nat} {U B U1 B1 : List Nat} {t : Sto} (hv : ∀ x ∈ U1, x ∈ U ∨ w.heap.size ≤ x) (hf : ∀ x ∈ B1, x ∈ B ∨ w.heap.size ≤ x) (hc : Chg U w w1) (h : RStd w1 w2 q m U1 B1 t) : RStd w w2 q m U B t := by
  obtain ⟨V2, F2, b1, b2, b3, b4⟩ := h
  refine ⟨V2, F2, b1, fun x hx => ?_, fun x hx => ?_, hc.trans b4 hv⟩
  · rcases b2 x hx with h | h
    · exact hv x h
    · exact .inr (Nat.le_trans hc.size h)
  · rcases b3 x hx with h | h
    · exact hf x h
    · exact .inr (Nat.le_trans hc.size h)
theorem RStd.pre {w0 w w' : World} {q m : Nat} {U B : List Nat} {t : Sto} (hc : Chg [] w0 w) (h : RStd w w' q m U B t) : RStd w0 w' q m U B t := RStd.glue (fun x hx => .inl hx) (fun x hx => .inl hx) (hc.mono (by simp)) h
theorem RStd.post {w w1 w' : World} {q m : Nat} {U B : List Nat} {t : Sto} (h : RStd w w1 q m U B t) (hc : Chg [] w1 w') : RStd w w' q m U B t := by
  obtain ⟨W1, A1, a1, a2, a3, a4⟩ := h
  exact ⟨W1, A1, a1.keep hc (by simp), a2, a3, a4.trans hc (by simp)⟩
/-- The slots have been worked on. -/
theorem RStOk.did {w w' : World} {q sp m : Nat} {W A : List Nat} {t : Sto} {s : SS} (h : RStOk w q sp m W A t) (hd : RSid w w' sp m W A s) (hk : keysOk s.rows) : RStd w w' q m (q :: W) (q :: A) { t with s := s } := by
  obtain ⟨W', A', a1, a2, a3, a4⟩ := hd
  have hl := h.lt
  have hq : q < w.heap.size := hl.1 q (by simp)
  have hW : q ∉ W := fun hm => h.out (h.slots.lim.2.1 q hm)
  refine ⟨q :: W', q :: A', ⟨sp, W', A', ⟨a4.keep h.head hW, a1, fun hm => ?_, hk⟩, rfl, rfl⟩, fun x hx => ?_, fun x hx => ?_, a4.mono (fun x hx => .inl (List.mem_cons_of_mem _ hx))⟩
  · rcases a3 q hm with h4 | h4
    · exact h.out h4
    · omega
  · rcases List.mem_cons.1 hx with rfl | hx
    · exact .inl (by simp)
    · rcases a2 x hx with h4 | h4
      · exact .inl (List.mem_cons_of_mem _ h4)
      · exact .inr h4
  · rcases List.mem_cons.1 hx with rfl | hx
    · exact .inl (by simp)
    · rcases a3 x hx with h4 | h4
      · exact .inl (List.mem_cons_of_mem _ h4)
      · exact .inr h4
theorem RStOk.cells {w : World} {q sp m : Nat} {W A : List Nat} {t : Sto} (h : RStOk w q sp m W A t) : w.cell? ⟨q, 0, none⟩ = some (.pointer (some ⟨m, 0, none⟩)) ∧ w.cell? ⟨q, 1, none⟩ = some (.pointer (some ⟨sp, 0, none⟩)) ∧ w.cell? ⟨q, 2, none⟩ = some (.bool t.whole) :=
  ⟨blk_cell h.head 0 _ rfl, blk_cell h.head 1 _ rfl, blk_cell h.head 2 _ rfl⟩
/-! ### unkey -/
/-- An eye of the reference that is read while an id is filled in block N. -/
structure REyeNew (w0 w : World) (b g N : Nat) (x : Id) (r : Int × List UInt8 × Int) : Prop where
  eye : REyeAt w b g r.2.1 r.2.2
  chg : Chg [] w0 w
  own : w0.heap.size ≤ b
  blk : w.heap[N]? = some (.cells (idC x) 38 (0, 0))
  own2 : w0.heap.size ≤ N
  ne : N ≠ b ∧ N ≠ g
theorem REyeNew.num {w0 w : World} {b g N : Nat} {x : Id} {r : Int × List UInt8 × Int} (h : REyeNew w0 w b g N x r) (n : Nat) (h1 : 1 ≤ n) (h7 : n ≤ 7) (r' : Int × List UInt8 × Int) (hr : r' = eyeNum r.2.1 r.2.2 n) :
    Calls Tryz.prog 59 #[.pointer (some ⟨b, 0, none⟩), .int .i64 n] w fun e w' => e = .returned (.int .i64 r'.1) ∧ REyeNew w0 w' b g N x r' := by
  subst hr
  refine (rnum_any b g r.2.1 r.2.2 n w h.eye (by omega) (by omega)).mono ?_
  rintro e w' ⟨rfl, h2, h3⟩
  refine ⟨rfl, h2, h.chg.trans h3 (fun x hx => .inr ?_), h.own, h3.keep h.blk (by simpa using h.ne.1), h.own2, h.ne⟩
  rw [List.mem_singleton.1 hx]; exact h.own
theorem REyeNew.set {w0 w : World} {b g N : Nat} {x y : Id} {r : Int × List UInt8 × Int} (h : REyeNew w0 w b g N x r) (j : Nat) (u : Value) (hy : (idC x).setIfInBounds j u = idC y) : REyeNew w0 (w.setCell ⟨N, j, none⟩ u) b g N y r := by
  have hc : Chg [N] w (w.setCell ⟨N, j, none⟩ u) := (Chg.refl [N] w).setCell (p := ⟨N, j, none⟩) (.inl (by simp)) u
  refine ⟨h.eye.keep hc (by simpa using Ne.symm h.ne.1) (by simpa using Ne.symm h.ne.2), h.chg.setCell (p := ⟨N, j, none⟩) (.inr h.own2) u, h.own, ?_, h.own2, h.ne⟩
  rw [← hy]; exact set_blk h.blk
theorem REyeNew.cells {w0 w : World} {b g N : Nat} {a c d e : Int} {r : Int × List UInt8 × Int} (h : REyeNew w0 w b g N ⟨a, c, d, e⟩ r) : (w.cell? ⟨N, 0, none⟩ = some (.int .i64 a) ∧ w.cell? ⟨N, 1, none⟩ = some (.int .i64 c) ∧ w.cell? ⟨N, 2, none⟩ = some (.int .i64 d) ∧ w.cell? ⟨N, 3, none⟩ = some (.int .i64 e)) ∧
    w.frozen? ⟨N, 0, none⟩ = false ∧ w.frozen? ⟨N, 1, none⟩ = false ∧ w.frozen? ⟨N, 2, none⟩ = false ∧ w.frozen? ⟨N, 3, none⟩ = false :=
  ⟨id_cells h.blk, blk_frozen h.blk 0, blk_frozen h.blk 1, blk_frozen h.blk 2, blk_frozen h.blk 3⟩
end Go.Proofs.YtdkhmfcfihbjeaaGreatDoor.W

/- The reference's slots: Clear. -/
namespace Go.Proofs.YtdkhmfcfihbjeaaGreatDoor.W
open Go.RowKit
set_option linter.unusedVariables false
set_option linter.unusedSimpArgs false

/-- What a change of the slots answers. -/
def RSidPost (w : World) (q m : Nat) (W A : List Nat) (r : Int × SS) (e : Ending) (w' : World) : Prop := e = .returned (.int .i64 r.1) ∧ RSid w w' q m W A r.2
theorem RSidPost.same {w : World} {q m : Nat} {W A : List Nat} {s : SS} {c : Int} (h : RSlotsAt w q m W A s) : RSidPost w q m W A (c, s) (.returned (.int .i64 c)) w := ⟨rfl, RSid.same h⟩
end Go.Proofs.YtdkhmfcfihbjeaaGreatDoor.W

/- The reference's padded. -/
namespace Go.Proofs.YtdkhmfcfihbjeaaGreatDoor.W
open Go.RowKit
set_option linter.unusedVariables false
set_option linter.unusedSimpArgs false

/-- Sectors in a row of rows. -/
structure PadAt (w0 w : World) (v : Value) (b : List UInt8) (j : Nat) (PV : List Value) : Prop where
  row : w.ownsRow 0 30 1 v j PV
  secs : ∀ k, k < j → BytesAt w (PV.getD k undef) (secAt b k) ∧ ∀ g, (PV.getD k undef).ownBlock = some g → w0.heap.size ≤ g ∧ v.ownBlock ≠ some g
  new : ∀ g, v.ownBlock = some g → w0.heap.size ≤ g
theorem PadAt.keep {w0 w w' : World} {v : Value} {b : List UInt8} {j : Nat} {PV : List Value} (h : PadAt w0 w v b j PV) (hc : Chg [] w w') : PadAt w0 w' v b j PV :=
  ⟨row_keep h.row (fun g hg => hc.block g (World.ownsRow.lt h.row g hg).2 (by simp)), fun k hk => ⟨(h.secs k hk).1.chg hc (by simp), (h.secs k hk).2⟩, h.new⟩
end Go.Proofs.YtdkhmfcfihbjeaaGreatDoor.W

/- The reference's slots: Put. -/
namespace Go.Proofs.YtdkhmfcfihbjeaaGreatDoor.W
open Go.RowKit
set_option linter.unusedVariables false
set_option linter.unusedSimpArgs false

theorem PadAt.form {w0 w : World} {v : Value} {b : List UInt8} {j : Nat} {PV : List Value} (h : PadAt w0 w v b j PV) : ∃ a cap, v = .slice a j cap := by
  rcases h.row.2 with ⟨h1, h2⟩ | ⟨g, cap, cur, h1, _⟩
  · exact ⟨none, 0, by rw [h1, h2]⟩
  · exact ⟨_, cap, h1⟩
theorem PadAt.at {w0 w : World} {v : Value} {b : List UInt8} {j : Nat} {PV : List Value} (h : PadAt w0 w v b j PV) (k : Nat) (hk : k < j) : ∃ g cap ax cx, v = .slice (some ⟨g, 0, none⟩) j cap ∧ w.cell? ⟨g, k, none⟩ = some (.slice ax 64 cx) ∧ BytesAt w (.slice ax 64 cx) (secAt b k) ∧ ∀ x, (Value.slice ax 64 cx).ownBlock = some x → w0.heap.size ≤ x := by
  rcases h.row.2 with ⟨h1, h2⟩ | ⟨g, cap, cur, h1, _⟩
  · omega
  · have hr := h.row
    rw [h1] at hr
    obtain ⟨_, k0, _⟩ := own_cell hr k hk
    obtain ⟨b1, b2⟩ := h.secs k hk
    obtain ⟨ax, cx, hx⟩ := b1.slice
    rw [secAt_len] at hx
    rw [hx] at k0 b1 b2
    exact ⟨g, cap, ax, cx, h1, k0, b1, fun x hx => (b2 x hx).1⟩
end Go.Proofs.YtdkhmfcfihbjeaaGreatDoor.W

/- The reference's store: Get, Put. -/
namespace Go.Proofs.YtdkhmfcfihbjeaaGreatDoor.W
open Go.RowKit
set_option linter.unusedVariables false
set_option linter.unusedSimpArgs false

end Go.Proofs.YtdkhmfcfihbjeaaGreatDoor.W

/- The reference's store: Delete, Room. -/
namespace Go.Proofs.YtdkhmfcfihbjeaaGreatDoor.W
open Go.RowKit
set_option linter.unusedVariables false
set_option linter.unusedSimpArgs false

/-- The rows of the reference's slots, to be read. -/
structure RLook (w : World) (sp : Nat) (s : SS) (a : Option Addr) (cap : Nat) : Prop where
  c2 : w.cell? ⟨sp, 2, none⟩ = some (.slice a s.rows.length cap)
  few : s.rows.length ≤ 1000
  big : s.rows.length ≤ cap
  row : ∀ i, i < s.rows.length → ∃ g kv, a = some ⟨g, 0, none⟩ ∧ w.cell? ⟨g, i * 3, none⟩ = some (.bool (s.rows.getD i noRow).used) ∧ w.cell? ⟨g, i * 3 + 1, none⟩ = some kv ∧ BytesAt w kv (s.rows.getD i noRow).key ∧ (s.rows.getD i noRow).key.length ≤ 40
theorem RSlotsAt.look {w : World} {sp m : Nat} {W A : List Nat} {s : SS} (h : RSlotsAt w sp m W A s) : ∃ a cap, RLook w sp s a cap := by
  obtain ⟨V, F, rv, R, H⟩ := h
  obtain ⟨a, cap, hrv, hcap⟩ := H.form
  have hfew := H.few
  refine ⟨a, cap, by rw [← hrv]; exact blk_cell H.obj.head 2 _ rfl, by omega, hcap, fun i hi => ?_⟩
  obtain ⟨g, cap', kv, h1, h2, _, h3, h4, _, h5, _⟩ := H.at i hi
  rw [hrv] at h1
  obtain ⟨rfl, _, _⟩ := Value.slice.inj h1
  refine ⟨g, kv, rfl, h3, h4, h5, ?_⟩
  rw [List.getD_eq_getElem?_getD, List.getElem?_eq_getElem hi]
  exact (H.ok.rows _ (List.getElem_mem hi)).2
theorem RLook.keep {w w' : World} {sp m : Nat} {W A : List Nat} {s : SS} {a : Option Addr} {cap : Nat} (h : RLook w sp s a cap) (hc : Chg [] w w') : RLook w' sp s a cap :=
  ⟨hc.cell h.c2 (by simp), h.few, h.big, fun i hi => by
    obtain ⟨g, kv, h1, h2, h3, h4, h5⟩ := h.row i hi
    exact ⟨g, kv, h1, hc.cell h2 (by simp), hc.cell h3 (by simp), h4.chg hc (by simp), h5⟩⟩

end Go.Proofs.YtdkhmfcfihbjeaaGreatDoor.W

/- The reference's List, plainly. -/
namespace Go.Proofs.YtdkhmfcfihbjeaaGreatDoor.W
open Go.RowKit
set_option linter.unusedVariables false
set_option linter.unusedSimpArgs false

def firstsTo (rows : List SRow) (i : Nat) : List Id := ((List.range i).filter (isFirst rows)).map (fun j => unId (rows.getD j noRow).key)
theorem firstsTo_succ (rows : List SRow) (i : Nat) : firstsTo rows (i + 1) = firstsTo rows i ++ if isFirst rows i then [unId (rows.getD i noRow).key] else [] := by
  unfold firstsTo
  rw [List.range_succ, List.filter_append, List.map_append]
  congr 1
  by_cases h : isFirst rows i = true
  · rw [if_pos h]; simp [h]
  · rw [if_neg h]; simp [h]
/-- What is known of the list so far. -/
structure Sorted (rows : List SRow) (i : Nat) (L : List Id) : Prop where
  rise : L.Pairwise idLt
  mem : ∀ x, x ∈ L ↔ x ∈ firstsTo rows i
  len : L.length ≤ i
theorem Sorted.zero (rows : List SRow) : Sorted rows 0 [] := ⟨List.Pairwise.nil, fun x => by simp [firstsTo], Nat.le_refl _⟩
theorem Sorted.skip {rows : List SRow} {i : Nat} {L : List Id} (h : Sorted rows i L) (hf : isFirst rows i = false) : Sorted rows (i + 1) L :=
  ⟨h.rise, fun x => by rw [firstsTo_succ, hf, h.mem]; simp, by have := h.len; omega⟩
theorem Sorted.fresh {rows : List SRow} (hk : keysOk rows) {i : Nat} (hi : i < rows.length) {L : List Id} (h : Sorted rows i L) (hf : isFirst rows i = true) : unId (rows.getD i noRow).key ∉ L := by
  intro hm
  have := (h.mem _).1 hm
  unfold firstsTo at this
  obtain ⟨j, hj, he⟩ := List.mem_map.1 this
  obtain ⟨h1, h2⟩ := List.mem_filter.1 hj
  have hji := List.mem_range.1 h1
  obtain ⟨hju, _⟩ := mem_isFirst.1 h2
  obtain ⟨hiu, hi3⟩ := mem_isFirst.1 hf
  have e1 := (un_back (hk _ (row_mem (show j < rows.length by omega)) hju)).2
  have e2 := (un_back (hk _ (row_mem hi) hiu)).2
  exact hi3 j hji ⟨hju, by rw [e1, e2, he]⟩
theorem Sorted.put {rows : List SRow} (hk : keysOk rows) {i : Nat} (hi : i < rows.length) {L : List Id} (h : Sorted rows i L) (hf : isFirst rows i = true) {k : Nat} (hkL : k ≤ L.length) (hgt : ∀ x ∈ L.drop k, idLt (unId (rows.getD i noRow).key) x)
    (hlt : ∀ x, 0 < k → L[k - 1]? = some x → ¬ idLt (unId (rows.getD i noRow).key) x) : Sorted rows (i + 1) (L.take k ++ unId (rows.getD i noRow).key :: L.drop k) := by
  have hfr := h.fresh hk hi hf
  obtain ⟨y, hy⟩ : ∃ y, y = unId (rows.getD i noRow).key := ⟨_, rfl⟩
  rw [← hy] at hgt hlt hfr ⊢
  have hsplit : L = L.take k ++ L.drop k := (List.take_append_drop k L).symm
  have hpw := h.rise
  have hlow : ∀ x ∈ L.take k, idLt x y := fun x hx => by
    have hxL : x ∈ L := List.mem_of_mem_take hx
    have hk0 : 0 < k := by
      rcases Nat.eq_zero_or_pos k with h0 | h0
      · rw [h0] at hx; simp at hx
      · exact h0
    obtain ⟨z, hz⟩ : ∃ z, L[k - 1]? = some z := ⟨_, List.getElem?_eq_getElem (by omega)⟩
    have h1 := hlt z hk0 hz
    have hzL : z ∈ L := List.mem_of_getElem? hz
    have hzy : idLt z y := by
      rcases idLt_or y z with h2 | h2 | h2
      · exact absurd h2 h1
      · rw [h2] at hfr; exact absurd hzL hfr
      · exact h2
    obtain ⟨j, hj, rfl⟩ := List.mem_iff_getElem.1 hx
    rw [List.length_take] at hj
    rw [List.getElem_take]
    by_cases hjk : j = k - 1
    · subst hjk
      have : L[k - 1] = z := by rw [List.getElem?_eq_getElem (by omega)] at hz; exact Option.some.inj hz
      rw [this]; exact hzy
    · have hlt2 := (List.pairwise_iff_getElem.1 hpw) j (k - 1) (by omega) (by omega) (by omega)
      have : L[k - 1] = z := by rw [List.getElem?_eq_getElem (by omega)] at hz; exact Option.some.inj hz
      rw [this] at hlt2
      exact idLt_trans hlt2 hzy
  refine ⟨?_, fun x => ?_, ?_⟩
  · rw [List.pairwise_append]
    rw [hsplit, List.pairwise_append] at hpw
    refine ⟨hpw.1, List.pairwise_cons.2 ⟨hgt, hpw.2.1⟩, fun a ha b hb => ?_⟩
    rcases List.mem_cons.1 hb with rfl | hb
    · exact hlow a ha
    · exact hpw.2.2 a ha b hb
  · rw [firstsTo_succ, if_pos hf, ← hy, List.mem_append, List.mem_append, ← h.mem]
    constructor
    · rintro (hx | hx)
      · exact .inl (List.mem_of_mem_take hx)
      · rcases List.mem_cons.1 hx with rfl | hx
        · exact .inr (by simp)
        · exact .inl (List.mem_of_mem_drop hx)
    · rintro (hx | hx)
      · rw [hsplit] at hx
        rcases List.mem_append.1 hx with hx | hx
        · exact .inl hx
        · exact .inr (List.mem_cons_of_mem _ hx)
      · rw [List.mem_singleton.1 hx]
        exact .inr (by simp)
  · have := h.len
    simp only [List.length_append, List.length_take, List.length_cons, List.length_drop]
    omega
theorem Sorted.done {t : Sto} (hk : keysOk t.s.rows) {L : List Id} (h : Sorted t.s.rows t.s.rows.length L) : L = t.ids := by
  have hn : L.Nodup := h.rise.imp (fun hab e => by rw [e] at hab; exact idLt_irrefl _ hab)
  have h1 : L.mergeSort leI = L := List.mergeSort_of_pairwise (h.rise.imp (fun hab => (leI_iff _ _).2 (.inl hab)))
  rw [← h1]
  exact sortedI_eq hn (firsts_nodup hk) (fun x => h.mem x)
/-! ### A row of ids that is set -/
end Go.Proofs.YtdkhmfcfihbjeaaGreatDoor.W
