/- Texts laid together. -/
import Derived.Test.YtbkajnjboipbhaaGreatDoorND6
/- StoreFull, plainly. -/
namespace Go.Proofs.YtbkajnjboipbhaaGreatDoor.W
set_option linter.unusedVariables false
set_option linter.unusedSimpArgs false

theorem range_getD (l : List SRow) : (List.range l.length).map (fun j => l.getD j noRow) = l := by
  apply List.ext_getElem (by simp)
  intro i h1 h2
  simp [List.getD_eq_getElem?_getD, List.getElem?_eq_getElem h2]
theorem used_len (l : List SRow) (P : Nat → Bool) (hP : ∀ j, j < l.length → P j = (l.getD j noRow).used) : ((List.range l.length).filter P).length + l.countP (fun r => !r.used) = l.length := by
  have h1 : ((List.range l.length).filter P).length = l.countP (fun r => r.used) := by
    rw [← List.countP_eq_length_filter]
    conv => rhs; rw [← range_getD l]
    rw [List.countP_map]
    refine List.countP_congr (fun j hj => ?_)
    rw [hP j (List.mem_range.1 hj)]
    rfl
  have h2 := List.length_eq_countP_add_countP (fun r : SRow => r.used) (l := l)
  rw [h1]
  have h3 : l.countP (fun r => decide ¬ r.used = true) = l.countP (fun r => !r.used) := List.countP_congr (fun r _ => by cases r.used <;> simp)
  omega
/-- How many ids there are. -/
theorem Kept.ids_len {t : Sto} {F : Frag} (h : Kept t F) : t.ids.length + t.room = t.s.rows.length := by
  unfold Sto.ids firsts Sto.room
  rw [List.length_mergeSort, List.length_map]
  refine used_len t.s.rows _ (fun j hj => ?_)
  cases hu : (t.s.rows.getD j noRow).used with
  | false => unfold isFirst; rw [hu]; rfl
  | true =>
    refine mem_isFirst.2 ⟨hu, fun k hk hh => ?_⟩
    obtain ⟨hm, he⟩ := un_back (h.keys _ (row_mem hj) hu)
    obtain ⟨u, v, _, h2⟩ := h.told
    have hjm : j ∈ t.at (unId (t.s.rows.getD j noRow).key) := by rw [Sto.at_may hm]; exact upto_mem.2 ⟨hj, hu, he⟩
    have hkm : k ∈ t.at (unId (t.s.rows.getD j noRow).key) := by rw [Sto.at_may hm]; exact upto_mem.2 ⟨by omega, hh.1, by rw [hh.2]; exact he⟩
    rcases h2 _ hm with ⟨_, h4⟩ | ⟨i, b, _, h4, _⟩
    · rw [h4] at hjm; cases hjm
    · rw [h4, List.mem_singleton] at hjm hkm
      omega
theorem SS.clears_ok : ∀ (l : List Nat) (s : SS), (s.clears l).2.d.ops ≤ s.d.ops + 2 * l.length ∧ (s.clears l).2.d.since.length ≤ s.d.since.length + l.length
  | [], s => ⟨Nat.le_refl _, Nat.le_refl _⟩
  | i :: r, s => by
    obtain ⟨h1, h2, _⟩ := s.clear_ok (i : Int)
    obtain ⟨g1, g2⟩ := SS.clears_ok r (s.clear (i : Int)).2
    rw [clears_cons, List.length_cons]
    split
    · exact ⟨by omega, by omega⟩
    · exact ⟨by omega, by omega⟩
theorem Sto.at_len (t : Sto) (x : Id) : (t.at x).length ≤ t.s.rows.length := by
  unfold Sto.at
  split
  · exact upto_len _ _ _
  · simp
theorem Sto.del_ok (t : Sto) (x : Id) : (t.del x).2.s.d.ops ≤ t.s.d.ops + 2 * t.s.rows.length ∧ (t.del x).2.s.d.since.length ≤ t.s.d.since.length + t.s.rows.length := by
  have hl := t.at_len x
  obtain ⟨h1, h2⟩ := SS.clears_ok (t.at x) t.s
  unfold Sto.del
  split
  · exact ⟨by dsimp only; omega, by dsimp only; omega⟩
  · exact ⟨by dsimp only; omega, by dsimp only; omega⟩
def idn (j : Nat) : Id := ⟨1, 0, (j : Int), 0⟩
theorem may_idn {j : Nat} (h : j ≤ 1000) : mayId (idn j) = true := may_iff.2 (by unfold idn; dsimp only; omega)
def fillF (b : List UInt8) (i : Nat) : Frag := fun x => if x.c = 1 ∧ x.l = 0 ∧ x.i = 0 ∧ 0 ≤ x.n ∧ x.n < i then some b else none
structure FullAt (t : Sto) (b : List UInt8) (n i : Nat) : Prop where
  kept : Kept t (fillF b i)
  room : t.room + i = n
  rows : t.s.rows.length = n
  small : t.s.d.ops ≤ 200 + 20 * i ∧ t.s.d.since.length = 0
theorem fillF_self (b : List UInt8) (i : Nat) : fillF b i (idn i) = none := if_neg (by unfold idn; dsimp only; omega)
theorem fillF_next (b : List UInt8) (i : Nat) : setF (fillF b i) (idn i) (some b) = fillF b (i + 1) := by
  funext x
  unfold setF
  by_cases e : x = idn i
  · subst e
    rw [if_pos rfl]
    exact (if_pos (by unfold idn; dsimp only; omega)).symm
  · rw [if_neg e]
    unfold fillF
    by_cases h : x.c = 1 ∧ x.l = 0 ∧ x.i = 0 ∧ 0 ≤ x.n ∧ x.n < i
    · rw [if_pos h, if_pos (by omega)]
    · rw [if_neg h, if_neg (fun h2 => ?_)]
      have : x.n = (i : Int) := by omega
      obtain ⟨a, b', c, d⟩ := x
      refine e ?_
      unfold idn
      simp only [Id.mk.injEq]
      dsimp only at *
      omega
theorem FullAt.step {t : Sto} {b : List UInt8} {n i : Nat} (h : FullAt t b n i) (hi : i < n) (hn : n ≤ 100) (hb : b.length ≤ 448) : (t.put (idn i) b).1 = 0 ∧ FullAt (t.put (idn i) b).2 b n (i + 1) := by
  obtain ⟨o1, o2, _, o4, _⟩ := t.put_ok (idn i) b
  have hr := h.room
  have hs := h.small
  obtain ⟨p1, p2, p3⟩ := h.kept.put_new (may_idn (by omega)) (fillF_self b i) hb (by omega)
  rw [fillF_next] at p2
  exact ⟨p1, p2, by omega, by rw [o4, h.rows], by omega, by rw [p2.since]; rfl⟩
theorem FullAt.new (b : List UInt8) (n : Nat) (h1 : 1 ≤ n) (h2 : n ≤ 12) : ∃ t d, (DS.new (1 + 8 * n)).format = ((0, some t), d) ∧ FullAt t b n 0 := by
  obtain ⟨t, d, f1, f2, f3, f4, f5, f6, _⟩ := Kept.new (1 + 8 * n) (by omega)
  have hrow : (1 + 8 * n - 1) / 8 = n := by omega
  rw [hrow] at f4
  refine ⟨t, d, f1, ?_, ?_, by rw [f4, List.length_replicate], by rw [f3]; omega, by rw [f2.since]; rfl⟩
  · have : fillF b 0 = fun _ => none := by
      funext x
      exact if_neg (by omega)
    rw [this]; exact f2
  · unfold Sto.room
    rw [f4]
    have := List.countP_replicate (p := fun r : SRow => !r.used) (a := noRow) (n := n)
    simp [noRow] at this ⊢
    first | omega | exact this
/-- When it is full. -/
theorem FullAt.after {t : Sto} {b : List UInt8} {n k : Nat} (h : FullAt t b n n) (hk : k < n) (hn : n ≤ 100) (hb : b.length ≤ 448) : t.put (idn n) b = (5, t) ∧ (t.del (idn k)).1 = 0 ∧ (((t.del (idn k)).2).put (idn n) b).1 = 0 ∧ (((t.del (idn k)).2).put (idn n) b).2.room = 0 ∧ (((t.del (idn k)).2).put (idn n) b).2.ids.length = n ∧ (t.del (idn k)).2.s.d.since.length = 0 := by
  have hr := h.room
  have e1 := h.kept.put_full (may_idn (by omega)) (fillF_self b n) hb (by omega)
  obtain ⟨d1, d2, d3, _, d5, d6⟩ := h.kept.del (may_idn (j := k) (by omega))
  have hF : fillF b n (idn k) = some b := if_pos (by unfold idn; dsimp only; omega)
  rw [hF] at d3
  simp only [Option.isSome_some, if_true] at d3
  have hne : idn n ≠ idn k := fun e => by
    have := congrArg Id.n e
    unfold idn at this
    dsimp only at this
    omega
  obtain ⟨p1, p2, p3⟩ := d2.put_new (may_idn (j := n) (by omega)) (by rw [setF_other _ _ hne]; exact fillF_self b n) hb (by omega)
  have hl := p2.ids_len
  obtain ⟨_, _, _, o4, _⟩ := ((t.del (idn k)).2).put_ok (idn n) b
  have hrows := h.rows
  exact ⟨e1, d1, p1, by omega, by omega, by rw [d2.since]; rfl⟩
end Go.Proofs.YtbkajnjboipbhaaGreatDoor.W

/- StoreDies, plainly. -/
namespace Go.Proofs.YtbkajnjboipbhaaGreatDoor.W
set_option linter.unusedVariables false
set_option linter.unusedSimpArgs false

theorem clears_n2 : ∀ (l : List Nat) (s : SS), (s.clears l).2.d.n = s.d.n
  | [], s => rfl
  | i :: r, s => by
    obtain ⟨_, _, h1⟩ := s.clear_ok (i : Int)
    rw [clears_cons]
    split
    · exact h1
    · rw [clears_n2 r, h1]
theorem clear_rows1 (s : SS) (i : Int) : (s.clear i).2.rows.length = s.rows.length := by
  by_cases he : (s.clear i).1 = 0
  · obtain ⟨_, _, h3⟩ := SS.clear_done he
    rw [h3, List.length_set]
  · rw [SS.clear_not he]
theorem clears_rows : ∀ (l : List Nat) (s : SS), (s.clears l).2.rows.length = s.rows.length
  | [], s => rfl
  | i :: r, s => by
    rw [clears_cons]
    split
    · exact clear_rows1 s i
    · rw [clears_rows r, clear_rows1]
def isAt (x : Id) (r : Dd) : Bool := decide (r.x = x)
def there (H : List Dd) (x : Id) : Bool := H.any (isAt x)
def lookF (H : List Dd) : Frag := fun x => (H.find? (isAt x)).map (·.b)
theorem there_false {H : List Dd} {x : Id} (h : there H x = false) : ∀ r ∈ H, r.x ≠ x := fun r hr e => by
  have := List.any_eq_false.1 h r hr
  exact this (by unfold isAt; simp [e])
theorem there_true {H : List Dd} {x : Id} : there H x = true ↔ ∃ r ∈ H, r.x = x := by
  unfold there isAt
  simp [List.any_eq_true]
theorem lookF_none {H : List Dd} {x : Id} : lookF H x = none ↔ there H x = false := by
  unfold lookF there
  rw [Option.map_eq_none_iff, List.find?_eq_none, List.any_eq_false]
theorem lookF_some {H : List Dd} {x : Id} {b : List UInt8} (h : lookF H x = some b) : ∃ r ∈ H, r.x = x ∧ r.b = b := by
  unfold lookF at h
  obtain ⟨r, hr, hb⟩ := Option.map_eq_some_iff.1 h
  have h1 := List.find?_some hr
  exact ⟨r, List.mem_of_find?_eq_some hr, by simpa [isAt] using h1, hb⟩
theorem lookF_mem : ∀ {H : List Dd}, (H.map (·.x)).Nodup → ∀ r ∈ H, lookF H r.x = some r.b
  | [], _, r, hr => by cases hr
  | s :: H, hn, r, hr => by
    rw [List.map_cons, List.nodup_cons] at hn
    unfold lookF
    rw [List.find?_cons]
    rcases List.mem_cons.1 hr with rfl | hr
    · have : isAt r.x r = true := by simp [isAt]
      rw [this]; rfl
    · have : isAt r.x s = false := by
        unfold isAt
        rw [decide_eq_false]
        intro e
        exact hn.1 (by rw [e]; exact List.mem_map_of_mem hr)
      rw [this]
      exact lookF_mem hn.2 r hr
theorem lookF_put {H : List Dd} {r : Dd} (h : there H r.x = false) : lookF (H ++ [r]) = setF (lookF H) r.x (some r.b) := by
  funext x
  unfold lookF setF
  rw [List.find?_append]
  by_cases e : x = r.x
  · subst e
    rw [if_pos rfl, List.find?_eq_none.2 (fun s hs => by
      have := there_false h s hs
      simp [isAt, this])]
    simp [isAt]
  · rw [if_neg e]
    have : List.find? (isAt x) [r] = none := by
      simp [isAt]
      exact fun e' => e e'.symm
    rw [this, Option.or_none]
theorem lookF_del (H : List Dd) (x : Id) : lookF (H.filter (fun r => !isAt x r)) = setF (lookF H) x none := by
  funext y
  unfold lookF setF
  rw [List.find?_filter]
  by_cases e : y = x
  · subst e
    rw [if_pos rfl, List.find?_eq_none.2 (fun s _ => by simp [isAt])]
    rfl
  · rw [if_neg e]
    congr 2
    funext r
    by_cases h : r.x = y
    · have : ¬ r.x = x := fun e2 => e (h.symm.trans e2)
      simp [isAt, h]
      exact fun e3 => e e3
    · simp [isAt, h]
/-- What is there behind a crash. -/
def EndsAt (d : DS) (H O : List Dd) : Prop := ∃ t F, d.stOpen = (0, some t) ∧ KeptR t F ∧ (∀ r ∈ H, F r.x = some r.b) ∧ ∀ x b, F x = some b → there H x = true ∨ ∃ r ∈ O, r.x = x ∧ r.b = b
structure Dying (t : Sto) (H O : List Dd) (k : Nat) : Prop where
  alive : t.s.d.dead = false → KeptR t (lookF H) ∧ O = []
  nodup : (H.map (·.x)).Nodup
  ends : ∀ ch, EndsAt (t.s.d.crash ch) H O
  few : H.length + O.length ≤ 2 * k
  rows : t.s.rows.length ≤ 8
  small : t.s.d.ops ≤ 100 + 60 * k ∧ t.s.d.since.length ≤ 100 + 60 * k ∧ t.s.d.n = 65
theorem ends_kept {t : Sto} {H O : List Dd} (h : KeptR t (lookF H)) (hn : (H.map (·.x)).Nodup) (ch : List UInt8) : EndsAt (t.s.d.crash ch) H O := by
  obtain ⟨t', h1, h2, _, _⟩ := h.crash ch
  refine ⟨t', _, h1, h2, fun r hr => lookF_mem hn r hr, fun x b hx => .inl ?_⟩
  obtain ⟨r, hr, e, _⟩ := lookF_some hx
  exact there_true.2 ⟨r, hr, e⟩
theorem Dying.new (fn : Int) : ∃ t d, (DS.new 65).format = ((0, some t), d) ∧ t.s.d.ops ≤ 65 ∧ t.s.d.since = [] ∧ Dying ⟨{ t.s with d := t.s.d.setFuse fn }, t.whole⟩ [] [] 0 := by
  obtain ⟨t, d, h1, h2, h3, h4, h5, h6, h7, h8⟩ := KeptR.new 65 (by omega)
  have hr := h2.rest
  have hk := h2.fuse fn
  refine ⟨t, d, h1, by rw [h3]; exact h6, hr.none, fun _ => ⟨hk, rfl⟩, by simp, fun ch => ends_kept hk (by simp) ch, by simp, ?_, ?_, ?_, ?_⟩
  · show t.s.rows.length ≤ 8
    rw [h4, List.length_replicate]; omega
  · show t.s.d.ops ≤ _
    rw [h3]; omega
  · show t.s.d.since.length ≤ _
    rw [hr.none]; simp
  · show t.s.d.n = 65
    rw [h3]; exact h5
theorem Dying.next {t : Sto} {H O : List Dd} {k : Nat} (h : Dying t H O k) : Dying t H O (k + 1) := ⟨h.alive, h.nodup, h.ends, by have := h.few; omega, h.rows, by have := h.small; omega, by have := h.small; omega, h.small.2.2⟩
def putH (H : List Dd) (e : Int) (r : Dd) : List Dd := if e = 0 ∧ there H r.x = false then H ++ [r] else H
def putO (H O : List Dd) (e : Int) (r : Dd) : List Dd := if e = 14 ∧ there H r.x = false then O ++ [r] else O
/-- Put. -/
theorem Dying.put {t : Sto} {H O : List Dd} {k : Nat} (h : Dying t H O k) (hd : t.s.d.dead = false) (r : Dd) : Dying (t.put r.x r.b).2 (putH H (t.put r.x r.b).1 r) (putO H O (t.put r.x r.b).1 r) (k + 1) := by
  obtain ⟨hk, hO⟩ := h.alive hd
  obtain ⟨o1, o2, o3, o4, _⟩ := t.put_ok r.x r.b
  have hs := h.small
  have hf := h.few
  have hrw := h.rows
  have same : (t.put r.x r.b).2 = t → ((t.put r.x r.b).1 = 0 → there H r.x = true) → (t.put r.x r.b).1 ≠ 14 → Dying (t.put r.x r.b).2 (putH H (t.put r.x r.b).1 r) (putO H O (t.put r.x r.b).1 r) (k + 1) := fun e1 e2 e3 => by
    rw [e1]
    unfold putH putO
    rw [if_neg (fun hh => by rw [e2 hh.1] at hh; cases hh.2), if_neg (fun hh => e3 hh.1)]
    exact h.next
  by_cases hbad : mayId r.x = false ∨ 448 < r.b.length
  · obtain ⟨h1, h2⟩ := hk.put_bad hbad
    refine same h2 (fun e => absurd e h1) (fun e => ?_)
    unfold Sto.put at e
    by_cases hm : mayId r.x = false
    · rw [if_pos hm] at e; simp at e
    · rw [if_neg hm, if_pos (by rcases hbad with h3 | h3; exact absurd h3 hm; exact h3)] at e
      simp at e
  · have hm : mayId r.x = true := by
      cases hh : mayId r.x with
      | true => rfl
      | false => exact absurd (.inl hh) hbad
    have hl : r.b.length ≤ 448 := by
      rcases Nat.lt_or_ge 448 r.b.length with h1 | h1
      · exact absurd (.inr h1) hbad
      · exact h1
    cases hF : lookF H r.x with
    | some c =>
      have e := hk.put_there hF r.b hl
      refine same (by rw [e]) (fun _ => ?_) (by rw [e]; dsimp only; split <;> simp)
      obtain ⟨s, hs1, hs2, _⟩ := lookF_some hF
      exact there_true.2 ⟨s, hs1, hs2⟩
    | none =>
      have hth := lookF_none.1 hF
      by_cases hr : 0 < t.room
      · rcases hk.put_may hm hF hl hr with ⟨p1, p2, p3, p4⟩ | ⟨p1, p2, p3⟩
        · have hn : ((H ++ [r]).map (·.x)).Nodup := by
            rw [List.map_append, List.nodup_append]
            refine ⟨h.nodup, by simp, fun a ha b hb e => ?_⟩
            obtain ⟨s, hs1, rfl⟩ := List.mem_map.1 ha
            have : b = r.x := by simpa using hb
            exact there_false hth s hs1 (e.trans this)
          unfold putH putO
          rw [if_pos ⟨p1, hth⟩, if_neg (fun hh => by rw [p1] at hh; cases hh.1)]
          rw [← lookF_put hth] at p2
          exact ⟨fun _ => ⟨p2, hO⟩, hn, fun ch => ends_kept p2 hn ch, by rw [List.length_append]; simp; omega, by omega, by omega, by omega, by omega⟩
        · unfold putH putO
          rw [if_neg (fun hh => by rw [p1] at hh; cases hh.1), if_pos ⟨p1, hth⟩]
          refine ⟨(fun hh => by rw [p2] at hh; cases hh), h.nodup, fun ch => ?_, by rw [List.length_append]; simp; omega, by omega, by omega, by omega, by omega⟩
          rcases p3 ch with ⟨t', q1, q2, _⟩ | ⟨t', q1, q2, _⟩
          · refine ⟨t', _, q1, q2, fun s hs => lookF_mem h.nodup s hs, fun x b hx => .inl ?_⟩
            obtain ⟨s, hs, e, _⟩ := lookF_some hx
            exact there_true.2 ⟨s, hs, e⟩
          · refine ⟨t', _, q1, q2, fun s hs => ?_, fun x b hx => ?_⟩
            · rw [setF_other _ _ (there_false hth s hs)]
              exact lookF_mem h.nodup s hs
            · by_cases e : x = r.x
              · subst e
                rw [setF_self] at hx
                exact .inr ⟨r, by simp, rfl, Option.some.inj hx⟩
              · rw [setF_other _ _ e] at hx
                obtain ⟨s, hs, e, _⟩ := lookF_some hx
                exact .inl (there_true.2 ⟨s, hs, e⟩)
      · have e := hk.put_full hm hF hl (by omega)
        exact same (by rw [e]) (fun e2 => by rw [e] at e2; simp at e2) (by rw [e]; simp)
def delH (H : List Dd) (x : Id) : List Dd := H.filter (fun r => !isAt x r)
def delO (H O : List Dd) (e : Int) (x : Id) : List Dd := if e ≠ 0 then O ++ H.filter (isAt x) else O
/-- Delete. -/
theorem Dying.del {t : Sto} {H O : List Dd} {k : Nat} (h : Dying t H O k) (hd : t.s.d.dead = false) (x : Id) : ((t.del x).1 ≠ 0 ∧ (t.del x).1 ≠ 14 ∧ Dying (t.del x).2 H O (k + 1)) ∨ (((t.del x).1 = 0 ∨ (t.del x).1 = 14) ∧ Dying (t.del x).2 (delH H x) (delO H O (t.del x).1 x) (k + 1)) := by
  obtain ⟨hk, hO⟩ := h.alive hd
  obtain ⟨o1, o2⟩ := t.del_ok x
  have hs := h.small
  have hf := h.few
  have hrw := h.rows
  cases hm : mayId x with
  | false =>
    left
    rw [Kept.del_bad hm]
    exact ⟨by simp, by simp, h.next⟩
  | true =>
    right
    have hn : ((delH H x).map (·.x)).Nodup := List.Nodup.sublist (List.Sublist.map _ List.filter_sublist) h.nodup
    have hl1 : (delH H x).length + (H.filter (isAt x)).length = H.length := by
      unfold delH
      have := List.length_eq_countP_add_countP (p := isAt x) (l := H)
      rw [List.countP_eq_length_filter, List.countP_eq_length_filter] at this
      have e : (fun a => decide (¬ isAt x a = true)) = fun r => !isAt x r := by funext a; cases isAt x a <;> rfl
      rw [e] at this
      omega
    have hdn : (t.del x).2.s.d.n = t.s.d.n := by
      unfold Sto.del
      split
      · rfl
      · exact clears_n2 _ _
    have hdr : (t.del x).2.s.rows.length ≤ 8 := by
      unfold Sto.del
      split
      · exact hrw
      · show (t.s.clears (t.at x)).2.rows.length ≤ 8
        rw [clears_rows]; exact hrw
    rcases hk.del_may hm with ⟨p1, p2, p3, p4, p5⟩ | ⟨p1, p2, p3, p4⟩
    · refine ⟨.inl p1, ?_⟩
      unfold delO
      rw [if_neg (by rw [p1]; simp)]
      rw [← lookF_del] at p2
      exact ⟨fun _ => ⟨p2, hO⟩, hn, fun ch => ends_kept p2 hn ch, by omega, hdr, by omega, by omega, by omega⟩
    · refine ⟨.inr p1, ?_⟩
      unfold delO
      rw [if_pos (by rw [p1]; simp)]
      refine ⟨(fun hh => by rw [p2] at hh; cases hh), hn, fun ch => ?_, by rw [List.length_append]; omega, hdr, by omega, by omega, by omega⟩
      have hsub : ∀ r ∈ delH H x, r ∈ H ∧ r.x ≠ x := fun r hr => by
        obtain ⟨h1, h2⟩ := List.mem_filter.1 hr
        exact ⟨h1, by simpa [isAt] using h2⟩
      have hth : ∀ y b, lookF H y = some b → y ≠ x → there (delH H x) y = true := fun y b hy hne => by
        obtain ⟨s, hs, e, _⟩ := lookF_some hy
        exact there_true.2 ⟨s, List.mem_filter.2 ⟨hs, by simp [isAt, e, hne]⟩, e⟩
      rcases p4 ch with ⟨t', q1, q2, _⟩ | ⟨t', q1, q2, _⟩
      · refine ⟨t', _, q1, q2, fun r hr => lookF_mem h.nodup r (hsub r hr).1, fun y b hy => ?_⟩
        by_cases e : y = x
        · subst e
          obtain ⟨s, hs, e, hb⟩ := lookF_some hy
          exact .inr ⟨s, List.mem_append_right _ (List.mem_filter.2 ⟨hs, by simp [isAt, e]⟩), e, hb⟩
        · exact .inl (hth y b hy e)
      · refine ⟨t', _, q1, q2, fun r hr => ?_, fun y b hy => ?_⟩
        · rw [setF_other _ _ (hsub r hr).2]
          exact lookF_mem h.nodup r (hsub r hr).1
        · by_cases e : y = x
          · subst e
            rw [setF_self] at hy; cases hy
          · rw [setF_other _ _ e] at hy
            exact .inl (hth y b hy e)
end Go.Proofs.YtbkajnjboipbhaaGreatDoor.W

/- The laws' Room; Ops; plain steps. -/
namespace Go.Proofs.YtbkajnjboipbhaaGreatDoor.W
open Go.RowKit
set_option linter.unusedVariables false
set_option linter.unusedSimpArgs false

def Few (n most : Nat) (f : Nat → Dd) : Prop := n ≤ most ∧ ∀ i, i < n → (f i).b.length ≤ 600
set_option maxHeartbeats 8000000 in
set_option maxRecDepth 100000 in
theorem room6_any (a : Option Addr) (n cap most : Nat) (f : Nat → Dd) (w : World) (h : DeedsAt w a n f) (hm : most ≤ 1000) :
    Calls Tryz.prog 24 #[.slice a n cap, .int .i64 (most : Int)] w fun e w' => (e = .returned (.bool true) ∧ Few n most f ∨ e = .returned (.bool false)) ∧ w = w' := by
  by_cases hn : n ≤ most
  · have hz : ¬ (most : Int) < (n : Int) := by omega
    have HD := Lib.hid h
    clear h
    go_enter Tryz.func24, Tryz.ntmps24
    go_wp2
    go_loopg [5] n (fun g' s5 wr => ∃ k : Nat, s5 = .int .i64 k ∧ k ≤ n ∧ n ≤ k + g' ∧ w = wr ∧ Hid (∀ i, i < k → (f i).b.length ≤ 600))
    case atStart => exact ⟨0, rfl, by omega, by omega, rfl, Lib.hid (fun i hi => by omega)⟩
    case round =>
      obtain ⟨k, rfl, hk, hkg, rfl, HF⟩ := hrel
      by_cases hlt : k < n
      · obtain ⟨g, o, rfl, hc⟩ : ∃ g o, a = some ⟨g, o, none⟩ ∧ ∀ i, i < n → DdAt w g (o + i * 7) (f i) := by
          rcases HD.out with h | h
          · omega
          · exact h
        have hd := hc k hlt
        have c6 := hd.c6
        obtain ⟨a4, q4, e4⟩ := hd.came.1.slice
        have hll := hd.long
        rw [e4] at c6
        clear hc hd e4
        have hkz : (k : Int) < (n : Int) := by omega
        have hkz1 : (k : Int).toNat = k := by omega
        obtain ⟨l4, h4⟩ : ∃ l4, l4 = (f k).b.length := ⟨_, rfl⟩
        rw [← h4] at c6 hll
        have H4 := Lib.hid h4
        have hl5 : l4 ≤ 9223372036854775807 := by unfold maxLen at hll; omega
        clear h4
        by_cases hsb : l4 ≤ 600
        · have hz4 : ¬ (600 : Int) < (l4 : Int) := by omega
          go_wp2
          go_roundg (gk - 1)
          case measure => omega
          case rel => exact ⟨k + 1, by go_num, by omega, by omega, rfl, Lib.hid (fun i hi => by
            by_cases hik : i = k
            · subst hik; rw [← H4.out]; exact hsb
            · exact HF.out i (by omega))⟩
        · have hz4 : (600 : Int) < (l4 : Int) := by omega
          go_wp2
          go_ret
          exact ⟨.inr rfl, rfl⟩
      · have hkn : k = n := by omega
        go_wp2
        go_ret
        exact ⟨.inl ⟨rfl, hn, fun i hi => HF.out i (by omega)⟩, rfl⟩
  · have hz : (most : Int) < (n : Int) := by omega
    clear h
    go_enter Tryz.func24, Tryz.ntmps24
    go_wp2
    go_ret
    exact ⟨.inr rfl, rfl⟩

/-- A store of known fragments, after any Put. -/
theorem Kept.put_any {t : Sto} {F : Frag} (h : Kept t F) (x : Id) (b : List UInt8) : (∃ F', Kept (t.put x b).2 F') ∧ ((t.put x b).1 = 0 → (t.put x b).2.put x b = (0, (t.put x b).2)) := by
  by_cases hbad : mayId x = false ∨ 448 < b.length
  · obtain ⟨h1, h2⟩ := h.put_bad hbad
    exact ⟨⟨F, by rw [h2]; exact h⟩, fun h0 => absurd h0 h1⟩
  · have hm : mayId x = true := by
      cases hh : mayId x with
      | true => rfl
      | false => exact absurd (.inl hh) hbad
    have hl : b.length ≤ 448 := by
      rcases Nat.lt_or_ge 448 b.length with h1 | h1
      · exact absurd (.inr h1) hbad
      · exact h1
    cases hF : F x with
    | some c =>
      have e := h.put_there hF b hl
      rw [e]
      refine ⟨⟨F, h⟩, fun h0 => ?_⟩
      dsimp only at h0 ⊢
      rw [e]
      by_cases hc : c = b
      · rw [if_pos hc]
      · rw [if_neg hc] at h0; simp at h0
    | none =>
      by_cases hr : 0 < t.room
      · obtain ⟨p1, p2, p3⟩ := h.put_new hm hF hl hr
        refine ⟨⟨_, p2⟩, fun _ => ?_⟩
        rw [p2.put_there (setF_self _ _ _) b hl, if_pos rfl]
      · have e := h.put_full hm hF hl (by omega)
        rw [e]
        exact ⟨⟨F, h⟩, fun h0 => by simp at h0⟩
theorem Kept.del_any {t : Sto} {F : Frag} (h : Kept t F) (x : Id) : (∃ F', Kept (t.del x).2 F') ∧ ((t.del x).1 = 0 → (t.del x).2.del x = (0, (t.del x).2)) := by
  cases hm : mayId x with
  | false =>
    have e := Kept.del_bad (t := t) hm
    rw [e]
    exact ⟨⟨F, h⟩, fun h0 => by simp at h0⟩
  | true =>
    obtain ⟨d1, d2, _, _, _, _⟩ := h.del hm
    refine ⟨⟨_, d2⟩, fun _ => ?_⟩
    obtain ⟨e1, e2, e3, e4, _, _⟩ := d2.del hm
    exact Prod.ext e1 (e4 (setF_self _ _ _))
theorem Sto.del_rows (t : Sto) (x : Id) {F : Frag} (h : Kept t F) : (t.del x).2.s.rows.length = t.s.rows.length := by
  cases hm : mayId x with
  | false => rw [Kept.del_bad hm]
  | true => exact (h.del hm).2.2.2.2.2
structure AgainAt (t : Sto) (i : Nat) : Prop where
  kept : ∃ F, Kept t F
  rows : t.s.rows.length = 8
  small : t.s.d.ops ≤ 100 + 60 * i
theorem AgainAt.zero {t : Sto} {i : Nat} (h : AgainAt t i) : t.s.d.since.length = 0 := by obtain ⟨F, hF⟩ := h.kept; rw [hF.since]; rfl
theorem AgainAt.new : ∃ t d, (DS.new 65).format = ((0, some t), d) ∧ AgainAt t 0 := by
  obtain ⟨t, d, h1, h2, h3, h4, h5, h6, _⟩ := Kept.new 65 (by omega)
  exact ⟨t, d, h1, ⟨_, h2⟩, by rw [h4, List.length_replicate], by rw [h3]; omega⟩
theorem AgainAt.put {t : Sto} {i : Nat} (h : AgainAt t i) (x : Id) (b : List UInt8) : AgainAt (t.put x b).2 (i + 1) ∧ ((t.put x b).1 = 0 → (t.put x b).2.put x b = (0, (t.put x b).2)) := by
  obtain ⟨F, hF⟩ := h.kept
  obtain ⟨h1, h2⟩ := hF.put_any x b
  obtain ⟨o1, _, _, o4, _⟩ := t.put_ok x b
  have := h.small
  exact ⟨⟨h1, by rw [o4, h.rows], by omega⟩, h2⟩
theorem AgainAt.del {t : Sto} {i : Nat} (h : AgainAt t i) (x : Id) : AgainAt (t.del x).2 (i + 1) ∧ ((t.del x).1 = 0 → (t.del x).2.del x = (0, (t.del x).2)) := by
  obtain ⟨F, hF⟩ := h.kept
  obtain ⟨h1, h2⟩ := hF.del_any x
  obtain ⟨o1, _⟩ := t.del_ok x
  have hr := h.rows
  have := h.small
  exact ⟨⟨h1, by rw [t.del_rows x hF, hr], by omega⟩, h2⟩
theorem AgainAt.next {t : Sto} {i : Nat} (h : AgainAt t i) : AgainAt t (i + 1) := ⟨h.kept, h.rows, by have := h.small; omega⟩
end Go.Proofs.YtbkajnjboipbhaaGreatDoor.W

/- StoreDies: the walk (printed by gen_storedies.py off SDW.head). -/
namespace Go.Proofs.YtbkajnjboipbhaaGreatDoor.W
open Go.RowKit
set_option linter.unusedVariables false
set_option linter.unusedSimpArgs false

def ddC (r : Dd) : List Value := [.int .i64 r.k, .int .i64 r.n, .int .i64 r.x.c, .int .i64 r.x.l, .int .i64 r.x.n, .int .i64 r.x.i, r.bv]
def ddPl (v : Value) (H : List Dd) : Pl := ⟨v, 52, 7, H.length, H.flatMap ddC⟩
theorem elDeeds : El Tryz.prog 48 52 (.agg #[.int .i64 0, .int .i64 0, .int .i64 0, .int .i64 0, .int .i64 0, .int .i64 0, .slice none 0 0]) 7 72 := El.mk Tryz.underlying48 (by kernel_rfl) rfl (by decide)
theorem elDeeds8 : ∀ (j : Nat) (c : Value), (Value.agg #[.int .i64 0, .int .i64 0, .int .i64 0, .int .i64 0, .int .i64 0, .int .i64 0, .slice none 0 0]).cells[j]? = some c → No8 c := fun j c h => by
  match j with
  | 0 => simp [Value.cells] at h; rw [← h]; exact no8_i64
  | 1 => simp [Value.cells] at h; rw [← h]; exact no8_i64
  | 2 => simp [Value.cells] at h; rw [← h]; exact no8_i64
  | 3 => simp [Value.cells] at h; rw [← h]; exact no8_i64
  | 4 => simp [Value.cells] at h; rw [← h]; exact no8_i64
  | 5 => simp [Value.cells] at h; rw [← h]; exact no8_i64
  | 6 => simp [Value.cells] at h; rw [← h]; exact no8_slice
  | j + 7 => simp [Value.cells] at h
theorem i64_low7 (n : Nat) (h : n ≤ 255) : bits .and .i64 (n : Int) 127 = ((n % 128 : Nat) : Int) := by
  show IntKind.i64.wrap ((BitVec.ofInt 64 (n : Int) &&& BitVec.ofInt 64 ((127 : Nat) : Int)).toNat : Int) = _
  rw [BitVec.toNat_and, ofInt_i64 n (by omega), ofInt_i64 127 (by omega), show (127 : Nat) = 2 ^ 7 - 1 from rfl, Nat.and_two_pow_sub_one_eq_mod, IntKind.wrap_i64]
  omega
theorem delH_nil (x : Id) : delH [] x = [] := rfl
theorem delO_nil (O : List Dd) (e : Int) (x : Id) : delO [] O e x = O := by unfold delO; split <;> simp
theorem delH_succ (H : List Dd) (j : Nat) {y : Dd} (hy : H[j]? = some y) (x : Id) : delH (H.take (j + 1)) x = delH (H.take j) x ++ if y.x = x then [] else [y] := by
  obtain ⟨hj, rfl⟩ := List.getElem?_eq_some_iff.1 hy
  unfold delH
  rw [List.take_succ_eq_append_getElem hj, List.filter_append]
  congr 1
  by_cases h : H[j].x = x
  · rw [if_pos h]; simp [isAt, h]
  · rw [if_neg h]; simp [isAt, h]
theorem delO_succ (H O : List Dd) (j : Nat) {y : Dd} (hy : H[j]? = some y) (e : Int) (x : Id) : delO (H.take (j + 1)) O e x = delO (H.take j) O e x ++ if e ≠ 0 ∧ y.x = x then [y] else [] := by
  obtain ⟨hj, rfl⟩ := List.getElem?_eq_some_iff.1 hy
  unfold delO
  by_cases he : e = 0
  · rw [if_neg (by simp [he]), if_neg (by simp [he]), if_neg (by simp [he])]; simp
  · rw [if_pos he, if_pos he, List.take_succ_eq_append_getElem hj, List.filter_append, List.append_assoc]
    congr 2
    by_cases h : H[j].x = x
    · rw [if_pos ⟨he, h⟩]; simp [isAt, h]
    · rw [if_neg (fun hh => h hh.2)]; simp [isAt, h]
theorem delH_len (H : List Dd) (x : Id) : (delH H x).length ≤ H.length := List.length_filter_le _ _
theorem delO_len (H O : List Dd) (e : Int) (x : Id) : (delO H O e x).length ≤ O.length + H.length := by
  unfold delO
  split
  · rw [List.length_append]; have := List.length_filter_le (isAt x) H; omega
  · omega
/-- What is known of a deed that came in. -/
structure DdIn (w : World) (r : Dd) : Prop where
  came : Came w r.bv r.b
  len : r.b.length ≤ 600
  x : okD r.x
theorem Dy.pl1 {w0 w : World} {q p : Nat} {U : List Nat} {t : Sto} {L : List Pl} {P : Pl} (h : Dy w0 w q p U t (P :: L)) : PlAt w0 w P := h.each P (by simp)
theorem Dy.pl2 {w0 w : World} {q p : Nat} {U : List Nat} {t : Sto} {L : List Pl} {P Q : Pl} (h : Dy w0 w q p U t (Q :: P :: L)) : PlAt w0 w P := h.each P (by simp)
theorem Dy.pl3 {w0 w : World} {q p : Nat} {U : List Nat} {t : Sto} {L : List Pl} {P Q R : Pl} (h : Dy w0 w q p U t (R :: Q :: P :: L)) : PlAt w0 w P := h.each P (by simp)
theorem Dy.pl4 {w0 w : World} {q p : Nat} {U : List Nat} {t : Sto} {L : List Pl} {P Q R S : Pl} (h : Dy w0 w q p U t (S :: R :: Q :: P :: L)) : PlAt w0 w P := h.each P (by simp)
theorem Dy.perm {w0 w : World} {q p : Nat} {U : List Nat} {t : Sto} {L L' : List Pl} (h : Dy w0 w q p U t L) (hp : L.Perm L') : Dy w0 w q p U t L' :=
  h.regroup (fun S hS => .inl (hp.mem_iff.2 hS)) ((List.Perm.nodup_iff (hp.flatMap_right _)).1 h.nodup)
theorem Dy.rot3 {w0 w : World} {q p : Nat} {U : List Nat} {t : Sto} {P Q R : Pl} (h : Dy w0 w q p U t [P, Q, R]) : Dy w0 w q p U t [R, Q, P] := h.perm (List.reverse_perm [P, Q, R]).symm
theorem Dy.drop2 {w0 w : World} {q p : Nat} {U : List Nat} {t : Sto} {P Q R S : Pl} (h : Dy w0 w q p U t [P, Q, R, S]) : Dy w0 w q p U t [P, Q] := (h.perm (show [P, Q, R, S].Perm [S, R, P, Q] from (List.perm_append_comm (l₁ := [P, Q]) (l₂ := [R, S])).trans (List.Perm.swap _ _ _))).tail.tail
theorem Dy.drop1 {w0 w : World} {q p : Nat} {U : List Nat} {t : Sto} {P Q R : Pl} (h : Dy w0 w q p U t [P, Q, R]) : Dy w0 w q p U t [P, Q] := (h.perm (show [P, Q, R].Perm [R, P, Q] from List.perm_append_comm (l₁ := [P, Q]) (l₂ := [R]))).tail
theorem there_succ (H : List Dd) (j : Nat) {y : Dd} (hy : H[j]? = some y) (x : Id) : there (H.take (j + 1)) x = (there (H.take j) x || decide (y.x = x)) := by
  obtain ⟨hj, rfl⟩ := List.getElem?_eq_some_iff.1 hy
  unfold there isAt
  rw [List.take_succ_eq_append_getElem hj, List.any_append]
  simp
theorem StAt.ids_few {G : List Nat} {w : World} {q p : Nat} {U : List Nat} {t : Sto} (h : StAt G w q p U t) : t.ids.length ≤ 1000 := by
  have h1 := t.ids_len
  obtain ⟨sp, mb, Us, φ, N, hU', _⟩ := h
  obtain ⟨S0, rv0, R0, H0⟩ := hU'.slots
  have := H0.few
  omega
/-- A slice of ids, to be read. -/
def KRow (w : World) (v : Value) (l : List Id) : Prop := ∀ j, j < l.length → ∃ g cap x, v = .slice (some ⟨g, 0, none⟩) l.length cap ∧ l[j]? = some x ∧ w.cell? ⟨g, j * 4, none⟩ = some (.int .i64 x.c) ∧ w.cell? ⟨g, j * 4 + 1, none⟩ = some (.int .i64 x.l) ∧ w.cell? ⟨g, j * 4 + 2, none⟩ = some (.int .i64 x.n) ∧ w.cell? ⟨g, j * 4 + 3, none⟩ = some (.int .i64 x.i)
theorem KRow.of {w : World} {base : Nat} {v : Value} {l : List Id} (h : w.ownsRow base 25 4 v l.length (l.flatMap idE)) : ∃ a cap, v = .slice a l.length cap ∧ KRow w v l := by
  rcases h.2 with ⟨h1, h2⟩ | ⟨g, cap, cur, h1, _⟩
  · exact ⟨none, 0, by rw [h1, h2], fun j hj => by omega⟩
  · refine ⟨_, cap, h1, fun j hj => ⟨g, cap, l[j], h1, List.getElem?_eq_getElem hj, ?_⟩⟩
    rw [h1] at h
    exact id_row h j hj _ (List.getElem?_eq_getElem hj)
theorem get_small {t : Sto} {F : Frag} (h : KeptR t F) {x : Id} {b : List UInt8} (hF : F x = some b) : b.length ≤ 1000 := by
  obtain ⟨u, v, h1, h2⟩ := h.told
  obtain ⟨hm, _⟩ := h.at_some hF
  rcases h2 x hm with ⟨h3, _⟩ | ⟨i, b', h3, h4, h5⟩
  · rw [hF] at h3; cases h3
  · rw [hF] at h3
    obtain rfl := Option.some.inj h3
    have hi : i ∈ upto t.s.rows t.s.rows.length (idKey x) := by rw [← Sto.at_may hm, h4]; simp
    obtain ⟨a, b1, _⟩ := upto_mem.1 hi
    have hd := h1.data i a (by rw [← h1.used i a]; exact b1)
    rw [← h5, ← hd]
    unfold SS.data
    rw [List.length_take]
    have := h1.small i a
    have e : t.s.row (i : Int) = t.s.rows.getD i noRow := rfl
    rw [e]; omega
def found (O : List Dd) (x : Id) (b : List UInt8) : Bool := O.any (fun r => decide (r.x = x) && decide (r.b = b))
theorem found_ok {H O : List Dd} {x : Id} {b : List UInt8} (h : there H x = true ∨ ∃ r ∈ O, r.x = x ∧ r.b = b) : (there H x || found O x b) = true := by
  rcases h with h | ⟨r, hr, h1, h2⟩
  · rw [h]; rfl
  · have : found O x b = true := List.any_eq_true.2 ⟨r, hr, by simp [h1, h2]⟩
    rw [this]; simp
theorem found_succ (O : List Dd) (j : Nat) {y : Dd} (hy : O[j]? = some y) (x : Id) (b : List UInt8) : found (O.take (j + 1)) x b = (found (O.take j) x b || (decide (y.x = x) && decide (y.b = b))) := by
  obtain ⟨hj, rfl⟩ := List.getElem?_eq_some_iff.1 hy
  unfold found
  rw [List.take_succ_eq_append_getElem hj, List.any_append]
  simp
theorem Dy.form1 {w0 w : World} {q p : Nat} {U : List Nat} {t : Sto} {L : List Pl} {v : Value} {H : List Dd} (h : Dy w0 w q p U t (ddPl v H :: L)) : ∃ a cap, v = .slice a H.length cap := (PlAt.form h.pl1).1
theorem Dy.form2 {w0 w : World} {q p : Nat} {U : List Nat} {t : Sto} {L : List Pl} {P : Pl} {v : Value} {H : List Dd} (h : Dy w0 w q p U t (P :: ddPl v H :: L)) : ∃ a cap, v = .slice a H.length cap := (PlAt.form h.pl2).1
/-- A row of deeds at k, to be read. -/
theorem dd_row {w0 w : World} {v : Value} {H : List Dd} (h : PlAt w0 w (ddPl v H)) (k : Nat) (hk : k < H.length) : ∃ g cap, v = .slice (some ⟨g, 0, none⟩) H.length cap ∧
    (w.cell? ⟨g, k * 7, none⟩ = some (.int .i64 H[k].k) ∧ w.cell? ⟨g, k * 7 + 1, none⟩ = some (.int .i64 H[k].n)) ∧ (w.cell? ⟨g, k * 7 + 2, none⟩ = some (.int .i64 H[k].x.c) ∧ w.cell? ⟨g, k * 7 + 2 + 1, none⟩ = some (.int .i64 H[k].x.l) ∧ w.cell? ⟨g, k * 7 + 2 + 2, none⟩ = some (.int .i64 H[k].x.n) ∧ w.cell? ⟨g, k * 7 + 2 + 3, none⟩ = some (.int .i64 H[k].x.i)) ∧ w.cell? ⟨g, k * 7 + 6, none⟩ = some H[k].bv := by
  have hx : ∀ (H : List Dd) (k : Nat) (hk : k < H.length) (j : Nat), j < 7 → (H.flatMap ddC)[k * 7 + j]? = (ddC H[k])[j]? := by
    intro H
    induction H with
    | nil => intro k hk; simp at hk
    | cons r H ih =>
      intro k hk j hj
      rw [List.flatMap_cons]
      cases k with
      | zero =>
        rw [List.getElem?_append_left (by show _ < 7; omega)]
        simp
      | succ k =>
        rw [List.getElem?_append_right (by show 7 ≤ _; omega)]
        have e : (k + 1) * 7 + j - (ddC r).length = k * 7 + j := by show (k + 1) * 7 + j - 7 = _; omega
        rw [e, ih k (by simpa using hk) j hj]
        simp
  obtain ⟨_, hf⟩ := h.form
  have hm : k * 7 + 7 ≤ H.length * 7 := by omega
  obtain ⟨g, cap, rfl, _⟩ := hf (k * 7) _ (by omega) (by have := hx H k hk 0 (by omega); rw [Nat.add_zero] at this; rw [this]; rfl)
  have get : ∀ j u, j < 7 → (ddC H[k])[j]? = some u → w.cell? ⟨g, k * 7 + j, none⟩ = some u := fun j u hj hu => by
    obtain ⟨g', cap', he, hc⟩ := hf (k * 7 + j) u (by omega) (by rw [hx H k hk j hj]; exact hu)
    obtain ⟨he, _, _⟩ := Value.slice.inj he
    obtain rfl : g = g' := by simpa using he
    exact hc
  exact ⟨g, cap, rfl, ⟨get 0 _ (by omega) rfl, get 1 _ (by omega) rfl⟩, ⟨get 2 _ (by omega) rfl, get 3 _ (by omega) rfl, get 4 _ (by omega) rfl, get 5 _ (by omega) rfl⟩, get 6 _ (by omega) rfl⟩

theorem dd_range {w0 w : World} {v : Value} {H : List Dd} (h : PlAt w0 w (ddPl v H)) {k : Nat} {y : Dd} (hk : H[k]? = some y) : ∃ g cap, v = .slice (some ⟨g, 0, none⟩) H.length cap ∧ w.rangeAt g (k * 7) (ddC y) := by
  obtain ⟨hl, rfl⟩ := List.getElem?_eq_some_iff.1 hk
  obtain ⟨g, cap, rfl, ⟨m0, m1⟩, ⟨m2, m3, m4, m5⟩, m6⟩ := dd_row h k hl
  refine ⟨g, cap, rfl, fun j v hj => ?_⟩
  match j with
  | 0 => obtain rfl := Option.some.inj hj; exact m0
  | 1 => obtain rfl := Option.some.inj hj; exact m1
  | 2 => obtain rfl := Option.some.inj hj; exact m2
  | 3 => obtain rfl := Option.some.inj hj; exact m3
  | 4 => obtain rfl := Option.some.inj hj; exact m4
  | 5 => obtain rfl := Option.some.inj hj; exact m5
  | 6 => obtain rfl := Option.some.inj hj; exact m6
  | j + 7 => simp [ddC] at hj
theorem dd_size (y : Dd) : (Tryz.prog.info? 52).map (·.size) = some (ddC y).length := by
  have h : (Tryz.prog.info? 52).map (·.size) = some 7 := by kernel_rfl
  exact h
theorem dd_one (y : Dd) : (∀ u ∈ (ddC y).toArray.toList, y.bv.oneCell' = true → u.oneCell' = true) ∧ ∀ c ∈ (ddC y).toArray.toList, No8 y.bv → No8 c := by
  constructor
  · intro u hu
    simp [ddC] at hu
    rcases hu with rfl | rfl | rfl | rfl | rfl | rfl | rfl <;> first | exact fun _ => rfl | exact id
  · intro u hu
    simp [ddC] at hu
    rcases hu with rfl | rfl | rfl | rfl | rfl | rfl | rfl <;> first | exact fun _ => no8_i64 | exact id
theorem dd_ones {w : World} {y : Dd} (h : DdIn w y) : (∀ u ∈ (ddC y).toArray.toList, u.oneCell' = true) ∧ ∀ c ∈ (ddC y).toArray.toList, No8 c := by
  obtain ⟨a, c, hv⟩ := h.came.1.slice
  obtain ⟨h1, h2⟩ := dd_one y
  exact ⟨fun u hu => h1 u hu (by rw [hv]; rfl), fun u hu => h2 u hu (by rw [hv]; exact no8_slice)⟩
theorem ddPl_snoc (v : Value) (H : List Dd) (y : Dd) : ddPl v (H ++ [y]) = ⟨v, 52, 7, H.length + 1, H.flatMap ddC ++ (ddC y).toArray.toList⟩ := by
  unfold ddPl
  rw [List.flatMap_append, List.length_append]
  simp
theorem dd_rowy {w0 w : World} {v : Value} {H : List Dd} (h : PlAt w0 w (ddPl v H)) {k : Nat} {y : Dd} (hk : H[k]? = some y) : ∃ g cap, v = .slice (some ⟨g, 0, none⟩) H.length cap ∧
    (w.cell? ⟨g, k * 7, none⟩ = some (.int .i64 y.k) ∧ w.cell? ⟨g, k * 7 + 1, none⟩ = some (.int .i64 y.n)) ∧ (w.cell? ⟨g, k * 7 + 2, none⟩ = some (.int .i64 y.x.c) ∧ w.cell? ⟨g, k * 7 + 2 + 1, none⟩ = some (.int .i64 y.x.l) ∧ w.cell? ⟨g, k * 7 + 2 + 2, none⟩ = some (.int .i64 y.x.n) ∧ w.cell? ⟨g, k * 7 + 2 + 3, none⟩ = some (.int .i64 y.x.i)) ∧ w.cell? ⟨g, k * 7 + 6, none⟩ = some y.bv := by
  obtain ⟨hl, rfl⟩ := List.getElem?_eq_some_iff.1 hk
  exact dd_row h k hl
theorem eqin_id (x y : Id) (hx : okD x) (hy : okD y) (w : World) : (Op.equalIn 10000 25 (idV x) (idV y)).run Tryz.prog w = .ok (decide (x = y)) w := by
  have h := eq_id x y hx hy w
  rw [run_eql_struct] at h
  cases hr : (Op.equalIn 10000 25 (idV x) (idV y)).run Tryz.prog w with
  | ok r w' =>
    rw [hr] at h
    simp [Result.andThen] at h
    obtain ⟨rfl, rfl⟩ := h
    rfl
  | _ => rw [hr] at h; simp [Result.andThen] at h
/-- The law's own x. -/
structure XAt (w : World) (x : Nat) (r : Dd) : Prop where
  c0 : w.cell? ⟨x, 0, none⟩ = some (.int .i64 r.k)
  c1 : w.cell? ⟨x, 1, none⟩ = some (.int .i64 r.n)
  c2 : w.cell? ⟨x, 2, none⟩ = some (.int .i64 r.x.c)
  c3 : w.cell? ⟨x, 2 + 1, none⟩ = some (.int .i64 r.x.l)
  c4 : w.cell? ⟨x, 2 + 2, none⟩ = some (.int .i64 r.x.n)
  c5 : w.cell? ⟨x, 2 + 3, none⟩ = some (.int .i64 r.x.i)
  c6 : w.cell? ⟨x, 6, none⟩ = some r.bv
  range : w.rangeAt x 0 (ddC r)
theorem dd_x {w0 w : World} {x : Nat} {r : Dd} (h : PlAt w0 w (ddPl (.slice (some ⟨x, 0, none⟩) 1 1) [r])) : XAt w x r := by
  obtain ⟨g, cap, hv, ⟨m0, m1⟩, ⟨m2, m3, m4, m5⟩, m6⟩ := dd_rowy h (k := 0) rfl
  obtain ⟨g', cap', hv', hr⟩ := dd_range h (k := 0) rfl
  obtain ⟨hv, _, _⟩ := Value.slice.inj hv
  obtain rfl : x = g := by simpa using hv
  obtain ⟨hv', _, _⟩ := Value.slice.inj hv'
  obtain rfl : x = g' := by simpa using hv'
  simp only [Nat.zero_mul, Nat.zero_add] at m0 m1 m2 m3 m4 m5 m6 hr
  exact ⟨m0, m1, m2, m3, m4, m5, m6, hr⟩
theorem Dy.x {w0 w : World} {q p : Nat} {U : List Nat} {t : Sto} {L : List Pl} (h : Dy w0 w q p U t L) {r : Dd} (hr : DdIn w0 r) : Dy w0 (w.alloc (.cells (ddC r).toArray 52)) q p U t (ddPl (.slice (some ⟨w.heap.size, 0, none⟩) 1 1) [r] :: L) := by
  have := h.fresh (ddC r).toArray 52 7 rfl (dd_ones hr).2
  have e : ddPl (.slice (some ⟨w.heap.size, 0, none⟩) 1 1) [r] = ⟨.slice (some ⟨w.heap.size, 0, none⟩) 1 1, 52, 7, 1, (ddC r).toArray.toList⟩ := by unfold ddPl; simp
  rw [e]; exact this

set_option maxHeartbeats 16000000 in
set_option maxRecDepth 100000 in
theorem dies6_any (a : Option Addr) (n cap : Nat) (f : Nat → Dd) (fn : Nat) (hfn : fn ≤ 255) (ca : Option Addr) (cc : Nat) (ch : List UInt8) (w : World) (h : DeedsAt w a n f) (hch : Came w (.slice ca ch.length cc) ch) (hcl : ch.length ≤ maxLen) :
    Calls Tryz.prog 9 #[.slice a n cap, .int .u8 (fn : Int), .slice ca ch.length cc] w fun e w' => e = .returned (.bool true) ∧ Chg [] w w' := by
  have CA := Lib.hid (awake6_any w)
  have HD := Lib.hid h
  have HCH := Lib.hid hch
  unfold maxLen at hcl
  clear h hch
  go_enter Tryz.func9, Tryz.ntmps9
  go_wp2_with fail
  refine CA.out.mono ?_
  rintro e w0 ⟨rfl, hc0⟩
  have HC0 := Lib.hid hc0
  have CR := Lib.hid (room6_any a n cap 40 f w0 (HD.out.keep hc0) (by omega))
  clear hc0 CA
  go_wp2_with fail
  refine CR.out.mono ?_
  rintro e w0' ⟨hroom, hq⟩
  subst hq
  rcases hroom with ⟨rfl, hfew⟩ | rfl
  rotate_left
  · go_wp2
    go_ret
    exact ⟨rfl, HC0.out⟩
  by_cases hc200 : ch.length ≤ 200
  rotate_left
  · have hz : (200 : Int) < (ch.length : Int) := by omega
    go_wp2
    go_ret
    exact ⟨rfl, HC0.out⟩
  have hz200 : ¬ (200 : Int) < (ch.length : Int) := by omega
  have HF := Lib.hid hfew
  have CN := Lib.hid (dnew_any 65 w0 (by omega) (by omega))
  clear hfew CR
  go_wp2_with fail
  refine CN.out.mono ?_
  rintro e w1 ⟨p, S, rfl, hd1, hS1, hc1⟩
  obtain ⟨t0, d0, hfm, ho0, hs0, hdy0⟩ := Dying.new ((fn % 128 : Nat) : Int)
  have CO := Lib.hid (format_any p S _ w1 hd1 (by show 0 ≤ _; omega) (by show 0 ≤ _; omega))
  rw [hfm] at CO
  have HC1 := Lib.hid hc1
  have HS1 := Lib.hid hS1
  have HDY0 := Lib.hid hdy0
  clear hd1 hS1 hc1 CN hfm hdy0
  go_wp2_with fail
  refine CO.out.mono ?_
  rintro e w2 ⟨q, U, rfl, hs2, hU2, hc2⟩
  have H2 : Hid (Dy w w2 q p U t0 []) := Lib.hid (Dy.start hs2 (fun x hx => by
    have a0 := HC0.out.size
    have a1 := HC1.out.size
    rcases hU2 x hx with h | h
    · have := HS1.out x h; omega
    · omega) ((HC0.out.trans HC1.out (by simp)).trans hc2 (fun x hx => .inr (by
    have a0 := HC0.out.size
    have := HS1.out x hx; omega))))
  have CF := Lib.hid (hs2.fuse ((fn % 128 : Nat) : Int) (by omega))
  have hband := i64_low7 fn hfn
  clear hs2 hU2 hc2 CO HS1
  go_wp2_with fail
  refine CF.out.mono ?_
  rintro e w3 ⟨rfl, hs3⟩
  obtain ⟨U3, hD3, _⟩ := H2.out.std hs3
  have H3 : Hid (Dy w w3 q p U3 _ [ddPl (.slice none 0 0) [], ddPl (.slice none 0 0) []]) := Lib.hid ((hD3.nil _ _).nil _ _)
  generalize (⟨{ t0.s with d := t0.s.d.setFuse ((fn % 128 : Nat) : Int) }, t0.whole⟩ : Sto) = t1 at *
  clear hs3 hD3 H2 CF hband HC1 ho0 hs0
  go_wp2_with fail
  go_loopg [11, 12, 13, 14, 15, 16, 17, 18, 19, 20] n (fun g' s11 s12 s13 s14 s15 s16 s17 s18 s19 s20 wr => ∃ (k : Nat) (U : List Nat) (t : Sto) (H O : List Dd), s13 = .int .i64 (k : Int) ∧ k ≤ n ∧ n ≤ k + g' ∧ Hid (Dy w wr q p U t [ddPl s11 H, ddPl s12 O] ∧ Dying t H O k ∧ (∀ r ∈ H, DdIn w r) ∧ ∀ r ∈ O, DdIn w r))
  case atStart => exact ⟨0, U3, t1, [], [], rfl, by omega, by omega, Lib.hid ⟨H3.out, HDY0.out, by simp, by simp⟩⟩
  case round =>
    obtain ⟨k, U, t, H, O, rfl, hk, hkg, HR⟩ := hrel
    clear H3 HDY0
    obtain ⟨ah, ch', rfl⟩ := HR.out.1.form1
    obtain ⟨ao, co', rfl⟩ := HR.out.1.form2
    have CD := Lib.hid HR.out.1.st.dead
    obtain ⟨gg, hgg⟩ : ∃ gg : Bool, gg = (decide (k < n) && !t.s.d.dead) := ⟨_, rfl⟩
    have HGG := Lib.hid hgg
    clear hgg
    go_upto_region 13 with (fail)
    go_cut [71] (fun s71 wx => s71 = .bool gg ∧ wx = wr)
    case first =>
      by_cases hlt : k < n
      · have hkz : (k : Int) < (n : Int) := by omega
        cases hd : t.s.d.dead
        all_goals
          rw [hd] at CD
          have HG1 := Lib.hid HGG.out
          rw [hd] at HG1
          clear hd HGG
          go_wp2_with fail
          refine CD.out.mono ?_
          rintro e w' ⟨rfl, hq⟩
          subst hq
          go_wp2_with fail
          go_meet
          exact ⟨by rw [HG1.out]; simp [hlt], rfl⟩
      · have hkz : ¬ (k : Int) < (n : Int) := by omega
        go_wp2_with fail
        go_meet
        exact ⟨by rw [HGG.out]; simp [hlt], rfl⟩
    case rest =>
    obtain ⟨rfl, hwc⟩ := hcut
    rw [hwc]
    clear hwc CD
    by_cases hgo : k < n ∧ t.s.d.dead = false
    · skip
      obtain ⟨hlt, hdead⟩ := hgo
      obtain rfl : gg = true := by rw [HGG.out, hdead]; simp [hlt]
      have hkz : (k : Int) < (n : Int) := by omega
      have hkz1 : (k : Int).toNat = k := by omega
      obtain ⟨g, o, rfl, hdeed⟩ : ∃ g o, a = some ⟨g, o, none⟩ ∧ ∀ i, i < n → DdAt w g (o + i * 7) (f i) := HD.out.resolve_left (by omega)
      have hd := hdeed k hlt
      obtain ⟨hT, hDy, hHi, hOi⟩ := HR.out
      have hd' := hd.keep hT.chg
      have e0 := hd'.c0
      have e1 := hd'.c1
      have e2 := hd'.c2
      have e3 := hd'.c3
      have e4 := hd'.c4
      have e5 := hd'.c5
      have e6 := hd'.c6
      have hxo := hd.wx
      have hbl : (f k).b.length ≤ 600 := HF.out.2 k hlt
      have hn40 := HF.out.1
      obtain ⟨a6, q6, v6⟩ := hd.came.1.slice
      have K6 := Lib.hid hd.came
      rw [v6] at e6
      have HIN : Hid (DdIn w (f k)) := Lib.hid ⟨hd.came, hbl, hd.wx⟩
      have HDY := Lib.hid hDy
      have HHI := Lib.hid hHi
      have HOI := Lib.hid hOi
      have HDEAD := Lib.hid hdead
      have hsm := hDy.small
      have hrw8 := hDy.rows
      have hfew := hDy.few
      clear HF HR hd hd' hdeed hDy hHi hOi HGG hdead
      obtain ⟨r, hr⟩ : ∃ r, r = f k := ⟨_, rfl⟩
      rw [← hr] at e0 e1 e2 e3 e4 e5 e6 hxo hbl v6 K6 HIN
      clear hr
      obtain ⟨fd, fm, ⟨xc, xl, xn, xi⟩, bv0, bb⟩ := r
      dsimp only at e0 e1 e2 e3 e4 e5 e6 hxo hbl v6 K6
      subst v6
      obtain ⟨r, hr⟩ : ∃ r : Dd, r = ⟨fd, fm, ⟨xc, xl, xn, xi⟩, .slice a6 bb.length q6, bb⟩ := ⟨_, rfl⟩
      rw [← hr] at HIN
      obtain ⟨x, hx⟩ : ∃ x, x = wr.heap.size := ⟨_, rfl⟩
      obtain ⟨w1, hw1⟩ : ∃ w1, w1 = wr.alloc (.cells (ddC r).toArray 52) := ⟨_, rfl⟩
      have T1 : Hid (Dy w w1 q p U t [ddPl (.slice (some ⟨x, 0, none⟩) 1 1) [r], ddPl (.slice ah H.length ch') H, ddPl (.slice ao O.length co') O]) := Lib.hid (by
        rw [hx, hw1]
        exact hT.x HIN.out)
      have HR0 := Lib.hid hr
      have HXC : Hid (∀ w', XAt w' x r → (w'.cell? ⟨x, 0, none⟩ = some (.int .i64 fd) ∧ w'.cell? ⟨x, 6, none⟩ = some (.slice a6 bb.length q6)) ∧
          (w'.cell? ⟨x, 2, none⟩ = some (.int .i64 xc) ∧ w'.cell? ⟨x, 2 + 1, none⟩ = some (.int .i64 xl) ∧ w'.cell? ⟨x, 2 + 2, none⟩ = some (.int .i64 xn) ∧ w'.cell? ⟨x, 2 + 3, none⟩ = some (.int .i64 xi))) := Lib.hid (fun w' h => by
        rw [hr] at h
        exact ⟨⟨h.c0, h.c6⟩, h.c2, h.c3, h.c4, h.c5⟩)
      have HX := Lib.hid hx
      rw [hr] at hw1
      have hw1 : w1 = wr.alloc (.cells #[.int .i64 fd, .int .i64 fm, .int .i64 xc, .int .i64 xl, .int .i64 xn, .int .i64 xi, .slice a6 bb.length q6] 52) := hw1
      have HW1 := Lib.hid hw1
      have HB1 : Hid (BytesAt w1 (.slice a6 bb.length q6) bb) := Lib.hid (K6.out.1.chg T1.out.chg (by simp))
      have HBU : Hid (bb ≠ [] → ∀ y, (Value.slice a6 bb.length q6).ownBlock = some y → y < w.heap.size) := Lib.hid (fun hl y hy => K6.out.2 hl y hy)
      clear hT hw1 hx hr
      by_cases hd6 : fd = 6
      · have hq6 : (fd == 6) = true := by simp [hd6]
        clear hd6
        have CP := Lib.hid (stdel_any q p U t ⟨xc, xl, xn, xi⟩ w1 T1.out.st hxo (by omega) (by omega))
        have hst := HDY.out.del HDEAD.out ⟨xc, xl, xn, xi⟩
        have HST := Lib.hid hst
        clear hst
        have HRX : Hid (r.x = ⟨xc, xl, xn, xi⟩) := Lib.hid (by rw [HR0.out])
        rw [← HRX.out] at HST CP
        generalize t.del r.x = z at *
        obtain ⟨ze, t5⟩ := z
        dsimp only at CP HST
        rw [HRX.out] at CP
        go_wp2_with fail
        rw [← HW1.out, ← HX.out]
        clear e0 e1 e2 e3 e4 e5 e6
        obtain ⟨⟨x0, x6⟩, x2, x3, x4, x5⟩ := HXC.out w1 (dd_x T1.out.pl1)
        refine CP.out.mono ?_
        rintro e w5 ⟨rfl, hs5⟩
        obtain ⟨U5, hT5, hc5⟩ := T1.out.std hs5
        have T5 := Lib.hid hT5
        obtain ⟨⟨x0, x6⟩, x2, x3, x4, x5⟩ := HXC.out w5 (dd_x hT5.pl1)
        clear hs5 hT5 hc5 CP
        rcases HST.out with ⟨hz0, hz14, hdy⟩ | ⟨hz, hdy⟩
        · have q0 : (ze != 0) = true := by simp [hz0]
          have q14 : (ze != 14) = true := by simp [hz14]
          have HEND : Hid (Dy w w5 q p U5 t5 [ddPl (.slice ah H.length ch') H, ddPl (.slice ao O.length co') O] ∧ Dying t5 H O (k + 1) ∧ (∀ r ∈ H, DdIn w r) ∧ ∀ r ∈ O, DdIn w r) := Lib.hid ⟨T5.out.tail, hdy, HHI.out, HOI.out⟩
          clear hz0 hz14 hdy
          go_wp2_with fail
          go_roundg (gk - 1)
          case measure => omega
          case rel => exact ⟨k + 1, U5, t5, H, O, by go_num, by omega, by omega, HEND⟩
        · have HDY5 := Lib.hid hdy
          have HZ := Lib.hid hz
          clear hdy hz
          go_upto_region 18 with (fail)
          go_cut [90] (fun s90 wx => s90 = .bool false ∧ wx = w5)
          case first =>
            rcases HZ.out with rfl | rfl
            · go_wp2_with fail
              go_meet
              exact ⟨rfl, rfl⟩
            · go_wp2_with fail
              go_meet
              exact ⟨rfl, rfl⟩
          case rest =>
          obtain ⟨rfl, hwc⟩ := hcut
          rw [hwc]
          clear hwc
          obtain ⟨nH, hnH⟩ : ∃ nH, nH = H.length := ⟨_, rfl⟩
          have hnb : nH ≤ 100 := by omega
          have HNH := Lib.hid hnH
          have HOL := Lib.hid (show O.length ≤ 100 by omega)
          have T5' : Hid (Dy w w5 q p U5 t5 [ddPl (.slice none 0 0) (delH (H.take 0) r.x), ddPl (.slice ao O.length co') (delO (H.take 0) O ze r.x), ddPl (.slice ah nH ch') H, ddPl (.slice (some ⟨x, 0, none⟩) 1 1) [r]]) := Lib.hid (by
            rw [HNH.out, List.take_zero, delH_nil, delO_nil]
            exact (T5.out.rot3).nil _ _)
          rw [← hnH]
          clear hnH T5 hfew
          obtain ⟨wo, rfl⟩ : ∃ wo : World, wo = wr := ⟨_, rfl⟩
          obtain ⟨gko, rfl⟩ : ∃ gko : Nat, gko = gk := ⟨_, rfl⟩
          go_wp2_with fail
          go_loopg [12, 16, 17] nH (fun g' s12 s16 s17 wr => ∃ (j : Nat), s17 = .int .i64 (j : Int) ∧ j ≤ nH ∧ nH ≤ j + g' ∧ Hid (Dy w wr q p U5 t5 [ddPl s16 (delH (H.take j) r.x), ddPl s12 (delO (H.take j) O ze r.x), ddPl (.slice ah nH ch') H, ddPl (.slice (some ⟨x, 0, none⟩) 1 1) [r]]))
          case atStart => exact ⟨0, rfl, by omega, by omega, T5'⟩
          case round =>
            obtain ⟨j, rfl, hj, hjg, HJ⟩ := hrel
            obtain ⟨ak, ck, rfl⟩ := HJ.out.form1
            obtain ⟨aO, cO, rfl⟩ := HJ.out.form2
            have HKL := Lib.hid (delH_len (H.take j) r.x)
            have HOL2 := Lib.hid (delO_len (H.take j) O ze r.x)
            by_cases hjl : j < nH
            · have hjH : j < H.length := by rw [← HNH.out]; exact hjl
              obtain ⟨y, hy⟩ : ∃ y, H[j]? = some y := ⟨_, List.getElem?_eq_getElem hjH⟩
              have HY := Lib.hid hy
              have HYI := Lib.hid (HHI.out _ (List.mem_of_getElem? hy))
              obtain ⟨g2, cap2, hv2, ⟨m0, m1⟩, ⟨m2, m3, m4, m5⟩, m6⟩ := dd_rowy HJ.out.pl3 hy
              obtain ⟨ha2, -, hca2⟩ := Value.slice.inj hv2
              obtain ⟨⟨x0, x6⟩, x2, x3, x4, x5⟩ := HXC.out wr (dd_x HJ.out.pl4)
              have hjz : (j : Int) < (nH : Int) := by omega
              have hjz1 : (j : Int).toNat = j := by omega
              have HSH := Lib.hid (delH_succ H j hy r.x)
              have HSO := Lib.hid (delO_succ H O j hy ze r.x)
              have HON := Lib.hid (dd_ones HYI.out)
              have hsz := Lib.hid (dd_size y)
              have hyo := HYI.out.x
              obtain ⟨zx, hzx⟩ : ∃ zx, zx = y.x := ⟨_, rfl⟩
              rw [← hzx] at m2 m3 m4 m5 HSH HSO hyo
              obtain ⟨K, hK⟩ : ∃ K, K = delH (H.take j) r.x := ⟨_, rfl⟩
              obtain ⟨O', hO'⟩ : ∃ O', O' = delO (H.take j) O ze r.x := ⟨_, rfl⟩
              rw [← hK] at HJ HKL HSH
              rw [← hO'] at HJ HOL2 HSO
              have HKL : Hid (K.length ≤ j) := Lib.hid (by have := HKL.out; rw [List.length_take] at this; omega)
              have HOL2 : Hid (O'.length ≤ O.length + j) := Lib.hid (by have := HOL2.out; rw [List.length_take] at this; omega)
              rw [← hK, ← hO']
              subst ha2
              clear hv2 hK hO' hjH hy hzx hca2 m0 m1 m6 x0 x6
              obtain ⟨zc, zl, zn, zi⟩ := zx
              dsimp only at m2 m3 m4 m5
              by_cases hyx : (⟨zc, zl, zn, zi⟩ : Id) = r.x
              · have hyx' := hyx
                rw [HRX.out] at hyx'
                obtain ⟨rfl, rfl, rfl, rfl⟩ : zc = xc ∧ zl = xl ∧ zn = xn ∧ zi = xi := by simpa using hyx'
                rw [if_pos hyx, List.append_nil] at HSH
                have HYX := Lib.hid hyx
                clear hyx hyx'
                go_wp2_with fail
                go_quiet (fail)
                have HJ1 := Lib.hid (HJ.out.keep ((Chg.refl [] wr).drewN nq))
                clear m2 m3 m4 m5 x2 x3 x4 x5 HJ
                generalize wr.drewN nq = wq at *
                by_cases hze : ze = 0
                · subst hze
                  rw [if_neg (by simp), List.append_nil] at HSO
                  have HEND : Hid (Dy w wq q p U5 t5 [ddPl (.slice ak K.length ck) (delH (H.take (j + 1)) r.x), ddPl (.slice aO O'.length cO) (delO (H.take (j + 1)) O 0 r.x), ddPl (.slice (some ⟨g2, 0, none⟩) nH ch') H, ddPl (.slice (some ⟨x, 0, none⟩) 1 1) [r]]) := Lib.hid (by rw [HSH.out, HSO.out]; exact HJ1.out)
                  go_wp2_with fail
                  go_roundg (gk - 1)
                  case measure => omega
                  case rel => exact ⟨j + 1, by go_num, by omega, by omega, HEND⟩
                · have q0 : (ze != 0) = true := by simp [hze]
                  rw [if_pos ⟨hze, HYX.out⟩] at HSO
                  obtain ⟨g3, cap3, hv3, hrg⟩ := dd_range HJ1.out.pl3 HY.out
                  have HRG : Hid (wq.rangeAt g2 (j * 7) (ddC y)) := Lib.hid (by
                    obtain ⟨hv3, _, _⟩ := Value.slice.inj hv3
                    obtain rfl : g2 = g3 := by simpa using hv3
                    exact hrg)
                  have HJS : Hid (Dy w wq q p U5 t5 (⟨.slice aO O'.length cO, 52, 7, O'.length, O'.flatMap ddC⟩ :: [ddPl (.slice ak K.length ck) K, ddPl (.slice (some ⟨g2, 0, none⟩) nH ch') H, ddPl (.slice (some ⟨x, 0, none⟩) 1 1) [r]])) := Lib.hid HJ1.out.swap
                  have hol := HOL2.out
                  have hol1 := HOL.out
                  clear hv3 hrg hyo
                  have hsz7 : Hid ((Tryz.prog.info? 52).map (·.size) = some 7) := Lib.hid (dd_size y)
                  obtain ⟨yva, yvc, hyv⟩ := HYI.out.came.1.slice
                  obtain ⟨yk, yn, ⟨ya1, ya2, ya3, ya4⟩, yv, yb⟩ := y
                  dsimp only at hyv
                  subst hyv
                  have HRG : Hid (wq.rangeAt g2 (j * 7) [.int .i64 yk, .int .i64 yn, .int .i64 ya1, .int .i64 ya2, .int .i64 ya3, .int .i64 ya4, .slice yva yb.length yvc]) := HRG
                  have HON1 : Hid (∀ u ∈ (#[.int .i64 yk, .int .i64 yn, .int .i64 ya1, .int .i64 ya2, .int .i64 ya3, .int .i64 ya4, .slice yva yb.length yvc] : Array Value).toList, u.oneCell' = true) := Lib.hid HON.out.1
                  have HON2 : Hid (∀ u ∈ (#[.int .i64 yk, .int .i64 yn, .int .i64 ya1, .int .i64 ya2, .int .i64 ya3, .int .i64 ya4, .slice yva yb.length yvc] : Array Value).toList, No8 u) := Lib.hid HON.out.2
                  go_wp2_with (first
                    | (refine wpList_load_mid (by rfl) 52 (.tmp 117) (by rfl) g2 (j * 7) (by rfl) [.int .i64 yk, .int .i64 yn, .int .i64 ya1, .int .i64 ya2, .int .i64 ya3, .int .i64 ya4, .slice yva yb.length yvc] _ HRG.out Tryz.underlying52 rfl hsz7.out ?_)
                    | (at_builtin; refine wpList_pile rfl _ _ _ rfl elDeeds elDeeds8 _ _ _ rfl HJS.out _ rfl 1 #[.int .i64 yk, .int .i64 yn, .int .i64 ya1, .int .i64 ya2, .int .i64 ya3, .int .i64 ya4, .slice yva yb.length yvc] rfl rfl HON1.out HON2.out (by unfold maxLen; omega) (by omega) ?_; intro g4 cap4 w4 hD4 hc4))
                  have HEND : Hid (Dy w w4 q p U5 t5 [ddPl (.slice ak K.length ck) (delH (H.take (j + 1)) r.x), ddPl (.slice (some ⟨g4, 0, none⟩) (O'.length + 1) cap4) (delO (H.take (j + 1)) O ze r.x), ddPl (.slice (some ⟨g2, 0, none⟩) nH ch') H, ddPl (.slice (some ⟨x, 0, none⟩) 1 1) [r]]) := Lib.hid (by
                    rw [HSH.out, HSO.out, ddPl_snoc]
                    exact hD4.swap)
                  clear hD4 hc4
                  go_wp2_with fail
                  go_roundg (gk - 1)
                  case measure => omega
                  case rel => exact ⟨j + 1, by go_num, by omega, by omega, HEND⟩
              · rw [if_neg hyx] at HSH
                rw [if_neg (fun hh => hyx hh.2), List.append_nil] at HSO
                rw [HRX.out] at hyx
                have HNE := fun w => eqin_id ⟨zc, zl, zn, zi⟩ ⟨xc, xl, xn, xi⟩ hyo hxo w
                rw [decide_eq_false hyx] at HNE
                clear hyx
                go_wp2_with fail
                go_quiet (fail)
                have HJ1 := Lib.hid (HJ.out.keep ((Chg.refl [] wr).drewN nq))
                clear m2 m3 m4 m5 x2 x3 x4 x5 HJ HNE
                generalize wr.drewN nq = wq at *
                obtain ⟨g3, cap3, hv3, hrg⟩ := dd_range HJ1.out.pl3 HY.out
                have HRG : Hid (wq.rangeAt g2 (j * 7) (ddC y)) := Lib.hid (by
                  obtain ⟨hv3, _, _⟩ := Value.slice.inj hv3
                  obtain rfl : g2 = g3 := by simpa using hv3
                  exact hrg)
                have HJS : Hid (Dy w wq q p U5 t5 (⟨.slice ak K.length ck, 52, 7, K.length, K.flatMap ddC⟩ :: [ddPl (.slice aO O'.length cO) O', ddPl (.slice (some ⟨g2, 0, none⟩) nH ch') H, ddPl (.slice (some ⟨x, 0, none⟩) 1 1) [r]])) := HJ1
                have hkl := HKL.out
                clear hv3 hrg hyo
                have hsz7 : Hid ((Tryz.prog.info? 52).map (·.size) = some 7) := Lib.hid (dd_size y)
                obtain ⟨yva, yvc, hyv⟩ := HYI.out.came.1.slice
                obtain ⟨yk, yn, ⟨ya1, ya2, ya3, ya4⟩, yv, yb⟩ := y
                dsimp only at hyv
                subst hyv
                have HRG : Hid (wq.rangeAt g2 (j * 7) [.int .i64 yk, .int .i64 yn, .int .i64 ya1, .int .i64 ya2, .int .i64 ya3, .int .i64 ya4, .slice yva yb.length yvc]) := HRG
                have HON1 : Hid (∀ u ∈ (#[.int .i64 yk, .int .i64 yn, .int .i64 ya1, .int .i64 ya2, .int .i64 ya3, .int .i64 ya4, .slice yva yb.length yvc] : Array Value).toList, u.oneCell' = true) := Lib.hid HON.out.1
                have HON2 : Hid (∀ u ∈ (#[.int .i64 yk, .int .i64 yn, .int .i64 ya1, .int .i64 ya2, .int .i64 ya3, .int .i64 ya4, .slice yva yb.length yvc] : Array Value).toList, No8 u) := Lib.hid HON.out.2
                go_wp2_with (first
                  | (refine wpList_load_mid (by rfl) 52 (.tmp 108) (by rfl) g2 (j * 7) (by rfl) [.int .i64 yk, .int .i64 yn, .int .i64 ya1, .int .i64 ya2, .int .i64 ya3, .int .i64 ya4, .slice yva yb.length yvc] _ HRG.out Tryz.underlying52 rfl hsz7.out ?_)
                  | (at_builtin; refine wpList_pile rfl _ _ _ rfl elDeeds elDeeds8 _ _ _ rfl HJS.out _ rfl 1 #[.int .i64 yk, .int .i64 yn, .int .i64 ya1, .int .i64 ya2, .int .i64 ya3, .int .i64 ya4, .slice yva yb.length yvc] rfl rfl HON1.out HON2.out (by unfold maxLen; omega) (by omega) ?_; intro g4 cap4 w4 hD4 hc4))
                have HEND : Hid (Dy w w4 q p U5 t5 [ddPl (.slice (some ⟨g4, 0, none⟩) (K.length + 1) cap4) (delH (H.take (j + 1)) r.x), ddPl (.slice aO O'.length cO) (delO (H.take (j + 1)) O ze r.x), ddPl (.slice (some ⟨g2, 0, none⟩) nH ch') H, ddPl (.slice (some ⟨x, 0, none⟩) 1 1) [r]]) := Lib.hid (by
                  rw [HSH.out, HSO.out, ddPl_snoc]
                  exact hD4)
                clear hD4 hc4
                go_wp2_with fail
                go_roundg (gk - 1)
                case measure => omega
                case rel => exact ⟨j + 1, by go_num, by omega, by omega, HEND⟩
            · have hjn : j = nH := by omega
              have hjz : ¬ (j : Int) < (nH : Int) := by omega
              subst hjn
              have HEND : Hid (Dy w wr q p U5 t5 [ddPl (.slice ak (delH (H.take j) r.x).length ck) (delH H r.x), ddPl (.slice aO (delO (H.take j) O ze r.x).length cO) (delO H O ze r.x)] ∧ Dying t5 (delH H r.x) (delO H O ze r.x) (k + 1) ∧ (∀ r' ∈ delH H r.x, DdIn w r') ∧ ∀ r' ∈ delO H O ze r.x, DdIn w r') := Lib.hid (by
                have e : H.take j = H := List.take_of_length_le (by have := HNH.out; omega)
                rw [e] at HJ ⊢
                refine ⟨HJ.out.drop2, HDY5.out, fun r' hr' => HHI.out r' ((List.mem_filter.1 hr').1), fun r' hr' => ?_⟩
                unfold delO at hr'
                split at hr'
                · rcases List.mem_append.1 hr' with h | h
                  · exact HOI.out r' h
                  · exact HHI.out r' ((List.mem_filter.1 h).1)
                · exact HOI.out r' hr')
              obtain ⟨x0, x6⟩ := (HXC.out wr (dd_x HJ.out.pl4)).1
              go_wp2_with fail
              go_roundg (gko - 1)
              case measure => omega
              case rel => exact ⟨k + 1, U5, t5, _, _, by go_num, by omega, by omega, HEND⟩
      · have hq6 : (fd == 6) = false := by simp [hd6]
        have hd6' := Lib.hid hd6
        clear hd6
        by_cases hd4 : fd ≤ 4
        · have CP := Lib.hid (stput_any q p U t ⟨xc, xl, xn, xi⟩ (.slice a6 bb.length q6) bb w1 T1.out.st hxo HB1.out (fun hl y hy hm => by
            have b1 := HBU.out hl y hy
            have b2 := T1.out.newU y hm
            omega) (by omega) (by omega) (by omega))
          have hst := HDY.out.put HDEAD.out r
          have HST := Lib.hid hst
          clear hst
          have HRX : Hid (r.x = ⟨xc, xl, xn, xi⟩ ∧ r.b = bb) := Lib.hid (by rw [HR0.out]; exact ⟨rfl, rfl⟩)
          rw [← HRX.out.1] at CP
          rw [HRX.out.2] at HST
          generalize t.put r.x bb = z at *
          obtain ⟨ze, t5⟩ := z
          dsimp only at CP HST
          rw [HRX.out.1] at CP
          go_wp2_with fail
          rw [← HW1.out, ← HX.out]
          clear e0 e1 e2 e3 e4 e5 e6
          obtain ⟨⟨x0, x6⟩, x2, x3, x4, x5⟩ := HXC.out w1 (dd_x T1.out.pl1)
          refine CP.out.mono ?_
          rintro e w5 ⟨rfl, hs5⟩
          obtain ⟨U5, hT5, hc5⟩ := T1.out.std hs5
          have T5 := Lib.hid hT5
          clear hs5 hT5 hc5 CP x0 x2 x3 x4 x5 x6
          obtain ⟨nH, hnH⟩ : ∃ nH, nH = H.length := ⟨_, rfl⟩
          have hnb : nH ≤ 100 := by omega
          have HNH := Lib.hid hnH
          have HOL := Lib.hid (show O.length ≤ 100 by omega)
          rw [← hnH] at T5
          rw [← hnH]
          clear hnH hfew
          obtain ⟨wo, rfl⟩ : ∃ wo : World, wo = wr := ⟨_, rfl⟩
          obtain ⟨gko, rfl⟩ : ∃ gko : Nat, gko = gk := ⟨_, rfl⟩
          go_wp2_with fail
          go_loopg [19, 20] nH (fun g' s19 s20 wr => ∃ (j : Nat), s20 = .int .i64 (j : Int) ∧ s19 = .bool (there (H.take j) r.x) ∧ j ≤ nH ∧ nH ≤ j + g' ∧ Hid (Dy w wr q p U5 t5 [ddPl (.slice (some ⟨x, 0, none⟩) 1 1) [r], ddPl (.slice ah nH ch') H, ddPl (.slice ao O.length co') O]))
          case atStart => exact ⟨0, rfl, rfl, by omega, by omega, T5⟩
          case round =>
            obtain ⟨j, rfl, rfl, hj, hjg, HJ⟩ := hrel
            clear T5
            by_cases hjl : j < nH
            · have hjH : j < H.length := by rw [← HNH.out]; exact hjl
              obtain ⟨y, hy⟩ : ∃ y, H[j]? = some y := ⟨_, List.getElem?_eq_getElem hjH⟩
              have HTH := Lib.hid (there_succ H j hy r.x)
              have hjz : (j : Int) < (nH : Int) := by omega
              have hjz1 : (j : Int).toNat = j := by omega
              have HYI := Lib.hid (HHI.out _ (List.mem_of_getElem? hy))
              obtain ⟨g2, cap2, hv2, ⟨m0, m1⟩, ⟨m2, m3, m4, m5⟩, m6⟩ := dd_rowy HJ.out.pl2 hy
              obtain ⟨ha2, -, hca2⟩ := Value.slice.inj hv2
              obtain ⟨⟨x0, x6⟩, x2, x3, x4, x5⟩ := HXC.out wr (dd_x HJ.out.pl1)
              have hyo := HYI.out.x
              obtain ⟨zx, hzx⟩ : ∃ zx, zx = y.x := ⟨_, rfl⟩
              rw [← hzx] at m2 m3 m4 m5 HTH hyo
              subst ha2
              clear hv2 hjH hy hzx hca2 m0 m1 m6 x0 x6
              generalize there (H.take j) r.x = bt at *
              obtain ⟨zc, zl, zn, zi⟩ := zx
              dsimp only at m2 m3 m4 m5
              cases bt with
              | true =>
                have HE : Hid (there (H.take (j + 1)) r.x = true) := Lib.hid (by rw [HTH.out]; rfl)
                go_wp2_with fail
                go_quiet (fail)
                have HJ1 := Lib.hid (HJ.out.keep ((Chg.refl [] wr).drewN nq))
                clear m2 m3 m4 m5 x2 x3 x4 x5 HJ HTH
                generalize wr.drewN nq = wq at *
                go_wp2_with fail
                go_roundg (gk - 1)
                case measure => omega
                case rel => exact ⟨j + 1, by go_num, by rw [HE.out], by omega, by omega, HJ1⟩
              | false =>
                obtain ⟨b2, hb2⟩ : ∃ b2, b2 = decide ((⟨zc, zl, zn, zi⟩ : Id) = r.x) := ⟨_, rfl⟩
                have HE : Hid (there (H.take (j + 1)) r.x = b2) := Lib.hid (by rw [HTH.out, hb2]; rfl)
                rw [HRX.out.1] at hb2
                have HNE := fun w => eqin_id ⟨zc, zl, zn, zi⟩ ⟨xc, xl, xn, xi⟩ hyo hxo w
                rw [← hb2] at HNE
                clear hb2
                go_wp2_with fail
                go_quiet (fail)
                have HJ1 := Lib.hid (HJ.out.keep ((Chg.refl [] wr).drewN nq))
                clear m2 m3 m4 m5 x2 x3 x4 x5 HJ HTH HNE
                generalize wr.drewN nq = wq at *
                go_wp2_with fail
                go_roundg (gk - 1)
                case measure => omega
                case rel => exact ⟨j + 1, by go_num, by rw [HE.out], by omega, by omega, HJ1⟩
            · have hjn : j = nH := by omega
              have hjz : ¬ (j : Int) < (nH : Int) := by omega
              have hth : there (H.take j) r.x = there H r.x := by rw [List.take_of_length_le (by have := HNH.out; omega)]
              rw [hth]
              obtain ⟨⟨x0, x6⟩, x2, x3, x4, x5⟩ := HXC.out wr (dd_x HJ.out.pl1)
              have hrg := (dd_x HJ.out.pl1).range
              rw [HR0.out] at hrg
              have HRG : Hid (wr.rangeAt x 0 [.int .i64 fd, .int .i64 fm, .int .i64 xc, .int .i64 xl, .int .i64 xn, .int .i64 xi, .slice a6 bb.length q6]) := Lib.hid hrg
              have HON := dd_ones HIN.out
              rw [HR0.out] at HON
              have hsz7 : Hid ((Tryz.prog.info? 52).map (·.size) = some 7) := Lib.hid (dd_size r)
              have HON1 : Hid (∀ u ∈ (#[.int .i64 fd, .int .i64 fm, .int .i64 xc, .int .i64 xl, .int .i64 xn, .int .i64 xi, .slice a6 bb.length q6] : Array Value).toList, u.oneCell' = true) := Lib.hid HON.1
              have HON2 : Hid (∀ u ∈ (#[.int .i64 fd, .int .i64 fm, .int .i64 xc, .int .i64 xl, .int .i64 xn, .int .i64 xi, .slice a6 bb.length q6] : Array Value).toList, No8 u) := Lib.hid HON.2
              have HPH : Hid (putH H ze r = if ze = 0 ∧ there H r.x = false then H ++ [r] else H) := Lib.hid rfl
              have HPO : Hid (putO H O ze r = if ze = 14 ∧ there H r.x = false then O ++ [r] else O) := Lib.hid rfl
              have hol := HOL.out
              clear hth hrg HON
              generalize there H r.x = bt at *
              by_cases h0 : ze = 0 ∧ bt = false
              · obtain ⟨rfl, rfl⟩ := h0
                rw [if_pos ⟨rfl, rfl⟩] at HPH
                rw [if_neg (by simp)] at HPO
                have HJS : Hid (Dy w wr q p U5 t5 (⟨.slice ah nH ch', 52, 7, nH, H.flatMap ddC⟩ :: [ddPl (.slice (some ⟨x, 0, none⟩) 1 1) [r], ddPl (.slice ao O.length co') O])) := Lib.hid (by
                  have := HJ.out.swap
                  rw [HNH.out] at this ⊢
                  exact this)
                go_wp2_with (first
                  | (refine wpList_load_mid (by rfl) 52 (.tmp 14) (by rfl) x 0 (by rfl) [.int .i64 fd, .int .i64 fm, .int .i64 xc, .int .i64 xl, .int .i64 xn, .int .i64 xi, .slice a6 bb.length q6] _ HRG.out Tryz.underlying52 rfl hsz7.out ?_)
                  | (at_builtin; refine wpList_pile rfl _ _ _ rfl elDeeds elDeeds8 _ _ _ rfl HJS.out _ rfl 1 #[.int .i64 fd, .int .i64 fm, .int .i64 xc, .int .i64 xl, .int .i64 xn, .int .i64 xi, .slice a6 bb.length q6] rfl rfl HON1.out HON2.out (by unfold maxLen; omega) (by omega) ?_; intro g4 cap4 w4 hD4 hc4))
                have HEND : Hid (Dy w w4 q p U5 t5 [ddPl (.slice (some ⟨g4, 0, none⟩) (nH + 1) cap4) (putH H 0 r), ddPl (.slice ao O.length co') (putO H O 0 r)] ∧ Dying t5 (putH H 0 r) (putO H O 0 r) (k + 1) ∧ (∀ r' ∈ putH H 0 r, DdIn w r') ∧ ∀ r' ∈ putO H O 0 r, DdIn w r') := Lib.hid (by
                  refine ⟨?_, HST.out, fun r' hr' => ?_, fun r' hr' => ?_⟩
                  · rw [HPH.out, HPO.out, ddPl_snoc, ← HNH.out]
                    have := hD4.swap.tail
                    rw [HR0.out]
                    exact this
                  · rw [HPH.out] at hr'
                    rcases List.mem_append.1 hr' with h | h
                    · exact HHI.out r' h
                    · rw [List.mem_singleton.1 h]; exact HIN.out
                  · rw [HPO.out] at hr'
                    exact HOI.out r' hr')
                clear hD4 hc4
                go_wp2_with fail
                go_roundg (gko - 1)
                case measure => omega
                case rel => exact ⟨k + 1, U5, t5, _, _, by go_num, by omega, by omega, HEND⟩
              · rw [if_neg h0] at HPH
                by_cases h14 : ze = 14 ∧ bt = false
                · obtain ⟨rfl, rfl⟩ := h14
                  rw [if_pos ⟨rfl, rfl⟩] at HPO
                  have HJS : Hid (Dy w wr q p U5 t5 (⟨.slice ao O.length co', 52, 7, O.length, O.flatMap ddC⟩ :: [ddPl (.slice ah nH ch') H, ddPl (.slice (some ⟨x, 0, none⟩) 1 1) [r]])) := Lib.hid HJ.out.rot3
                  clear h0
                  go_wp2_with (first
                    | (refine wpList_load_mid (by rfl) 52 (.tmp 14) (by rfl) x 0 (by rfl) [.int .i64 fd, .int .i64 fm, .int .i64 xc, .int .i64 xl, .int .i64 xn, .int .i64 xi, .slice a6 bb.length q6] _ HRG.out Tryz.underlying52 rfl hsz7.out ?_)
                    | (at_builtin; refine wpList_pile rfl _ _ _ rfl elDeeds elDeeds8 _ _ _ rfl HJS.out _ rfl 1 #[.int .i64 fd, .int .i64 fm, .int .i64 xc, .int .i64 xl, .int .i64 xn, .int .i64 xi, .slice a6 bb.length q6] rfl rfl HON1.out HON2.out (by unfold maxLen; omega) (by omega) ?_; intro g4 cap4 w4 hD4 hc4))
                  have HEND : Hid (Dy w w4 q p U5 t5 [ddPl (.slice ah nH ch') (putH H 14 r), ddPl (.slice (some ⟨g4, 0, none⟩) (O.length + 1) cap4) (putO H O 14 r)] ∧ Dying t5 (putH H 14 r) (putO H O 14 r) (k + 1) ∧ (∀ r' ∈ putH H 14 r, DdIn w r') ∧ ∀ r' ∈ putO H O 14 r, DdIn w r') := Lib.hid (by
                    refine ⟨?_, HST.out, fun r' hr' => ?_, fun r' hr' => ?_⟩
                    · rw [HPH.out, HPO.out, ddPl_snoc]
                      have := hD4.swap.drop1
                      rw [HR0.out]
                      exact this
                    · rw [HPH.out] at hr'
                      exact HHI.out r' hr'
                    · rw [HPO.out] at hr'
                      rcases List.mem_append.1 hr' with h | h
                      · exact HOI.out r' h
                      · rw [List.mem_singleton.1 h]; exact HIN.out)
                  clear hD4 hc4
                  go_wp2_with fail
                  go_roundg (gko - 1)
                  case measure => omega
                  case rel => exact ⟨k + 1, U5, t5, _, _, by go_num, by omega, by omega, HEND⟩
                · rw [if_neg h14] at HPO
                  have HEND : Hid (Dy w wr q p U5 t5 [ddPl (.slice ah nH ch') (putH H ze r), ddPl (.slice ao O.length co') (putO H O ze r)] ∧ Dying t5 (putH H ze r) (putO H O ze r) (k + 1) ∧ (∀ r' ∈ putH H ze r, DdIn w r') ∧ ∀ r' ∈ putO H O ze r, DdIn w r') := Lib.hid (by
                    refine ⟨?_, HST.out, fun r' hr' => ?_, fun r' hr' => ?_⟩
                    · rw [HPH.out, HPO.out]
                      exact HJ.out.tail
                    · rw [HPH.out] at hr'
                      exact HHI.out r' hr'
                    · rw [HPO.out] at hr'
                      exact HOI.out r' hr')
                  have q35 : ((ze == 0) && !bt) = false := by
                    cases bt with
                    | true => simp
                    | false => simpa using fun e => h0 ⟨e, rfl⟩
                  have q37 : ((ze == 14) && !bt) = false := by
                    cases bt with
                    | true => simp
                    | false => simpa using fun e => h14 ⟨e, rfl⟩
                  cases bt with
                  | true =>
                    clear h0 h14
                    by_cases ha : ze = 0
                    · subst ha
                      go_wp2_with fail
                      go_roundg (gko - 1)
                      case measure => omega
                      case rel => exact ⟨k + 1, U5, t5, _, _, by go_num, by omega, by omega, HEND⟩
                    · have qa : (ze == 0) = false := by simp [ha]
                      by_cases hb : ze = 14
                      · subst hb
                        go_wp2_with fail
                        go_roundg (gko - 1)
                        case measure => omega
                        case rel => exact ⟨k + 1, U5, t5, _, _, by go_num, by omega, by omega, HEND⟩
                      · have qb : (ze == 14) = false := by simp [hb]
                        go_wp2_with fail
                        go_roundg (gko - 1)
                        case measure => omega
                        case rel => exact ⟨k + 1, U5, t5, _, _, by go_num, by omega, by omega, HEND⟩
                  | false =>
                    have qa : (ze == 0) = false := by simpa using q35
                    have qb : (ze == 14) = false := by simpa using q37
                    clear h0 h14 q35 q37
                    go_wp2_with fail
                    go_roundg (gko - 1)
                    case measure => omega
                    case rel => exact ⟨k + 1, U5, t5, _, _, by go_num, by omega, by omega, HEND⟩
        · have hd4' : decide (fd ≤ 4) = false := decide_eq_false hd4
          have hdy1 := HDY.out.next
          have HEND : Hid (Dy w w1 q p U t [ddPl (.slice ah H.length ch') H, ddPl (.slice ao O.length co') O] ∧ Dying t H O (k + 1) ∧ (∀ r ∈ H, DdIn w r) ∧ ∀ r ∈ O, DdIn w r) := Lib.hid ⟨T1.out.tail, hdy1, HHI.out, HOI.out⟩
          clear hdy1
          go_wp2_with fail
          rw [← HW1.out]
          go_roundg (gk - 1)
          case measure => omega
          case rel => exact ⟨k + 1, U, t, H, O, by go_num, by omega, by omega, HEND⟩
    · as_aux_lemma =>
        obtain rfl : gg = false := by
          rw [HGG.out]
          by_cases h1 : k < n
          · have h2 : t.s.d.dead = true := by
              cases hd : t.s.d.dead with
              | true => rfl
              | false => exact absurd ⟨h1, hd⟩ hgo
            rw [h2]; simp
          · simp [h1]
        obtain ⟨hT, hDy, hHi, hOi⟩ := HR.out
        have hsm := hDy.small
        have hfew := hDy.few
        have hfn40 := HF.out.1
        obtain ⟨t9, F9, hop, hkept, hall, hnone⟩ := hDy.ends ch
        have CC := Lib.hid (hT.st.crash (.slice ca ch.length cc) ch (by omega) (by omega) (HCH.out.1.chg hT.chg (by simp)) (by omega))
        have HT := Lib.hid hT
        have HHI := Lib.hid hHi
        have HOI := Lib.hid hOi
        have HK9 := Lib.hid (And.intro hkept (And.intro hall hnone))
        clear hT hDy hHi hOi hkept hall hnone HR HGG hgo
        go_wp2_with fail
        refine CC.out.mono ?_
        rintro e w5 ⟨p5, S5, rfl, hd5, hS5, hc5⟩
        have CO := Lib.hid (stopen_any p5 S5 _ w5 hd5)
        rw [hop] at CO
        have HT5 := Lib.hid (HT.out.keep hc5)
        clear hd5 hS5 hc5 CC hop HT
        go_wp2_with fail
        refine CO.out.mono ?_
        rintro e w6 ⟨hc6, q6, U6, he, hs6, -⟩
        subst he
        have HT6 := Lib.hid (HT5.out.keep hc6)
        have HS6 := Lib.hid hs6
        have hl9 := hs6.ids_few
        clear hc6 hs6 CO HT5
        obtain ⟨nH, hnH⟩ : ∃ nH, nH = H.length := ⟨_, rfl⟩
        obtain ⟨nO, hnO⟩ : ∃ nO, nO = O.length := ⟨_, rfl⟩
        have hnb : nH ≤ 200 ∧ nO ≤ 200 := by omega
        have HNH := Lib.hid hnH
        have HNO := Lib.hid hnO
        rw [← hnH, ← hnO] at HT6
        rw [← hnH, ← hnO]
        clear hnH hnO hfew hsm
        obtain ⟨wo, rfl⟩ : ∃ wo : World, wo = wr := ⟨_, rfl⟩
        obtain ⟨gko, rfl⟩ : ∃ gko : Nat, gko = gk := ⟨_, rfl⟩
        go_wp2_with fail
        go_loopg [23, 24, 25] nH (fun g' s23 s24 s25 wr => ∃ (j : Nat), s23 = .int .i64 (j : Int) ∧ j ≤ nH ∧ nH ≤ j + g' ∧ Hid (Chg [] w6 wr))
        case atStart => exact ⟨0, rfl, by omega, by omega, Lib.hid (Chg.refl _ _)⟩
        case round =>
          obtain ⟨j, rfl, hj, hjg, HJ⟩ := hrel
          by_cases hjl : j < nH
          · have hjH : j < H.length := by rw [← HNH.out]; exact hjl
            obtain ⟨y, hy⟩ : ∃ y, H[j]? = some y := ⟨_, List.getElem?_eq_getElem hjH⟩
            have hjz : (j : Int) < (nH : Int) := by omega
            have hjz1 : (j : Int).toNat = j := by omega
            have HYI := Lib.hid (HHI.out _ (List.mem_of_getElem? hy))
            have hF := HK9.out.2.1 _ (List.mem_of_getElem? hy)
            have HTr := Lib.hid (HT6.out.keep HJ.out)
            obtain ⟨g2, cap2, hv2, ⟨m0, m1⟩, ⟨m2, m3, m4, m5⟩, m6⟩ := dd_rowy HTr.out.pl1 hy
            obtain ⟨ha2, -, hca2⟩ := Value.slice.inj hv2
            have HG : Hid (t9.get y.x = (y.b, 0)) := Lib.hid (by
              have hm := (HK9.out.1.at_some hF).1
              rw [HK9.out.1.get, if_neg (by simp [hm]), hF])
            have CG := Lib.hid (stget_any q6 p5 U6 t9 y.x wr (HS6.out.keep0 HJ.out) HYI.out.x)
            rw [HG.out] at CG
            obtain ⟨yva, yvc, hyv⟩ := HYI.out.came.1.slice
            have HYB := Lib.hid HYI.out.came
            have hyl := HYI.out.len
            have HY := Lib.hid hy
            obtain ⟨yk, yn, ⟨ya1, ya2, ya3, ya4⟩, yv, yb⟩ := y
            dsimp only at hyv CG m2 m3 m4 m5 m6 HYB hyl
            subst hyv
            subst ha2
            clear hv2 hca2 hjH hy hF m0 m1 HG
            unfold GetPost at CG
            go_wp2_with fail
            refine CG.out.mono ?_
            rintro e w7 ⟨⟨vg, rfl, hbg, hvg⟩, hc7⟩
            have CS := Lib.hid (same_any vg (.slice yva yb.length yvc) yb yb w7 hbg ((HYB.out.1.chg HTr.out.chg (by simp)).chg hc7 (by simp)) (by omega) (by omega))
            rw [decide_eq_true rfl] at CS
            have m6 := hc7.cell m6 (by simp)
            have HJ7 := Lib.hid (HJ.out.trans hc7 (by simp))
            obtain ⟨ag, cg, rfl⟩ := hbg.slice
            clear hbg hvg hc7 CG m2 m3 m4 m5
            go_wp2_with fail
            refine CS.out.mono ?_
            rintro e w8 ⟨rfl, nn, hq⟩
            have HJ8 : Hid (Chg [] w6 w8) := Lib.hid (by rw [hq]; exact HJ7.out.drewN nn)
            clear hq CS
            go_wp2_with fail
            go_roundg (gk - 1)
            case measure => omega
            case rel => exact ⟨j + 1, by go_num, by omega, by omega, HJ8⟩
          · have hjn : j = nH := by omega
            have hjz : ¬ (j : Int) < (nH : Int) := by omega
            have HTr := Lib.hid (HT6.out.keep HJ.out)
            have HSr := Lib.hid (HS6.out.keep0 HJ.out)
            have CL := Lib.hid (stlist_any q6 p5 U6 t9 wr HSr.out)
            clear HT6 HS6 HJ
            go_wp2_with fail
            refine CL.out.mono ?_
            rintro e w7 ⟨vl, rfl, hrow, hc7⟩
            obtain ⟨aL, cL, rfl, hKR⟩ := KRow.of hrow
            have HKR : Hid (KRow w7 (.slice aL t9.ids.length cL) t9.ids) := Lib.hid hKR
            have HT7 := Lib.hid (HTr.out.keep hc7)
            have HS7 := Lib.hid (HSr.out.keep0 hc7)
            have HID : Hid (∀ i, i ∈ t9.ids → (there H i = true ∨ ∃ r ∈ O, r.x = i ∧ r.b = (t9.get i).1) ∧ (t9.get i).1.length ≤ 1000 ∧ okD i) := Lib.hid (fun i hi => by
              have h1 := (HK9.out.1.mem_ids i).1 hi
              cases hF : F9 i with
              | none => rw [hF] at h1; cases h1
              | some b =>
                have hm := (HK9.out.1.at_some hF).1
                have hg : t9.get i = (b, 0) := by rw [HK9.out.1.get, if_neg (by simp [hm]), hF]
                rw [hg]
                refine ⟨HK9.out.2.2 i b hF, ?_, may_okD hm⟩
                exact get_small HK9.out.1 hF)
            clear hrow hc7 CL hKR HTr HSr
            obtain ⟨L, hL⟩ : ∃ L, L = t9.ids := ⟨_, rfl⟩
            obtain ⟨nL, hnL⟩ : ∃ nL, nL = L.length := ⟨_, rfl⟩
            rw [← hL] at HKR HID hl9 ⊢
            rw [← hnL] at HKR hl9 ⊢
            have HNL := Lib.hid hnL
            clear hL hnL
            obtain ⟨wo2, rfl⟩ : ∃ wo2 : World, wo2 = wr := ⟨_, rfl⟩
            obtain ⟨gko2, rfl⟩ : ∃ gko2 : Nat, gko2 = gk := ⟨_, rfl⟩
            go_wp2_with fail
            go_loopg [27, 28, 29, 30, 31, 32] nL (fun g' s27 s28 s29 s30 s31 s32 wr => ∃ (i : Nat), s27 = .int .i64 (i : Int) ∧ i ≤ nL ∧ nL ≤ i + g' ∧ Hid (Chg [] w7 wr))
            case atStart => exact ⟨0, rfl, by omega, by omega, Lib.hid (Chg.refl _ _)⟩
            case round =>
              obtain ⟨i, rfl, hi, hig, HI⟩ := hrel
              by_cases hil : i < nL
              · have hiz : (i : Int) < (nL : Int) := by omega
                have hiz1 : (i : Int).toNat = i := by omega
                obtain ⟨g3, cap3, z, hvl, hz, hcells⟩ := HKR.out i (by rw [← HNL.out]; exact hil)
                obtain ⟨ha3, -, -⟩ := Value.slice.inj hvl
                subst ha3
                obtain ⟨HFND, hzl, hzo⟩ := HID.out z (List.mem_of_getElem? hz)
                have HFND := Lib.hid HFND
                have HZC : Hid (∀ w', Chg [] w7 w' → (w'.cell? ⟨g3, i * 4, none⟩ = some (.int .i64 z.c) ∧ w'.cell? ⟨g3, i * 4 + 1, none⟩ = some (.int .i64 z.l) ∧ w'.cell? ⟨g3, i * 4 + 2, none⟩ = some (.int .i64 z.n) ∧ w'.cell? ⟨g3, i * 4 + 3, none⟩ = some (.int .i64 z.i))) := Lib.hid (fun w' hc => ⟨hc.cell hcells.1 (by simp), hc.cell hcells.2.1 (by simp), hc.cell hcells.2.2.1 (by simp), hc.cell hcells.2.2.2 (by simp)⟩)
                have CG := Lib.hid (stget_any q6 p5 U6 t9 z wr (HS7.out.keep0 HI.out) hzo)
                clear hcells hz hvl
                generalize t9.get z = rz at *
                obtain ⟨zb, ze⟩ := rz
                dsimp only at hzl HFND CG
                unfold GetPost at CG
                obtain ⟨zc, zl, zn, zi⟩ := z
                dsimp only at HZC
                obtain ⟨n0, n1, n2, n3⟩ := HZC.out wr HI.out
                go_wp2_with fail
                refine CG.out.mono ?_
                rintro e w8 ⟨⟨vg, rfl, hbg, hvg⟩, hc8⟩
                have HI8 := Lib.hid (HI.out.trans hc8 (by simp))
                have HBG := Lib.hid hbg
                obtain ⟨ag, cg, rfl⟩ := hbg.slice
                clear hbg hvg hc8 CG n0 n1 n2 n3
                obtain ⟨wo3, rfl⟩ : ∃ wo3 : World, wo3 = wr := ⟨_, rfl⟩
                obtain ⟨gko3, rfl⟩ : ∃ gko3 : Nat, gko3 = gk := ⟨_, rfl⟩
                go_wp2_with fail
                go_loopg [30, 31] nH (fun g' s30 s31 wr => ∃ (j : Nat), s31 = .int .i64 (j : Int) ∧ s30 = .bool (there (H.take j) ⟨zc, zl, zn, zi⟩) ∧ j ≤ nH ∧ nH ≤ j + g' ∧ Hid (Chg [] w8 wr))
                case atStart => exact ⟨0, rfl, rfl, by omega, by omega, Lib.hid (Chg.refl _ _)⟩
                case round =>
                  obtain ⟨j, rfl, rfl, hj, hjg, HJ⟩ := hrel
                  by_cases hjl : j < nH
                  · have hjH : j < H.length := by rw [← HNH.out]; exact hjl
                    obtain ⟨y, hy⟩ : ∃ y, H[j]? = some y := ⟨_, List.getElem?_eq_getElem hjH⟩
                    have HTH := Lib.hid (there_succ H j hy ⟨zc, zl, zn, zi⟩)
                    have hjz : (j : Int) < (nH : Int) := by omega
                    have hjz1 : (j : Int).toNat = j := by omega
                    have HYI := Lib.hid (HHI.out _ (List.mem_of_getElem? hy))
                    obtain ⟨g2, cap2, hv2, ⟨m0, m1⟩, ⟨m2, m3, m4, m5⟩, m6⟩ := dd_rowy (HT7.out.keep (HI8.out.trans HJ.out (by simp))).pl1 hy
                    obtain ⟨ha2, -, hca2⟩ := Value.slice.inj hv2
                    obtain ⟨n0, n1, n2, n3⟩ := HZC.out wr (HI8.out.trans HJ.out (by simp))
                    have hyo := HYI.out.x
                    obtain ⟨zx, hzx⟩ : ∃ zx, zx = y.x := ⟨_, rfl⟩
                    rw [← hzx] at m2 m3 m4 m5 HTH hyo
                    subst ha2
                    clear hv2 hjH hy hzx hca2 m0 m1 m6
                    generalize there (H.take j) ⟨zc, zl, zn, zi⟩ = bt at *
                    obtain ⟨yc, yl, yn, yi⟩ := zx
                    dsimp only at m2 m3 m4 m5
                    cases bt with
                    | true =>
                      have HE : Hid (there (H.take (j + 1)) ⟨zc, zl, zn, zi⟩ = true) := Lib.hid (by rw [HTH.out]; rfl)
                      go_wp2_with fail
                      go_quiet (fail)
                      have HJ1 := Lib.hid (HJ.out.drewN nq)
                      clear m2 m3 m4 m5 n0 n1 n2 n3 HJ HTH
                      generalize wr.drewN nq = wq at *
                      go_wp2_with fail
                      go_roundg (gk - 1)
                      case measure => omega
                      case rel => exact ⟨j + 1, by go_num, by rw [HE.out], by omega, by omega, HJ1⟩
                    | false =>
                      obtain ⟨b2, hb2⟩ : ∃ b2, b2 = decide ((⟨yc, yl, yn, yi⟩ : Id) = ⟨zc, zl, zn, zi⟩) := ⟨_, rfl⟩
                      have HE : Hid (there (H.take (j + 1)) ⟨zc, zl, zn, zi⟩ = b2) := Lib.hid (by rw [HTH.out, hb2]; rfl)
                      have HNE := fun w => eqin_id ⟨yc, yl, yn, yi⟩ ⟨zc, zl, zn, zi⟩ hyo hzo w
                      rw [← hb2] at HNE
                      clear hb2
                      go_wp2_with fail
                      go_quiet (fail)
                      have HJ1 := Lib.hid (HJ.out.drewN nq)
                      clear m2 m3 m4 m5 n0 n1 n2 n3 HJ HTH HNE
                      generalize wr.drewN nq = wq at *
                      go_wp2_with fail
                      go_roundg (gk - 1)
                      case measure => omega
                      case rel => exact ⟨j + 1, by go_num, by rw [HE.out], by omega, by omega, HJ1⟩
                  · have hjn : j = nH := by omega
                    have hjz : ¬ (j : Int) < (nH : Int) := by omega
                    have hth : there (H.take j) ⟨zc, zl, zn, zi⟩ = there H ⟨zc, zl, zn, zi⟩ := by rw [List.take_of_length_le (by have := HNH.out; omega)]
                    rw [hth]
                    have HJJ := Lib.hid (HI8.out.trans HJ.out (by simp))
                    have HJW := Lib.hid HJ.out
                    clear hth HJ
                    obtain ⟨wo4, rfl⟩ : ∃ wo4 : World, wo4 = wr := ⟨_, rfl⟩
                    obtain ⟨gko4, rfl⟩ : ∃ gko4 : Nat, gko4 = gk := ⟨_, rfl⟩
                    go_wp2_with fail
                    go_loopg [30, 32] nO (fun g' s30 s32 wr => ∃ (j : Nat), s32 = .int .i64 (j : Int) ∧ s30 = .bool (there H ⟨zc, zl, zn, zi⟩ || found (O.take j) ⟨zc, zl, zn, zi⟩ zb) ∧ j ≤ nO ∧ nO ≤ j + g' ∧ Hid (Chg [] wo4 wr))
                    case atStart => exact ⟨0, rfl, by simp [found], by omega, by omega, Lib.hid (Chg.refl _ _)⟩
                    case round =>
                      obtain ⟨j, rfl, rfl, hj, hjg, HJ⟩ := hrel
                      by_cases hjl : j < nO
                      · have hjH : j < O.length := by rw [← HNO.out]; exact hjl
                        obtain ⟨y, hy⟩ : ∃ y, O[j]? = some y := ⟨_, List.getElem?_eq_getElem hjH⟩
                        have HTH := Lib.hid (found_succ O j hy ⟨zc, zl, zn, zi⟩ zb)
                        have hjz : (j : Int) < (nO : Int) := by omega
                        have hjz1 : (j : Int).toNat = j := by omega
                        have HYI := Lib.hid (HOI.out _ (List.mem_of_getElem? hy))
                        have HTr := Lib.hid (HT7.out.keep (HJJ.out.trans HJ.out (by simp)))
                        obtain ⟨g2, cap2, hv2, ⟨m0, m1⟩, ⟨m2, m3, m4, m5⟩, m6⟩ := dd_rowy HTr.out.pl2 hy
                        obtain ⟨ha2, -, hca2⟩ := Value.slice.inj hv2
                        obtain ⟨n0, n1, n2, n3⟩ := HZC.out wr (HJJ.out.trans HJ.out (by simp))
                        have hyo := HYI.out.x
                        have hyl := HYI.out.len
                        have HYB := Lib.hid HYI.out.came
                        obtain ⟨yva, yvc, hyv⟩ := HYI.out.came.1.slice
                        obtain ⟨yk, yn', ⟨yc, yl, yn, yi⟩, yv, yb⟩ := y
                        dsimp only at hyv m2 m3 m4 m5 m6 HTH hyo hyl HYB
                        subst hyv
                        subst ha2
                        clear hv2 hjH hy hca2 m0 m1 HYI
                        generalize there H ⟨zc, zl, zn, zi⟩ = bh at *
                        generalize found (O.take j) ⟨zc, zl, zn, zi⟩ zb = bf at *
                        obtain ⟨bt, hbt⟩ : ∃ bt, bt = (bh || bf) := ⟨_, rfl⟩
                        rw [← hbt]
                        have HBT := Lib.hid hbt
                        clear hbt
                        cases bt with
                        | true =>
                          have HE : Hid ((bh || found (O.take (j + 1)) ⟨zc, zl, zn, zi⟩ zb) = true) := Lib.hid (by rw [HTH.out, ← Bool.or_assoc, ← HBT.out]; rfl)
                          go_wp2_with fail
                          go_quiet (fail)
                          have HJ1 := Lib.hid (HJ.out.drewN nq)
                          clear m2 m3 m4 m5 m6 n0 n1 n2 n3 HJ HTH
                          generalize wr.drewN nq = wq at *
                          go_wp2_with fail
                          go_roundg (gk - 1)
                          case measure => omega
                          case rel => exact ⟨j + 1, by go_num, by rw [HE.out], by omega, by omega, HJ1⟩
                        | false =>
                          by_cases hyz : (⟨yc, yl, yn, yi⟩ : Id) = ⟨zc, zl, zn, zi⟩
                          · obtain ⟨rfl, rfl, rfl, rfl⟩ : yc = zc ∧ yl = zl ∧ yn = zn ∧ yi = zi := by simpa using hyz
                            have HE : Hid ((bh || found (O.take (j + 1)) ⟨yc, yl, yn, yi⟩ zb) = decide (yb = zb)) := Lib.hid (by rw [HTH.out, ← Bool.or_assoc, ← HBT.out]; simp)
                            have hcw : Chg [] wr wr.drew := (by exact (Chg.refl [] wr).drew)
                            have CS := Lib.hid (same_any (.slice yva yb.length yvc) (.slice ag zb.length cg) yb zb wr.drew ((HYB.out.1.chg HTr.out.chg (by simp)).chg hcw (by simp)) ((HBG.out.chg ((HJW.out.trans HJ.out (by simp))) (by simp)).chg hcw (by simp)) (by omega) (by omega))
                            have HJD := Lib.hid (HJ.out.trans hcw (by simp))
                            have m6' := hcw.cell m6 (by simp)
                            clear hyz hcw
                            go_wp2_with fail
                            refine wp_region_L [(11, fun w' => (w'.cell? ⟨g2, j * 7 + 2, none⟩ = some (.int .i64 yc) ∧ w'.cell? ⟨g2, j * 7 + 2 + 1, none⟩ = some (.int .i64 yl) ∧ w'.cell? ⟨g2, j * 7 + 2 + 2, none⟩ = some (.int .i64 yn) ∧ w'.cell? ⟨g2, j * 7 + 2 + 3, none⟩ = some (.int .i64 yi))), (11, fun w' => (w'.cell? ⟨g3, i * 4, none⟩ = some (.int .i64 yc) ∧ w'.cell? ⟨g3, i * 4 + 1, none⟩ = some (.int .i64 yl) ∧ w'.cell? ⟨g3, i * 4 + 2, none⟩ = some (.int .i64 yn) ∧ w'.cell? ⟨g3, i * 4 + 3, none⟩ = some (.int .i64 yi))), (19, fun w' => w'.cell? ⟨g2, j * 7 + 6, none⟩ = some (.slice yva yb.length yvc))] (by kernel_rfl) ?_ (fun hHeld => ?_)
                            · exact (HoldC.cons (⟨m2, m3, m4, m5⟩) (HoldC.cons (⟨n0, n1, n2, n3⟩) (HoldC.cons (m6) HoldC.nil)))
                            refine wpAnyL_take (i := 0) (oi := _) (v := ?_) rfl (by kernel_rfl) (by kernel_rfl) (by kernel_rfl) (by kernel_rfl) (by kernel_rfl) (fun _ _ _ h => h) (Or.inl ⟨by rfl, ?_⟩) (by assumption) (fun hNew => ?_)
                            rotate_left
                            · intro w _
                              go_simp
                              try with_reducible rfl
                            clear hHeld
                            have hHeld := hNew
                            clear hNew
                            try simp only [List.getElem_toArray, List.getElem_cons_succ, List.getElem_cons_zero, Act.put, List.setIfInBounds_toArray, List.set_cons_zero, List.set_cons_succ]
                            refine wpAnyL_take (i := 1) (oi := _) (v := ?_) rfl (by kernel_rfl) (by kernel_rfl) (by kernel_rfl) (by kernel_rfl) (by kernel_rfl) (fun _ _ _ h => h) (Or.inl ⟨by rfl, ?_⟩) (by assumption) (fun hNew => ?_)
                            rotate_left
                            · intro w _
                              go_simp
                              try with_reducible rfl
                            clear hHeld
                            have hHeld := hNew
                            clear hNew
                            try simp only [List.getElem_toArray, List.getElem_cons_succ, List.getElem_cons_zero, Act.put, List.setIfInBounds_toArray, List.set_cons_zero, List.set_cons_succ]
                            refine wpAnyL_take (i := 2) (oi := _) (v := ?_) rfl (by kernel_rfl) (by kernel_rfl) (by kernel_rfl) (by kernel_rfl) (by kernel_rfl) (fun _ _ _ h => h) (Or.inl ⟨by rfl, ?_⟩) (by assumption) (fun hNew => ?_)
                            rotate_left
                            · intro w _
                              go_simp
                              try with_reducible rfl
                            clear hHeld
                            have hHeld := hNew
                            clear hNew
                            try simp only [List.getElem_toArray, List.getElem_cons_succ, List.getElem_cons_zero, Act.put, List.setIfInBounds_toArray, List.set_cons_zero, List.set_cons_succ]
                            refine wpAnyL_take (i := 3) (oi := _) (v := ?_) rfl (by kernel_rfl) (by kernel_rfl) (by kernel_rfl) (by kernel_rfl) (by kernel_rfl) (fun _ _ _ h => h) (Or.inl ⟨by rfl, ?_⟩) (by assumption) (fun hNew => ?_)
                            rotate_left
                            · intro w _
                              go_simp
                              try with_reducible rfl
                            clear hHeld
                            have hHeld := hNew
                            clear hNew
                            try simp only [List.getElem_toArray, List.getElem_cons_succ, List.getElem_cons_zero, Act.put, List.setIfInBounds_toArray, List.set_cons_zero, List.set_cons_succ]
                            refine wpAnyL_take (i := 4) (oi := _) (v := ?_) rfl (by kernel_rfl) (by kernel_rfl) (by kernel_rfl) (by kernel_rfl) (by kernel_rfl) (fun _ _ _ h => h) (Or.inl ⟨by rfl, ?_⟩) (by assumption) (fun hNew => ?_)
                            rotate_left
                            · intro w _
                              go_simp
                              try with_reducible rfl
                            clear hHeld
                            have hHeld := hNew
                            clear hNew
                            try simp only [List.getElem_toArray, List.getElem_cons_succ, List.getElem_cons_zero, Act.put, List.setIfInBounds_toArray, List.set_cons_zero, List.set_cons_succ]
                            refine wpAnyL_take (i := 5) (oi := _) (v := ?_) rfl (by kernel_rfl) (by kernel_rfl) (by kernel_rfl) (by kernel_rfl) (by kernel_rfl) (fun _ _ _ h => h) (Or.inl ⟨by rfl, ?_⟩) (by assumption) (fun hNew => ?_)
                            rotate_left
                            · intro w _
                              go_simp
                              try with_reducible rfl
                            clear hHeld
                            have hHeld := hNew
                            clear hNew
                            try simp only [List.getElem_toArray, List.getElem_cons_succ, List.getElem_cons_zero, Act.put, List.setIfInBounds_toArray, List.set_cons_zero, List.set_cons_succ]
                            refine wpAnyL_take (i := 7) (oi := _) (v := ?_) rfl (by kernel_rfl) (by kernel_rfl) (by kernel_rfl) (by kernel_rfl) (by kernel_rfl) (fun _ _ _ h => h) (Or.inl ⟨by rfl, ?_⟩) (by assumption) (fun hNew => ?_)
                            rotate_left
                            · intro w _
                              go_simp
                              try with_reducible rfl
                            clear hHeld
                            have hHeld := hNew
                            clear hNew
                            try simp only [List.getElem_toArray, List.getElem_cons_succ, List.getElem_cons_zero, Act.put, List.setIfInBounds_toArray, List.set_cons_zero, List.set_cons_succ]
                            refine wpAnyL_take (i := 8) (oi := _) (v := ?_) rfl (by kernel_rfl) (by kernel_rfl) (by kernel_rfl) (by kernel_rfl) (by kernel_rfl) (fun _ _ _ h => h) (Or.inl ⟨by rfl, ?_⟩) (by assumption) (fun hNew => ?_)
                            rotate_left
                            · intro w _
                              go_simp
                              try with_reducible rfl
                            clear hHeld
                            have hHeld := hNew
                            clear hNew
                            try simp only [List.getElem_toArray, List.getElem_cons_succ, List.getElem_cons_zero, Act.put, List.setIfInBounds_toArray, List.set_cons_zero, List.set_cons_succ]
                            refine wpAnyL_take (i := 9) (oi := _) (v := ?_) rfl (by kernel_rfl) (by kernel_rfl) (by kernel_rfl) (by kernel_rfl) (by kernel_rfl) (fun _ _ _ h => h) (Or.inl ⟨by rfl, ?_⟩) (by assumption) (fun hNew => ?_)
                            rotate_left
                            · intro w _
                              go_simp
                              try with_reducible rfl
                            clear hHeld
                            have hHeld := hNew
                            clear hNew
                            try simp only [List.getElem_toArray, List.getElem_cons_succ, List.getElem_cons_zero, Act.put, List.setIfInBounds_toArray, List.set_cons_zero, List.set_cons_succ]
                            refine wpAnyL_load 0 (i := 6) (oi := _) (v := ?_) rfl rfl (by kernel_rfl) (by kernel_rfl) (by kernel_rfl) (by kernel_rfl) (by kernel_rfl) (by kernel_rfl) (fun _ _ _ h => h) (Or.inl ⟨by rfl, ?_⟩) (by assumption) (fun hNew => ?_)
                            rotate_left
                            · intro w hSw
                              (try dsimp only at hSw)
                              go_simp
                              try with_reducible rfl
                            clear hHeld
                            have hHeld := hNew
                            clear hNew
                            try simp only [List.getElem_toArray, List.getElem_cons_succ, List.getElem_cons_zero, Act.put, List.setIfInBounds_toArray, List.set_cons_zero, List.set_cons_succ]
                            refine wpAnyL_load 1 (i := 10) (oi := _) (v := ?_) rfl rfl (by kernel_rfl) (by kernel_rfl) (by kernel_rfl) (by kernel_rfl) (by kernel_rfl) (by kernel_rfl) (fun _ _ _ h => h) (Or.inl ⟨by rfl, ?_⟩) (by assumption) (fun hNew => ?_)
                            rotate_left
                            · intro w hSw
                              (try dsimp only at hSw)
                              go_simp
                              try with_reducible rfl
                            clear hHeld
                            have hHeld := hNew
                            clear hNew
                            try simp only [List.getElem_toArray, List.getElem_cons_succ, List.getElem_cons_zero, Act.put, List.setIfInBounds_toArray, List.set_cons_zero, List.set_cons_succ]
                            refine wpAnyL_ready (rs := [11]) (by kernel_rfl) (by simp) ?_
                            refine AllReadyL.cons (o := _) rfl (fun K hK => ?_) AllReadyL.nil
                            try simp only [List.getElem_toArray, List.getElem_cons_succ, List.getElem_cons_zero]
                            go_simp
                            clear hHeld
                            refine hK.out _ _ ?_ (fun hHeld => ?_)
                            · exact (HoldC.past (by kernel_rfl) (HoldC.past (by kernel_rfl) (HoldC.cons (m6') HoldC.nil)))
                            clear hK K
                            try simp only [List.getElem_toArray, List.getElem_cons_succ, List.getElem_cons_zero, Act.put, List.setIfInBounds_toArray, List.set_cons_zero, List.set_cons_succ]
                            refine wpAnyL_take (i := 12) (oi := _) (v := ?_) rfl (by kernel_rfl) (by kernel_rfl) (by kernel_rfl) (by kernel_rfl) (by kernel_rfl) (fun _ _ _ h => h) (Or.inl ⟨by rfl, ?_⟩) (by assumption) (fun hNew => ?_)
                            rotate_left
                            · intro w _
                              go_simp
                              try with_reducible rfl
                            clear hHeld
                            have hHeld := hNew
                            clear hNew
                            try simp only [List.getElem_toArray, List.getElem_cons_succ, List.getElem_cons_zero, Act.put, List.setIfInBounds_toArray, List.set_cons_zero, List.set_cons_succ]
                            refine wpAnyL_take (i := 13) (oi := _) (v := ?_) rfl (by kernel_rfl) (by kernel_rfl) (by kernel_rfl) (by kernel_rfl) (by kernel_rfl) (fun _ _ _ h => h) (Or.inl ⟨by rfl, ?_⟩) (by assumption) (fun hNew => ?_)
                            rotate_left
                            · intro w _
                              go_simp
                              try with_reducible rfl
                            clear hHeld
                            have hHeld := hNew
                            clear hNew
                            try simp only [List.getElem_toArray, List.getElem_cons_succ, List.getElem_cons_zero, Act.put, List.setIfInBounds_toArray, List.set_cons_zero, List.set_cons_succ]
                            refine wpAnyL_take (i := 14) (oi := _) (v := ?_) rfl (by kernel_rfl) (by kernel_rfl) (by kernel_rfl) (by kernel_rfl) (by kernel_rfl) (fun _ _ _ h => h) (Or.inl ⟨by rfl, ?_⟩) (by assumption) (fun hNew => ?_)
                            rotate_left
                            · intro w _
                              go_simp
                              try with_reducible rfl
                            clear hHeld
                            have hHeld := hNew
                            clear hNew
                            try simp only [List.getElem_toArray, List.getElem_cons_succ, List.getElem_cons_zero, Act.put, List.setIfInBounds_toArray, List.set_cons_zero, List.set_cons_succ]
                            refine wpAnyL_take (i := 15) (oi := _) (v := ?_) rfl (by kernel_rfl) (by kernel_rfl) (by kernel_rfl) (by kernel_rfl) (by kernel_rfl) (fun _ _ _ h => h) (Or.inl ⟨by rfl, ?_⟩) (by assumption) (fun hNew => ?_)
                            rotate_left
                            · intro w _
                              go_simp
                              try with_reducible rfl
                            clear hHeld
                            have hHeld := hNew
                            clear hNew
                            try simp only [List.getElem_toArray, List.getElem_cons_succ, List.getElem_cons_zero, Act.put, List.setIfInBounds_toArray, List.set_cons_zero, List.set_cons_succ]
                            refine wpAnyL_take (i := 16) (oi := _) (v := ?_) rfl (by kernel_rfl) (by kernel_rfl) (by kernel_rfl) (by kernel_rfl) (by kernel_rfl) (fun _ _ _ h => h) (Or.inl ⟨by rfl, ?_⟩) (by assumption) (fun hNew => ?_)
                            rotate_left
                            · intro w _
                              go_simp
                              try with_reducible rfl
                            clear hHeld
                            have hHeld := hNew
                            clear hNew
                            try simp only [List.getElem_toArray, List.getElem_cons_succ, List.getElem_cons_zero, Act.put, List.setIfInBounds_toArray, List.set_cons_zero, List.set_cons_succ]
                            refine wpAnyL_take (i := 18) (oi := _) (v := ?_) rfl (by kernel_rfl) (by kernel_rfl) (by kernel_rfl) (by kernel_rfl) (by kernel_rfl) (fun _ _ _ h => h) (Or.inl ⟨by rfl, ?_⟩) (by assumption) (fun hNew => ?_)
                            rotate_left
                            · intro w _
                              go_simp
                              try with_reducible rfl
                            clear hHeld
                            have hHeld := hNew
                            clear hNew
                            try simp only [List.getElem_toArray, List.getElem_cons_succ, List.getElem_cons_zero, Act.put, List.setIfInBounds_toArray, List.set_cons_zero, List.set_cons_succ]
                            refine wpAnyL_load 2 (i := 17) (oi := _) (v := ?_) rfl rfl (by kernel_rfl) (by kernel_rfl) (by kernel_rfl) (by kernel_rfl) (by kernel_rfl) (by kernel_rfl) (fun _ _ _ h => h) (Or.inl ⟨by rfl, ?_⟩) (by assumption) (fun hNew => ?_)
                            rotate_left
                            · intro w hSw
                              (try dsimp only at hSw)
                              go_simp
                              try with_reducible rfl
                            clear hHeld
                            have hHeld := hNew
                            clear hNew
                            try simp only [List.getElem_toArray, List.getElem_cons_succ, List.getElem_cons_zero, Act.put, List.setIfInBounds_toArray, List.set_cons_zero, List.set_cons_succ]
                            refine wpAnyL_ready (rs := [19]) (by kernel_rfl) (by simp) ?_
                            refine AllReadyL.cons (o := _) rfl (fun K hK => ?_) AllReadyL.nil
                            try simp only [List.getElem_toArray, List.getElem_cons_succ, List.getElem_cons_zero]
                            go_simp
                            refine CS.out.mono ?_
                            rintro e w' ⟨rfl, nn, hq⟩
                            have HJ1 : Hid (Chg [] _ w') := Lib.hid (by rw [hq]; exact HJD.out.drewN nn)
                            clear hq
                            clear hHeld
                            refine hK.out _ _ ?_ (fun hHeld => ?_)
                            · exact (HoldC.past (by kernel_rfl) (HoldC.past (by kernel_rfl) (HoldC.past (by kernel_rfl) HoldC.nil)))
                            clear hK K
                            try simp only [List.getElem_toArray, List.getElem_cons_succ, List.getElem_cons_zero, Act.put, List.setIfInBounds_toArray, List.set_cons_zero, List.set_cons_succ]
                            refine wpAnyL_take (i := 20) (oi := _) (v := ?_) rfl (by kernel_rfl) (by kernel_rfl) (by kernel_rfl) (by kernel_rfl) (by kernel_rfl) (fun _ _ _ h => h) (Or.inl ⟨by rfl, ?_⟩) (by assumption) (fun hNew => ?_)
                            rotate_left
                            · intro w _
                              go_simp
                              try with_reducible rfl
                            clear hHeld
                            have hHeld := hNew
                            clear hNew
                            try simp only [List.getElem_toArray, List.getElem_cons_succ, List.getElem_cons_zero, Act.put, List.setIfInBounds_toArray, List.set_cons_zero, List.set_cons_succ]
                            refine wpAnyL_take (i := 21) (oi := _) (v := ?_) rfl (by kernel_rfl) (by kernel_rfl) (by kernel_rfl) (by kernel_rfl) (by kernel_rfl) (fun _ _ _ h => h) (Or.inl ⟨by rfl, ?_⟩) (by assumption) (fun hNew => ?_)
                            rotate_left
                            · intro w _
                              go_simp
                              try with_reducible rfl
                            clear hHeld
                            have hHeld := hNew
                            clear hNew
                            try simp only [List.getElem_toArray, List.getElem_cons_succ, List.getElem_cons_zero, Act.put, List.setIfInBounds_toArray, List.set_cons_zero, List.set_cons_succ]
                            refine wpAnyL_take (i := 22) (oi := _) (v := ?_) rfl (by kernel_rfl) (by kernel_rfl) (by kernel_rfl) (by kernel_rfl) (by kernel_rfl) (fun _ _ _ h => h) (Or.inl ⟨by rfl, ?_⟩) (by assumption) (fun hNew => ?_)
                            rotate_left
                            · intro w _
                              go_simp
                              try with_reducible rfl
                            clear hHeld
                            have hHeld := hNew
                            clear hNew
                            try simp only [List.getElem_toArray, List.getElem_cons_succ, List.getElem_cons_zero, Act.put, List.setIfInBounds_toArray, List.set_cons_zero, List.set_cons_succ]
                            refine wpAnyL_done (by kernel_rfl) ?_ _
                            clear hHeld
                            go_wp2_with fail
                            go_roundg (gk - 1)
                            case measure => omega
                            case rel => exact ⟨j + 1, by go_num, by rw [HE.out], by omega, by omega, HJ1⟩
                          · have HE : Hid ((bh || found (O.take (j + 1)) ⟨zc, zl, zn, zi⟩ zb) = false) := Lib.hid (by rw [HTH.out, ← Bool.or_assoc, ← HBT.out, decide_eq_false hyz]; rfl)
                            have HNE := fun w => eqin_id ⟨yc, yl, yn, yi⟩ ⟨zc, zl, zn, zi⟩ hyo hzo w
                            rw [decide_eq_false hyz] at HNE
                            clear hyz
                            go_wp2_with fail
                            go_quiet (fail)
                            have HJ1 := Lib.hid (HJ.out.drewN nq)
                            clear m2 m3 m4 m5 m6 n0 n1 n2 n3 HJ HTH HNE
                            generalize wr.drewN nq = wq at *
                            go_wp2_with fail
                            go_roundg (gk - 1)
                            case measure => omega
                            case rel => exact ⟨j + 1, by go_num, by rw [HE.out], by omega, by omega, HJ1⟩
                      · have hjn : j = nO := by omega
                        have hjz : ¬ (j : Int) < (nO : Int) := by omega
                        have hfd : (there H ⟨zc, zl, zn, zi⟩ || found (O.take j) ⟨zc, zl, zn, zi⟩ zb) = true := by
                          rw [List.take_of_length_le (by have := HNO.out; omega)]
                          exact found_ok HFND.out
                        rw [hfd]
                        have HIE := Lib.hid (HJJ.out.trans HJ.out (by simp))
                        clear hfd HJ
                        go_wp2_with fail
                        go_roundg (gko3 - 1)
                        case measure => omega
                        case rel => exact ⟨i + 1, by go_num, by omega, by omega, HIE⟩
              · have hin : i = nL := by omega
                have hiz : ¬ (i : Int) < (nL : Int) := by omega
                have HF : Hid (Chg [] w wr) := Lib.hid (HT7.out.chg.trans HI.out (by simp))
                go_wp2_with fail
                go_ret
                exact ⟨rfl, HF.out⟩
end Go.Proofs.YtbkajnjboipbhaaGreatDoor.W

/- StoreDies: what the row asks. -/
namespace Go.Proofs.YtbkajnjboipbhaaGreatDoor.storeDies
set_option linter.unusedVariables false
open Go.RowKit Go.ChangeShapes Go.WideShapes
set_option maxRecDepth 100000 in
theorem walk {H : Type} {enc : TypeId × Value → H} {held : Bool} {base b0 : Nat} (v0 : Value) (d0 : DataW H) (p0 : List MemPlace) (fu : Int) (ca : Option Addr) (cl cc : Nat) (zs : List Int) (X : World) (h0 : Value.okWide Tryz.prog X .any b0 48 v0) (k0 : DataW.Trod enc Tryz.prog X base (fun _ => true) held 48 v0 d0 p0)
    (hu : (Lit.int .u8 fu).wf = true) (hz : IsRow .u8 X ca cl cc zs) : Calls Tryz.prog 9 #[v0, .int .u8 fu, .slice ca cl cc] X fun e w' => e = .returned (.bool true) ∧ Below X.heap.size X w' := by
  obtain ⟨a, n, cap, rfl⟩ := okWide_slice Tryz.underlying48 h0
  obtain ⟨f, hn, hin⟩ : ∃ f, n ≤ maxLen ∧ Go.Proofs.YtbkajnjboipbhaaGreatDoor.W.DeedsAt X a n f := by
    obtain ⟨fuel, hf⟩ := k0
    rcases Go.Proofs.YtbkajnjboipbhaaGreatDoor.W.open_deeds hf with hcs | ⟨x, l, c, f, hcs, hl, hm, hd⟩
    · simp [Value.cells] at hcs
      obtain ⟨rfl, rfl, rfl⟩ := hcs
      exact ⟨fun _ => default, by unfold maxLen; omega, .inl rfl⟩
    · simp [Value.cells] at hcs
      obtain ⟨rfl, rfl, rfl⟩ := hcs
      exact ⟨f, Nat.le_trans hl hm, hd⟩
  obtain ⟨l, rfl, hm, hc⟩ := Go.Proofs.YtbkajnjboipbhaaGreatDoor.W.IsRow.came hz
  have hfu : 0 ≤ fu ∧ fu ≤ 255 := by
    simp [Lit.wf, IntKind.min, IntKind.max, IntKind.signed, IntKind.bits] at hu
    omega
  obtain ⟨fn, rfl⟩ := Int.eq_ofNat_of_zero_le hfu.1
  exact (Go.Proofs.YtbkajnjboipbhaaGreatDoor.W.dies6_any a n cap f fn (by omega) ca cc l X hin hc hm).mono fun e w' ⟨h1, h2⟩ => ⟨h1, h2.below (by simp)⟩
end Go.Proofs.YtbkajnjboipbhaaGreatDoor.storeDies
