/- Texts laid together. -/
import Derived.Test.YtdkhmfcfihbjeaaGreatDoorCL6
import Derived.Test.YtdkhmfcfihbjeaaGreatDoorCL1
import Derived.Test.YtdkhmfcfihbjeaaGreatDoorCL3
import Derived.Test.YtdkhmfcfihbjeaaGreatDoorCL2
import Derived.Deep.AppendLies
import Derived.LoopTactic
import Derived.Test.YtdkhmfcfihbjeaaGreatDoorCL4
import Derived.Test.YtdkhmfcfihbjeaaGreatDoorCL5
import Derived.Deep.MidRow
/- A server, plainly: what it does, and what it keeps. -/
namespace Go.Proofs.YtdkhmfcfihbjeaaGreatDoor.W
set_option linter.unusedVariables false
set_option linter.unusedSimpArgs false

def lostOf (wh : Bool) (e : Int) : Int := if e = 6 ∧ wh = false then 15 else e
/-- What a request does. -/
def Sto.step (t : Sto) (r : Rq) : Rp × Sto :=
  if r.k = 1 then (errRp (t.put r.x r.b).1, (t.put r.x r.b).2)
  else if r.k = 2 then (⟨lostOf t.whole (t.get r.x).2, (t.get r.x).1, [], 0, false⟩, t)
  else if r.k = 3 then (errRp (t.del r.x).1, (t.del r.x).2)
  else if r.k = 4 then (⟨0, [], t.ids, 0, false⟩, t)
  else if r.k = 5 then (⟨0, [], [], (t.room : Int), t.whole⟩, t)
  else if r.k = 6 then (errRp t.setWhole.1, t.setWhole.2)
  else (errRp 1, t)
/-- Do. -/
def Sto.run (t : Sto) (r : Rq) : (Rp × Int) × Sto :=
  if t.s.d.dead then ((noRp, 14), t) else if (t.step r).2.s.d.dead then ((noRp, 14), (t.step r).2) else (((t.step r).1, 0), (t.step r).2)
theorem step1 (t : Sto) (x : Id) (b : List UInt8) : t.step ⟨1, x, b⟩ = (errRp (t.put x b).1, (t.put x b).2) := rfl
theorem step2 (t : Sto) (x : Id) (b : List UInt8) : t.step ⟨2, x, b⟩ = (⟨lostOf t.whole (t.get x).2, (t.get x).1, [], 0, false⟩, t) := rfl
theorem step3 (t : Sto) (x : Id) (b : List UInt8) : t.step ⟨3, x, b⟩ = (errRp (t.del x).1, (t.del x).2) := rfl
theorem step4 (t : Sto) (x : Id) (b : List UInt8) : t.step ⟨4, x, b⟩ = (⟨0, [], t.ids, 0, false⟩, t) := rfl
theorem step5 (t : Sto) (x : Id) (b : List UInt8) : t.step ⟨5, x, b⟩ = (⟨0, [], [], (t.room : Int), t.whole⟩, t) := rfl
theorem step6 (t : Sto) (x : Id) (b : List UInt8) : t.step ⟨6, x, b⟩ = (errRp t.setWhole.1, t.setWhole.2) := rfl
theorem step0 (t : Sto) (r : Rq) (h : r.k < 1 ∨ 6 < r.k) : t.step r = (errRp 1, t) := by
  unfold Sto.step
  rw [if_neg (by omega), if_neg (by omega), if_neg (by omega), if_neg (by omega), if_neg (by omega), if_neg (by omega)]

/-! ### A disk that lives goes on living -/
theorem DS.Live.op {d : DS} (h : d.Live) : d.op.2.Live := by
  obtain ⟨h1, h2⟩ := h
  unfold DS.op
  rw [if_neg (by omega)]
  exact ⟨h1, by show (if 0 < d.fuse then d.fuse - 1 else d.fuse) < 0; rw [if_neg (by omega)]; exact h2⟩
theorem DS.Live.write {d : DS} (h : d.Live) (k : Int) (b : List UInt8) : (d.write k b).2.Live := by
  unfold DS.write
  split
  · exact h
  · split
    · have h1 := DS.Live.op (d := { d with since := d.since ++ [(k.toNat, b)] }) h
      dsimp only
      split
      · exact h1
      · exact h1
    · exact h
theorem DS.Live.sync {d : DS} (h : d.Live) : (d.sync).2.Live := by
  unfold DS.sync
  split
  · exact h
  · dsimp only
    split
    · exact h.op
    · exact h.op
theorem DS.Live.lay (pos : Nat) (b : List UInt8) : ∀ (k j : Nat) (d : DS), d.Live → (d.lay pos b k j).2.Live
  | 0, j, d, h => h.sync
  | k + 1, j, d, h => by
    unfold DS.lay
    split
    · exact h.write _ _
    · exact DS.Live.lay pos b k (j + 1) _ (h.write _ _)
theorem DS.Live.lays {d : DS} (h : d.Live) (pos : Nat) (b : List UInt8) : (d.lays pos b).2.Live := DS.Live.lay _ _ _ _ _ h
theorem DS.Live.put {s : SS} (h : s.d.Live) (i : Int) (key b : List UInt8) : (s.put i key b).2.d.Live := by
  unfold SS.put
  split
  · exact h
  · split
    · exact h
    · split
      · exact h
      · split
        · exact h.lays _ _
        · split
          · exact (h.lays _ _).lays _ _
          · exact (h.lays _ _).lays _ _
theorem DS.Live.clear {s : SS} (h : s.d.Live) (i : Int) : (s.clear i).2.d.Live := by
  unfold SS.clear
  split
  · exact h
  · split
    · exact h
    · split
      · exact h.lays _ _
      · exact h.lays _ _
theorem DS.Live.clears : ∀ (l : List Nat) (s : SS), s.d.Live → (s.clears l).2.d.Live
  | [], s, h => h
  | i :: r, s, h => by
    rw [clears_cons]
    split
    · exact h.clear _
    · exact DS.Live.clears r _ (h.clear _)
theorem live_put {t : Sto} (h : t.s.d.Live) (x : Id) (b : List UInt8) : (t.put x b).2.s.d.Live := by
  unfold Sto.put
  split
  · exact h
  · split
    · exact h
    · split
      · split
        · exact h
        · split <;> exact h
      · split
        · exact h
        · exact h.put _ _ _
theorem live_del {t : Sto} (h : t.s.d.Live) (x : Id) : (t.del x).2.s.d.Live := by
  unfold Sto.del
  split
  · exact h
  · exact DS.Live.clears _ _ h
theorem live_crash (d : DS) (ch : List UInt8) : (d.crash ch).Live := ⟨rfl, by show (-1 : Int) < 0; omega⟩

/-! ### What it keeps -/
/-- At rest, alive, and what it has. -/
structure Keep (t : Sto) (F : Frag) : Prop where
  kept : KeptR t F
  live : t.s.d.Live
variable {t : Sto} {F : Frag}
theorem Keep.alive (h : Keep t F) : t.s.d.dead = false := h.live.1
theorem Keep.new (n : Nat) (h9 : 9 ≤ n) : ∃ t d, (DS.new n).format = ((0, some t), d) ∧ Keep t (fun _ => none) ∧ t.room = (n - 1) / 8 ∧ t.s.d.n = n ∧ t.s.d.ops ≤ n ∧ t.whole = false := by
  obtain ⟨t, d, h1, h2, h3, h4, h5, h6, h7, h8⟩ := KeptR.new n h9
  refine ⟨t, d, h1, ⟨h2, by rw [h3]; exact h8⟩, ?_, by rw [h3]; exact h5, by rw [h3]; exact h6, h7⟩
  unfold Sto.room
  rw [h4]
  simp [List.countP_replicate, noRow]
theorem Keep.since (h : Keep t F) : t.s.d.since = [] := h.kept.rest.none
theorem KeptR.ids_len (h : KeptR t F) : t.ids.length + t.room = t.s.rows.length := by
  unfold Sto.ids firsts Sto.room
  rw [List.length_mergeSort, List.length_map]
  refine used_len t.s.rows _ (fun j hj => ?_)
  cases hu : (t.s.rows.getD j noRow).used with
  | false => unfold isFirst; rw [hu]; rfl
  | true =>
    refine mem_isFirst.2 ⟨hu, fun k hk hh => ?_⟩
    obtain ⟨hm, he⟩ := un_back (h.keys _ (row_mem hj) hu)
    obtain ⟨u, v, _, h2⟩ := h.told
    have hjm : j ∈ t.at (unId (t.s.rows.getD j noRow).key) := by rw [Sto.at_may hm]; exact upto_mem.2 ⟨hj, hu, he⟩
    have hkm : k ∈ t.at (unId (t.s.rows.getD j noRow).key) := by rw [Sto.at_may hm]; exact upto_mem.2 ⟨by omega, hh.1, by rw [hh.2]; exact he⟩
    rcases h2 _ hm with ⟨_, h4⟩ | ⟨i, b, _, h4, _⟩
    · rw [h4] at hjm; cases hjm
    · rw [h4, List.mem_singleton] at hjm hkm
      omega
theorem KeptR.del_bad {x : Id} (hm : mayId x = false) : t.del x = (1, t) := Kept.del_bad hm
/-- What a Put leaves. -/
theorem Keep.put (h : Keep t F) (x : Id) (b : List UInt8) : ∃ F', Keep (t.put x b).2 F' ∧ (t.put x b).2.whole = t.whole ∧
    (((t.put x b).1 = 0 ∧ F x = none ∧ F' = setF F x (some b) ∧ (t.put x b).2.room + 1 = t.room) ∨ (((t.put x b).1 = 0 → F x = some b) ∧ (t.put x b).2 = t ∧ F' = F)) := by
  have hl := live_put h.live x b
  by_cases hb : mayId x = false ∨ 448 < b.length
  · obtain ⟨h1, h2⟩ := h.kept.put_bad hb
    exact ⟨F, by rw [h2]; exact h, by rw [h2], .inr ⟨fun e => absurd e h1, h2, rfl⟩⟩
  · have hm : mayId x = true := by cases hx : mayId x with | true => rfl | false => exact absurd (.inl hx) hb
    have hbl : b.length ≤ 448 := by omega
    cases hF : F x with
    | some c =>
      have h1 := h.kept.put_there hF b hbl
      rw [h1]
      refine ⟨F, h, rfl, .inr ⟨fun e => ?_, rfl, rfl⟩⟩
      by_cases hc : c = b
      · rw [hc]
      · rw [if_neg hc] at e; cases e
    | none =>
      by_cases hr : t.room = 0
      · rw [h.kept.put_full hm hF hbl hr]
        exact ⟨F, h, rfl, .inr ⟨(fun e => by cases e), rfl, rfl⟩⟩
      · rcases h.kept.put_may hm hF hbl (by omega) with ⟨h1, h2, h3, h4⟩ | ⟨_, h2, _⟩
        · exact ⟨_, ⟨h2, hl⟩, h4, .inl ⟨h1, rfl, rfl, h3⟩⟩
        · rw [hl.1] at h2; cases h2
/-- What a Delete leaves. -/
theorem Keep.del (h : Keep t F) (x : Id) : ∃ F', Keep (t.del x).2 F' ∧ (t.del x).2.whole = t.whole ∧
    (((t.del x).1 = 0 ∧ mayId x = true ∧ F' = setF F x none ∧ (t.del x).2.room = t.room + (if (F x).isSome then 1 else 0)) ∨ ((t.del x).1 = 1 ∧ mayId x = false ∧ (t.del x).2 = t ∧ F' = F)) := by
  have hl := live_del h.live x
  cases hm : mayId x with
  | false =>
    rw [KeptR.del_bad hm]
    exact ⟨F, h, rfl, .inr ⟨rfl, rfl, rfl, rfl⟩⟩
  | true =>
    rcases h.kept.del_may hm with ⟨h1, h2, h3, h4, h5⟩ | ⟨_, h2, _⟩
    · exact ⟨_, ⟨h2, hl⟩, h5, .inl ⟨h1, rfl, rfl, h3⟩⟩
    · rw [hl.1] at h2; cases h2
/-- What SetWhole leaves. -/
theorem Keep.sets (h : Keep t F) : t.setWhole.1 = 0 ∧ Keep t.setWhole.2 F ∧ t.setWhole.2.whole = true ∧ t.setWhole.2.room = t.room := by
  have hfair : t.s.d.Fair := fun _ i => by rw [h.since]; exact h.kept.rest.same i
  obtain ⟨h1, h2, h3, h4, h5⟩ := DS.sign_live h.live 2 (by have := h.kept.full.2; omega)
  have h6 := hfair.sign 2
  obtain ⟨d2, hd2⟩ : ∃ d2, d2 = (t.s.d.sign 2).2 := ⟨_, rfl⟩
  have hset : t.setWhole = (0, ⟨{ t.s with d := d2 }, true⟩) := by
    unfold Sto.setWhole
    rw [h1, ← hd2]
    simp
  rw [← hd2] at h2 h3 h4 h5 h6
  rw [hset]
  have hsame : ∀ i, d2.lasts i = d2.now i := fun i => by
    have := h6 h2.1 i
    rw [h5] at this
    exact this
  have hnow : ∀ i, i ≠ 0 → d2.now i = t.s.d.now i := fun i hi => by rw [h4]; unfold upd; rw [if_neg hi]
  obtain ⟨u, v, htold, hall⟩ := h.kept.told
  refine ⟨rfl, ⟨⟨⟨u, v, ⟨⟨h2.1, h5, hsame⟩, by show t.s.first + 8 * t.s.rows.length ≤ d2.n; rw [h3]; exact htold.room, fun k hk => ?_, htold.used, fun k hk hu => ?_⟩, hall⟩, h.kept.out, h.kept.keys, h.kept.first, ⟨by show (d2.n - 1) / 8 = _; rw [h3]; exact h.kept.full.1, by show 9 ≤ d2.n; rw [h3]; exact h.kept.full.2⟩, ⟨?_, ?_, by show ∀ x ∈ d2.since, _; rw [h5]; simp⟩⟩, h2⟩, rfl, rfl⟩
  · have hf := h.kept.first
    show headOf (d2.now (t.s.first + 8 * k)) = _
    rw [hnow _ (by omega)]
    exact htold.head k hk
  · rw [← htold.data k hk hu]
    have hf := h.kept.first
    unfold SS.data SS.pos
    congr 2
    funext i
    exact hnow _ (by show t.s.first + 8 * (k : Int).toNat + 1 + i ≠ 0; omega)
  · show d2.now 0 = _
    rw [h4]; rfl
  · show d2.lasts 0 = _
    rw [hsame, h4]; rfl
/-- Opened behind a crash it is the same. -/
theorem Keep.crash (h : Keep t F) (ch : List UInt8) : (t.s.d.crash ch).stOpen = (0, some ⟨{ t.s with d := t.s.d.crash ch }, t.whole⟩) ∧ Keep ⟨{ t.s with d := t.s.d.crash ch }, t.whole⟩ F := by
  obtain ⟨u, v, htold, hall⟩ := h.kept.told
  have h2 : KeptR ⟨{ t.s with d := t.s.d.crash ch }, t.whole⟩ F := h.kept.same_row (htold.crash ch) hall (h.kept.zero.crash ch) rfl
  refine ⟨?_, h2, live_crash _ _⟩
  generalize hw : (⟨{ t.s with d := t.s.d.crash ch }, t.whole⟩ : Sto) = t2 at *
  have hd : t.s.d.crash ch = t2.s.d := by rw [← hw]
  rw [hd]
  clear hw hd h htold hall
  obtain ⟨u, v, h1, _⟩ := h2.told
  have hsl := h1.anew (by rw [h2.first]; exact h2.full.1) (by have := h2.full.2; omega)
  rw [h2.first] at hsl
  have hn := h2.full.2
  unfold DS.stOpen
  rw [if_neg (by omega), if_neg (by rw [h1.rest.alive]; simp), h2.zero.now]
  cases hw : t2.whole with
  | true =>
    rw [if_neg (by
      rintro (⟨_, h2⟩ | h2)
      · exact h2 rfl
      · rw [show (((if true = true then (2 : UInt8) else 1) :: zeros 63)).drop 1 = zeros 63 from rfl, allZ_zeros] at h2; cases h2)]
    rw [show ((1 : Nat) : Int) = 1 from rfl] at hsl
    rw [hsl]
    dsimp only
    rw [if_pos (stKeys_iff.2 h2.keys)]
    obtain ⟨ts, tw⟩ := t2
    dsimp only at hw
    subst hw
    rfl
  | false =>
    rw [if_neg (by
      rintro (⟨h2, _⟩ | h2)
      · exact h2 rfl
      · rw [show (((if false = true then (2 : UInt8) else 1) :: zeros 63)).drop 1 = zeros 63 from rfl, allZ_zeros] at h2; cases h2)]
    rw [show ((1 : Nat) : Int) = 1 from rfl] at hsl
    rw [hsl]
    dsimp only
    rw [if_pos (stKeys_iff.2 h2.keys)]
    obtain ⟨ts, tw⟩ := t2
    dsimp only at hw
    subst hw
    rfl
/-- A request leaves it alive. -/
theorem Keep.step (h : Keep t F) (r : Rq) : ∃ F', Keep (t.step r).2 F' := by
  by_cases h0 : r.k < 1 ∨ 6 < r.k
  · rw [step0 t r h0]; exact ⟨F, h⟩
  · obtain ⟨k, x, b⟩ := r
    dsimp only at h0
    obtain rfl | rfl | rfl | rfl | rfl | rfl : k = 1 ∨ k = 2 ∨ k = 3 ∨ k = 4 ∨ k = 5 ∨ k = 6 := by omega
    · obtain ⟨F', h1, _⟩ := h.put x b; exact ⟨F', h1⟩
    · exact ⟨F, h⟩
    · obtain ⟨F', h1, _⟩ := h.del x; exact ⟨F', h1⟩
    · exact ⟨F, h⟩
    · exact ⟨F, h⟩
    · exact ⟨F, h.sets.2.1⟩
theorem Keep.run (h : Keep t F) (r : Rq) : t.run r = (((t.step r).1, 0), (t.step r).2) := by
  obtain ⟨F', h1⟩ := h.step r
  unfold Sto.run
  rw [h.alive, h1.alive]
  rfl

/-! ### How far it goes -/
theorem srv_n : ∀ (l : List Nat) (s : SS), (s.clears l).2.d.n = s.d.n
  | [], s => rfl
  | i :: r, s => by
    obtain ⟨_, _, h1⟩ := s.clear_ok (i : Int)
    rw [clears_cons]
    split
    · exact h1
    · rw [srv_n r, h1]
theorem srv_row1 (s : SS) (i : Int) : (s.clear i).2.rows.length = s.rows.length := by
  by_cases he : (s.clear i).1 = 0
  · obtain ⟨_, _, h3⟩ := SS.clear_done he
    rw [h3, List.length_set]
  · rw [SS.clear_not he]
theorem srv_rows : ∀ (l : List Nat) (s : SS), (s.clears l).2.rows.length = s.rows.length
  | [], s => rfl
  | i :: r, s => by
    rw [clears_cons]
    split
    · exact srv_row1 s i
    · rw [srv_rows r, srv_row1]
/-- How far a request goes. -/
structure Far20 (t t' : Sto) : Prop where
  ops : t'.s.d.ops ≤ t.s.d.ops + 40
  since : t'.s.d.since.length ≤ t.s.d.since.length + 40
  n : t'.s.d.n = t.s.d.n
  rows : t'.s.rows.length = t.s.rows.length
theorem step_far (t : Sto) (r : Rq) (hr : t.s.rows.length ≤ 20) : Far20 t (t.step r).2 := by
  by_cases h0 : r.k < 1 ∨ 6 < r.k
  · rw [step0 t r h0]; exact ⟨by dsimp only; omega, by dsimp only; omega, rfl, rfl⟩
  · obtain ⟨k, x, b⟩ := r
    dsimp only at h0
    obtain rfl | rfl | rfl | rfl | rfl | rfl : k = 1 ∨ k = 2 ∨ k = 3 ∨ k = 4 ∨ k = 5 ∨ k = 6 := by omega
    · obtain ⟨a, b', c, d, _⟩ := t.put_ok x b
      rw [step1]
      exact ⟨by dsimp only; omega, by dsimp only; omega, c, d⟩
    · rw [step2]; exact ⟨by dsimp only; omega, by dsimp only; omega, rfl, rfl⟩
    · obtain ⟨a, b'⟩ := t.del_ok x
      rw [step3]
      refine ⟨by dsimp only; omega, by dsimp only; omega, ?_, ?_⟩
      · unfold Sto.del
        split
        · rfl
        · exact srv_n _ _
      · unfold Sto.del
        split
        · rfl
        · exact srv_rows _ _
    · rw [step4]; exact ⟨by dsimp only; omega, by dsimp only; omega, rfl, rfl⟩
    · rw [step5]; exact ⟨by dsimp only; omega, by dsimp only; omega, rfl, rfl⟩
    · obtain ⟨a, b', c⟩ := t.s.d.sign_ok 2
      rw [step6]
      exact ⟨by show (t.s.d.sign 2).2.ops ≤ _; omega, by show (t.s.d.sign 2).2.since.length ≤ _; omega, a, rfl⟩

/-! ### ServerLists -/
def keepB (r : Rq) (e : Int) (y : Id) : Bool := decide (y ≠ r.x) || (decide (r.k ≠ 3) || decide (e ≠ 0))
def thereB (H : List Id) (x : Id) : Bool := H.any (fun y => decide (y = x))
theorem thereB_iff {H : List Id} {x : Id} : thereB H x = true ↔ x ∈ H := by
  unfold thereB
  rw [List.any_eq_true]
  constructor
  · rintro ⟨y, hy, e⟩
    rw [← of_decide_eq_true e]; exact hy
  · intro h; exact ⟨x, h, by simp⟩
def nextH (H : List Id) (r : Rq) (e : Int) : List Id := H.filter (keepB r e) ++ if r.k = 1 ∧ e = 0 ∧ thereB H r.x = false then [r.x] else []
theorem keep_all {H : List Id} {r : Rq} {e : Int} (h : r.k ≠ 3 ∨ e ≠ 0) : H.filter (keepB r e) = H := List.filter_eq_self.2 (fun y _ => by
  unfold keepB
  rcases h with h | h <;> simp [h])
theorem next_same {H : List Id} {r : Rq} {e : Int} (h : r.k ≠ 3 ∨ e ≠ 0) (h1 : r.k ≠ 1 ∨ e ≠ 0 ∨ r.x ∈ H) : nextH H r e = H := by
  unfold nextH
  rw [keep_all h, if_neg, List.append_nil]
  rintro ⟨a, b, c⟩
  rcases h1 with h1 | h1 | h1
  · exact h1 a
  · exact h1 b
  · rw [thereB_iff.2 h1] at c; cases c
structure ListsAt (t : Sto) (H : List Id) (k : Nat) : Prop where
  keep : ∃ F, Keep t F ∧ ∀ x, x ∈ H ↔ (F x).isSome = true
  nodup : H.Nodup
  rows : t.s.rows.length = 12
  len : H.length + t.room = 12
  small : t.s.d.ops ≤ 100 + 40 * k ∧ t.s.d.n = 97
theorem ListsAt.new : ∃ t d, (DS.new 97).format = ((0, some t), d) ∧ ListsAt t [] 0 := by
  obtain ⟨t, d, h1, h2, h3, h4, h5, h6⟩ := Keep.new 97 (by omega)
  refine ⟨t, d, h1, ⟨_, h2, by simp⟩, by simp, ?_, by simp; omega, by omega, h4⟩
  have := h2.kept.full.1
  omega
theorem filter_one {H : List Id} (hn : H.Nodup) {x : Id} (hx : x ∈ H) : (H.filter (fun y => decide (y ≠ x))).length + 1 = H.length := by
  induction H with
  | nil => cases hx
  | cons a l ih =>
    obtain ⟨h1, h2⟩ := List.nodup_cons.1 hn
    by_cases e : a = x
    · subst e
      rw [List.filter_cons_of_neg (by simp), List.filter_eq_self.2 (fun y hy => by
        simp
        intro e; subst e; exact h1 hy)]
      rfl
    · rw [List.filter_cons_of_pos (by simp [e]), List.length_cons, List.length_cons, ih h2 (by
        rcases List.mem_cons.1 hx with h | h
        · exact absurd h.symm e
        · exact h)]
variable {H : List Id} {k : Nat}
theorem ListsAt.step (h : ListsAt t H k) (r : Rq) : ListsAt (t.step r).2 (nextH H r (t.step r).1.e) (k + 1) := by
  obtain ⟨⟨F, hk, hm⟩, hn, hr, hl, hs, hd⟩ := h
  have hf := step_far t r (by omega)
  have hsm : (t.step r).2.s.d.ops ≤ 100 + 40 * (k + 1) ∧ (t.step r).2.s.d.n = 97 := ⟨by have := hf.ops; omega, by rw [hf.n]; exact hd⟩
  have hrw : (t.step r).2.s.rows.length = 12 := by rw [hf.rows]; exact hr
  have same : (t.step r).2 = t → nextH H r (t.step r).1.e = H → ListsAt (t.step r).2 (nextH H r (t.step r).1.e) (k + 1) := fun e1 e2 => by
    rw [e2]
    exact ⟨⟨F, by rw [e1]; exact hk, hm⟩, hn, hrw, by rw [e1]; exact hl, hsm⟩
  by_cases h0 : r.k < 1 ∨ 6 < r.k
  · exact same (by rw [step0 t r h0]) (next_same (.inl (by omega)) (.inl (by omega)))
  · obtain ⟨kk, x, b⟩ := r
    dsimp only at h0
    obtain rfl | rfl | rfl | rfl | rfl | rfl : kk = 1 ∨ kk = 2 ∨ kk = 3 ∨ kk = 4 ∨ kk = 5 ∨ kk = 6 := by omega
    · obtain ⟨F', p1, p2, p3⟩ := hk.put x b
      rcases p3 with ⟨p3, p4, p5, p6⟩ | ⟨p3, p4, p5⟩
      · have hx : x ∉ H := fun hx => by rw [hm x, p4] at hx; cases hx
        have hth : thereB H x = false := by
          cases e : thereB H x with
          | false => rfl
          | true => exact absurd (thereB_iff.1 e) hx
        have e : nextH H ⟨1, x, b⟩ (t.step ⟨1, x, b⟩).1.e = H ++ [x] := by
          unfold nextH
          rw [keep_all (.inl (by simp)), if_pos ⟨rfl, p3, hth⟩]
        rw [e]
        refine ⟨⟨F', p1, fun y => ?_⟩, ?_, hrw, ?_, hsm⟩
        · rw [p5, List.mem_append, List.mem_singleton, hm y]
          by_cases hy : y = x
          · rw [hy, setF_self]; simp
          · rw [setF_other _ _ hy]; simp [hy]
        · rw [List.nodup_append]
          refine ⟨hn, by simp, fun a ha c hc => ?_⟩
          rw [List.mem_singleton.1 hc]
          exact fun e => hx (by rw [← e]; exact ha)
        · rw [List.length_append, List.length_singleton]
          show H.length + 1 + (t.put x b).2.room = 12
          omega
      · refine same p4 (next_same (.inl (by simp)) (.inr ?_))
        by_cases he : (t.put x b).1 = 0
        · exact .inr ((hm x).2 (by rw [p3 he]; rfl))
        · exact .inl he
    · exact same rfl (next_same (.inl (by simp)) (.inl (by simp)))
    · obtain ⟨F', p1, p2, p3⟩ := hk.del x
      rcases p3 with ⟨p3, p4, p5, p6⟩ | ⟨p3, p4, p5, p6⟩
      · have e : nextH H ⟨3, x, b⟩ (t.step ⟨3, x, b⟩).1.e = H.filter (fun y => decide (y ≠ x)) := by
          unfold nextH
          rw [if_neg (by simp), List.append_nil]
          congr 1
          funext y
          show (decide (y ≠ x) || (decide ((3 : Int) ≠ 3) || decide ((t.del x).1 ≠ 0))) = _
          rw [p3]; simp
        rw [e]
        refine ⟨⟨F', p1, fun y => ?_⟩, hn.filter _, hrw, ?_, hsm⟩
        · rw [p5, List.mem_filter, hm y]
          by_cases hy : y = x
          · rw [hy, setF_self]; simp
          · rw [setF_other _ _ hy]; simp [hy]
        · show (H.filter (fun y => decide (y ≠ x))).length + (t.del x).2.room = 12
          rw [p6]
          by_cases hx : x ∈ H
          · rw [if_pos ((hm x).1 hx)]
            have := filter_one hn hx
            omega
          · rw [if_neg (fun h => hx ((hm x).2 h)), List.filter_eq_self.2 (fun y hy => by
              simp
              intro e; subst e; exact hx hy)]
            omega
      · exact same p5 (next_same (.inr (by show (t.del x).1 ≠ 0; rw [p3]; simp)) (.inl (by simp)))
    · exact same rfl (next_same (.inl (by simp)) (.inl (by simp)))
    · exact same rfl (next_same (.inl (by simp)) (.inl (by simp)))
    · obtain ⟨p1, p2, p3, p4⟩ := hk.sets
      rw [next_same (.inl (by simp)) (.inl (by simp))]
      exact ⟨⟨F, p2, hm⟩, hn, hrw, by show H.length + t.setWhole.2.room = 12; omega, hsm⟩
theorem ListsAt.ends (h : ListsAt t H k) : t.ids.length = H.length ∧ t.room = 12 - H.length ∧ ∀ x ∈ H, x ∈ t.ids := by
  obtain ⟨⟨F, hk, hm⟩, hn, hr, hl, hs⟩ := h
  have := hk.kept.ids_len
  exact ⟨by omega, by omega, fun x hx => (hk.kept.mem_ids x).2 ((hm x).1 hx)⟩

/-! ### ServerDead -/
/-! ### ServerWhole -/
/-- What Get says of a store that lives. -/
theorem Keep.gets (h : Keep t F) (x : Id) (b : List UInt8) : (t.step ⟨2, x, b⟩).1 = if mayId x = false then errRp 1 else match F x with | none => errRp (if t.whole then 6 else 15) | some c => ⟨0, c, [], 0, false⟩ := by
  rw [step2, h.kept.get x]
  by_cases hm : mayId x = false
  · rw [if_pos hm, if_pos hm]
    rfl
  · rw [if_neg hm, if_neg hm]
    cases F x with
    | none =>
      cases t.whole <;> rfl
    | some c =>
      rfl
end Go.Proofs.YtdkhmfcfihbjeaaGreatDoor.W

/- Blocks that hold no bytes; append that says what the row's block holds. -/
namespace Go.Proofs.YtdkhmfcfihbjeaaGreatDoor.W
open Go.RowKit
set_option linter.unusedVariables false
set_option linter.unusedSimpArgs false

def No8 (c : Value) : Prop := ∀ z : Int, c ≠ .int .u8 z
/-- No cell of the block is a byte. -/
def NoU8 (w : World) (x : Nat) : Prop := ∀ cs t fr, w.heap[x]? = some (.cells cs t fr) → ∀ (j : Nat) (c : Value), cs[j]? = some c → No8 c
theorem NoU8.keep {w w' : World} {x : Nat} (h : NoU8 w x) (hb : w'.heap[x]? = w.heap[x]?) : NoU8 w' x := fun cs t fr hc => h cs t fr (hb.symm.trans hc)
theorem NoU8.mk {w : World} {x t : Nat} {cs : Array Value} {fr : Nat × Nat} (h : w.heap[x]? = some (.cells cs t fr)) (hc : ∀ (j : Nat) (c : Value), cs[j]? = some c → No8 c) : NoU8 w x := fun cs' t' fr' h' => by
  rw [h] at h'
  cases h'
  exact hc
theorem NoU8.set {w : World} {x j : Nat} {u : Value} (h : NoU8 w x) (hx : x < w.heap.size) (hu : No8 u) : NoU8 (w.setCell ⟨x, j, none⟩ u) x := fun cs t fr hc k c hk => by
  have hx' := Array.getElem?_eq_getElem hx
  unfold World.setCell at hc
  rw [Array.getElem?_modify, if_pos rfl, hx'] at hc
  cases ho : w.heap[x] with
  | cells cs0 t0 fr0 =>
    rw [ho] at hc hx'
    simp at hc
    obtain ⟨rfl, rfl, rfl⟩ := hc
    rw [Array.getElem?_setIfInBounds] at hk
    by_cases hjk : j = k
    · rw [if_pos hjk] at hk
      split at hk
      · rw [← Option.some.inj hk]; exact hu
      · cases hk
    · rw [if_neg hjk] at hk
      exact h cs0 _ _ hx' k c hk
  | _ => rw [ho] at hc; simp at hc
theorem NoU8.not_bytes {w : World} {x : Nat} (h : NoU8 w x) (v : Value) (l : List UInt8) (hb : BytesAt w v l) (hl : l ≠ []) : v.ownBlock ≠ some x := fun e => by
  obtain ⟨a, cap, rfl, h1, h2, h3⟩ := hb
  have hpos : 0 < l.length := by cases l; exact absurd rfl hl; simp
  rcases h3 with ⟨h3, _⟩ | ⟨g', o, rfl, hc⟩
  · exact hl h3
  · obtain rfl : g' = x := by simpa [Value.ownBlock] using e
    have h5 := hc 0 hpos
    rw [Nat.add_zero] at h5
    unfold World.cell? at h5
    cases hx : w.heap[g']? with
    | none => simp [hx] at h5
    | some o' =>
      cases o' with
      | cells cs t fr =>
        simp [hx] at h5
        exact h cs t fr hx o _ h5 _ rfl
      | _ => simp [hx] at h5
theorem no8_slice {a : Option Addr} {n c : Nat} : No8 (.slice a n c) := fun z => by simp
theorem no8_i64 {x : Int} : No8 (.int .i64 x) := fun z => by simp
theorem no8_bool {x : Bool} : No8 (.bool x) := fun z => by simp
theorem no8_ptr {a : Option Addr} : No8 (.pointer a) := fun z => by simp
theorem no8_list {l : List Value} (h : ∀ c ∈ l, No8 c) : ∀ (j : Nat) (c : Value), l.toArray[j]? = some c → No8 c := fun j c hj => by
  rw [List.getElem?_toArray] at hj
  exact h c (List.mem_of_getElem? hj)
theorem BytesAt.no8 {w : World} {v : Value} {l : List UInt8} (h : BytesAt w v l) : No8 v := by
  obtain ⟨a, cap, rfl, _⟩ := h
  exact no8_slice
end Go.Proofs.YtdkhmfcfihbjeaaGreatDoor.W

/- A store beside others' blocks; its disk: fuse, dead, crash. -/
namespace Go.Proofs.YtdkhmfcfihbjeaaGreatDoor.W
open Go.RowKit
set_option linter.unusedVariables false
set_option linter.unusedSimpArgs false

theorem SlotsAt.keepT {w w' : World} {q p : Nat} {U T : List Nat} {s : SS} (h : SlotsAt w q p U s) (hc : Chg T w w') (ha : ∀ x ∈ U, x ∉ T) (hT : ∀ x ∈ T, ∀ v l, BytesAt w v l → l ≠ [] → v.ownBlock ≠ some x) : SlotsAt w' q p U s := by
  obtain ⟨S, rv, R, h⟩ := h
  refine ⟨S, rv, R, h.obj.keep hc (fun x hx => ha x (h.uB x hx)), h.disk.keep hc (fun x hx => ha x (h.uS x hx)), h.rows, h.sep, fun x hx => ?_, h.uS, h.uB, fun x hx => Nat.lt_of_lt_of_le (h.uL x hx) hc.size, h.ok⟩
  obtain ⟨h1, h2⟩ := h.keys x hx
  exact ⟨h1.chgW hc (fun hl k hk hm => hT k hm _ _ h1 hl hk), fun g hg => ⟨Nat.lt_of_lt_of_le (h2 g hg).1 hc.size, (h2 g hg).2⟩⟩
/-- The reference was at work beside it. -/
theorem StAt.regroup {G G' : List Nat} {w w' : World} {q p : Nat} {U T : List Nat} {t : Sto} (h : StAt G w q p U t) (hc : Chg T w w') (hT : ∀ x ∈ T, x ∈ G) (h8 : ∀ x ∈ T, NoU8 w x) (hU : ∀ x ∈ U, x ∉ G) (hG : ∀ x ∈ G', (x ∈ G ∨ w.heap.size ≤ x) ∧ x < w'.heap.size) : StAt G' w' q p U t := by
  obtain ⟨sp, mb, Us, φ, N, h, rfl⟩ := h
  have hn : ∀ x ∈ q :: mb :: Us, x ∉ T := fun x hx hm => hU x hx (hT x hm)
  refine ⟨sp, mb, Us, φ, N, ⟨hc.keep h.head (hn q (by simp)), h.slots.keepT hc (fun x hx => hn x (by simp [hx])) (fun x hx v l hb hl => (h8 x hx).not_bytes v l hb hl), h.map.chg hc (hn mb (by simp)), h.apart, fun x hx => ?_, h.ok, fun k hk => ⟨(hG k hk).2, fun y v hy hv e => ?_⟩⟩, rfl⟩
  · rcases h.vals x hx with h1 | ⟨h1, v, h2, h3, h4⟩
    · exact .inl h1
    · refine .inr ⟨h1, v, h2, h3.keep (fun g hg => hc.block g (h4 g hg).1 (fun hm => (h.far g (hT g hm)).2 x v hx h2 hg)), fun g hg => ⟨Nat.lt_of_lt_of_le (h4 g hg).1 hc.size, (h4 g hg).2⟩⟩
  · rcases (hG k hk).1 with h1 | h1
    · exact (h.far k h1).2 y v hy hv e
    · rcases h.vals y hy with ⟨_, h2⟩ | ⟨_, v', h2, _, h4⟩
      · rw [h2] at hv; cases hv
      · rw [h2] at hv
        obtain rfl := Option.some.inj hv
        have := (h4 k e).1
        omega
theorem StAt.disk {G : List Nat} {w : World} {q p : Nat} {U : List Nat} {t : Sto} (h : StAt G w q p U t) : ∃ S, DiskAt w p S t.s.d := by
  obtain ⟨sp, mb, Us, φ, N, h, rfl⟩ := h
  obtain ⟨S, rv, R, H⟩ := h.slots
  exact ⟨S, H.disk⟩
theorem StAt.fuse {G : List Nat} {w : World} {q p : Nat} {U : List Nat} {t : Sto} (h : StAt G w q p U t) (n : Int) (hn : n ≤ 9223372036854775807) :
    Calls Tryz.prog 18 #[.pointer (some ⟨p, 0, none⟩), .int .i64 n] w fun e w' => e = .returned (.tuple #[]) ∧ Std G w w' q p U ⟨{ t.s with d := t.s.d.setFuse n }, t.whole⟩ := by
  obtain ⟨sp, mb, Us, φ, N, h, rfl⟩ := h
  obtain ⟨S, rv, R, H⟩ := h.slots
  refine (dfuse_any p S t.s.d n w H.disk hn).mono fun e w' ⟨h1, h2⟩ => ⟨h1, ?_⟩
  obtain ⟨Us', g1, g2, g3⟩ := h.slotsDid (SlotsAt.did H h2 rfl) rfl
  exact g1.std g2 (g3.mono (fun y hy => .inl (by simp [hy])))
theorem StAt.dead {G : List Nat} {w : World} {q p : Nat} {U : List Nat} {t : Sto} (h : StAt G w q p U t) : Calls Tryz.prog 38 #[.pointer (some ⟨p, 0, none⟩)] w fun e w' => e = .returned (.bool t.s.d.dead) ∧ w = w' := by
  obtain ⟨S, hd⟩ := h.disk
  exact ddead_any p S t.s.d w hd
end Go.Proofs.YtdkhmfcfihbjeaaGreatDoor.W

/- Package server: the deeds. -/
namespace Go.Proofs.YtdkhmfcfihbjeaaGreatDoor.W
open Go.RowKit
set_option linter.unusedVariables false
set_option linter.unusedSimpArgs false

/-! ### Requests and replies in memory -/
/-- A reply, its rows new since w0. -/
def RpAt (w0 w : World) (v : Value) (o : Rp) : Prop := ∃ bv iv, v = rpV o.e bv iv o.room o.whole ∧ BytesAt w bv o.b ∧ (∀ k, bv.ownBlock = some k → w0.heap.size ≤ k) ∧ w.ownsRow w0.heap.size 38 4 iv o.ids.length (o.ids.flatMap idE)
theorem RpAt.keep {w0 w w' : World} {v : Value} {o : Rp} (h : RpAt w0 w v o) {T : List Nat} (hc : Chg T w w') (hT : ∀ x ∈ T, ∀ bv iv, v = rpV o.e bv iv o.room o.whole → bv.ownBlock ≠ some x ∧ iv.ownBlock ≠ some x) : RpAt w0 w' v o := by
  obtain ⟨bv, iv, h1, h2, h3, h4⟩ := h
  exact ⟨bv, iv, h1, h2.chg hc (fun k hk hm => (hT k hm bv iv h1).1 hk), h3, row_keep h4 (fun g hg => hc.block g (World.ownsRow.lt h4 g hg).2 (fun hm => (hT g hm bv iv h1).2 hg))⟩
theorem RpAt.err {w0 w : World} (e : Int) : RpAt w0 w (rpV e (.slice none 0 0) (.slice none 0 0) 0 false) (errRp e) :=
  ⟨_, _, rfl, BytesAt.nil _, by simp [Value.ownBlock], World.ownsRow_nil _ _ _ _⟩
theorem ret_rp {fn : Func} {p : Tmp} (h : fn.results = #[.cell p 32]) (tmps : Array Value) {w : World} {b t : Nat} {e room : Int} {bv iv : Value} {wh : Bool} (hp : tmps.getD p undef = .pointer (some ⟨b, 0, none⟩)) (hb : w.heap[b]? = some (.cells (rpL e bv iv room wh).toArray t (0, 0))) :
    (results fn tmps).run Tryz.prog w = .ok (rpV e bv iv room wh) w := by
  have hl := run_loadVar_row (P := Tryz.prog) w b t 32 (rpL e bv iv room wh).toArray (0, 0) _ hb Tryz.underlying32 rfl (rp_size _ _ _ _ _)
  have he : (results fn tmps).run Tryz.prog w = ((asAddr (tmps.getD p undef)).run Tryz.prog w).andThen fun a w₁ => (loadVar 32 a).run Tryz.prog w₁ := by
    simp only [results, h]
    simp [Sem.run_bind, Result.andThen]
  rw [he, hp]
  simp only [asAddr, Sem.run_pure, Result.andThen_ok, hl]
  rfl
theorem zeroRp_no8 {w : World} {b t : Nat} (h : w.heap[b]? = some (.cells zeroRp t (0, 0))) : NoU8 w b := NoU8.mk h (by
  unfold zeroRp
  refine no8_list (l := [.int .i64 0, .slice none 0 0, .slice none 0 0, .int .i64 0, .bool false]) (fun c hc => ?_)
  simp only [List.mem_cons, List.mem_nil_iff, or_false] at hc
  rcases hc with rfl | rfl | rfl | rfl | rfl <;> (intro z; simp))

/-! ### Beside the caller's own blocks -/
section
variable {G T U : List Nat} {w w2 w3 w4 : World} {q p : Nat} {t t' : Sto}
theorem StAt.gl (h : StAt G w q p U t) : ∀ x ∈ G, x < w.heap.size := by
  obtain ⟨sp, mb, Us, φ, N, h, rfl⟩ := h
  exact fun x hx => (h.far x hx).1
theorem StAt.with (h : StAt G w q p U t) (hU : ∀ x ∈ U, x ∉ G) (h2 : Chg [] w w2) (hT : ∀ x ∈ T, w.heap.size ≤ x ∧ x < w2.heap.size) : StAt (T ++ G) w2 q p U t :=
  h.regroup (T := []) h2 (by simp) (by simp) hU (fun x hx => by
    rcases List.mem_append.1 hx with hx | hx
    · exact ⟨.inr (hT x hx).1, (hT x hx).2⟩
    · exact ⟨.inl hx, Nat.lt_of_lt_of_le (h.gl x hx) h2.size⟩)
/-- What a call left beside blocks of the caller's own, which are then written. -/
theorem Std.local (hG : ∀ x ∈ G, x < w.heap.size) (hU : ∀ x ∈ U, x ∉ G) (hl : ∀ x ∈ U, x < w.heap.size) (h2 : Chg [] w w2) (hT : ∀ x ∈ T, w.heap.size ≤ x ∧ x < w2.heap.size) (hs : Std (T ++ G) w2 w3 q p U t') (h8 : ∀ x ∈ T, NoU8 w3 x) (hc : Chg T w3 w4) : Std G w w4 q p U t' := by
  obtain ⟨U', a1, a2, a3⟩ := hs
  have hz := h2.size
  have hUT : ∀ x ∈ U', x ∉ T ++ G := fun x hx hm => by
    rcases a2 x hx with h | h
    · rcases List.mem_append.1 hm with hm | hm
      · have := hl x h; have := (hT x hm).1; omega
      · exact hU x h hm
    · rcases List.mem_append.1 hm with hm | hm
      · have := (hT x hm).2; omega
      · have := hG x hm; omega
  refine ⟨U', a1.regroup hc (fun x hx => List.mem_append_left _ hx) h8 hUT (fun x hx => ⟨.inl (List.mem_append_right _ hx), ?_⟩), fun x hx => ?_, ((h2.mono (T := U) (by simp)).trans a3 (fun x hx => .inl hx)).trans hc (fun x hx => .inr (hT x hx).1)⟩
  · have := hG x hx; have := a3.size; have := hc.size; omega
  · rcases a2 x hx with h | h
    · exact .inl h
    · exact .inr (by omega)
theorem Std.blk {b : Nat} {o : Obj} (hs : Std G w2 w3 q p U t') (hb : w2.heap[b]? = some o) (hU : b ∉ U) : w3.heap[b]? = some o := by
  obtain ⟨U', a1, a2, a3⟩ := hs
  exact a3.keep hb hU
/-- What a deed answers, and what it leaves. -/
def DeedPost (G : List Nat) (w : World) (q p : Nat) (U : List Nat) (o : Rp) (t' : Sto) (e : Ending) (w' : World) : Prop := ∃ v, e = .returned v ∧ RpAt w w' v o ∧ Std G w w' q p U t'
/-- A server in memory. -/
structure SvAt (G : List Nat) (w : World) (z q p : Nat) (U : List Nat) (t : Sto) : Prop where
  head : w.heap[z]? = some (.cells #[.pointer (some ⟨q, 0, none⟩)] 87 (0, 0))
  st : StAt G w q p U t
  out : z ∉ U
  far : ∀ x ∈ U, x ∉ G
theorem SvAt.keep0 {z : Nat} (h : SvAt G w z q p U t) (hc : Chg [] w w2) : SvAt G w2 z q p U t := ⟨hc.keep h.head (by simp), h.st.keep0 hc, h.out, h.far⟩
end

/-- The request's and the reply's own blocks, as a deed begins. -/
structure Begun (w w2 : World) (r : Rq) (bv : Value) : Prop where
  chg : Chg [] w w2
  rq : w2.heap[w.heap.size]? = some (.cells (rqL r bv).toArray 40 (0, 0))
  rp : w2.heap[w.heap.size + 1]? = some (.cells zeroRp 32 (0, 0))
theorem begun_of (w : World) (r : Rq) (bv : Value) : Begun w ((w.alloc (.cells (rqL r bv).toArray 40)).alloc (.cells zeroRp 32)) r bv :=
  ⟨((Chg.refl [] w).alloc _).alloc _, blk_alloc (heap_alloc_new w _), heap_at (by simp)⟩
section
variable {G U : List Nat} {z q p : Nat} {t : Sto}
/-- How a deed begins, all that its walk asks. -/
structure Begins (G : List Nat) (w w2 : World) (z q p : Nat) (U : List Nat) (t : Sto) (r : Rq) (bv : Value) : Prop where
  chg : Chg [] w w2
  head : w2.heap[z]? = some (.cells #[.pointer (some ⟨q, 0, none⟩)] 87 (0, 0))
  rq : w2.heap[w.heap.size]? = some (.cells (rqL r bv).toArray 40 (0, 0))
  rp : w2.heap[w.heap.size + 1]? = some (.cells zeroRp 32 (0, 0))
  st : StAt ([w.heap.size + 1] ++ G) w2 q p U t
  out : w.heap.size + 1 ∉ U
  new : ∀ x ∈ [w.heap.size + 1], w.heap.size ≤ x ∧ x < w2.heap.size
theorem SvAt.begins {w : World} (h : SvAt G w z q p U t) (r : Rq) (bv : Value) : Begins G w ((w.alloc (.cells (rqL r bv).toArray 40)).alloc (.cells zeroRp 32)) z q p U t r bv := by
  have B := begun_of w r bv
  generalize ((w.alloc (.cells (rqL r bv).toArray 40)).alloc (.cells zeroRp 32)) = w2 at *
  have hT : ∀ x ∈ [w.heap.size + 1], w.heap.size ≤ x ∧ x < w2.heap.size := fun x hx => by
    rw [List.mem_singleton.1 hx]
    exact ⟨by omega, blk_lt B.rp⟩
  exact ⟨B.chg, B.chg.keep h.head (by simp), B.rq, B.rp, h.st.with h.far B.chg hT, fun hm => by have := h.st.lim _ hm; omega, hT⟩
theorem Begins.drew {w w2 : World} {r : Rq} {bv : Value} (h : Begins G w w2 z q p U t r bv) : Begins G w w2.drew z q p U t r bv :=
  ⟨h.chg.drew, h.head, h.rq, h.rp, h.st.keep0 ((Chg.refl [] w2).drew), h.out, h.new⟩
/-- How a deed ends: its reply is laid down. -/
theorem Begins.ends {w w2 w3 : World} {r : Rq} {bv : Value} {t' : Sto} (hb : Begins G w w2 z q p U t r bv) (h : SvAt G w z q p U t) (hs : Std ([w.heap.size + 1] ++ G) w2 w3 q p U t') (u : List Value) : Std G w (w3.setCells (w.heap.size + 1) 0 u) q p U t' :=
  Std.local h.st.gl h.far h.st.lim hb.chg hb.new hs (fun x hx => by
    rw [List.mem_singleton.1 hx]
    exact zeroRp_no8 (hs.blk hb.rp hb.out)) ((Chg.refl _ w3).setCells (.inl (by simp)) u)
theorem rp_all (e : Int) (a c : Option Addr) (b d f g : Nat) (room : Int) (wh : Bool) : (rpL e (.slice a b f) (.slice c d g) room wh).toArray.all (·.oneCell') = true := all_oneCell_toArray (fun v hv => by
  simp only [rpL, List.mem_cons, List.mem_nil_iff, or_false] at hv
  rcases hv with rfl | rfl | rfl | rfl | rfl <;> rfl)
theorem err_all (e : Int) : (rpL e (.slice none 0 0) (.slice none 0 0) 0 false).toArray.all (·.oneCell') = true := rp_all e none none 0 0 0 0 0 false

set_option maxHeartbeats 4000000 in
set_option maxRecDepth 100000 in
theorem svput_any (r : Rq) (bv : Value) (w : World) (h : SvAt G w z q p U t) (hx : okD r.x) (hb : BytesAt w bv r.b) (hbU : r.b ≠ [] → ∀ k, bv.ownBlock = some k → k ∉ U) (hbl : r.b.length ≤ 1000000) (ho : t.s.d.ops ≤ 900000000) (hw : t.s.d.since.length ≤ 900000) :
    Calls Tryz.prog 82 #[.pointer (some ⟨z, 0, none⟩), rqV r bv] w (DeedPost G w q p U (errRp (t.put r.x r.b).1) (t.put r.x r.b).2) := by
  have HE0 := Lib.hid (h.begins r bv)
  obtain ⟨w2, hw2⟩ : ∃ w2, w2 = (w.alloc (.cells (rqL r bv).toArray 40)).alloc (.cells zeroRp 32) := ⟨_, rfl⟩
  rw [← hw2] at HE0
  have HE := Lib.hid HE0.out.drew
  have CP := Lib.hid (stput_any q p U t r.x bv r.b w2.drew HE.out.st hx ((hb.chg HE0.out.chg (by simp)).keep (fun _ _ => rfl)) hbU hbl ho hw)
  have c0 := blk_cell HE0.out.head 0 _ rfl
  obtain ⟨B, hB⟩ : ∃ B, B = w.heap.size := ⟨_, rfl⟩
  have hrq := HE0.out.rq
  rw [← hB] at hrq
  have q1 := blk_cell hrq 1 _ rfl
  have q2 := blk_cell hrq 2 _ rfl
  have q3 := blk_cell hrq 3 _ rfl
  have q4 := blk_cell hrq 4 _ rfl
  have q5 := blk_cell hrq 5 _ rfl
  have HH := Lib.hid h
  have HW2 := Lib.hid hw2
  have HB := Lib.hid hB
  obtain ⟨o, hoe⟩ : ∃ o, o = t.put r.x r.b := ⟨_, rfl⟩
  rw [← hoe] at CP
  rw [← hoe]
  obtain ⟨k, ⟨xc, xl, xn, xi⟩, b⟩ := r
  obtain ⟨ba, bc, hbv⟩ := hb.slice
  subst hbv
  clear hw2 hB hrq HE0 h hx hb hbU hoe
  unfold rqV rqL
  unfold rqL at HW2
  unfold idV idC at CP
  dsimp only at CP q1 q2 q3 q4 q5
  go_enter Tryz.func82, Tryz.ntmps82
  go_wp2_with fail
  rw [← HB.out]
  rw [show zeroRp = #[.int .i64 0, .slice none 0 0, .slice none 0 0, .int .i64 0, .bool false] from rfl] at HW2
  rw [← HW2.out]
  refine wp_region_L [(8, fun w' => w'.cell? ⟨z, 0, none⟩ = some (.pointer (some ⟨q, 0, none⟩))), (8, fun w' => (w'.cell? ⟨B, 1, none⟩ = some (.int .i64 xc) ∧ w'.cell? ⟨B, 2, none⟩ = some (.int .i64 xl) ∧ w'.cell? ⟨B, 3, none⟩ = some (.int .i64 xn) ∧ w'.cell? ⟨B, 4, none⟩ = some (.int .i64 xi))), (8, fun w' => w'.cell? ⟨B, 5, none⟩ = some (.slice ba b.length bc))] (by kernel_rfl) ?_ (fun hHeld => ?_)
  · exact (HoldC.cons (c0) (HoldC.cons (⟨q1, q2, q3, q4⟩) (HoldC.cons (q5) HoldC.nil)))
  refine wpAnyL_take (i := 0) (oi := _) (v := ?_) rfl (by kernel_rfl) (by kernel_rfl) (by kernel_rfl) (by kernel_rfl) (by kernel_rfl) (fun _ _ _ h => h) (Or.inl ⟨by rfl, ?_⟩) (by assumption) (fun hNew => ?_)
  rotate_left
  · intro w _
    go_simp
    try with_reducible rfl
  clear hHeld
  have hHeld := hNew
  clear hNew
  try simp only [List.getElem_toArray, List.getElem_cons_succ, List.getElem_cons_zero, Act.put, List.setIfInBounds_toArray, List.set_cons_zero, List.set_cons_succ]
  refine wpAnyL_take (i := 1) (oi := _) (v := ?_) rfl (by kernel_rfl) (by kernel_rfl) (by kernel_rfl) (by kernel_rfl) (by kernel_rfl) (fun _ _ _ h => h) (Or.inl ⟨by rfl, ?_⟩) (by assumption) (fun hNew => ?_)
  rotate_left
  · intro w _
    go_simp
    try with_reducible rfl
  clear hHeld
  have hHeld := hNew
  clear hNew
  try simp only [List.getElem_toArray, List.getElem_cons_succ, List.getElem_cons_zero, Act.put, List.setIfInBounds_toArray, List.set_cons_zero, List.set_cons_succ]
  refine wpAnyL_take (i := 2) (oi := _) (v := ?_) rfl (by kernel_rfl) (by kernel_rfl) (by kernel_rfl) (by kernel_rfl) (by kernel_rfl) (fun _ _ _ h => h) (Or.inl ⟨by rfl, ?_⟩) (by assumption) (fun hNew => ?_)
  rotate_left
  · intro w _
    go_simp
    try with_reducible rfl
  clear hHeld
  have hHeld := hNew
  clear hNew
  try simp only [List.getElem_toArray, List.getElem_cons_succ, List.getElem_cons_zero, Act.put, List.setIfInBounds_toArray, List.set_cons_zero, List.set_cons_succ]
  refine wpAnyL_take (i := 4) (oi := _) (v := ?_) rfl (by kernel_rfl) (by kernel_rfl) (by kernel_rfl) (by kernel_rfl) (by kernel_rfl) (fun _ _ _ h => h) (Or.inl ⟨by rfl, ?_⟩) (by assumption) (fun hNew => ?_)
  rotate_left
  · intro w _
    go_simp
    try with_reducible rfl
  clear hHeld
  have hHeld := hNew
  clear hNew
  try simp only [List.getElem_toArray, List.getElem_cons_succ, List.getElem_cons_zero, Act.put, List.setIfInBounds_toArray, List.set_cons_zero, List.set_cons_succ]
  refine wpAnyL_take (i := 6) (oi := _) (v := ?_) rfl (by kernel_rfl) (by kernel_rfl) (by kernel_rfl) (by kernel_rfl) (by kernel_rfl) (fun _ _ _ h => h) (Or.inl ⟨by rfl, ?_⟩) (by assumption) (fun hNew => ?_)
  rotate_left
  · intro w _
    go_simp
    try with_reducible rfl
  clear hHeld
  have hHeld := hNew
  clear hNew
  try simp only [List.getElem_toArray, List.getElem_cons_succ, List.getElem_cons_zero, Act.put, List.setIfInBounds_toArray, List.set_cons_zero, List.set_cons_succ]
  refine wpAnyL_load 0 (i := 3) (oi := _) (v := ?_) rfl rfl (by kernel_rfl) (by kernel_rfl) (by kernel_rfl) (by kernel_rfl) (by kernel_rfl) (by kernel_rfl) (fun _ _ _ h => h) (Or.inl ⟨by rfl, ?_⟩) (by assumption) (fun hNew => ?_)
  rotate_left
  · intro w hSw
    (try dsimp only at hSw)
    go_simp
    try with_reducible rfl
  clear hHeld
  have hHeld := hNew
  clear hNew
  try simp only [List.getElem_toArray, List.getElem_cons_succ, List.getElem_cons_zero, Act.put, List.setIfInBounds_toArray, List.set_cons_zero, List.set_cons_succ]
  refine wpAnyL_load 1 (i := 5) (oi := _) (v := ?_) rfl rfl (by kernel_rfl) (by kernel_rfl) (by kernel_rfl) (by kernel_rfl) (by kernel_rfl) (by kernel_rfl) (fun _ _ _ h => h) (Or.inl ⟨by rfl, ?_⟩) (by assumption) (fun hNew => ?_)
  rotate_left
  · intro w hSw
    (try dsimp only at hSw)
    go_simp
    try with_reducible rfl
  clear hHeld
  have hHeld := hNew
  clear hNew
  try simp only [List.getElem_toArray, List.getElem_cons_succ, List.getElem_cons_zero, Act.put, List.setIfInBounds_toArray, List.set_cons_zero, List.set_cons_succ]
  refine wpAnyL_load 2 (i := 7) (oi := _) (v := ?_) rfl rfl (by kernel_rfl) (by kernel_rfl) (by kernel_rfl) (by kernel_rfl) (by kernel_rfl) (by kernel_rfl) (fun _ _ _ h => h) (Or.inl ⟨by rfl, ?_⟩) (by assumption) (fun hNew => ?_)
  rotate_left
  · intro w hSw
    (try dsimp only at hSw)
    go_simp
    try with_reducible rfl
  clear hHeld
  have hHeld := hNew
  clear hNew
  try simp only [List.getElem_toArray, List.getElem_cons_succ, List.getElem_cons_zero, Act.put, List.setIfInBounds_toArray, List.set_cons_zero, List.set_cons_succ]
  refine wpAnyL_ready (rs := [8]) (by kernel_rfl) (by simp) ?_
  refine AllReadyL.cons (o := _) rfl (fun K hK => ?_) AllReadyL.nil
  try simp only [List.getElem_toArray, List.getElem_cons_succ, List.getElem_cons_zero]
  go_simp
  refine CP.out.mono ?_
  rintro e w3 ⟨rfl, hs3⟩
  have hz3 := hs3.blk HE.out.rp HE.out.out
  rw [← HB.out] at hz3
  have HZ := Lib.hid (five_set hz3 (.int .i64 o.1) (.slice none 0 0) (.slice none 0 0) (.int .i64 0) (.bool false))
  have HTH := Lib.hid (five_there hz3 _ rfl)
  have HS := Lib.hid (HE.out.ends HH.out hs3 (rpL o.1 (.slice none 0 0) (.slice none 0 0) 0 false))
  rw [← HB.out] at HS
  clear hz3 hs3 CP c0 q1 q2 q3 q4 q5
  clear hHeld
  refine hK.out _ _ ?_ (fun hHeld => ?_)
  · exact (HoldC.past (by kernel_rfl) (HoldC.past (by kernel_rfl) (HoldC.past (by kernel_rfl) HoldC.nil)))
  clear hK K
  try simp only [List.getElem_toArray, List.getElem_cons_succ, List.getElem_cons_zero, Act.put, List.setIfInBounds_toArray, List.set_cons_zero, List.set_cons_succ]
  refine wpAnyL_take (i := 9) (oi := _) (v := ?_) rfl (by kernel_rfl) (by kernel_rfl) (by kernel_rfl) (by kernel_rfl) (by kernel_rfl) (fun _ _ _ h => h) (Or.inl ⟨by rfl, ?_⟩) (by assumption) (fun hNew => ?_)
  rotate_left
  · intro w _
    go_simp
    try with_reducible rfl
  clear hHeld
  have hHeld := hNew
  clear hNew
  try simp only [List.getElem_toArray, List.getElem_cons_succ, List.getElem_cons_zero, Act.put, List.setIfInBounds_toArray, List.set_cons_zero, List.set_cons_succ]
  refine wpAnyL_ready (rs := [10]) (by kernel_rfl) (by simp) ?_
  refine AllReadyL.cons (o := _) rfl (fun K hK => ?_) AllReadyL.nil
  try simp only [List.getElem_toArray, List.getElem_cons_succ, List.getElem_cons_zero]
  rw [if_pos (by rfl)]
  refine wp_store_mid 32 (.tmp 4) (.tmp 14) (by rfl) (B + 1) 0 (rpL o.1 (.slice none 0 0) (.slice none 0 0) 0 false).toArray (by rfl) (by rfl) HTH.out (rp_size _ _ _ _ _) (err_all _) ?_
  clear hHeld
  refine hK.out _ _ ?_ (fun hHeld => ?_)
  · exact (HoldC.past (by kernel_rfl) (HoldC.past (by kernel_rfl) (HoldC.past (by kernel_rfl) HoldC.nil)))
  clear hK K
  try simp only [List.getElem_toArray, List.getElem_cons_succ, List.getElem_cons_zero, Act.put, List.setIfInBounds_toArray, List.set_cons_zero, List.set_cons_succ]
  refine wpAnyL_done (by kernel_rfl) ?_ _
  clear hHeld
  go_wp2
  exact bodyPost_ret (ret_rp rfl _ rfl HZ.out) rfl ⟨_, rfl, RpAt.err _, HS.out⟩
end
end Go.Proofs.YtdkhmfcfihbjeaaGreatDoor.W

/- The reference's disk in memory; op. -/
namespace Go.Proofs.YtdkhmfcfihbjeaaGreatDoor.W
open Go.RowKit
set_option linter.unusedVariables false
set_option linter.unusedSimpArgs false

def rrows (n : Nat) (nv lv av wv : Value) (NV LV AV WV : List Value) : List RowD := [⟨30, 1, nv, n, NV⟩, ⟨30, 1, lv, n, LV⟩, ⟨3, 1, av, AV.length, AV⟩, ⟨30, 1, wv, WV.length, WV⟩]
def rcs (d : DS) (nv lv av wv : Value) : Array Value := #[nv, lv, av, wv, .int .i64 (d.ops : Int), .int .i64 d.fuse, .bool d.dead]
/-- The reference's disk in block m; V: what may be written; F: all its blocks. -/
structure RDiskOk (w : World) (m : Nat) (V F : List Nat) (d : DS) (nv lv av wv : Value) (NV LV AV WV : List Value) : Prop where
  obj : ObjAt w m 134 (rcs d nv lv av wv) (rrows d.n nv lv av wv NV LV AV WV)
  now : ∀ k, k < d.n → (d.now k).length = 64 ∧ BytesAt w (NV.getD k undef) (d.now k) ∧ ∀ g, (NV.getD k undef).ownBlock = some g → g ∈ F ∧ g ∉ V
  lasts : ∀ c ∈ LV, No8 c
  ats : (∀ c ∈ AV, No8 c) ∧ AV.length ≤ d.since.length
  wrote : (∀ c ∈ WV, No8 c) ∧ WV.length ≤ d.since.length
  few : d.n ≤ 4160
  fuse : -1 ≤ d.fuse ∧ d.fuse ≤ 9223372036854775807
  mem : V = blks m (rrows d.n nv lv av wv NV LV AV WV)
  no8 : ∀ x ∈ V, NoU8 w x
  sub : ∀ x ∈ V, x ∈ F
  lim : ∀ x ∈ F, x < w.heap.size
def RDiskAt (w : World) (m : Nat) (V F : List Nat) (d : DS) : Prop := ∃ nv lv av wv NV LV AV WV, RDiskOk w m V F d nv lv av wv NV LV AV WV
theorem RDiskAt.keep {w w' : World} {m : Nat} {V F T : List Nat} {d : DS} (h : RDiskAt w m V F d) (hc : Chg T w w') (ha : ∀ x ∈ F, x ∉ T) : RDiskAt w' m V F d := by
  obtain ⟨nv, lv, av, wv, NV, LV, AV, WV, h⟩ := h
  refine ⟨nv, lv, av, wv, NV, LV, AV, WV, h.obj.keep hc (fun x hx => ha x (h.sub x (by rw [h.mem]; exact hx))), fun k hk => ?_, h.lasts, h.ats, h.wrote, h.few, h.fuse, h.mem, fun x hx => (h.no8 x hx).keep (hc.block x (h.lim x (h.sub x hx)) (ha x (h.sub x hx))), h.sub, fun x hx => Nat.lt_of_lt_of_le (h.lim x hx) hc.size⟩
  obtain ⟨h1, h2, h3⟩ := h.now k hk
  exact ⟨h1, h2.chg hc (fun g hg => ha g (h3 g hg).1), h3⟩
theorem RDiskOk.keep0 {w w' : World} {m : Nat} {V F : List Nat} {d : DS} {nv lv av wv : Value} {NV LV AV WV : List Value} (h : RDiskOk w m V F d nv lv av wv NV LV AV WV) (hc : Chg [] w w') : RDiskOk w' m V F d nv lv av wv NV LV AV WV := by
  refine ⟨h.obj.keep hc (by simp), fun k hk => ?_, h.lasts, h.ats, h.wrote, h.few, h.fuse, h.mem, fun x hx => (h.no8 x hx).keep (hc.block x (h.lim x (h.sub x hx)) (by simp)), h.sub, fun x hx => Nat.lt_of_lt_of_le (h.lim x hx) hc.size⟩
  obtain ⟨h1, h2, h3⟩ := h.now k hk
  exact ⟨h1, h2.chg hc (by simp), h3⟩
theorem RDiskAt.lim {w : World} {m : Nat} {V F : List Nat} {d : DS} (h : RDiskAt w m V F d) : (∀ x ∈ F, x < w.heap.size) ∧ (∀ x ∈ V, x ∈ F) ∧ ∀ x ∈ V, NoU8 w x := by
  obtain ⟨nv, lv, av, wv, NV, LV, AV, WV, h⟩ := h
  exact ⟨h.lim, h.sub, h.no8⟩
/-- What doing with it leaves. -/
def RDid (w w' : World) (m : Nat) (V F : List Nat) (d : DS) : Prop := ∃ V' F', RDiskAt w' m V' F' d ∧ (∀ x ∈ V', x ∈ V ∨ w.heap.size ≤ x) ∧ (∀ x ∈ F', x ∈ F ∨ w.heap.size ≤ x) ∧ Chg V w w'
theorem RDid.same {w : World} {m : Nat} {V F : List Nat} {d : DS} (h : RDiskAt w m V F d) : RDid w w m V F d := ⟨V, F, h, fun x hx => .inl hx, fun x hx => .inl hx, Chg.refl _ _⟩
theorem RDid.glue {w w1 w2 : World} {m : Nat} {V F V1 F1 : List Nat} {d : DS} (hv : ∀ x ∈ V1, x ∈ V ∨ w.heap.size ≤ x) (hf : ∀ x ∈ F1, x ∈ F ∨ w.heap.size ≤ x) (hc : Chg V w w1) (h : RDid w1 w2 m V1 F1 d) : RDid w w2 m V F d := by
  obtain ⟨V2, F2, b1, b2, b3, b4⟩ := h
  refine ⟨V2, F2, b1, fun x hx => ?_, fun x hx => ?_, hc.trans b4 hv⟩
  · rcases b2 x hx with h | h
    · exact hv x h
    · exact .inr (Nat.le_trans hc.size h)
  · rcases b3 x hx with h | h
    · exact hf x h
    · exact .inr (Nat.le_trans hc.size h)
theorem RDid.pre {w0 w w' : World} {m : Nat} {V F : List Nat} {d : DS} (hc : Chg [] w0 w) (h : RDid w w' m V F d) : RDid w0 w' m V F d := RDid.glue (fun x hx => .inl hx) (fun x hx => .inl hx) (hc.mono (by simp)) h
theorem RDid.trans {w w1 w2 : World} {m : Nat} {V F : List Nat} {d1 d2 : DS} (h1 : RDid w w1 m V F d1) (h2 : ∀ V1 F1, RDiskAt w1 m V1 F1 d1 → RDid w1 w2 m V1 F1 d2) : RDid w w2 m V F d2 := by
  obtain ⟨V1, F1, a1, a2, a3, a4⟩ := h1
  exact RDid.glue a2 a3 a4 (h2 V1 F1 a1)
theorem RDiskOk.head {w : World} {m : Nat} {V F : List Nat} {d : DS} {nv lv av wv : Value} {NV LV AV WV : List Value} (h : RDiskOk w m V F d nv lv av wv NV LV AV WV) : w.heap[m]? = some (.cells #[nv, lv, av, wv, .int .i64 (d.ops : Int), .int .i64 d.fuse, .bool d.dead] 134 (0, 0)) := h.obj.head
/-- A store into a counter. -/
theorem RDiskOk.put {w w' : World} {m : Nat} {V F : List Nat} {d d' : DS} {nv lv av wv : Value} {NV LV AV WV : List Value} (h : RDiskOk w m V F d nv lv av wv NV LV AV WV) (hc : Chg [m] w w') (hn : NoU8 w' m)
    (hh : w'.heap[m]? = some (.cells (rcs d' nv lv av wv) 134 (0, 0))) (e1 : d'.n = d.n) (e2 : d'.now = d.now) (e3 : d'.since = d.since) (e5 : -1 ≤ d'.fuse ∧ d'.fuse ≤ 9223372036854775807) : RDid w w' m V F d' := by
  have hmV : m ∈ V := by rw [h.mem]; exact blks_head
  have hNV : ∀ k, k < d.n → ∀ g, (NV.getD k undef).ownBlock = some g → g ∉ [m] := fun k hk g hg hm => (h.now k hk).2.2 g hg |>.2 (by rw [List.mem_singleton.1 hm]; exact hmV)
  refine ⟨V, F, ⟨nv, lv, av, wv, NV, LV, AV, WV, ⟨hh, fun r hr => ?_, by rw [e1]; exact h.obj.apart⟩, fun k hk => ?_, h.lasts, by rw [e3]; exact h.ats, by rw [e3]; exact h.wrote, by rw [e1]; exact h.few, e5, by rw [e1]; exact h.mem, fun x hx => ?_, h.sub, fun x hx => Nat.lt_of_lt_of_le (h.lim x hx) hc.size⟩, fun x hx => .inl hx, fun x hx => .inl hx, hc.mono (fun x hx => .inl (by rw [List.mem_singleton.1 hx]; exact hmV))⟩
  · rw [e1] at hr
    exact row_keep (h.obj.rows r hr) (fun g hg => hc.block g (World.ownsRow.lt (h.obj.rows r hr) g hg).2 (by
      intro hm
      exact h.obj.row_ne hr hg (List.mem_singleton.1 hm)))
  · rw [e1] at hk
    rw [e2]
    obtain ⟨h1, h2, h3⟩ := h.now k hk
    exact ⟨h1, h2.chg hc (hNV k hk), h3⟩
  · by_cases hxm : x = m
    · rw [hxm]; exact hn
    · exact (h.no8 x hx).keep (hc.block x (h.lim x (h.sub x hx)) (by simp; exact hxm))

end Go.Proofs.YtdkhmfcfihbjeaaGreatDoor.W

/- The reference's disk: its fields are set. -/
namespace Go.Proofs.YtdkhmfcfihbjeaaGreatDoor.W
open Go.RowKit
set_option linter.unusedVariables false
set_option linter.unusedSimpArgs false

/-- A field that is a row is another row: grown, or new. -/
theorem ObjAt.field {w w2 : World} {p t : Nat} {cs : Array Value} {a b : List RowD} {r r' : RowD} (h : ObjAt w p t cs (a ++ r :: b)) (j : Nat) (hg : w.grownBy w2 r.v.ownBlock) (hrow : r'.At w2)
    (hat : ∀ k, r'.v.ownBlock = some k → r.v.ownBlock = some k ∨ w.heap.size ≤ k) : ObjAt (w2.setCell ⟨p, j, none⟩ r'.v) p t (cs.setIfInBounds j r'.v) (a ++ r' :: b) ∧ (∀ x ∈ blks p (a ++ r' :: b), x ∈ blks p (a ++ r :: b) ∨ w.heap.size ≤ x) ∧ Chg (blks p (a ++ r :: b)) w (w2.setCell ⟨p, j, none⟩ r'.v) := by
  obtain ⟨g1, g2, g3⟩ := h.grow hg hrow hat
  exact ⟨g1.setHead j r'.v, g2, g3.setCell (p := ⟨p, j, none⟩) (.inl blks_head) _⟩
theorem RDiskOk.turn {w w3 : World} {m : Nat} {V F : List Nat} {d d' : DS} {nv lv av wv av' wv' : Value} {NV LV AV WV AV' WV' : List Value} (h : RDiskOk w m V F d nv lv av wv NV LV AV WV)
    (hobj : ObjAt w3 m 134 (rcs d' nv lv av' wv') (rrows d'.n nv lv av' wv' NV LV AV' WV')) (hb : ∀ x ∈ blks m (rrows d'.n nv lv av' wv' NV LV AV' WV'), x ∈ V ∨ w.heap.size ≤ x) (hc : Chg V w w3)
    (h8 : ∀ x ∈ blks m (rrows d'.n nv lv av' wv' NV LV AV' WV'), NoU8 w3 x) (en : d'.n = d.n) (enow : d'.now = d.now) (ef : d'.fuse = d.fuse) (hA : (∀ c ∈ AV', No8 c) ∧ AV'.length ≤ d'.since.length) (hW : (∀ c ∈ WV', No8 c) ∧ WV'.length ≤ d'.since.length) :
    RDiskOk w3 m (blks m (rrows d'.n nv lv av' wv' NV LV AV' WV')) (F ++ blks m (rrows d'.n nv lv av' wv' NV LV AV' WV')) d' nv lv av' wv' NV LV AV' WV' := by
  refine ⟨hobj, fun k hk => ?_, h.lasts, hA, hW, by rw [en]; exact h.few, by rw [ef]; exact h.fuse, rfl, h8, fun x hx => List.mem_append_right _ hx, fun x hx => ?_⟩
  · rw [en] at hk
    rw [enow]
    obtain ⟨h1, h2, h3⟩ := h.now k hk
    refine ⟨h1, h2.chg hc (fun g hg => (h3 g hg).2), fun g hg => ⟨List.mem_append_left _ (h3 g hg).1, fun hm => ?_⟩⟩
    rcases hb g hm with h4 | h4
    · exact (h3 g hg).2 h4
    · have := h.lim g (h3 g hg).1; omega
  · rcases List.mem_append.1 hx with hx | hx
    · exact Nat.lt_of_lt_of_le (h.lim x hx) hc.size
    · exact hobj.lim x hx
theorem RDiskOk.row {w : World} {m : Nat} {V F : List Nat} {d : DS} {nv lv av wv : Value} {NV LV AV WV : List Value} (h : RDiskOk w m V F d nv lv av wv NV LV AV WV) : w.ownsRow 0 30 1 nv d.n NV ∧ w.ownsRow 0 30 1 lv d.n LV ∧ w.ownsRow 0 3 1 av AV.length AV ∧ w.ownsRow 0 30 1 wv WV.length WV :=
  ⟨h.obj.rows _ (by simp [rrows] : (⟨30, 1, nv, d.n, NV⟩ : RowD) ∈ _), h.obj.rows _ (by simp [rrows] : (⟨30, 1, lv, d.n, LV⟩ : RowD) ∈ _), h.obj.rows _ (by simp [rrows] : (⟨3, 1, av, AV.length, AV⟩ : RowD) ∈ _), h.obj.rows _ (by simp [rrows] : (⟨30, 1, wv, WV.length, WV⟩ : RowD) ∈ _)⟩
theorem RDiskOk.in {w : World} {m : Nat} {V F : List Nat} {d : DS} {nv lv av wv : Value} {NV LV AV WV : List Value} (h : RDiskOk w m V F d nv lv av wv NV LV AV WV) : m ∈ V ∧ (∀ x, nv.ownBlock = some x → x ∈ V) ∧ (∀ x, lv.ownBlock = some x → x ∈ V) ∧ (∀ x, av.ownBlock = some x → x ∈ V) ∧ ∀ x, wv.ownBlock = some x → x ∈ V := by
  rw [h.mem]
  refine ⟨blks_head, fun x hx => ?_, fun x hx => ?_, fun x hx => ?_, fun x hx => ?_⟩
  · exact blks_row (r := ⟨30, 1, nv, d.n, NV⟩) (by simp [rrows]) hx
  · exact blks_row (r := ⟨30, 1, lv, d.n, LV⟩) (by simp [rrows]) hx
  · exact blks_row (r := ⟨3, 1, av, AV.length, AV⟩) (by simp [rrows]) hx
  · exact blks_row (r := ⟨30, 1, wv, WV.length, WV⟩) (by simp [rrows]) hx
theorem ObjAt.other_ne {w : World} {p t : Nat} {cs : Array Value} {a b : List RowD} {r q : RowD} (h : ObjAt w p t cs (a ++ r :: b)) (hq : q ∈ a ∨ q ∈ b) {x : Nat} (hx : q.v.ownBlock = some x) : r.v.ownBlock ≠ some x := fun hr => by
  have hnd := (List.nodup_cons.1 h.apart).2
  rw [List.filterMap_append, List.filterMap_cons, hr] at hnd
  simp only at hnd
  have hd := List.nodup_append.1 hnd
  rcases hq with hq | hq
  · exact hd.2.2 x (List.mem_filterMap.2 ⟨q, hq, hx⟩) x (List.mem_cons_self ..) rfl
  · exact (List.nodup_cons.1 hd.2.1).1 (List.mem_filterMap.2 ⟨q, hq, hx⟩)
/-- No byte comes into an object's blocks. -/
theorem ObjAt.field8 {w w2 : World} {p t : Nat} {cs : Array Value} {a b : List RowD} {r r' : RowD} (h : ObjAt w p t cs (a ++ r :: b)) (h8 : ∀ x ∈ blks p (a ++ r :: b), NoU8 w x) (j : Nat) (hg : w.grownBy w2 r.v.ownBlock)
    (hat : ∀ k, r'.v.ownBlock = some k → r.v.ownBlock = some k ∨ w.heap.size ≤ k) (h8' : ∀ x, r'.v.ownBlock = some x → NoU8 w2 x) (hu : No8 r'.v) : ∀ x ∈ blks p (a ++ r' :: b), NoU8 (w2.setCell ⟨p, j, none⟩ r'.v) x := fun x hx => by
  have hmr : r ∈ a ++ r :: b := List.mem_append_right _ (List.mem_cons_self ..)
  have hpl := blk_lt h.head
  have hp2 : w2.heap[p]? = w.heap[p]? := hg.block p hpl (fun e => h.row_ne hmr e.symm rfl)
  have hset : ∀ x, x ≠ p → (w2.setCell ⟨p, j, none⟩ r'.v).heap[x]? = w2.heap[x]? := fun x hx => Below.heap_setCell w2 ⟨p, j, none⟩ _ x hx
  have hother : ∀ q, q ∈ a ∨ q ∈ b → q ∈ a ++ r :: b → q.v.ownBlock = some x → NoU8 (w2.setCell ⟨p, j, none⟩ r'.v) x := fun q hq hm he => by
    have h1 := h.row_ne hm he
    have h2 := h.other_ne hq he
    have h3 := h.lim x (blks_row hm he)
    exact (h8 x (blks_row hm he)).keep ((hset x h1).trans (hg.block x h3 (fun e => h2 e.symm)))
  rcases mem_blks hx with rfl | ⟨q, hq, he⟩
  · exact ((h8 x blks_head).keep hp2).set (Nat.lt_of_lt_of_le hpl hg.size) hu
  · rcases List.mem_append.1 hq with hq | hq
    · exact hother q (.inl hq) (List.mem_append_left _ hq) he
    · rcases List.mem_cons.1 hq with rfl | hq
      · have hxp : x ≠ p := fun e => by
          rcases hat x he with h1 | h1
          · exact h.row_ne hmr h1 e
          · omega
        exact (h8' x he).keep (hset x hxp)
      · exact hother q (.inr hq) (List.mem_append_right _ (List.mem_cons_of_mem _ hq)) he
/-- At grows. -/
theorem RDiskOk.at {w w2 : World} {m : Nat} {V F : List Nat} {d : DS} {nv lv av wv : Value} {NV LV AV WV : List Value} (h : RDiskOk w m V F d nv lv av wv NV LV AV WV) (x : Nat × List UInt8) (u : Value) (g cap : Nat) (hg : w.grownBy w2 av.ownBlock)
    (hrow : w2.ownsRow 0 3 1 (.slice (some ⟨g, 0, none⟩) (AV.length + 1) cap) (AV.length + 1) (AV ++ [u])) (hat : av.ownBlock = some g ∨ g = w.heap.size) (h8 : NoU8 w2 g) (hu : No8 u) :
    ∃ V' F', RDiskOk (w2.setCell ⟨m, 2, none⟩ (.slice (some ⟨g, 0, none⟩) (AV.length + 1) cap)) m V' F' { d with since := d.since ++ [x] } nv lv (.slice (some ⟨g, 0, none⟩) (AV.length + 1) cap) wv NV LV (AV ++ [u]) WV ∧
      (∀ x ∈ V', x ∈ V ∨ w.heap.size ≤ x) ∧ (∀ x ∈ F', x ∈ F ∨ w.heap.size ≤ x) ∧ Chg V w (w2.setCell ⟨m, 2, none⟩ (.slice (some ⟨g, 0, none⟩) (AV.length + 1) cap)) := by
  have hloc : ∀ k, (Value.slice (some ⟨g, 0, none⟩) (AV.length + 1) cap).ownBlock = some k → av.ownBlock = some k ∨ w.heap.size ≤ k := fun k hk => by
    obtain rfl : g = k := by simpa [Value.ownBlock] using hk
    rcases hat with h4 | h4
    · exact .inl h4
    · exact .inr (by omega)
  have hobj : ObjAt w m 134 (rcs d nv lv av wv) ([⟨30, 1, nv, d.n, NV⟩, ⟨30, 1, lv, d.n, LV⟩] ++ (⟨3, 1, av, AV.length, AV⟩ : RowD) :: [⟨30, 1, wv, WV.length, WV⟩]) := h.obj
  obtain ⟨o1, o2, o3⟩ := hobj.field (r' := ⟨3, 1, .slice (some ⟨g, 0, none⟩) (AV.length + 1) cap, (AV ++ [u]).length, AV ++ [u]⟩) 2 hg (by
    show w2.ownsRow 0 3 1 (.slice (some ⟨g, 0, none⟩) (AV.length + 1) cap) (AV ++ [u]).length (AV ++ [u])
    rw [List.length_append]
    exact hrow) hloc
  have hV : V = blks m (rrows d.n nv lv av wv NV LV AV WV) := h.mem
  have hV' : ∀ x ∈ blks m (rrows d.n nv lv (.slice (some ⟨g, 0, none⟩) (AV.length + 1) cap) wv NV LV (AV ++ [u]) WV), x ∈ V ∨ w.heap.size ≤ x := fun x hx => by rw [hV]; exact o2 x hx
  have hc : Chg V w (w2.setCell ⟨m, 2, none⟩ (.slice (some ⟨g, 0, none⟩) (AV.length + 1) cap)) := by rw [hV]; exact o3
  refine ⟨_, _, h.turn (d' := { d with since := d.since ++ [x] }) o1 hV' hc (hobj.field8 (fun y hy => h.no8 y (by rw [h.mem]; exact hy)) 2 hg (r' := ⟨3, 1, .slice (some ⟨g, 0, none⟩) (AV.length + 1) cap, (AV ++ [u]).length, AV ++ [u]⟩) hloc (fun y hy => by
    obtain rfl : g = y := by simpa [Value.ownBlock] using hy
    exact h8) no8_slice) rfl rfl rfl ⟨fun c hc => ?_, by simp; exact h.ats.2⟩ ⟨h.wrote.1, by simp; exact Nat.le_succ_of_le h.wrote.2⟩, hV', fun y hy => ?_, hc⟩
  · rcases List.mem_append.1 hc with hc | hc
    · exact h.ats.1 c hc
    · rw [List.mem_singleton.1 hc]; exact hu
  · rcases List.mem_append.1 hy with hy | hy
    · exact .inl hy
    · rcases hV' y hy with h4 | h4
      · exact .inl (h.sub y h4)
      · exact .inr h4
/-- Wrote grows, behind At. -/
theorem RDiskOk.more {w w2 : World} {m : Nat} {V F : List Nat} {d : DS} {nv lv av wv : Value} {NV LV AV WV : List Value} (h : RDiskOk w m V F d nv lv av wv NV LV AV WV) (u : Value) (g cap : Nat) (hg : w.grownBy w2 wv.ownBlock)
    (hrow : w2.ownsRow 0 30 1 (.slice (some ⟨g, 0, none⟩) (WV.length + 1) cap) (WV.length + 1) (WV ++ [u])) (hat : wv.ownBlock = some g ∨ g = w.heap.size) (h8 : NoU8 w2 g) (hu : No8 u) (hl : WV.length + 1 ≤ d.since.length) :
    RDid w (w2.setCell ⟨m, 3, none⟩ (.slice (some ⟨g, 0, none⟩) (WV.length + 1) cap)) m V F d := by
  have hloc : ∀ k, (Value.slice (some ⟨g, 0, none⟩) (WV.length + 1) cap).ownBlock = some k → wv.ownBlock = some k ∨ w.heap.size ≤ k := fun k hk => by
    obtain rfl : g = k := by simpa [Value.ownBlock] using hk
    rcases hat with h4 | h4
    · exact .inl h4
    · exact .inr (by omega)
  have hobj : ObjAt w m 134 (rcs d nv lv av wv) ([⟨30, 1, nv, d.n, NV⟩, ⟨30, 1, lv, d.n, LV⟩, ⟨3, 1, av, AV.length, AV⟩] ++ (⟨30, 1, wv, WV.length, WV⟩ : RowD) :: []) := h.obj
  obtain ⟨o1, o2, o3⟩ := hobj.field (r' := ⟨30, 1, .slice (some ⟨g, 0, none⟩) (WV.length + 1) cap, (WV ++ [u]).length, WV ++ [u]⟩) 3 hg (by
    show w2.ownsRow 0 30 1 (.slice (some ⟨g, 0, none⟩) (WV.length + 1) cap) (WV ++ [u]).length (WV ++ [u])
    rw [List.length_append]
    exact hrow) hloc
  have hV : V = blks m (rrows d.n nv lv av wv NV LV AV WV) := h.mem
  have hV' : ∀ x ∈ blks m (rrows d.n nv lv av (.slice (some ⟨g, 0, none⟩) (WV.length + 1) cap) NV LV AV (WV ++ [u])), x ∈ V ∨ w.heap.size ≤ x := fun x hx => by rw [hV]; exact o2 x hx
  have hc : Chg V w (w2.setCell ⟨m, 3, none⟩ (.slice (some ⟨g, 0, none⟩) (WV.length + 1) cap)) := by rw [hV]; exact o3
  refine ⟨_, _, ⟨_, _, _, _, _, _, _, _, h.turn (d' := d) o1 hV' hc (hobj.field8 (fun y hy => h.no8 y (by rw [h.mem]; exact hy)) 3 hg (r' := ⟨30, 1, .slice (some ⟨g, 0, none⟩) (WV.length + 1) cap, (WV ++ [u]).length, WV ++ [u]⟩) hloc (fun y hy => by
    obtain rfl : g = y := by simpa [Value.ownBlock] using hy
    exact h8) no8_slice) rfl rfl rfl h.ats ⟨fun c hc => ?_, by simp; exact hl⟩⟩, hV', fun y hy => ?_, hc⟩
  · rcases List.mem_append.1 hc with hc | hc
    · exact h.wrote.1 c hc
    · rw [List.mem_singleton.1 hc]; exact hu
  · rcases List.mem_append.1 hy with hy | hy
    · exact .inl hy
    · rcases hV' y hy with h4 | h4
      · exact .inl (h.sub y h4)
      · exact .inr h4
/-- A sector that lasts is another. -/
theorem RDiskOk.last {w : World} {m : Nat} {V F : List Nat} {d : DS} {nv lv av wv : Value} {NV LV AV WV : List Value} (h : RDiskOk w m V F d nv lv av wv NV LV AV WV) (k g cap : Nat) (u : Value) (hk : k < d.n) (hlv : lv = .slice (some ⟨g, 0, none⟩) d.n cap) (hu : No8 u) :
    RDiskOk (w.setCell ⟨g, k, none⟩ u) m V F d nv lv av wv NV (LV.set k u) AV WV ∧ Chg V w (w.setCell ⟨g, k, none⟩ u) := by
  have hgV : g ∈ V := h.in.2.2.1 g (by rw [hlv]; rfl)
  have hc : Chg [g] w (w.setCell ⟨g, k, none⟩ u) := (Chg.refl _ w).setCell (p := ⟨g, k, none⟩) (.inl (by simp)) _
  have hcV : Chg V w (w.setCell ⟨g, k, none⟩ u) := hc.mono (fun x hx => .inl (by rw [List.mem_singleton.1 hx]; exact hgV))
  have hrows := h.row
  have hne : ∀ (r : RowD), r ∈ [(⟨30, 1, nv, d.n, NV⟩ : RowD), ⟨3, 1, av, AV.length, AV⟩, ⟨30, 1, wv, WV.length, WV⟩] → r.v.ownBlock ≠ some g := fun r hr he => by
    have hobj : ObjAt w m 134 (rcs d nv lv av wv) ([⟨30, 1, nv, d.n, NV⟩] ++ (⟨30, 1, lv, d.n, LV⟩ : RowD) :: [⟨3, 1, av, AV.length, AV⟩, ⟨30, 1, wv, WV.length, WV⟩]) := h.obj
    refine hobj.other_ne (q := r) ?_ he (by rw [hlv]; rfl)
    simp only [List.mem_cons, List.mem_nil_iff, or_false] at hr ⊢
    exact hr
  have hmg : m ≠ g := fun e => h.obj.row_ne (r := ⟨30, 1, lv, d.n, LV⟩) (by simp [rrows]) (k := g) (by rw [hlv]; rfl) e.symm
  refine ⟨⟨⟨hc.keep h.obj.head (by simp; exact hmg), fun r hr => ?_, h.obj.apart⟩, fun j hj => ?_, fun c hc => ?_, h.ats, h.wrote, h.few, h.fuse, h.mem, fun x hx => ?_, h.sub, fun x hx => Nat.lt_of_lt_of_le (h.lim x hx) hc.size⟩, hcV⟩
  · simp only [rrows, List.mem_cons, List.mem_nil_iff, or_false] at hr
    by_cases hrl : r = ⟨30, 1, lv, d.n, LV.set k u⟩
    · subst hrl
      show (w.setCell ⟨g, k, none⟩ u).ownsRow 0 30 1 lv d.n (LV.set k u)
      have h1 := hrows.2.1
      rw [hlv] at h1 ⊢
      exact row_set h1 k u (by omega)
    · have hmem : r ∈ rrows d.n nv lv av wv NV LV AV WV := by
        rcases hr with rfl | rfl | rfl | rfl
        · simp [rrows]
        · exact absurd rfl hrl
        · simp [rrows]
        · simp [rrows]
      have hr' : r ∈ [(⟨30, 1, nv, d.n, NV⟩ : RowD), ⟨3, 1, av, AV.length, AV⟩, ⟨30, 1, wv, WV.length, WV⟩] := by
        rcases hr with rfl | rfl | rfl | rfl
        · simp
        · exact absurd rfl hrl
        · simp
        · simp
      exact row_keep (h.obj.rows r hmem) (fun y hy => hc.block y (World.ownsRow.lt (h.obj.rows r hmem) y hy).2 (by
        intro hm
        rw [List.mem_singleton.1 hm] at hy
        exact hne r hr' hy))
  · obtain ⟨h1, h2, h3⟩ := h.now j hj
    exact ⟨h1, h2.chg hcV (fun x hx => (h3 x hx).2), h3⟩
  · rcases List.mem_or_eq_of_mem_set hc with hc | hc
    · exact h.lasts c hc
    · rw [hc]; exact hu
  · by_cases hxg : x = g
    · rw [hxg]
      exact (h.no8 g hgV).set (h.lim g (h.sub g hgV)) hu
    · exact (h.no8 x hx).keep (hc.block x (h.lim x (h.sub x hx)) (by simp; exact hxg))
/-- Nothing waits any more. -/
theorem RDiskOk.calm {w : World} {m : Nat} {V F : List Nat} {d : DS} {nv lv av wv : Value} {NV LV AV WV : List Value} (h : RDiskOk w m V F d nv lv av wv NV LV AV WV) (la : Nat → List UInt8) :
    RDid w ((w.setCell ⟨m, 2, none⟩ (.slice none 0 0)).setCell ⟨m, 3, none⟩ (.slice none 0 0)) m V F { d with lasts := la, since := [] } := by
  have hobj : ObjAt w m 134 (rcs d nv lv av wv) ([⟨30, 1, nv, d.n, NV⟩, ⟨30, 1, lv, d.n, LV⟩] ++ (⟨3, 1, av, AV.length, AV⟩ : RowD) :: [⟨30, 1, wv, WV.length, WV⟩]) := h.obj
  have hg0 : ∀ r, w.grownBy w r := fun r => ⟨rfl, rfl, rfl, Nat.le_refl _, fun _ _ _ => rfl⟩
  obtain ⟨o1, o2, o3⟩ := hobj.field (r' := ⟨3, 1, .slice none 0 0, 0, []⟩) 2 (hg0 _) (World.ownsRow_nil _ _ _ _) (fun k hk => by cases hk)
  have o8 := hobj.field8 (fun y hy => h.no8 y (by rw [h.mem]; exact hy)) 2 (hg0 _) (r' := ⟨3, 1, .slice none 0 0, 0, []⟩) (fun k hk => by cases hk) (fun y hy => by cases hy) no8_slice
  have hV : V = blks m (rrows d.n nv lv av wv NV LV AV WV) := h.mem
  have o3 : Chg V w (w.setCell ⟨m, 2, none⟩ (.slice none 0 0)) := by rw [hV]; exact o3
  have hV1 : ∀ x ∈ blks m (rrows d.n nv lv (.slice none 0 0) wv NV LV [] WV), x ∈ V ∨ w.heap.size ≤ x := fun x hx => by rw [hV]; exact o2 x hx
  have h1 := h.turn (d' := d) (av' := .slice none 0 0) (wv' := wv) (AV' := []) (WV' := WV) o1 hV1 o3 o8 rfl rfl rfl ⟨by simp, by simp⟩ h.wrote
  have hw1 : (w.setCell ⟨m, 2, none⟩ (.slice none 0 0)).heap.size = w.heap.size := by simp [World.setCell]
  generalize w.setCell ⟨m, 2, none⟩ (.slice none 0 0) = w1 at *
  have hobj1 : ObjAt w1 m 134 (rcs d nv lv (.slice none 0 0) wv) ([⟨30, 1, nv, d.n, NV⟩, ⟨30, 1, lv, d.n, LV⟩, ⟨3, 1, .slice none 0 0, ([] : List Value).length, []⟩] ++ (⟨30, 1, wv, WV.length, WV⟩ : RowD) :: []) := h1.obj
  have hg1 : ∀ r, w1.grownBy w1 r := fun r => ⟨rfl, rfl, rfl, Nat.le_refl _, fun _ _ _ => rfl⟩
  obtain ⟨q1, q2, q3⟩ := hobj1.field (r' := ⟨30, 1, .slice none 0 0, 0, []⟩) 3 (hg1 _) (World.ownsRow_nil _ _ _ _) (fun k hk => by cases hk)
  have q8 := hobj1.field8 (fun y hy => h1.no8 y hy) 3 (hg1 _) (r' := ⟨30, 1, .slice none 0 0, 0, []⟩) (fun k hk => by cases hk) (fun y hy => by cases hy) no8_slice
  have q2' : ∀ x ∈ blks m (rrows d.n nv lv (.slice none 0 0) (.slice none 0 0) NV LV [] []), x ∈ blks m (rrows d.n nv lv (.slice none 0 0) wv NV LV [] WV) ∨ w1.heap.size ≤ x := q2
  have h2 := h1.turn (d' := { d with lasts := la, since := [] }) (av' := .slice none 0 0) (wv' := .slice none 0 0) (AV' := []) (WV' := []) q1 q2' q3 q8 rfl rfl rfl ⟨by simp, by simp⟩ ⟨by simp, by simp⟩
  have hV2 : ∀ x ∈ blks m (rrows d.n nv lv (.slice none 0 0) (.slice none 0 0) NV LV [] []), x ∈ V ∨ w.heap.size ≤ x := fun x hx => by
    rcases q2' x hx with h4 | h4
    · exact hV1 x h4
    · exact .inr (by omega)
  refine ⟨_, _, ⟨_, _, _, _, _, _, _, _, h2⟩, hV2, fun x hx => ?_, o3.trans q3 hV1⟩
  have hin : ∀ x, x ∈ V ∨ w.heap.size ≤ x → x ∈ F ∨ w.heap.size ≤ x := fun x hx => hx.imp (h.sub x) id
  rcases List.mem_append.1 hx with hx | hx
  · rcases List.mem_append.1 hx with hx | hx
    · exact .inl hx
    · exact hin x (hV1 x hx)
  · exact hin x (hV2 x hx)
end Go.Proofs.YtdkhmfcfihbjeaaGreatDoor.W

/- The reference's disk: Write. -/
namespace Go.Proofs.YtdkhmfcfihbjeaaGreatDoor.W
open Go.RowKit
set_option linter.unusedVariables false
set_option linter.unusedSimpArgs false

end Go.Proofs.YtdkhmfcfihbjeaaGreatDoor.W

/- The reference's disk: Write of whatever disk, Sync, Image. -/
namespace Go.Proofs.YtdkhmfcfihbjeaaGreatDoor.W
open Go.RowKit
set_option linter.unusedVariables false
set_option linter.unusedSimpArgs false

theorem RDiskOk.form {w : World} {m : Nat} {V F : List Nat} {d : DS} {nv lv av wv : Value} {NV LV AV WV : List Value} (h : RDiskOk w m V F d nv lv av wv NV LV AV WV) (hn : 0 < d.n) :
    (∃ g cap, nv = .slice (some ⟨g, 0, none⟩) d.n cap) ∧ ∃ g cap, lv = .slice (some ⟨g, 0, none⟩) d.n cap := by
  constructor
  · rcases h.row.1.2 with ⟨_, h0⟩ | ⟨g, cap, cur, h1, _⟩
    · omega
    · exact ⟨g, cap, h1⟩
  · rcases h.row.2.1.2 with ⟨_, h0⟩ | ⟨g, cap, cur, h1, _⟩
    · omega
    · exact ⟨g, cap, h1⟩
theorem own_cell {w : World} {base e g n cap : Nat} {xs : List Value} (h : w.ownsRow base e 1 (.slice (some ⟨g, 0, none⟩) n cap) n xs) (k : Nat) (hk : k < n) : xs.length = n ∧ w.cell? ⟨g, k, none⟩ = some (xs.getD k undef) ∧ w.frozen? ⟨g, k, none⟩ = false ∧ g < w.heap.size := by
  have hl : xs.length = n := by have := h.1; omega
  refine ⟨hl, ?_, ?_, (World.ownsRow.lt h g rfl).2⟩
  · have := h.cells (g := g) rfl k xs[k] (List.getElem?_eq_getElem (by omega))
    rw [add_none, Nat.zero_add] at this
    rw [this, List.getD_eq_getElem?_getD, List.getElem?_eq_getElem (by omega)]
    rfl
  · rcases h.2 with ⟨h1, _⟩ | ⟨g', cap', cur, hv, _, hg, _⟩
    · cases h1
    · obtain rfl : g = g' := by simp at hv; exact hv.1
      exact blk_frozen hg k

end Go.Proofs.YtdkhmfcfihbjeaaGreatDoor.W

/- The reference's slots in memory. -/
namespace Go.Proofs.YtdkhmfcfihbjeaaGreatDoor.W
open Go.RowKit
set_option linter.unusedVariables false
set_option linter.unusedSimpArgs false

def qcell (x : SRow × Value) : List Value := [.bool x.1.used, x.2, .int .i64 (x.1.n : Int)]
def qcells (R : List (SRow × Value)) : List Value := R.flatMap qcell
theorem qcells_at : ∀ (R : List (SRow × Value)) (i j : Nat) (x : SRow × Value), R[i]? = some x → j < 3 → (qcells R)[i * 3 + j]? = (qcell x)[j]?
  | [], i, j, x, h, _ => by simp at h
  | y :: R, i, j, x, h, hj => by
    have e : qcells (y :: R) = qcell y ++ qcells R := rfl
    have hy : (qcell y).length = 3 := rfl
    rw [e]
    cases i with
    | zero =>
      simp at h; subst h
      rw [Nat.zero_mul, Nat.zero_add, List.getElem?_append_left (by omega)]
    | succ i =>
      rw [List.getElem?_append_right (by omega), hy, show (i + 1) * 3 + j - 3 = i * 3 + j by omega]
      exact qcells_at R i j x (by simpa using h) hj
theorem qcells_set : ∀ (R : List (SRow × Value)) (i : Nat) (x : SRow × Value), i < R.length → qcells (R.set i x) = (((qcells R).set (i * 3) (.bool x.1.used)).set (i * 3 + 1) x.2).set (i * 3 + 2) (.int .i64 (x.1.n : Int))
  | [], i, x, h => by simp at h
  | y :: R, i, x, h => by
    have e : ∀ z, qcells (z :: R) = qcell z ++ qcells R := fun _ => rfl
    cases i with
    | zero => rw [List.set_cons_zero, e, e]; rfl
    | succ i =>
      have ih := qcells_set R i x (by simpa using h)
      have e2 : qcells (y :: R.set i x) = qcell y ++ qcells (R.set i x) := rfl
      rw [List.set_cons_succ, e2, ih, e]
      have h3 : (qcell y).length = 3 := rfl
      rw [List.set_append_right _ _ (by omega), List.set_append_right _ _ (by omega), List.set_append_right _ _ (by omega), h3, show (i + 1) * 3 - 3 = i * 3 by omega, show (i + 1) * 3 + 1 - 3 = i * 3 + 1 by omega, show (i + 1) * 3 + 2 - 3 = i * 3 + 2 by omega]
def rowQ (rv : Value) (R : List (SRow × Value)) : RowD := ⟨168, 3, rv, R.length, qcells R⟩

/-- The reference's slots in block q over its disk in block m; W: what may be written; A: all their blocks. -/
structure RSlotsOk (w : World) (q m : Nat) (V F W A : List Nat) (s : SS) (rv : Value) (R : List (SRow × Value)) : Prop where
  obj : ObjAt w q 166 #[.pointer (some ⟨m, 0, none⟩), .int .i64 (s.first : Int), rv] [rowQ rv R]
  disk : RDiskAt w m V F s.d
  rows : R.map (·.1) = s.rows
  sep : ∀ x ∈ blks q [rowQ rv R], x ∉ F
  keys : ∀ x ∈ R, BytesAt w x.2 x.1.key ∧ ∀ g, x.2.ownBlock = some g → g ∈ A ∧ g ∉ W
  mem : W = V ++ blks q [rowQ rv R]
  no8 : ∀ x ∈ blks q [rowQ rv R], NoU8 w x
  aF : ∀ x ∈ F, x ∈ A
  aB : ∀ x ∈ blks q [rowQ rv R], x ∈ A
  lim : ∀ x ∈ A, x < w.heap.size
  ok : s.Ok
def RSlotsAt (w : World) (q m : Nat) (W A : List Nat) (s : SS) : Prop := ∃ V F rv R, RSlotsOk w q m V F W A s rv R
theorem RSlotsOk.sub {w : World} {q m : Nat} {V F W A : List Nat} {s : SS} {rv : Value} {R : List (SRow × Value)} (h : RSlotsOk w q m V F W A s rv R) : (∀ x ∈ V, x ∈ W) ∧ (∀ x ∈ blks q [rowQ rv R], x ∈ W) ∧ (∀ x ∈ W, x ∈ A) ∧ (∀ x ∈ W, NoU8 w x) ∧ (∀ x ∈ V, x ∈ F) := by
  obtain ⟨hl, hs, h8⟩ := h.disk.lim
  refine ⟨fun x hx => by rw [h.mem]; exact List.mem_append_left _ hx, fun x hx => by rw [h.mem]; exact List.mem_append_right _ hx, fun x hx => ?_, fun x hx => ?_, hs⟩
  · rw [h.mem] at hx
    rcases List.mem_append.1 hx with hx | hx
    · exact h.aF x (hs x hx)
    · exact h.aB x hx
  · rw [h.mem] at hx
    rcases List.mem_append.1 hx with hx | hx
    · exact h8 x hx
    · exact h.no8 x hx
theorem RSlotsOk.keep {w w' : World} {q m : Nat} {V F W A T : List Nat} {s : SS} {rv : Value} {R : List (SRow × Value)} (h : RSlotsOk w q m V F W A s rv R) (hc : Chg T w w') (ha : ∀ x ∈ A, x ∉ T) : RSlotsOk w' q m V F W A s rv R := by
  refine ⟨h.obj.keep hc (fun x hx => ha x (h.aB x hx)), h.disk.keep hc (fun x hx => ha x (h.aF x hx)), h.rows, h.sep, fun x hx => ?_, h.mem, fun x hx => (h.no8 x hx).keep (hc.block x (h.lim x (h.aB x hx)) (ha x (h.aB x hx))), h.aF, h.aB, fun x hx => Nat.lt_of_lt_of_le (h.lim x hx) hc.size, h.ok⟩
  obtain ⟨h1, h2⟩ := h.keys x hx
  exact ⟨h1.chg hc (fun k hk => ha k (h2 k hk).1), h2⟩
theorem RSlotsAt.keep {w w' : World} {q m : Nat} {W A T : List Nat} {s : SS} (h : RSlotsAt w q m W A s) (hc : Chg T w w') (ha : ∀ x ∈ A, x ∉ T) : RSlotsAt w' q m W A s := by
  obtain ⟨V, F, rv, R, h⟩ := h
  exact ⟨V, F, rv, R, h.keep hc ha⟩
theorem RSlotsAt.lim {w : World} {q m : Nat} {W A : List Nat} {s : SS} (h : RSlotsAt w q m W A s) : (∀ x ∈ A, x < w.heap.size) ∧ (∀ x ∈ W, x ∈ A) ∧ ∀ x ∈ W, NoU8 w x := by
  obtain ⟨V, F, rv, R, h⟩ := h
  exact ⟨h.lim, h.sub.2.2.1, h.sub.2.2.2.1⟩
/-- What doing with them leaves. -/
def RSid (w w' : World) (q m : Nat) (W A : List Nat) (s : SS) : Prop := ∃ W' A', RSlotsAt w' q m W' A' s ∧ (∀ x ∈ W', x ∈ W ∨ w.heap.size ≤ x) ∧ (∀ x ∈ A', x ∈ A ∨ w.heap.size ≤ x) ∧ Chg W w w'
theorem RSid.same {w : World} {q m : Nat} {W A : List Nat} {s : SS} (h : RSlotsAt w q m W A s) : RSid w w q m W A s := ⟨W, A, h, fun x hx => .inl hx, fun x hx => .inl hx, Chg.refl _ _⟩
theorem RSid.glue {w w1 w2 : World} {q m : Nat} {W A W1 A1 : List Nat} {s : SS} (hv : ∀ x ∈ W1, x ∈ W ∨ w.heap.size ≤ x) (hf : ∀ x ∈ A1, x ∈ A ∨ w.heap.size ≤ x) (hc : Chg W w w1) (h : RSid w1 w2 q m W1 A1 s) : RSid w w2 q m W A s := by
  obtain ⟨V2, F2, b1, b2, b3, b4⟩ := h
  refine ⟨V2, F2, b1, fun x hx => ?_, fun x hx => ?_, hc.trans b4 hv⟩
  · rcases b2 x hx with h | h
    · exact hv x h
    · exact .inr (Nat.le_trans hc.size h)
  · rcases b3 x hx with h | h
    · exact hf x h
    · exact .inr (Nat.le_trans hc.size h)
theorem RSid.pre {w0 w w' : World} {q m : Nat} {W A : List Nat} {s : SS} (hc : Chg [] w0 w) (h : RSid w w' q m W A s) : RSid w0 w' q m W A s := RSid.glue (fun x hx => .inl hx) (fun x hx => .inl hx) (hc.mono (by simp)) h
theorem RSid.post {w w1 w' : World} {q m : Nat} {W A : List Nat} {s : SS} (h : RSid w w1 q m W A s) (hc : Chg [] w1 w') : RSid w w' q m W A s := by
  obtain ⟨W1, A1, a1, a2, a3, a4⟩ := h
  exact ⟨W1, A1, a1.keep hc (by simp), a2, a3, a4.trans hc (by simp)⟩
theorem RSid.trans {w w1 w2 : World} {q m : Nat} {W A : List Nat} {s1 s2 : SS} (h1 : RSid w w1 q m W A s1) (h2 : ∀ W1 A1, RSlotsAt w1 q m W1 A1 s1 → RSid w1 w2 q m W1 A1 s2) : RSid w w2 q m W A s2 := by
  obtain ⟨V1, F1, a1, a2, a3, a4⟩ := h1
  exact RSid.glue a2 a3 a4 (h2 V1 F1 a1)
/-- The disk has been worked on. -/
theorem RSlotsOk.did {w w' : World} {q m : Nat} {V F W A : List Nat} {s : SS} {rv : Value} {R : List (SRow × Value)} {d : DS} (h : RSlotsOk w q m V F W A s rv R) (hd : RDid w w' m V F d) (hn : d.n = s.d.n) : RSid w w' q m W A { s with d := d } := by
  obtain ⟨V', F', b1, b2, b3, b4⟩ := hd
  obtain ⟨s1, s2, s3, s4, s5⟩ := h.sub
  have hbV : ∀ x ∈ blks q [rowQ rv R], x ∉ V := fun x hx hm => h.sep x hx (s5 x hm)
  have hsz := b4.size
  refine ⟨V' ++ blks q [rowQ rv R], A ++ F', ⟨V', F', rv, R, h.obj.keep b4 hbV, b1, h.rows, fun x hx hm => ?_, fun x hx => ?_, rfl, fun x hx => (h.no8 x hx).keep (b4.block x (h.obj.lim x hx) (hbV x hx)), fun x hx => List.mem_append_right _ hx, fun x hx => List.mem_append_left _ (h.aB x hx), fun x hx => ?_, ⟨by show s.first + 8 * s.rows.length ≤ d.n; rw [hn]; exact h.ok.room, h.ok.rows⟩⟩, fun x hx => ?_, fun x hx => ?_, b4.mono (fun x hx => .inl (s1 x hx))⟩
  · rcases b3 x hm with h1 | h1
    · exact h.sep x hx h1
    · have := h.obj.lim x hx; omega
  · obtain ⟨k1, k2⟩ := h.keys x hx
    refine ⟨k1.chg b4 (fun k hk hm => (k2 k hk).2 (s1 k hm)), fun g hg => ⟨List.mem_append_left _ (k2 g hg).1, fun hm => ?_⟩⟩
    rcases List.mem_append.1 hm with hm | hm
    · rcases b2 g hm with h1 | h1
      · exact (k2 g hg).2 (s1 g h1)
      · have := h.lim g (k2 g hg).1; omega
    · exact (k2 g hg).2 (s2 g hm)
  · rcases List.mem_append.1 hx with hx | hx
    · exact Nat.lt_of_lt_of_le (h.lim x hx) hsz
    · exact b1.lim.1 x hx
  · rcases List.mem_append.1 hx with hx | hx
    · exact (b2 x hx).imp (s1 x) id
    · exact .inl (s2 x hx)
  · rcases List.mem_append.1 hx with hx | hx
    · exact .inl hx
    · exact (b3 x hx).imp (h.aF x) id
theorem RSlotsOk.len {w : World} {q m : Nat} {V F W A : List Nat} {s : SS} {rv : Value} {R : List (SRow × Value)} (h : RSlotsOk w q m V F W A s rv R) : R.length = s.rows.length := by rw [← h.rows, List.length_map]
theorem RSlotsOk.few {w : World} {q m : Nat} {V F W A : List Nat} {s : SS} {rv : Value} {R : List (SRow × Value)} (h : RSlotsOk w q m V F W A s rv R) : s.first + 8 * s.rows.length ≤ s.d.n ∧ s.d.n ≤ 4160 := by
  obtain ⟨_, _, _, _, _, _, _, _, hd⟩ := h.disk
  exact ⟨h.ok.room, hd.few⟩
theorem RSlotsOk.row {w : World} {q m : Nat} {V F W A : List Nat} {s : SS} {rv : Value} {R : List (SRow × Value)} (h : RSlotsOk w q m V F W A s rv R) : w.ownsRow 0 168 3 rv R.length (qcells R) := h.obj.rows _ (List.mem_singleton.2 rfl)
theorem RSlotsOk.form {w : World} {q m : Nat} {V F W A : List Nat} {s : SS} {rv : Value} {R : List (SRow × Value)} (h : RSlotsOk w q m V F W A s rv R) : ∃ a cap, rv = .slice a s.rows.length cap ∧ s.rows.length ≤ cap := by
  rw [← h.len]
  rcases h.row.2 with ⟨h1, h2⟩ | ⟨g, cap, cur, h1, _, _, h3, h4, _⟩
  · exact ⟨none, 0, by rw [h1, h2], by omega⟩
  · exact ⟨_, cap, h1, h3⟩
/-- A row that is there. -/
theorem RSlotsOk.at {w : World} {q m : Nat} {V F W A : List Nat} {s : SS} {rv : Value} {R : List (SRow × Value)} (h : RSlotsOk w q m V F W A s rv R) (i : Nat) (hi : i < s.rows.length) :
    ∃ g cap kv, rv = .slice (some ⟨g, 0, none⟩) s.rows.length cap ∧ s.rows.length ≤ cap ∧ cap ≤ maxLen ∧ w.cell? ⟨g, i * 3, none⟩ = some (.bool (s.rows.getD i noRow).used) ∧
      w.cell? ⟨g, i * 3 + 1, none⟩ = some kv ∧ w.cell? ⟨g, i * 3 + 2, none⟩ = some (.int .i64 ((s.rows.getD i noRow).n : Int)) ∧ BytesAt w kv (s.rows.getD i noRow).key ∧ ∀ k, kv.ownBlock = some k → k ∈ A ∧ k ∉ W := by
  have hl := h.len
  have hr := h.row
  have hiR : i < R.length := by omega
  have hri : s.rows.getD i noRow = (R[i]).1 := by
    rw [← h.rows, List.getD_eq_getElem?_getD, List.getElem?_map, List.getElem?_eq_getElem hiR]; rfl
  rcases hr.2 with ⟨h1, h2⟩ | ⟨g, cap, cur, h1, _, _, h3, h4, _⟩
  · omega
  · subst h1
    have hcell : ∀ j, j < 3 → ∀ u, (qcell R[i])[j]? = some u → w.cell? ⟨g, i * 3 + j, none⟩ = some u := fun j hj u hu => by
      have := hr.cells (g := g) rfl (i * 3 + j) u (by rw [qcells_at R i j R[i] (List.getElem?_eq_getElem hiR) hj]; exact hu)
      rwa [add_none, Nat.zero_add] at this
    refine ⟨g, cap, (R[i]).2, by rw [hl], by omega, h4, ?_, ?_, ?_, ?_⟩
    · rw [hri]; exact hcell 0 (by omega) _ rfl
    · exact hcell 1 (by omega) _ rfl
    · rw [hri]; exact hcell 2 (by omega) _ rfl
    · rw [hri]; exact h.keys _ (List.getElem_mem hiR)
theorem RSlotsOk.there {w : World} {q m : Nat} {V F W A : List Nat} {s : SS} {rv : Value} {R : List (SRow × Value)} (h : RSlotsOk w q m V F W A s rv R) (i : Nat) (hi : i < s.rows.length) (g cap : Nat) (hrv : rv = .slice (some ⟨g, 0, none⟩) s.rows.length cap) : w.there g (i * 3) 3 := by
  have hl := h.len
  rcases h.row.2 with ⟨h1, h2⟩ | ⟨g', cap', cur, h1, _, hb, h3, h4, h5, _⟩
  · omega
  · rw [hrv] at h1
    obtain ⟨rfl, -, rfl⟩ : g = g' ∧ s.rows.length = R.length ∧ cap = cap' := by simpa using h1
    intro j hj
    have hlt : i * 3 + j < cur.size := by
      have : (i + 1) * 3 ≤ cap * 3 := Nat.mul_le_mul_right _ (by omega)
      omega
    exact ⟨by rw [blk_cell hb _ _ (Array.getElem?_eq_getElem hlt)]; rfl, blk_frozen hb _⟩
theorem NoU8.set3 {w : World} {g i : Nat} {a b c : Value} (h : NoU8 w g) (hl : g < w.heap.size) (ha : No8 a) (hb : No8 b) (hc : No8 c) : NoU8 (w.setCells g i [a, b, c]) g := by
  have s1 : (w.setCell ⟨g, i, none⟩ a).heap.size = w.heap.size := by simp [World.setCell]
  have s2 : ((w.setCell ⟨g, i, none⟩ a).setCell ⟨g, i + 1, none⟩ b).heap.size = w.heap.size := by simp [World.setCell]
  exact ((h.set hl ha).set (by rw [s1]; exact hl) hb).set (by rw [s2]; exact hl) hc
/-- A row is set. -/
theorem RSlotsOk.setRow {w : World} {q m : Nat} {V F W A : List Nat} {s : SS} {rv : Value} {R : List (SRow × Value)} {N : Nat} (h : RSlotsOk w q m V F W A s rv R) (i : Nat) (hi : i < s.rows.length) (g cap : Nat) (hrv : rv = .slice (some ⟨g, 0, none⟩) s.rows.length cap)
    (r : SRow) (kv : Value) (hk : BytesAt w kv r.key) (hkU : ∀ k, kv.ownBlock = some k → k < w.heap.size ∧ k ∉ W) (hkA : ∀ k, kv.ownBlock = some k → k ∉ A → N ≤ k) (hN : N ≤ w.heap.size) (hr : r.n ≤ 448 ∧ r.key.length ≤ 40) :
    ∃ A', RSlotsAt (w.setCells g (i * 3) [.bool r.used, kv, .int .i64 (r.n : Int)]) q m W A' { s with rows := s.rows.set i r } ∧ (∀ x ∈ A', x ∈ A ∨ N ≤ x) ∧ Chg W w (w.setCells g (i * 3) [.bool r.used, kv, .int .i64 (r.n : Int)]) := by
  have hl := h.len
  obtain ⟨s1, s2, s3, s4, s5⟩ := h.sub
  have hC : Chg [g] w (w.setCells g (i * 3) [.bool r.used, kv, .int .i64 (r.n : Int)]) := (Chg.refl _ _).setCells (.inl (by simp)) _
  have hob : rv.ownBlock = some g := by rw [hrv]; rfl
  have hgb : g ∈ blks q [rowQ rv R] := blks_row (r := rowQ rv R) (List.mem_singleton.2 rfl) hob
  have hgW := s2 g hgb
  have hrow := h.row
  have hR' : (rowQ rv (R.set i (r, kv))).At (w.setCells g (i * 3) [.bool r.used, kv, .int .i64 (r.n : Int)]) := by
    show (w.setCells g (i * 3) [.bool r.used, kv, .int .i64 (r.n : Int)]).ownsRow 0 168 3 rv (R.set i (r, kv)).length (qcells (R.set i (r, kv)))
    rw [List.length_set, qcells_set R i _ (by omega)]
    rw [hrv, ← hl] at hrow ⊢
    exact row_set (row_set (row_set hrow (i * 3) _ (by omega)) (i * 3 + 1) _ (by omega)) (i * 3 + 2) _ (by omega)
  have hgr := ObjAt.grow (a := []) (b := []) h.obj (r' := rowQ rv (R.set i (r, kv))) (by rw [show (rowQ rv R).v.ownBlock = some g from hob]; exact hC.grownBy) hR' (fun k hk => .inl hk)
  have h8 := (h.no8 g hgb).set3 (i := i * 3) (h.obj.lim g hgb) (no8_bool (x := r.used)) hk.no8 (no8_i64 (x := (r.n : Int)))
  generalize w.setCells g (i * 3) [.bool r.used, kv, .int .i64 (r.n : Int)] = X at *
  have hgu : ∀ x ∈ [g], x ∈ W := fun x hx => (List.mem_singleton.1 hx) ▸ hgW
  have hnot : ∀ k, k ∉ W → k ∉ [g] := fun k hk hm => hk (hgu k hm)
  refine ⟨A ++ kv.ownBlock.toList, ⟨V, F, rv, R.set i (r, kv), hgr.1, h.disk.keep hC (fun x hx hm => ?_), ?_, h.sep, fun x hx => ?_, h.mem, fun x hx => ?_, fun x hx => List.mem_append_left _ (h.aF x hx), fun x hx => List.mem_append_left _ (h.aB x hx), fun x hx => ?_, ⟨?_, fun x hx => ?_⟩⟩, fun x hx => ?_, hC.mono (fun x hx => .inl (hgu x hx))⟩
  · exact h.sep _ hgb (by rw [← List.mem_singleton.1 hm]; exact hx)
  · rw [List.map_set, h.rows]
  · rcases List.mem_or_eq_of_mem_set hx with hx | rfl
    · obtain ⟨k1, k2⟩ := h.keys x hx
      exact ⟨k1.chg hC (fun k hk => hnot k (k2 k hk).2), fun g' hg' => ⟨List.mem_append_left _ (k2 g' hg').1, (k2 g' hg').2⟩⟩
    · exact ⟨hk.chg hC (fun k hk => hnot k (hkU k hk).2), fun g' hg' => ⟨List.mem_append_right _ (by rw [hg']; simp), (hkU g' hg').2⟩⟩
  · by_cases hxg : x = g
    · rw [hxg]; exact h8
    · exact (h.no8 x hx).keep (hC.block x (h.obj.lim x hx) (by simp; exact hxg))
  · rcases List.mem_append.1 hx with hx | hx
    · exact Nat.lt_of_lt_of_le (h.lim x hx) hC.size
    · exact Nat.lt_of_lt_of_le (hkU x (by simpa using hx)).1 hC.size
  · show s.first + 8 * (s.rows.set i r).length ≤ s.d.n
    rw [List.length_set]
    exact h.ok.room
  · rcases List.mem_or_eq_of_mem_set hx with hx | rfl
    · exact h.ok.rows x hx
    · exact hr
  · rcases List.mem_append.1 hx with hx | hx
    · exact .inl hx
    · by_cases hA : x ∈ A
      · exact .inl hA
      · exact .inr (hkA x (by simpa using hx) hA)
end Go.Proofs.YtdkhmfcfihbjeaaGreatDoor.W

/- The reference's slots: Free, Find. -/
namespace Go.Proofs.YtdkhmfcfihbjeaaGreatDoor.W
open Go.RowKit
set_option linter.unusedVariables false
set_option linter.unusedSimpArgs false

end Go.Proofs.YtdkhmfcfihbjeaaGreatDoor.W

/- The reference's noughts. -/
namespace Go.Proofs.YtdkhmfcfihbjeaaGreatDoor.W
open Go.RowKit
set_option linter.unusedVariables false
set_option linter.unusedSimpArgs false

end Go.Proofs.YtdkhmfcfihbjeaaGreatDoor.W

/- The reference's readHead. -/
namespace Go.Proofs.YtdkhmfcfihbjeaaGreatDoor.W
open Go.RowKit
set_option linter.unusedVariables false
set_option linter.unusedSimpArgs false

end Go.Proofs.YtdkhmfcfihbjeaaGreatDoor.W

/- The reference's slots: Get. -/
namespace Go.Proofs.YtdkhmfcfihbjeaaGreatDoor.W
open Go.RowKit
set_option linter.unusedVariables false
set_option linter.unusedSimpArgs false

/-- What is read of the disk. -/
theorem RDiskAt.read {w : World} {m : Nat} {V F : List Nat} {d : DS} (h : RDiskAt w m V F d) :
    w.cell? ⟨m, 6, none⟩ = some (.bool d.dead) ∧ d.n ≤ 4160 ∧ ∃ a cap, w.cell? ⟨m, 0, none⟩ = some (.slice a d.n cap) ∧ ∀ k, k < d.n → ∃ g ax cx, a = some ⟨g, 0, none⟩ ∧ w.cell? ⟨g, k, none⟩ = some (.slice ax 64 cx) ∧ BytesAt w (.slice ax 64 cx) (d.now k) ∧ (d.now k).length = 64 := by
  obtain ⟨nv, lv, av, wv, NV, LV, AV, WV, H⟩ := h
  have hrow := H.row.1
  have c0 : w.cell? ⟨m, 0, none⟩ = some nv := blk_cell H.head 0 _ rfl
  refine ⟨blk_cell H.head 6 _ rfl, H.few, ?_⟩
  by_cases hn : 0 < d.n
  · obtain ⟨⟨gn, cn, hnv⟩, _⟩ := H.form hn
    refine ⟨_, cn, by rw [c0, hnv], fun k hk => ?_⟩
    rw [hnv] at hrow
    obtain ⟨hNl, k0, _, _⟩ := own_cell hrow k hk
    obtain ⟨b1, b2, b3⟩ := H.now k hk
    obtain ⟨ax, cx, hx⟩ := b2.slice
    rw [b1] at hx
    rw [hx] at k0 b2
    exact ⟨gn, ax, cx, rfl, k0, b2, b1⟩
  · rcases hrow.2 with ⟨h1, h2⟩ | ⟨g, cap, cur, h1, _⟩
    · exact ⟨none, 0, by rw [c0, h1]; simp; omega, fun k hk => by omega⟩
    · exact ⟨_, cap, by rw [c0, h1], fun k hk => by omega⟩

end Go.Proofs.YtdkhmfcfihbjeaaGreatDoor.W

/- The reference's store: plainly; in memory; unkey. -/
namespace Go.Proofs.YtdkhmfcfihbjeaaGreatDoor.W
open Go.RowKit
set_option linter.unusedVariables false
set_option linter.unusedSimpArgs false

/-! ### Plainly -/
/-! ### In memory -/
structure RStOk (w : World) (q sp m : Nat) (W A : List Nat) (t : Sto) : Prop where
  head : w.heap[q]? = some (.cells #[.pointer (some ⟨m, 0, none⟩), .pointer (some ⟨sp, 0, none⟩), .bool t.whole] 141 (0, 0))
  slots : RSlotsAt w sp m W A t.s
  out : q ∉ A
  ok : keysOk t.s.rows
/-- The reference's store in block q, its disk in block m; U: what may be written; B: all its blocks. -/
def RStAt (w : World) (q m : Nat) (U B : List Nat) (t : Sto) : Prop := ∃ sp W A, RStOk w q sp m W A t ∧ U = q :: W ∧ B = q :: A
theorem RStOk.lt {w : World} {q sp m : Nat} {W A : List Nat} {t : Sto} (h : RStOk w q sp m W A t) : (∀ x ∈ q :: A, x < w.heap.size) ∧ (∀ x ∈ q :: W, x ∈ q :: A) ∧ ∀ x ∈ q :: W, NoU8 w x := by
  obtain ⟨h1, h2, h3⟩ := h.slots.lim
  refine ⟨fun x hx => ?_, fun x hx => ?_, fun x hx => ?_⟩
  · rcases List.mem_cons.1 hx with rfl | hx
    · exact blk_lt h.head
    · exact h1 x hx
  · rcases List.mem_cons.1 hx with rfl | hx
    · simp
    · exact List.mem_cons_of_mem _ (h2 x hx)
  · rcases List.mem_cons.1 hx with rfl | hx
    · exact NoU8.mk h.head (no8_list (by simp [no8_ptr, no8_bool]))
    · exact h3 x hx
theorem RStAt.lim {w : World} {q m : Nat} {U B : List Nat} {t : Sto} (h : RStAt w q m U B t) : (∀ x ∈ B, x < w.heap.size) ∧ (∀ x ∈ U, x ∈ B) ∧ ∀ x ∈ U, NoU8 w x := by
  obtain ⟨sp, W, A, h, rfl, rfl⟩ := h
  exact h.lt
theorem RStOk.keep {w w' : World} {q sp m : Nat} {W A T : List Nat} {t : Sto} (h : RStOk w q sp m W A t) (hc : Chg T w w') (ha : ∀ x ∈ q :: A, x ∉ T) : RStOk w' q sp m W A t :=
  ⟨hc.keep h.head (ha q (by simp)), h.slots.keep hc (fun x hx => ha x (List.mem_cons_of_mem _ hx)), h.out, h.ok⟩
theorem RStAt.keep {w w' : World} {q m : Nat} {U B T : List Nat} {t : Sto} (h : RStAt w q m U B t) (hc : Chg T w w') (ha : ∀ x ∈ B, x ∉ T) : RStAt w' q m U B t := by
  obtain ⟨sp, W, A, h, rfl, rfl⟩ := h
  exact ⟨sp, W, A, h.keep hc ha, rfl, rfl⟩
/-- What doing with it leaves. -/
def RStd (w w' : World) (q m : Nat) (U B : List Nat) (t : Sto) : Prop := ∃ U' B', RStAt w' q m U' B' t ∧ (∀ x ∈ U', x ∈ U ∨ w.heap.size ≤ x) ∧ (∀ x ∈ B', x ∈ B ∨ w.heap.size ≤ x) ∧ Chg U w w'
theorem RStd.same {w : World} {q m : Nat} {U B : List Nat} {t : Sto} (h : RStAt w q m U B t) : RStd w w q m U B t := ⟨U, B, h, fun x hx => .inl hx, fun x hx => .inl hx, Chg.refl _ _⟩
theorem RStd.glue {w w1 w2 : World} {q m : Nat} {U B U1 B1 : List Nat} {t : Sto} (hv : ∀ x ∈ U1, x ∈ U ∨ w.heap.size ≤ x) (hf : ∀ x ∈ B1, x ∈ B ∨ w.heap.size ≤ x) (hc : Chg U w w1) (h : RStd w1 w2 q m U1 B1 t) : RStd w w2 q m U B t := by
  obtain ⟨V2, F2, b1, b2, b3, b4⟩ := h
  refine ⟨V2, F2, b1, fun x hx => ?_, fun x hx => ?_, hc.trans b4 hv⟩
  · rcases b2 x hx with h | h
    · exact hv x h
    · exact .inr (Nat.le_trans hc.size h)
  · rcases b3 x hx with h | h
    · exact hf x h
    · exact .inr (Nat.le_trans hc.size h)
theorem RStd.pre {w0 w w' : World} {q m : Nat} {U B : List Nat} {t : Sto} (hc : Chg [] w0 w) (h : RStd w w' q m U B t) : RStd w0 w' q m U B t := RStd.glue (fun x hx => .inl hx) (fun x hx => .inl hx) (hc.mono (by simp)) h
theorem RStd.post {w w1 w' : World} {q m : Nat} {U B : List Nat} {t : Sto} (h : RStd w w1 q m U B t) (hc : Chg [] w1 w') : RStd w w' q m U B t := by
  obtain ⟨W1, A1, a1, a2, a3, a4⟩ := h
  exact ⟨W1, A1, a1.keep hc (by simp), a2, a3, a4.trans hc (by simp)⟩
/-- The slots have been worked on. -/
theorem RStOk.did {w w' : World} {q sp m : Nat} {W A : List Nat} {t : Sto} {s : SS} (h : RStOk w q sp m W A t) (hd : RSid w w' sp m W A s) (hk : keysOk s.rows) : RStd w w' q m (q :: W) (q :: A) { t with s := s } := by
  obtain ⟨W', A', a1, a2, a3, a4⟩ := hd
  have hl := h.lt
  have hq : q < w.heap.size := hl.1 q (by simp)
  have hW : q ∉ W := fun hm => h.out (h.slots.lim.2.1 q hm)
  refine ⟨q :: W', q :: A', ⟨sp, W', A', ⟨a4.keep h.head hW, a1, fun hm => ?_, hk⟩, rfl, rfl⟩, fun x hx => ?_, fun x hx => ?_, a4.mono (fun x hx => .inl (List.mem_cons_of_mem _ hx))⟩
  · rcases a3 q hm with h4 | h4
    · exact h.out h4
    · omega
  · rcases List.mem_cons.1 hx with rfl | hx
    · exact .inl (by simp)
    · rcases a2 x hx with h4 | h4
      · exact .inl (List.mem_cons_of_mem _ h4)
      · exact .inr h4
  · rcases List.mem_cons.1 hx with rfl | hx
    · exact .inl (by simp)
    · rcases a3 x hx with h4 | h4
      · exact .inl (List.mem_cons_of_mem _ h4)
      · exact .inr h4
theorem RStOk.cells {w : World} {q sp m : Nat} {W A : List Nat} {t : Sto} (h : RStOk w q sp m W A t) : w.cell? ⟨q, 0, none⟩ = some (.pointer (some ⟨m, 0, none⟩)) ∧ w.cell? ⟨q, 1, none⟩ = some (.pointer (some ⟨sp, 0, none⟩)) ∧ w.cell? ⟨q, 2, none⟩ = some (.bool t.whole) :=
  ⟨blk_cell h.head 0 _ rfl, blk_cell h.head 1 _ rfl, blk_cell h.head 2 _ rfl⟩
/-! ### unkey -/
/-- An eye of the reference that is read while an id is filled in block N. -/
structure REyeNew (w0 w : World) (b g N : Nat) (x : Id) (r : Int × List UInt8 × Int) : Prop where
  eye : REyeAt w b g r.2.1 r.2.2
  chg : Chg [] w0 w
  own : w0.heap.size ≤ b
  blk : w.heap[N]? = some (.cells (idC x) 38 (0, 0))
  own2 : w0.heap.size ≤ N
  ne : N ≠ b ∧ N ≠ g
theorem REyeNew.num {w0 w : World} {b g N : Nat} {x : Id} {r : Int × List UInt8 × Int} (h : REyeNew w0 w b g N x r) (n : Nat) (h1 : 1 ≤ n) (h7 : n ≤ 7) (r' : Int × List UInt8 × Int) (hr : r' = eyeNum r.2.1 r.2.2 n) :
    Calls Tryz.prog 59 #[.pointer (some ⟨b, 0, none⟩), .int .i64 n] w fun e w' => e = .returned (.int .i64 r'.1) ∧ REyeNew w0 w' b g N x r' := by
  subst hr
  refine (rnum_any b g r.2.1 r.2.2 n w h.eye (by omega) (by omega)).mono ?_
  rintro e w' ⟨rfl, h2, h3⟩
  refine ⟨rfl, h2, h.chg.trans h3 (fun x hx => .inr ?_), h.own, h3.keep h.blk (by simpa using h.ne.1), h.own2, h.ne⟩
  rw [List.mem_singleton.1 hx]; exact h.own
theorem REyeNew.set {w0 w : World} {b g N : Nat} {x y : Id} {r : Int × List UInt8 × Int} (h : REyeNew w0 w b g N x r) (j : Nat) (u : Value) (hy : (idC x).setIfInBounds j u = idC y) : REyeNew w0 (w.setCell ⟨N, j, none⟩ u) b g N y r := by
  have hc : Chg [N] w (w.setCell ⟨N, j, none⟩ u) := (Chg.refl [N] w).setCell (p := ⟨N, j, none⟩) (.inl (by simp)) u
  refine ⟨h.eye.keep hc (by simpa using Ne.symm h.ne.1) (by simpa using Ne.symm h.ne.2), h.chg.setCell (p := ⟨N, j, none⟩) (.inr h.own2) u, h.own, ?_, h.own2, h.ne⟩
  rw [← hy]; exact set_blk h.blk
theorem REyeNew.cells {w0 w : World} {b g N : Nat} {a c d e : Int} {r : Int × List UInt8 × Int} (h : REyeNew w0 w b g N ⟨a, c, d, e⟩ r) : (w.cell? ⟨N, 0, none⟩ = some (.int .i64 a) ∧ w.cell? ⟨N, 1, none⟩ = some (.int .i64 c) ∧ w.cell? ⟨N, 2, none⟩ = some (.int .i64 d) ∧ w.cell? ⟨N, 3, none⟩ = some (.int .i64 e)) ∧
    w.frozen? ⟨N, 0, none⟩ = false ∧ w.frozen? ⟨N, 1, none⟩ = false ∧ w.frozen? ⟨N, 2, none⟩ = false ∧ w.frozen? ⟨N, 3, none⟩ = false :=
  ⟨id_cells h.blk, blk_frozen h.blk 0, blk_frozen h.blk 1, blk_frozen h.blk 2, blk_frozen h.blk 3⟩
end Go.Proofs.YtdkhmfcfihbjeaaGreatDoor.W

/- The reference's slots: Clear. -/
namespace Go.Proofs.YtdkhmfcfihbjeaaGreatDoor.W
open Go.RowKit
set_option linter.unusedVariables false
set_option linter.unusedSimpArgs false

/-- What a change of the slots answers. -/
def RSidPost (w : World) (q m : Nat) (W A : List Nat) (r : Int × SS) (e : Ending) (w' : World) : Prop := e = .returned (.int .i64 r.1) ∧ RSid w w' q m W A r.2
theorem RSidPost.same {w : World} {q m : Nat} {W A : List Nat} {s : SS} {c : Int} (h : RSlotsAt w q m W A s) : RSidPost w q m W A (c, s) (.returned (.int .i64 c)) w := ⟨rfl, RSid.same h⟩
end Go.Proofs.YtdkhmfcfihbjeaaGreatDoor.W

/- The reference's padded. -/
namespace Go.Proofs.YtdkhmfcfihbjeaaGreatDoor.W
open Go.RowKit
set_option linter.unusedVariables false
set_option linter.unusedSimpArgs false

/-- Sectors in a row of rows. -/
structure PadAt (w0 w : World) (v : Value) (b : List UInt8) (j : Nat) (PV : List Value) : Prop where
  row : w.ownsRow 0 30 1 v j PV
  secs : ∀ k, k < j → BytesAt w (PV.getD k undef) (secAt b k) ∧ ∀ g, (PV.getD k undef).ownBlock = some g → w0.heap.size ≤ g ∧ v.ownBlock ≠ some g
  new : ∀ g, v.ownBlock = some g → w0.heap.size ≤ g
theorem PadAt.keep {w0 w w' : World} {v : Value} {b : List UInt8} {j : Nat} {PV : List Value} (h : PadAt w0 w v b j PV) (hc : Chg [] w w') : PadAt w0 w' v b j PV :=
  ⟨row_keep h.row (fun g hg => hc.block g (World.ownsRow.lt h.row g hg).2 (by simp)), fun k hk => ⟨(h.secs k hk).1.chg hc (by simp), (h.secs k hk).2⟩, h.new⟩
end Go.Proofs.YtdkhmfcfihbjeaaGreatDoor.W

/- The reference's slots: Put. -/
namespace Go.Proofs.YtdkhmfcfihbjeaaGreatDoor.W
open Go.RowKit
set_option linter.unusedVariables false
set_option linter.unusedSimpArgs false

theorem PadAt.form {w0 w : World} {v : Value} {b : List UInt8} {j : Nat} {PV : List Value} (h : PadAt w0 w v b j PV) : ∃ a cap, v = .slice a j cap := by
  rcases h.row.2 with ⟨h1, h2⟩ | ⟨g, cap, cur, h1, _⟩
  · exact ⟨none, 0, by rw [h1, h2]⟩
  · exact ⟨_, cap, h1⟩
theorem PadAt.at {w0 w : World} {v : Value} {b : List UInt8} {j : Nat} {PV : List Value} (h : PadAt w0 w v b j PV) (k : Nat) (hk : k < j) : ∃ g cap ax cx, v = .slice (some ⟨g, 0, none⟩) j cap ∧ w.cell? ⟨g, k, none⟩ = some (.slice ax 64 cx) ∧ BytesAt w (.slice ax 64 cx) (secAt b k) ∧ ∀ x, (Value.slice ax 64 cx).ownBlock = some x → w0.heap.size ≤ x := by
  rcases h.row.2 with ⟨h1, h2⟩ | ⟨g, cap, cur, h1, _⟩
  · omega
  · have hr := h.row
    rw [h1] at hr
    obtain ⟨_, k0, _⟩ := own_cell hr k hk
    obtain ⟨b1, b2⟩ := h.secs k hk
    obtain ⟨ax, cx, hx⟩ := b1.slice
    rw [secAt_len] at hx
    rw [hx] at k0 b1 b2
    exact ⟨g, cap, ax, cx, h1, k0, b1, fun x hx => (b2 x hx).1⟩
end Go.Proofs.YtdkhmfcfihbjeaaGreatDoor.W

/- The reference's store: Get, Put. -/
namespace Go.Proofs.YtdkhmfcfihbjeaaGreatDoor.W
open Go.RowKit
set_option linter.unusedVariables false
set_option linter.unusedSimpArgs false

end Go.Proofs.YtdkhmfcfihbjeaaGreatDoor.W

/- The reference's store: Delete, Room. -/
namespace Go.Proofs.YtdkhmfcfihbjeaaGreatDoor.W
open Go.RowKit
set_option linter.unusedVariables false
set_option linter.unusedSimpArgs false

/-- The rows of the reference's slots, to be read. -/
structure RLook (w : World) (sp : Nat) (s : SS) (a : Option Addr) (cap : Nat) : Prop where
  c2 : w.cell? ⟨sp, 2, none⟩ = some (.slice a s.rows.length cap)
  few : s.rows.length ≤ 1000
  big : s.rows.length ≤ cap
  row : ∀ i, i < s.rows.length → ∃ g kv, a = some ⟨g, 0, none⟩ ∧ w.cell? ⟨g, i * 3, none⟩ = some (.bool (s.rows.getD i noRow).used) ∧ w.cell? ⟨g, i * 3 + 1, none⟩ = some kv ∧ BytesAt w kv (s.rows.getD i noRow).key ∧ (s.rows.getD i noRow).key.length ≤ 40
theorem RSlotsAt.look {w : World} {sp m : Nat} {W A : List Nat} {s : SS} (h : RSlotsAt w sp m W A s) : ∃ a cap, RLook w sp s a cap := by
  obtain ⟨V, F, rv, R, H⟩ := h
  obtain ⟨a, cap, hrv, hcap⟩ := H.form
  have hfew := H.few
  refine ⟨a, cap, by rw [← hrv]; exact blk_cell H.obj.head 2 _ rfl, by omega, hcap, fun i hi => ?_⟩
  obtain ⟨g, cap', kv, h1, h2, _, h3, h4, _, h5, _⟩ := H.at i hi
  rw [hrv] at h1
  obtain ⟨rfl, _, _⟩ := Value.slice.inj h1
  refine ⟨g, kv, rfl, h3, h4, h5, ?_⟩
  rw [List.getD_eq_getElem?_getD, List.getElem?_eq_getElem hi]
  exact (H.ok.rows _ (List.getElem_mem hi)).2
theorem RLook.keep {w w' : World} {sp m : Nat} {W A : List Nat} {s : SS} {a : Option Addr} {cap : Nat} (h : RLook w sp s a cap) (hc : Chg [] w w') : RLook w' sp s a cap :=
  ⟨hc.cell h.c2 (by simp), h.few, h.big, fun i hi => by
    obtain ⟨g, kv, h1, h2, h3, h4, h5⟩ := h.row i hi
    exact ⟨g, kv, h1, hc.cell h2 (by simp), hc.cell h3 (by simp), h4.chg hc (by simp), h5⟩⟩

end Go.Proofs.YtdkhmfcfihbjeaaGreatDoor.W

/- The reference's List, plainly. -/
namespace Go.Proofs.YtdkhmfcfihbjeaaGreatDoor.W
open Go.RowKit
set_option linter.unusedVariables false
set_option linter.unusedSimpArgs false

def firstsTo (rows : List SRow) (i : Nat) : List Id := ((List.range i).filter (isFirst rows)).map (fun j => unId (rows.getD j noRow).key)
theorem firstsTo_succ (rows : List SRow) (i : Nat) : firstsTo rows (i + 1) = firstsTo rows i ++ if isFirst rows i then [unId (rows.getD i noRow).key] else [] := by
  unfold firstsTo
  rw [List.range_succ, List.filter_append, List.map_append]
  congr 1
  by_cases h : isFirst rows i = true
  · rw [if_pos h]; simp [h]
  · rw [if_neg h]; simp [h]
/-- What is known of the list so far. -/
structure Sorted (rows : List SRow) (i : Nat) (L : List Id) : Prop where
  rise : L.Pairwise idLt
  mem : ∀ x, x ∈ L ↔ x ∈ firstsTo rows i
  len : L.length ≤ i
theorem Sorted.zero (rows : List SRow) : Sorted rows 0 [] := ⟨List.Pairwise.nil, fun x => by simp [firstsTo], Nat.le_refl _⟩
theorem Sorted.skip {rows : List SRow} {i : Nat} {L : List Id} (h : Sorted rows i L) (hf : isFirst rows i = false) : Sorted rows (i + 1) L :=
  ⟨h.rise, fun x => by rw [firstsTo_succ, hf, h.mem]; simp, by have := h.len; omega⟩
theorem Sorted.fresh {rows : List SRow} (hk : keysOk rows) {i : Nat} (hi : i < rows.length) {L : List Id} (h : Sorted rows i L) (hf : isFirst rows i = true) : unId (rows.getD i noRow).key ∉ L := by
  intro hm
  have := (h.mem _).1 hm
  unfold firstsTo at this
  obtain ⟨j, hj, he⟩ := List.mem_map.1 this
  obtain ⟨h1, h2⟩ := List.mem_filter.1 hj
  have hji := List.mem_range.1 h1
  obtain ⟨hju, _⟩ := mem_isFirst.1 h2
  obtain ⟨hiu, hi3⟩ := mem_isFirst.1 hf
  have e1 := (un_back (hk _ (row_mem (show j < rows.length by omega)) hju)).2
  have e2 := (un_back (hk _ (row_mem hi) hiu)).2
  exact hi3 j hji ⟨hju, by rw [e1, e2, he]⟩
theorem Sorted.put {rows : List SRow} (hk : keysOk rows) {i : Nat} (hi : i < rows.length) {L : List Id} (h : Sorted rows i L) (hf : isFirst rows i = true) {k : Nat} (hkL : k ≤ L.length) (hgt : ∀ x ∈ L.drop k, idLt (unId (rows.getD i noRow).key) x)
    (hlt : ∀ x, 0 < k → L[k - 1]? = some x → ¬ idLt (unId (rows.getD i noRow).key) x) : Sorted rows (i + 1) (L.take k ++ unId (rows.getD i noRow).key :: L.drop k) := by
  have hfr := h.fresh hk hi hf
  obtain ⟨y, hy⟩ : ∃ y, y = unId (rows.getD i noRow).key := ⟨_, rfl⟩
  rw [← hy] at hgt hlt hfr ⊢
  have hsplit : L = L.take k ++ L.drop k := (List.take_append_drop k L).symm
  have hpw := h.rise
  have hlow : ∀ x ∈ L.take k, idLt x y := fun x hx => by
    have hxL : x ∈ L := List.mem_of_mem_take hx
    have hk0 : 0 < k := by
      rcases Nat.eq_zero_or_pos k with h0 | h0
      · rw [h0] at hx; simp at hx
      · exact h0
    obtain ⟨z, hz⟩ : ∃ z, L[k - 1]? = some z := ⟨_, List.getElem?_eq_getElem (by omega)⟩
    have h1 := hlt z hk0 hz
    have hzL : z ∈ L := List.mem_of_getElem? hz
    have hzy : idLt z y := by
      rcases idLt_or y z with h2 | h2 | h2
      · exact absurd h2 h1
      · rw [h2] at hfr; exact absurd hzL hfr
      · exact h2
    obtain ⟨j, hj, rfl⟩ := List.mem_iff_getElem.1 hx
    rw [List.length_take] at hj
    rw [List.getElem_take]
    by_cases hjk : j = k - 1
    · subst hjk
      have : L[k - 1] = z := by rw [List.getElem?_eq_getElem (by omega)] at hz; exact Option.some.inj hz
      rw [this]; exact hzy
    · have hlt2 := (List.pairwise_iff_getElem.1 hpw) j (k - 1) (by omega) (by omega) (by omega)
      have : L[k - 1] = z := by rw [List.getElem?_eq_getElem (by omega)] at hz; exact Option.some.inj hz
      rw [this] at hlt2
      exact idLt_trans hlt2 hzy
  refine ⟨?_, fun x => ?_, ?_⟩
  · rw [List.pairwise_append]
    rw [hsplit, List.pairwise_append] at hpw
    refine ⟨hpw.1, List.pairwise_cons.2 ⟨hgt, hpw.2.1⟩, fun a ha b hb => ?_⟩
    rcases List.mem_cons.1 hb with rfl | hb
    · exact hlow a ha
    · exact hpw.2.2 a ha b hb
  · rw [firstsTo_succ, if_pos hf, ← hy, List.mem_append, List.mem_append, ← h.mem]
    constructor
    · rintro (hx | hx)
      · exact .inl (List.mem_of_mem_take hx)
      · rcases List.mem_cons.1 hx with rfl | hx
        · exact .inr (by simp)
        · exact .inl (List.mem_of_mem_drop hx)
    · rintro (hx | hx)
      · rw [hsplit] at hx
        rcases List.mem_append.1 hx with hx | hx
        · exact .inl hx
        · exact .inr (List.mem_cons_of_mem _ hx)
      · rw [List.mem_singleton.1 hx]
        exact .inr (by simp)
  · have := h.len
    simp only [List.length_append, List.length_take, List.length_cons, List.length_drop]
    omega
theorem Sorted.done {t : Sto} (hk : keysOk t.s.rows) {L : List Id} (h : Sorted t.s.rows t.s.rows.length L) : L = t.ids := by
  have hn : L.Nodup := h.rise.imp (fun hab e => by rw [e] at hab; exact idLt_irrefl _ hab)
  have h1 : L.mergeSort leI = L := List.mergeSort_of_pairwise (h.rise.imp (fun hab => (leI_iff _ _).2 (.inl hab)))
  rw [← h1]
  exact sortedI_eq hn (firsts_nodup hk) (fun x => h.mem x)
/-! ### A row of ids that is set -/
end Go.Proofs.YtdkhmfcfihbjeaaGreatDoor.W

/- StoreOrder: ids that came in; Less; plainly. -/
namespace Go.Proofs.YtdkhmfcfihbjeaaGreatDoor.W
open Go.RowKit Go.ChangeShapes Go.WideShapes
set_option linter.unusedVariables false
set_option linter.unusedSimpArgs false

/-- Ids that came in. -/
def IdsIn (w : World) (a : Option Addr) (n : Nat) (f : Nat → Id) : Prop :=
  n = 0 ∨ ∃ g o, a = some ⟨g, o, none⟩ ∧ ∀ i, i < n → okD (f i) ∧ w.cell? ⟨g, o + i * 4, none⟩ = some (.int .i64 (f i).c) ∧ w.cell? ⟨g, o + i * 4 + 1, none⟩ = some (.int .i64 (f i).l) ∧ w.cell? ⟨g, o + i * 4 + 2, none⟩ = some (.int .i64 (f i).n) ∧ w.cell? ⟨g, o + i * 4 + 3, none⟩ = some (.int .i64 (f i).i)
theorem IdsIn.keep {w w' : World} {a : Option Addr} {n : Nat} {f : Nat → Id} (h : IdsIn w a n f) (hc : Chg [] w w') : IdsIn w' a n f := by
  rcases h with h | ⟨g, o, rfl, h⟩
  · exact .inl h
  · refine .inr ⟨g, o, rfl, fun i hi => ?_⟩
    obtain ⟨h1, h2, h3, h4, h5⟩ := h i hi
    exact ⟨h1, hc.cell h2 (by simp), hc.cell h3 (by simp), hc.cell h4 (by simp), hc.cell h5 (by simp)⟩
section
variable {H : Type} {enc : TypeId × Value → H} {w : World} {base : Nat} {held : Bool}
set_option maxRecDepth 100000 in
theorem open_ids {fuel : Nat} {cs : List Value} {x : DataW H × List MemPlace} (h : DataW.trod enc Tryz.prog w base (fun _ => true) held fuel 29 cs = some x) :
    (cs = [.slice none 0 0]) ∨ ∃ (a : Addr) (len cap : Nat) (f : Nat → Id), cs = [.slice (some a) len cap] ∧ len ≤ cap ∧ cap ≤ maxLen ∧ IdsIn w (some a) len f := by
  rcases Go.Deep.open_slice Tryz.underlying29 h with ⟨h0, _⟩ | ⟨a, len, cap, m, n, D, Pl, rfl, hb, hl, hm, hmm, hx, hel⟩
  · exact .inl h0
  · right
    have hlm : len ≤ m := by rw [hmm]; split <;> omega
    have each : ∀ i, i < len → ∃ r : Id, okD r ∧ w.cell? (a.add (i * 4)) = some (.int .i64 r.c) ∧ w.cell? (a.add (i * 4 + 1)) = some (.int .i64 r.l) ∧ w.cell? (a.add (i * 4 + 2)) = some (.int .i64 r.n) ∧ w.cell? (a.add (i * 4 + 3)) = some (.int .i64 r.i) := by
      intro i hi
      obtain ⟨cs', h1, h2⟩ := hel i (by omega)
      rw [cells_id] at h1
      obtain ⟨_, hlen, hcell⟩ := World.cells?_some h1
      match cs', hlen with
      | [v0, v1, v2, v3], _ =>
        obtain ⟨y, hy, rfl, rfl, rfl, rfl⟩ := open_idc h2
        have e0 := hcell 0 (by omega)
        have e1 := hcell 1 (by omega)
        have e2 := hcell 2 (by omega)
        have e3 := hcell 3 (by omega)
        rw [Go.Deep.add_add] at e0 e1 e2 e3
        exact ⟨y, hy, by simpa using e0, by simpa using e1, by simpa using e2, by simpa using e3⟩
    obtain ⟨f, hf⟩ := Go.Deep.choose_lt each
    refine ⟨a, len, cap, f, rfl, hl, hm, ?_⟩
    by_cases h0 : len = 0
    · exact .inl h0
    · right
      obtain ⟨g, o, spot⟩ := a
      have hc := (hf 0 (by omega)).2.1
      have hspot : spot = none := by simpa [Addr.add] using World.cell?_spot hc
      subst hspot
      refine ⟨g, o, rfl, fun i hi => ?_⟩
      obtain ⟨c0, c1, c2, c3, c4⟩ := hf i hi
      rw [add_none] at c1 c2 c3 c4
      exact ⟨c0, c1, by simpa [Nat.add_assoc] using c2, by simpa [Nat.add_assoc] using c3, by simpa [Nat.add_assoc] using c4⟩
end
/-! ### Plainly -/
structure Ord (t : Sto) (F : Frag) (f : Nat → Id) (j : Nat) : Prop where
  kept : Kept t F
  one : ∀ x b, F x = some b → b = [1]
  has : ∀ i, i < j → mayId (f i) = true → F (f i) = some [1]
  room : 12 ≤ t.room + j
  small : t.s.d.ops ≤ 97 + 20 * j ∧ t.s.d.since.length = 0
theorem Ord.step {t : Sto} {F : Frag} {f : Nat → Id} {j : Nat} (h : Ord t F f j) (hj : j < 12) : ∃ F', Ord (t.put (f j) [1]).2 F' f (j + 1) := by
  obtain ⟨o1, o2, _⟩ := t.put_ok (f j) [1]
  have hsm := h.small
  cases hm : mayId (f j) with
  | false =>
    obtain ⟨_, h2⟩ := h.kept.put_bad (b := [1]) (.inl hm)
    refine ⟨F, ?_⟩
    rw [h2]
    refine ⟨h.kept, h.one, fun i hi hmi => ?_, by have := h.room; omega, by omega, hsm.2⟩
    rcases Nat.lt_or_ge i j with h3 | h3
    · exact h.has i h3 hmi
    · obtain rfl : i = j := by omega
      rw [hm] at hmi; cases hmi
  | true =>
    cases hF : F (f j) with
    | some b =>
      have hb := h.one _ _ hF
      have h2 := h.kept.put_there hF [1] (by simp)
      refine ⟨F, ?_⟩
      rw [h2]
      refine ⟨h.kept, h.one, fun i hi hmi => ?_, by have := h.room; show 12 ≤ t.room + (j + 1); omega, by show t.s.d.ops ≤ _; omega, hsm.2⟩
      rcases Nat.lt_or_ge i j with h3 | h3
      · exact h.has i h3 hmi
      · obtain rfl : i = j := by omega
        rw [hF, hb]
    | none =>
      have hr := h.room
      obtain ⟨p1, p2, p3⟩ := h.kept.put_new hm hF (b := [1]) (by simp) (by omega)
      refine ⟨_, p2, fun x b hx => ?_, fun i hi hmi => ?_, by omega, by omega, by rw [p2.since]; rfl⟩
      · unfold setF at hx
        split at hx
        · exact (Option.some.inj hx).symm
        · exact h.one _ _ hx
      · by_cases e : f i = f j
        · rw [e, setF_self]
        · rw [setF_other _ _ e]
          rcases Nat.lt_or_ge i j with h3 | h3
          · exact h.has i h3 hmi
          · obtain rfl : i = j := by omega
            exact absurd rfl e
theorem Ord.new : ∃ t d, (DS.new 97).format = ((0, some t), d) ∧ ∀ f, Ord t (fun _ => none) f 0 := by
  obtain ⟨t, d, h1, h2, h3, h4, h5, h6, _⟩ := Kept.new 97 (by omega)
  refine ⟨t, d, h1, fun f => ⟨h2, fun x b h => (by cases h), fun i hi => (by omega), ?_, by rw [h3]; omega, by rw [h2.since]; rfl⟩⟩
  unfold Sto.room
  rw [h4]
  decide
end Go.Proofs.YtdkhmfcfihbjeaaGreatDoor.W

/- The reference's List. -/
namespace Go.Proofs.YtdkhmfcfihbjeaaGreatDoor.W
open Go.RowKit Go.Sort
set_option linter.unusedVariables false
set_option linter.unusedSimpArgs false

theorem wpList_app1L {P : Program} {w : World} {ops : Array Oper} {rest : List Oper} {o : Oper} {a : Act} {Q : Exit → Act → World → Prop} (hgd : o.guard = none) (s x : Operand) (t : TypeId)
    (ho : o.op = .call { callee := .builtin .append, args := #[s, x], argTypes := #[t, t] })
    (base : Nat) {e : TypeId} {z : Value} {size bytes : Nat} (hE : El P t e z size bytes)
    (v : Value) (n : Nat) (xs : List Value) (hs : a.eval s = v) (hown : w.ownsRow base e size v n xs)
    (c : Nat) (news : Array Value) (hx : a.eval x = .slice (some ⟨w.heap.size, 0, none⟩) 1 c) (hl : news.size = size) (h1 : ∀ u ∈ news.toList, u.oneCell' = true)
    (h63 : n + 1 ≤ maxLen) (hbytes : (n + 1) * bytes ≤ 140737488355328) (hbase : base ≤ w.heap.size)
    (h : ∀ g cap w', w'.ownsRow base e size (.slice (some ⟨g, 0, none⟩) (n + 1) cap) (n + 1) (xs ++ news.toList) → w.grownBy w' v.ownBlock → (v.ownBlock = some g ∨ g = w.heap.size + 1) → wpList P ops Q rest (a.put o.dst (.slice (some ⟨g, 0, none⟩) (n + 1) cap)) w') : wpList P ops Q (o :: rest) a (w.alloc (.cells news e)) := by
  obtain ⟨ht, ⟨i, hi, hz, hsize, hby⟩, hzs, hsz⟩ := hE
  refine wpList_append_lies _ hgd s x t ho base e i z size bytes ht hi hz hsize hby hzs hsz v n xs hs (hown.alloc _) ⟨w.heap.size, 0, none⟩ 1 c news.toList hx (by simpa using hl) (World.news_of_block (heap_alloc_new w _)) h1 (by omega) h63 hbytes (by simp; omega) (w.heap.size + 1) (by simp) ?_
  intro g cap w' h2 h3 h4 _
  exact h g cap w' h2 (grownBy_trans (World.grownBy_alloc w _ _) h3) h4

end Go.Proofs.YtdkhmfcfihbjeaaGreatDoor.W

/- Package server: DecodeReply, and the reference's (printed by gen_svt.py). -/
namespace Go.Proofs.YtdkhmfcfihbjeaaGreatDoor.W
open Go.RowKit
set_option linter.unusedVariables false
set_option linter.unusedSimpArgs false

/-! ### Plainly -/
def giN : Nat → PB → List Id × PB
  | 0, s => ([], s)
  | k + 1, s => if (giS s).2 ≠ 0 then ([], giS s) else (giV s :: (giN k (giS s)).1, (giN k (giS s)).2)
def repTail (E : Int) (bb : List UInt8) (r : List Id × PB) : Rp × Int :=
  if endOf (ebS (enS r.2 2)).1 (ebS (enS r.2 2)).2 ≠ 0 then (noRp, endOf (ebS (enS r.2 2)).1 (ebS (enS r.2 2)).2) else (⟨E, bb, r.1, enV r.2 2, ebV (enS r.2 2)⟩, 0)
def repDec (l : List UInt8) : Rp × Int :=
  if (enS (l, 0) 1).2 = 0 ∧ 18 < enV (l, 0) 1 then (noRp, 4) else
  repTail (enV (l, 0) 1) (erV (enS (l, 0) 1)) (giN (enV (erS (enS (l, 0) 1)) 2).toNat (enS (erS (enS (l, 0) 1)) 2))
theorem ebS_bad {s : PB} (h : s.2 ≠ 0) : ebS s = s := by
  unfold ebS eyeBool
  rw [if_pos h]
theorem repTail_bad {E : Int} {bb : List UInt8} {r : List Id × PB} (h : r.2.2 ≠ 0) : repTail E bb r = (noRp, r.2.2) := by
  unfold repTail
  rw [(enS_bad h 2).1, ebS_bad h, end_bad h, if_pos h]
theorem giN_bad {s : PB} (h : s.2 ≠ 0) : ∀ k, giN k s = ([], s)
  | 0 => rfl
  | k + 1 => by
    unfold giN
    rw [giS_bad h, if_pos h]
theorem giN_fail {s : PB} (h : (giS s).2 ≠ 0) (k : Nat) : giN (k + 1) s = ([], giS s) := by
  unfold giN
  rw [if_pos h]
theorem giN_ok {s : PB} (h : (giS s).2 = 0) (k : Nat) : giN (k + 1) s = (giV s :: (giN k (giS s)).1, (giN k (giS s)).2) := by
  rw [giN]
  rw [if_neg (by simp [h])]
theorem repDec_ref (l : List UInt8) (s1 : PB) (hs : s1 = ((enS (l, 0) 1).1, if decide (18 < enV (l, 0) 1) = true ∧ (enS (l, 0) 1).2 = 0 then 4 else (enS (l, 0) 1).2)) :
    repDec l = repTail (enV (l, 0) 1) (erV s1) (giN (enV (erS s1) 2).toNat (enS (erS s1) 2)) := by
  unfold repDec
  by_cases h : (enS (l, 0) 1).2 = 0 ∧ 18 < enV (l, 0) 1
  · rw [if_pos h]
    rw [if_pos (by simp [h.1, h.2])] at hs
    have hb : s1.2 ≠ 0 := by rw [hs]; simp
    rw [erS_bad hb, (enS_bad hb 2).1, giN_bad hb, repTail_bad (by exact hb), hs]
  · rw [if_neg h]
    rw [if_neg (fun hh => h ⟨hh.2, by simpa using hh.1⟩)] at hs
    have : s1 = enS (l, 0) 1 := by rw [hs]
    rw [this]
/-- How far the ids have been read. -/
def GiAt (n : Nat) (s3 : PB) (A : List Id) (k : Nat) (s : PB) : Prop := giN n s3 = (A ++ (giN k s).1, (giN k s).2)
theorem GiAt.new (n : Nat) (s3 : PB) : GiAt n s3 [] n s3 := by unfold GiAt; simp
theorem GiAt.ok {n k : Nat} {s3 s : PB} {A : List Id} (h : GiAt n s3 A (k + 1) s) (hs : (giS s).2 = 0) : GiAt n s3 (A ++ [giV s]) k (giS s) := by
  unfold GiAt at h ⊢
  rw [h, giN_ok hs]
  simp
theorem GiAt.fail {n k : Nat} {s3 s : PB} {A : List Id} (h : GiAt n s3 A (k + 1) s) (hs : (giS s).2 ≠ 0) (j : Nat) : GiAt n s3 A j (giS s) := by
  unfold GiAt at h ⊢
  rw [h, giN_fail hs, giN_bad hs]
theorem GiAt.done {n k : Nat} {s3 s : PB} {A : List Id} (h : GiAt n s3 A k s) (hk : k = 0 ∨ s.2 ≠ 0) : giN n s3 = (A, s) := by
  unfold GiAt at h
  rw [h]
  rcases hk with rfl | hk
  · simp [giN]
  · rw [giN_bad hk]; simp
theorem enV_rng (s : PB) : ∃ n : Nat, enV s 2 = (n : Int) ∧ n ≤ 65535 := by
  unfold enV eyeNum
  split
  · exact ⟨0, rfl, by omega⟩
  · split
    · exact ⟨0, rfl, by omega⟩
    · refine ⟨_, rfl, ?_⟩
      have h := beNum_lt (s.1.take 2)
      have h2 : 256 ^ (s.1.take 2).length ≤ 256 ^ 2 := Nat.pow_le_pow_right (by omega) (List.length_take_le _ _)
      omega
/-- What a decoder of replies answers. -/
def DecRPost (w0 : World) (r : Rp × Int) (e : Ending) (w' : World) : Prop := ∃ v, e = .returned (.tuple #[v, .int .i64 r.2]) ∧ RpAt w0 w' v r.1 ∧ Chg [] w0 w'
/-- The block of bytes, where there are any. -/
def kB (v : Value) (l : List UInt8) : List Nat := if l = [] then [] else v.ownBlock.toList
theorem kB_nil (v : Value) : kB v [] = [] := if_pos rfl
theorem mem_kB {v : Value} {l : List UInt8} (h : l ≠ []) {k : Nat} : k ∈ kB v l ↔ v.ownBlock = some k := by
  unfold kB
  rw [if_neg h]
  simp
theorem bytes_keepL {w w' : World} {v : Value} {l : List UInt8} (h : BytesAt w v l) (hb : l ≠ [] → ∀ g, v.ownBlock = some g → w'.heap[g]? = w.heap[g]?) : BytesAt w' v l := by
  by_cases hl : l = []
  · subst hl
    obtain ⟨a, cap, rfl, h1, h2, h3⟩ := h
    refine ⟨a, cap, rfl, h1, h2, ?_⟩
    rcases h3 with h3 | ⟨g, o, rfl, hc⟩
    · exact .inl h3
    · exact .inr ⟨g, o, rfl, fun i hi => absurd hi (by simp)⟩
  · exact h.keep (hb hl)
theorem row_ne {w : World} {base size n L t : Nat} {e : TypeId} {v : Value} {xs : List Value} {cs : Array Value} {q : Nat × Nat} (h : w.ownsRow base e size v n xs) (hl : w.heap[L]? = some (.cells cs t q)) (hne : e ≠ t) : v.ownBlock ≠ some L := by
  intro hk
  rcases h.2 with ⟨rfl, _⟩ | ⟨g, cap, cur, rfl, hbg, hg, _⟩
  · simp [Value.ownBlock] at hk
  · obtain rfl : g = L := by simpa [Value.ownBlock] using hk
    rw [hl] at hg
    injection hg with hg
    injection hg with h1 h2
    exact hne h2.symm
theorem row_rows {w : World} {base base' size size' n n' : Nat} {e e' : TypeId} {v v' : Value} {xs xs' : List Value} (h : w.ownsRow base e size v n xs) (h' : w.ownsRow base' e' size' v' n' xs') (hne : e ≠ e') {k : Nat} (hk : v.ownBlock = some k) : v'.ownBlock ≠ some k := by
  rcases h.2 with ⟨rfl, _⟩ | ⟨g, cap, cur, rfl, hbg, hg, _⟩
  · simp [Value.ownBlock] at hk
  · obtain rfl : g = k := by simpa [Value.ownBlock] using hk
    exact row_ne h' hg (fun e => hne e.symm)
theorem fvf_cells {w : World} {N t : Nat} {a0 a1 a2 a3 a4 : Value} (h : w.heap[N]? = some (.cells #[a0, a1, a2, a3, a4] t (0, 0))) :
    (w.cell? ⟨N, 0, none⟩ = some a0 ∧ w.cell? ⟨N, 1, none⟩ = some a1 ∧ w.cell? ⟨N, 2, none⟩ = some a2 ∧ w.cell? ⟨N, 3, none⟩ = some a3 ∧ w.cell? ⟨N, 4, none⟩ = some a4) ∧
    w.frozen? ⟨N, 0, none⟩ = false ∧ w.frozen? ⟨N, 1, none⟩ = false ∧ w.frozen? ⟨N, 2, none⟩ = false ∧ w.frozen? ⟨N, 3, none⟩ = false ∧ w.frozen? ⟨N, 4, none⟩ = false :=
  ⟨⟨blk_cell h 0 _ rfl, blk_cell h 1 _ rfl, blk_cell h 2 _ rfl, blk_cell h 3 _ rfl, blk_cell h 4 _ rfl⟩, blk_frozen h 0, blk_frozen h 1, blk_frozen h 2, blk_frozen h 3, blk_frozen h 4⟩
theorem set_fiv {w : World} {b t : Nat} {a0 a1 a2 a3 a4 : Value} (h : w.heap[b]? = some (.cells #[a0, a1, a2, a3, a4] t (0, 0))) (u0 u1 u2 u3 u4 : Value) :
    (((((w.setCell ⟨b, 0, none⟩ u0).setCell ⟨b, 1, none⟩ u1).setCell ⟨b, 2, none⟩ u2).setCell ⟨b, 3, none⟩ u3).setCell ⟨b, 4, none⟩ u4).heap[b]? = some (.cells #[u0, u1, u2, u3, u4] t (0, 0)) := five_set h u0 u1 u2 u3 u4
theorem chg_fiv {w0 w : World} (hc : Chg [] w0 w) {b : Nat} (hb : w0.heap.size ≤ b) (u0 u1 u2 u3 u4 : Value) :
    Chg [] w0 (((((w.setCell ⟨b, 0, none⟩ u0).setCell ⟨b, 1, none⟩ u1).setCell ⟨b, 2, none⟩ u2).setCell ⟨b, 3, none⟩ u3).setCell ⟨b, 4, none⟩ u4) :=
  ((((hc.setCell (.inr hb) _).setCell (.inr hb) _).setCell (.inr hb) _).setCell (.inr hb) _).setCell (.inr hb) _
theorem same_fiv {w : World} {b g : Nat} (hb : g ≠ b) (u0 u1 u2 u3 u4 : Value) :
    (((((w.setCell ⟨b, 0, none⟩ u0).setCell ⟨b, 1, none⟩ u1).setCell ⟨b, 2, none⟩ u2).setCell ⟨b, 3, none⟩ u3).setCell ⟨b, 4, none⟩ u4).heap[g]? = w.heap[g]? := by
  rw [Below.heap_setCell _ ⟨b, 4, none⟩ u4 g hb, Below.heap_setCell _ ⟨b, 3, none⟩ u3 g hb, Below.heap_setCell _ ⟨b, 2, none⟩ u2 g hb, Below.heap_setCell _ ⟨b, 1, none⟩ u1 g hb, Below.heap_setCell _ ⟨b, 0, none⟩ u0 g hb]
theorem eyeRaw_nil (bad : Int) (m : Nat) : (eyeRaw [] bad m).1 = [] := by
  unfold eyeRaw
  split
  · rfl
  · rw [if_pos (by simp)]
/-- The walk stands still. -/
def StopT (p : Prop) : Prop := p
theorem stopT_of {p : Prop} (h : StopT p) : p := h

section
variable {K Y T : List Nat} {w0 w w' : World} {b : Nat} {s s' : PB}
theorem EyeS.wrote (h : EyeS K w0 w b s) (hc : Chg T w w') (hT : ∀ x ∈ T, x ∈ K ∧ w0.heap.size ≤ x) (hY : ∀ k ∈ Y, k ∈ K ∨ (w.heap.size ≤ k ∧ k < w'.heap.size)) : EyeS Y w0 w' b s := by
  obtain ⟨g, he, hg⟩ := h.eye
  have hb := he.blt
  obtain ⟨g', he', hg'⟩ := he.pick (w'.heap.size + b + 1) (by omega)
  have hz := hc.size
  have hgT : g' ∉ T := fun hm => by
    have h1 := h.lim g' (hT g' hm).1
    rcases hg' with ⟨rfl, _⟩ | rfl
    · exact hg (hT _ hm).1
    · omega
  refine ⟨⟨g', he'.keep hc (fun hm => h.own.2 (hT b hm).1) hgT, fun hm => ?_⟩, ⟨h.own.1, fun hm => ?_⟩, h.chg.trans hc (fun x hx => .inr (hT x hx).2), fun x hx => ?_⟩
  · rcases hg' with ⟨rfl, h1⟩ | rfl
    · rcases hY _ hm with h2 | h2
      · exact hg h2
      · omega
    · rcases hY _ hm with h2 | h2
      · have := h.lim _ h2; omega
      · omega
  · rcases hY _ hm with h2 | h2
    · exact h.own.2 h2
    · omega
  · rcases hY x hx with h2 | h2
    · exact Nat.lt_of_lt_of_le (h.lim x h2) hz
    · exact h2.2
theorem esRaw2 (h : EyeS K w0 w b s) : Calls Tryz.prog 57 #[.pointer (some ⟨b, 0, none⟩), .int .i64 65535] w fun e w' => ∃ v, e = .returned v ∧ EyeS (kB v (erV s) ++ K) w0 w' b (erS s) ∧ (∀ x ∈ K, w'.heap[x]? = w.heap[x]?) ∧ BRow w' v (erV s) ∧ (∀ k, v.ownBlock = some k → w.heap.size ≤ k) := by
  obtain ⟨g, he, hg⟩ := h.eye
  refine (eraw_any b g s.1 s.2 65535 w he (by omega)).mono ?_
  rintro e w' ⟨v, rfl, h1, h2, h3, h4⟩
  have hst := h.step (s' := erS s) hg h3 h4
  refine ⟨v, rfl, ?_, hst.2, h1, h2⟩
  by_cases hb : erV s = []
  · rw [hb, kB_nil]
    exact hst.1
  · have hs : s.1 ≠ [] := fun hs => hb (by unfold erV; rw [hs]; exact eyeRaw_nil _ _)
    have hgl : g < w.heap.size := by
      obtain ⟨v', _, hv', _, hg', _⟩ := he
      rcases hv' with ⟨_, e⟩ | ⟨o, cap, e, _⟩
      · exact absurd e hs
      · rcases hg' with hg' | hg'
        · exact hg'
        · rw [e] at hg'; cases hg' 
    have hbl := he.blt
    refine ⟨⟨g, h3, fun hm => ?_⟩, ⟨hst.1.own.1, fun hm => ?_⟩, hst.1.chg, fun x hx => ?_⟩
    · rcases List.mem_append.1 hm with hm | hm
      · have := h2 g ((mem_kB hb).1 hm); omega
      · exact hg hm
    · rcases List.mem_append.1 hm with hm | hm
      · have := h2 b ((mem_kB hb).1 hm); omega
      · exact h.own.2 hm
    · rcases List.mem_append.1 hx with hm | hm
      · exact h1.lt x ((mem_kB hb).1 hm)
      · exact hst.1.lim x hm
/-- A reply that is being read: in block L; the result's own block is R. -/
structure RepO (w0 w : World) (b L R : Nat) (E : Int) (bb : List UInt8) (bv iv : Value) (A : List Id) (room : Int) (wh : Bool) (s : PB) : Prop where
  eye : EyeS (kB bv bb ++ (iv.ownBlock.toList ++ [L, R])) w0 w b s
  row : w.ownsRow w0.heap.size 38 4 iv A.length (A.flatMap idE)
  bytes : BytesAt w bv bb
  brow : bb ≠ [] → BRow w bv bb
  bnew : ∀ k, bv.ownBlock = some k → w0.heap.size ≤ k
  cl : w.heap[L]? = some (.cells #[.int .i64 E, bv, iv, .int .i64 room, .bool wh] 32 (0, 0))
  cr : w.heap[R]? = some (.cells zeroRp 32 (0, 0))
  newL : w0.heap.size ≤ L
  newR : w0.heap.size ≤ R
  ne : R ≠ L
variable {L R : Nat} {E room : Int} {bb : List UInt8} {bv iv : Value} {A : List Id} {wh : Bool}
theorem RepO.same (h : RepO w0 w b L R E bb bv iv A room wh s) (he : EyeS (kB bv bb ++ (iv.ownBlock.toList ++ [L, R])) w0 w' b s') (hk : ∀ x ∈ kB bv bb ++ (iv.ownBlock.toList ++ [L, R]), w'.heap[x]? = w.heap[x]?) : RepO w0 w' b L R E bb bv iv A room wh s' :=
  ⟨he, row_keep h.row (fun g hg => hk g (List.mem_append_right _ (List.mem_append_left _ (by simpa using hg)))), bytes_keepL h.bytes (fun hne g hg => hk g (List.mem_append_left _ ((mem_kB hne).2 hg))),
    fun hne => (h.brow hne).keep (fun g hg => hk g (List.mem_append_left _ ((mem_kB hne).2 hg))), h.bnew, keepO h.cl (hk L (by simp)), keepO h.cr (hk R (by simp)), h.newL, h.newR, h.ne⟩
theorem RepO.quiet (h : RepO w0 w b L R E bb bv iv A room wh s) (hc : Chg [] w w') : RepO w0 w' b L R E bb bv iv A room wh s :=
  h.same (h.eye.keepD hc) (fun x hx => hc.block x (h.eye.lim x hx) (by simp))
theorem RepO.notL (h : RepO w0 w b L R E bb bv iv A room wh s) : iv.ownBlock ≠ some L := row_ne h.row h.cl (by decide)
theorem RepO.notBL (h : RepO w0 w b L R E bb bv iv A room wh s) (hne : bb ≠ []) : bv.ownBlock ≠ some L := row_ne (h.brow hne) h.cl (by decide)
theorem RepO.notR (h : RepO w0 w b L R E bb bv iv A room wh s) : iv.ownBlock ≠ some R := row_ne h.row h.cr (by decide)
theorem RepO.notBR (h : RepO w0 w b L R E bb bv iv A room wh s) (hne : bb ≠ []) : bv.ownBlock ≠ some R := row_ne (h.brow hne) h.cr (by decide)
theorem RepO.setL (h : RepO w0 w b L R E bb bv iv A room wh s) (j : Nat) (u : Value) (E' room' : Int) (wh' : Bool) (hcs : (#[.int .i64 E, bv, iv, .int .i64 room, .bool wh] : Array Value).setIfInBounds j u = #[.int .i64 E', bv, iv, .int .i64 room', .bool wh']) :
    RepO w0 (w.setCell ⟨L, j, none⟩ u) b L R E' bb bv iv A room' wh' s := by
  have hs : ∀ g, g ≠ L → (w.setCell ⟨L, j, none⟩ u).heap[g]? = w.heap[g]? := fun g hg => Below.heap_setCell w ⟨L, j, none⟩ u g hg
  refine ⟨h.eye.set (N := L) (by simp) h.newL j u, row_keep h.row (fun g hg => hs g (fun e => h.notL (by rw [← e]; exact hg))), bytes_keepL h.bytes (fun hne g hg => hs g (fun e => h.notBL hne (by rw [← e]; exact hg))), fun hne => (h.brow hne).keep (fun g hg => hs g (fun e => h.notBL hne (by rw [← e]; exact hg))), h.bnew, ?_, blk_sets h.cr h.ne, h.newL, h.newR, h.ne⟩
  rw [← hcs]
  exact set_blk h.cl
theorem RepO.setB (h : RepO w0 w b L R E [] (.slice none 0 0) iv A room wh s) {v : Value} (he : EyeS (kB v bb ++ (kB (.slice none 0 0) [] ++ (iv.ownBlock.toList ++ [L, R]))) w0 w' b s') (hk : ∀ x ∈ kB (.slice none 0 0) [] ++ (iv.ownBlock.toList ++ [L, R]), w'.heap[x]? = w.heap[x]?) (hb : BRow w' v bb) (hn : ∀ k, v.ownBlock = some k → w.heap.size ≤ k) :
    RepO w0 (w'.setCell ⟨L, 1, none⟩ v) b L R E bb v iv A room wh s' := by
  rw [kB_nil, List.nil_append] at he hk
  have hl := blk_lt h.cl
  have hs : ∀ g, g ≠ L → (w'.setCell ⟨L, 1, none⟩ v).heap[g]? = w'.heap[g]? := fun g hg => Below.heap_setCell w' ⟨L, 1, none⟩ v g hg
  have hvL : ∀ g, v.ownBlock = some g → g ≠ L := fun g hg e => by have := hn g hg; omega
  refine ⟨he.set (N := L) (by simp) h.newL 1 v, row_keep h.row (fun g hg => (hs g (fun e => h.notL (by rw [← e]; exact hg))).trans (hk g (List.mem_append_left _ (by simpa using hg)))), hb.bytes.keep (fun g hg => hs g (hvL g hg)), fun _ => hb.keep (fun g hg => hs g (hvL g hg)), fun k hk => ?_, ?_, blk_sets (keepO h.cr (hk R (by simp))) h.ne, h.newL, h.newR, h.ne⟩
  · have := hn k hk
    have := h.eye.chg.size
    omega
  · exact set_blk (keepO h.cl (hk L (by simp)))
/-- One more id. -/
theorem RepO.snoc (h : RepO w0 w b L R E bb bv iv A room wh s) {x : Id} {g cap : Nat} (ho : w'.ownsRow w0.heap.size 38 4 (.slice (some ⟨g, 0, none⟩) (A.length + 1) cap) (A.length + 1) (A.flatMap idE ++ idE x)) (hg : w.grownBy w' iv.ownBlock) (hat : iv.ownBlock = some g ∨ g = w.heap.size + 1) :
    RepO w0 (w'.setCell ⟨L, 2, none⟩ (.slice (some ⟨g, 0, none⟩) (A.length + 1) cap)) b L R E bb bv (.slice (some ⟨g, 0, none⟩) (A.length + 1) cap) (A ++ [x]) room wh s ∧ w'.heap[L]? = w.heap[L]? := by
  have hc : Chg iv.ownBlock.toList w w' := (Chg.refl _ w).grown hg (fun k hk => .inl (by simp [hk]))
  have hLn : L ∉ iv.ownBlock.toList := fun hm => h.notL (by simpa using hm)
  have hRn : R ∉ iv.ownBlock.toList := fun hm => h.notR (by simpa using hm)
  have hL : w'.heap[L]? = w.heap[L]? := hc.block L (blk_lt h.cl) hLn
  have hR : w'.heap[R]? = w.heap[R]? := hc.block R (blk_lt h.cr) hRn
  have hgl := (World.ownsRow.lt ho g rfl)
  have hgL : g ≠ L := fun e => row_ne ho (L := L) (keepO h.cl hL) (by decide) (by rw [← e]; rfl)
  have hs : ∀ k, k ≠ L → (w'.setCell ⟨L, 2, none⟩ (.slice (some ⟨g, 0, none⟩) (A.length + 1) cap)).heap[k]? = w'.heap[k]? := fun k hk => Below.heap_setCell w' ⟨L, 2, none⟩ _ k hk
  have hbk : bb ≠ [] → ∀ k, bv.ownBlock = some k → w'.heap[k]? = w.heap[k]? := fun hne k hk => hc.block k ((h.brow hne).lt k hk) (fun hm => row_rows (h.brow hne) h.row (by decide) hk (by simpa using hm))
  refine ⟨⟨?_, ?_, ?_, ?_, h.bnew, ?_, blk_sets (keepO h.cr hR) h.ne, h.newL, h.newR, h.ne⟩, hL⟩
  · have he : EyeS (kB bv bb ++ ((Value.slice (some ⟨g, 0, none⟩) (A.length + 1) cap).ownBlock.toList ++ [L, R])) w0 w' b s := h.eye.wrote hc (fun x hx => ⟨List.mem_append_right _ (List.mem_append_left _ hx), (World.ownsRow.lt h.row x (by simpa using hx)).1⟩) (fun k hk => by
      rcases List.mem_append.1 hk with hk | hk
      · exact .inl (List.mem_append_left _ hk)
      · rcases List.mem_append.1 hk with hk | hk
        · obtain rfl : k = g := by simpa [Value.ownBlock] using hk
          rcases hat with hat | hat
          · exact .inl (List.mem_append_right _ (List.mem_append_left _ (by simpa using hat)))
          · exact .inr ⟨by omega, hgl.2⟩
        · exact .inl (List.mem_append_right _ (List.mem_append_right _ hk)))
    exact he.set (N := L) (by simp) h.newL 2 _
  · rw [List.length_append, List.flatMap_append]
    refine row_keep (v := .slice (some ⟨g, 0, none⟩) (A.length + 1) cap) (by simpa using ho) (fun k hk => hs k (fun e => ?_))
    obtain rfl : g = k := by simpa [Value.ownBlock] using hk
    exact hgL e
  · exact bytes_keepL h.bytes (fun hne k hk => (hs k (fun e => h.notBL hne (by rw [← e]; exact hk))).trans (hbk hne k hk))
  · exact fun hne => (h.brow hne).keep (fun k hk => (hs k (fun e => h.notBL hne (by rw [← e]; exact hk))).trans (hbk hne k hk))
  · exact set_blk (keepO h.cl hL)
/-- The end: the result's block is filled. -/
theorem RepO.ends (h : RepO w0 w b L R E bb bv iv A room wh s) : 
    RpAt w0 (((((w.setCell ⟨R, 0, none⟩ (.int .i64 E)).setCell ⟨R, 1, none⟩ bv).setCell ⟨R, 2, none⟩ iv).setCell ⟨R, 3, none⟩ (.int .i64 room)).setCell ⟨R, 4, none⟩ (.bool wh)) (rpV E bv iv room wh) ⟨E, bb, A, room, wh⟩ :=
  ⟨bv, iv, rfl, bytes_keepL h.bytes (fun hne g hg => same_fiv (fun e => h.notBR hne (by rw [← e]; exact hg)) _ _ _ _ _), h.bnew, row_keep h.row (fun g hg => same_fiv (fun e => h.notR (by rw [← e]; exact hg)) _ _ _ _ _)⟩
end
theorem ret_rpo {fn : Func} {p u : Tmp} (h : fn.results = #[.cell p 32, .tmp u]) (tmps : Array Value) {w : World} {b t : Nat} {e room : Int} {bv iv q : Value} {wh : Bool} (hp : tmps.getD p undef = .pointer (some ⟨b, 0, none⟩)) (hu : tmps.getD u undef = q) (hb : w.heap[b]? = some (.cells (rpL e bv iv room wh).toArray t (0, 0))) :
    (results fn tmps).run Tryz.prog w = .ok (.tuple #[rpV e bv iv room wh, q]) w := by
  have hl := run_loadVar_row (P := Tryz.prog) w b t 32 (rpL e bv iv room wh).toArray (0, 0) _ hb Tryz.underlying32 rfl (rp_size _ _ _ _ _)
  rw [results_cell_tmp h, hp, hu]
  simp only [asAddr, Sem.run_pure, Result.andThen_ok, hl]
  rfl

set_option maxHeartbeats 16000000 in
set_option maxRecDepth 100000 in
theorem svdecr_any (v : Value) (l : List UInt8) (w : World) (hv : BytesAt w v l) (hl : l.length ≤ 1000000) : Calls Tryz.prog 30 #[v] w (DecRPost w (repDec l)) := by
  obtain ⟨R, hR⟩ : ∃ R, R = w.heap.size := ⟨_, rfl⟩
  obtain ⟨w1, hw1⟩ : ∃ w1, w1 = w.alloc (.cells zeroRp 32) := ⟨_, rfl⟩
  have hc1 : Chg [] w w1 := by rw [hw1]; exact (Chg.refl [] w).alloc _
  have hb1 : w1.heap[R]? = some (.cells zeroRp 32 (0, 0)) := by rw [hw1, hR]; exact heap_alloc_new w _
  have hs1 : w1.heap.size = R + 1 := by rw [hw1, hR]; simp
  have CE := Lib.hid (neweye_any v l w1 (hv.chg hc1 (by simp)) hl)
  obtain ⟨a, cap, rfl⟩ := hv.slice
  have HB1 := Lib.hid hb1
  have HC1 := Lib.hid hc1
  have HW1 := Lib.hid hw1
  have HR := Lib.hid hR
  have HS1 := Lib.hid hs1
  have HRW : Hid (w.heap.size ≤ R) := Lib.hid (by omega)
  have HD0 : Hid (repDec l = if (enS (l, 0) 1).2 = 0 ∧ 18 < enV (l, 0) 1 then (noRp, 4) else repTail (enV (l, 0) 1) (erV (enS (l, 0) 1)) (giN (enV (erS (enS (l, 0) 1)) 2).toNat (enS (erS (enS (l, 0) 1)) 2))) := Lib.hid rfl
  clear hb1 hc1 hw1 hR hs1 hv
  go_enter Tryz.func30, Tryz.ntmps30
  go_wp2_with fail
  rw [show (#[.int .i64 0, .slice none 0 0, .slice none 0 0, .int .i64 0, .bool false] : Array Value) = zeroRp from rfl, ← HW1.out, ← HR.out]
  refine CE.out.mono ?_
  rintro e w2 ⟨b, g, rfl, he2, hb2, hg2, hc2⟩
  obtain ⟨L, hLE⟩ : ∃ L, L = w2.heap.size := ⟨_, rfl⟩
  obtain ⟨w3, hw3⟩ : ∃ w3, w3 = w2.alloc (.cells #[.int .i64 0, .slice none 0 0, .slice none 0 0, .int .i64 0, .bool false] 32) := ⟨_, rfl⟩
  have hs2 := hc2.size
  have hs1 := HS1.out
  have h2 : EyeS [R] w w2 b (l, 0) := ⟨⟨g, he2, by simp; omega⟩, ⟨by have := HRW.out; omega, by simp; omega⟩, HC1.out.trans hc2 (by simp), fun x hx => by rw [List.mem_singleton.1 hx]; omega⟩
  have hc3 : Chg [] w2 w3 := by rw [hw3]; exact (Chg.refl [] w2).alloc _
  have hbL : w3.heap[L]? = some (.cells zeroRp 32 (0, 0)) := by rw [hw3, hLE]; exact heap_alloc_new w2 _
  have h3 : EyeS [L, R] w w3 b (l, 0) := h2.add hc3 (fun k hk => by
    simp at hk
    rcases hk with rfl | rfl
    · exact .inr ⟨by omega, blk_lt hbL⟩
    · exact .inl (by simp))
  have HM3 : Hid (RepO w w3 b L R 0 [] (.slice none 0 0) (.slice none 0 0) [] 0 false (l, 0)) := Lib.hid ⟨by simpa [kB, Value.ownBlock] using h3, World.ownsRow_nil _ _ _ _, BytesAt.nil _, fun h => absurd rfl h, by simp [Value.ownBlock], hbL, (hc2.trans hc3 (by simp)).keep HB1.out (by simp), by have := HRW.out; omega, HRW.out, by omega⟩
  have HW3 := Lib.hid hw3
  have HLE := Lib.hid hLE
  have C1 := Lib.hid (esNum HM3.out.eye 1 (by omega) (by omega))
  clear CE he2 hb2 hg2 hc2 hw3 hLE h2 hc3 hbL hs1 hs2 h3
  go_wp2_with fail
  rw [← HW3.out, ← HLE.out]
  refine C1.out.mono ?_
  rintro e w4 ⟨rfl, h4, k4⟩
  have HM4 := Lib.hid (HM3.out.same h4 k4)
  obtain ⟨E, hE⟩ : ∃ E, E = enV (l, 0) 1 := ⟨_, rfl⟩
  rw [← hE]
  have HEE := Lib.hid hE
  have HM5 := Lib.hid (HM4.out.setL 0 (.int .i64 E) E 0 false rfl)
  obtain ⟨⟨m0, m1, m2, m3, m4⟩, f0, f1, f2, f3, f4⟩ := fvf_cells HM4.out.cl
  clear h4 k4 C1 hE
  obtain ⟨s1, hs1⟩ : ∃ s1, s1 = enS (l, 0) 1 := ⟨_, rfl⟩
  rw [← hs1] at HM5
  rw [← HEE.out, ← hs1] at HD0
  have CF := Lib.hid (esFail HM5.out.eye)
  clear hs1 HM4
  go_upto_region 4 with (fail)
  obtain ⟨bad, hbad⟩ : ∃ bad, bad = s1.2 := ⟨_, rfl⟩
  rw [← hbad] at HD0 CF
  have HM6 := HM5
  clear m0 m1 m2 m3 m4 f0 f1 f2 f3 f4 hbad
  generalize w4.setCell ⟨L, 0, none⟩ (.int .i64 E) = w5 at *
  obtain ⟨⟨m0, m1, m2, m3, m4⟩, f0, f1, f2, f3, f4⟩ := fvf_cells HM5.out.cl
  obtain ⟨qf, hqf⟩ : ∃ qf, qf = decide (bad = 0 ∧ 18 < E) := ⟨_, rfl⟩
  have HQF := Lib.hid hqf
  clear hqf
  go_cut [21] (fun s21 wx => s21 = .bool qf ∧ wx = w5)
  case first =>
    by_cases hb0 : bad = 0
    · by_cases h18 : 18 < E
      · have d18 : decide (E > 18) = true := decide_eq_true h18
        have HQ1 : Hid (qf = true) := Lib.hid (by rw [HQF.out]; exact decide_eq_true ⟨hb0, h18⟩)
        subst hb0
        go_wp2_with fail
        refine CF.out.mono ?_
        rintro e w' ⟨rfl, hq⟩
        subst hq
        go_wp2_with fail
        go_meet
        exact ⟨by rw [HQ1.out], rfl⟩
      · have d18 : decide (E > 18) = false := decide_eq_false h18
        have HQ1 : Hid (qf = false) := Lib.hid (by rw [HQF.out]; exact decide_eq_false (fun h => h18 h.2))
        subst hb0
        go_wp2_with fail
        refine CF.out.mono ?_
        rintro e w' ⟨rfl, hq⟩
        subst hq
        go_wp2_with fail
        go_meet
        exact ⟨by rw [HQ1.out], rfl⟩
    · have qb : (bad == 0) = false := by simp [hb0]
      have HQ1 : Hid (qf = false) := Lib.hid (by rw [HQF.out]; exact decide_eq_false (fun h => hb0 h.1))
      clear hb0
      go_wp2_with fail
      refine CF.out.mono ?_
      rintro e w' ⟨rfl, hq⟩
      subst hq
      go_wp2_with fail
      go_meet
      exact ⟨by rw [HQ1.out], rfl⟩
  case rest =>
  obtain ⟨rfl, hwc⟩ := hcut
  rw [hwc]
  clear hwc CF
  by_cases hbE : bad = 0 ∧ 18 < E
  · rw [if_pos hbE] at HD0
    have hq1 := HQF.out.trans (decide_eq_true hbE)
    subst hq1
    obtain ⟨⟨r0, r1, r2, r3, r4⟩, g0, g1, g2, g3, g4⟩ := fvf_cells (a0 := .int .i64 0) (a1 := .slice none 0 0) (a2 := .slice none 0 0) (a3 := .int .i64 0) (a4 := .bool false) HM5.out.cr
    have HFX := Lib.hid (set_fiv (a0 := .int .i64 0) (a1 := .slice none 0 0) (a2 := .slice none 0 0) (a3 := .int .i64 0) (a4 := .bool false) HM5.out.cr (.int .i64 0) (.slice none 0 0) (.slice none 0 0) (.int .i64 0) (.bool false))
    have HCX := Lib.hid (chg_fiv HM5.out.eye.chg HM5.out.newR (.int .i64 0) (.slice none 0 0) (.slice none 0 0) (.int .i64 0) (.bool false))
    clear hbE
    go_wp2_with fail
    refine bodyPost_ret (ret_rpo (e := 0) (bv := .slice none 0 0) (iv := .slice none 0 0) (room := 0) (wh := false) rfl _ rfl rfl HFX.out) rfl ?_
    rw [HD0.out]
    exact ⟨_, rfl, ⟨_, _, rfl, BytesAt.nil _, by simp [Value.ownBlock], World.ownsRow_nil _ _ _ _⟩, HCX.out⟩
  · rw [if_neg hbE] at HD0
    have HD := HD0
    have hq1 := HQF.out.trans (decide_eq_false hbE)
    subst hq1
    clear hbE HM5
    have C2 := Lib.hid (esRaw2 HM6.out.eye)
    go_wp2_with fail
    refine C2.out.mono ?_
    rintro e w7 ⟨v7, rfl, h7, k7, hb7, hn7⟩
    have HCL7 := Lib.hid (keepO HM6.out.cl (k7 L (by simp)))
    have HM8 := Lib.hid (HM6.out.setB h7 k7 hb7 hn7)
    obtain ⟨s2, hs2⟩ : ∃ s2, s2 = erS s1 := ⟨_, rfl⟩
    obtain ⟨bb, hbb⟩ : ∃ bb, bb = erV s1 := ⟨_, rfl⟩
    rw [← hbb] at hb7
    rw [← hs2, ← hbb] at HD HM8
    obtain ⟨a7, c7, rfl⟩ := hb7.slice
    clear m0 m1 m2 m3 m4 f0 f1 f2 f3 f4 h7 k7 hb7 hn7 C2 hs2 hbb HM6
    obtain ⟨⟨m0, m1, m2, m3, m4⟩, f0, f1, f2, f3, f4⟩ := fvf_cells HCL7.out
    have C3 := Lib.hid (esNum HM8.out.eye 2 (by omega) (by omega))
    go_wp2_with fail
    refine C3.out.mono ?_
    rintro e w9 ⟨rfl, h9, k9⟩
    have HM9 := Lib.hid (HM8.out.same h9 k9)
    obtain ⟨s3, hs3⟩ : ∃ s3, s3 = enS s2 2 := ⟨_, rfl⟩
    obtain ⟨n, hn, hn16⟩ := enV_rng s2
    rw [hn]
    rw [hn, Int.toNat_natCast, ← hs3] at HD
    rw [← hs3] at HM9
    clear m0 m1 m2 m3 m4 f0 f1 f2 f3 f4 h9 k9 C3 hs3 hn HM8 HCL7
    go_wp2_with fail
    go_loopg [6, 7, 28] n (fun g' s6 s7 s28 wr => ∃ (i : Nat) (A : List Id) (s : PB) (iv : Value), s28 = .int .i64 (i : Int) ∧ i ≤ n ∧ n ≤ i + g' ∧ A.length ≤ i ∧ Hid (GiAt n s3 A (n - i) s) ∧ Hid (RepO w wr b L R E bb (.slice a7 bb.length c7) iv A 0 false s))
    case atStart => exact ⟨0, [], s3, _, rfl, by omega, by omega, by simp, Lib.hid (GiAt.new n s3), HM9⟩
    case round =>
    obtain ⟨i, A, s, iv, rfl, hi, hig, hAl, HG, HM⟩ := hrel
    clear HM9
    by_cases hlt : i < n
    · have hiz : (i : Int) < (n : Int) := by omega
      obtain ⟨k, hk⟩ : ∃ k, n - i = k + 1 := ⟨n - i - 1, by omega⟩
      rw [hk] at HG
      have HGF := Lib.hid (fun h => HG.out.fail h 0)
      have HGO := Lib.hid (fun h => HG.out.ok h)
      have C := Lib.hid (esGetId HM.out.eye)
      have hk' : n - (i + 1) = k := by omega
      have HK' := Lib.hid hk'
      clear hk hk' HG
      go_wp2_with fail
      refine C.out.mono ?_
      rintro e wg ⟨rfl, hg, kg⟩
      have HMG := Lib.hid (HM.out.same hg kg)
      obtain ⟨s', hs'⟩ : ∃ s', s' = giS s := ⟨_, rfl⟩
      obtain ⟨x, hx⟩ : ∃ x, x = giV s := ⟨_, rfl⟩
      rw [← hx, ← hs'] at HGO
      rw [← hs'] at HGF HMG
      rw [← hx]
      clear hg kg C hs' hx HM
      obtain ⟨xc, xl, xn, xi⟩ := x
      obtain ⟨wA, hwA⟩ : ∃ wA, wA = wg.alloc (.cells #[.int .i64 xc, .int .i64 xl, .int .i64 xn, .int .i64 xi] 38) := ⟨_, rfl⟩
      have hcA : Chg [] wg wA := by rw [hwA]; exact (Chg.refl [] wg).alloc _
      have hbA : wA.heap[wg.heap.size]? = some (.cells (idC ⟨xc, xl, xn, xi⟩) 38 (0, 0)) := by rw [hwA]; exact heap_alloc_new wg _
      have HMA := Lib.hid (HMG.out.quiet hcA)
      obtain ⟨x0, x1, x2, x3⟩ := id_cells hbA
      have CF := Lib.hid (esFail HMA.out.eye)
      have HWA := Lib.hid hwA
      have hsz := HMA.out.eye.chg.size
      have HSZ := Lib.hid hsz
      clear hwA hcA hbA hsz
      go_wp2_with fail
      rw [← HWA.out]
      refine CF.out.mono ?_
      rintro e w' ⟨rfl, hq⟩
      subst hq
      obtain ⟨bad', hbad⟩ : ∃ bad', bad' = s'.2 := ⟨_, rfl⟩
      rw [← hbad] at HGO HGF ⊢
      have HBD := Lib.hid hbad
      clear CF hbad
      obtain ⟨⟨m0, m1, m2, m3, m4⟩, f0, f1, f2, f3, f4⟩ := fvf_cells HMA.out.cl
      by_cases hb0 : bad' = 0
      · have HG2 := Lib.hid (HGO.out hb0)
        subst hb0
        obtain ⟨ai, ci, hiv⟩ : ∃ a c, iv = .slice a A.length c := by
          rcases HMA.out.row.2 with ⟨h1, h2⟩ | ⟨g, cap, cur, h1, _⟩
          · exact ⟨none, 0, by rw [h1, h2]⟩
          · exact ⟨_, cap, h1⟩
        have hro := HMA.out.row
        subst hiv
        have hl16 : A.length ≤ 65535 := by omega
        go_wp2_with (at_builtin; refine wpList_app1L rfl _ _ _ rfl w.heap.size elIds _ _ _ rfl hro 1 #[.int .i64 xc, .int .i64 xl, .int .i64 xn, .int .i64 xi] rfl rfl (by intro u hu; simp at hu; rcases hu with rfl | rfl | rfl | rfl <;> rfl) (by unfold maxLen; omega) (by omega) HSZ.out ?_; intro g7 cap7 w7 ho7 hg7 hat7; refine stopT_of ?_)
        obtain ⟨hsn, hL7⟩ := HMA.out.snoc (x := ⟨xc, xl, xn, xi⟩) ho7 hg7 hat7
        have HSN := Lib.hid hsn
        have HCL := Lib.hid (keepO HMA.out.cl hL7)
        clear m0 m1 m2 m3 m4 f0 f1 f2 f3 f4 ho7 hg7 hat7 hL7 hsn hro x0 x1 x2 x3
        obtain ⟨⟨m0, m1, m2, m3, m4⟩, f0, f1, f2, f3, f4⟩ := fvf_cells HCL.out
        unfold StopT
        go_wp2_with fail
        go_roundg (gk - 1)
        case measure => omega
        case rel => exact ⟨i + 1, A ++ [⟨xc, xl, xn, xi⟩], s', _, by go_num, by omega, by omega, by simp; omega, by rw [HK'.out]; exact HG2, HSN⟩
      · have qb : (bad' != 0) = true := by simp [hb0]
        have HGD := Lib.hid ((HGF.out hb0).done (.inl rfl))
        have HDD : Hid (repDec l = (noRp, bad')) := Lib.hid (by rw [HD.out, HGD.out, repTail_bad (by show s'.2 ≠ 0; rw [← HBD.out]; exact hb0)]; show (noRp, s'.2) = _; rw [← HBD.out])
        obtain ⟨⟨r0, r1, r2, r3, r4⟩, g0, g1, g2, g3, g4⟩ := fvf_cells (a0 := .int .i64 0) (a1 := .slice none 0 0) (a2 := .slice none 0 0) (a3 := .int .i64 0) (a4 := .bool false) HMA.out.cr
        have HFX := Lib.hid (set_fiv (a0 := .int .i64 0) (a1 := .slice none 0 0) (a2 := .slice none 0 0) (a3 := .int .i64 0) (a4 := .bool false) HMA.out.cr (.int .i64 0) (.slice none 0 0) (.slice none 0 0) (.int .i64 0) (.bool false))
        have HCX := Lib.hid (chg_fiv HMA.out.eye.chg HMA.out.newR (.int .i64 0) (.slice none 0 0) (.slice none 0 0) (.int .i64 0) (.bool false))
        clear hb0
        go_wp2_with fail
        refine bodyPost_ret (ret_rpo (e := 0) (bv := .slice none 0 0) (iv := .slice none 0 0) (room := 0) (wh := false) rfl _ rfl rfl HFX.out) rfl ?_
        rw [HDD.out]
        exact ⟨_, rfl, ⟨_, _, rfl, BytesAt.nil _, by simp [Value.ownBlock], World.ownsRow_nil _ _ _ _⟩, HCX.out⟩
    have hie : i = n := by omega
    have hiz : ¬ (i : Int) < (n : Int) := by omega
    have hgd := HG.out.done (.inl (by omega))
    rw [hgd] at HD
    clear hgd HG
    obtain ⟨⟨m0, m1, m2, m3, m4⟩, f0, f1, f2, f3, f4⟩ := fvf_cells HM.out.cl
    have C4 := Lib.hid (esNum HM.out.eye 2 (by omega) (by omega))
    go_wp2_with fail
    refine C4.out.mono ?_
    rintro e wa ⟨rfl, ha, ka⟩
    have HMA := Lib.hid (HM.out.same ha ka)
    obtain ⟨room, hroom⟩ : ∃ room, room = enV s 2 := ⟨_, rfl⟩
    obtain ⟨s5, hs5⟩ : ∃ s5, s5 = enS s 2 := ⟨_, rfl⟩
    have HT : Hid (repTail E bb (A, s) = if endOf (ebS s5).1 (ebS s5).2 ≠ 0 then (noRp, endOf (ebS s5).1 (ebS s5).2) else (⟨E, bb, A, room, ebV s5⟩, 0)) := Lib.hid (by rw [hroom, hs5]; rfl)
    rw [← hs5] at HMA
    rw [← hroom]
    have HMB := Lib.hid (HMA.out.setL 3 (.int .i64 room) E room false rfl)
    obtain ⟨⟨m0, m1, m2, m3, m4⟩, f0, f1, f2, f3, f4⟩ := fvf_cells HMA.out.cl
    have C5 := Lib.hid (esBool HMB.out.eye)
    clear ha ka C4 hroom hs5
    go_wp2_with fail
    refine C5.out.mono ?_
    rintro e wb ⟨rfl, hb, kb⟩
    have HMC := Lib.hid (HMB.out.same hb kb)
    obtain ⟨wh, hwh⟩ : ∃ wh, wh = ebV s5 := ⟨_, rfl⟩
    obtain ⟨s6, hs6⟩ : ∃ s6, s6 = ebS s5 := ⟨_, rfl⟩
    rw [← hwh, ← hs6] at HT
    rw [← hwh]
    rw [← hs6] at HMC
    have HME := Lib.hid (HMC.out.setL 4 (.bool wh) E room wh rfl)
    clear m0 m1 m2 m3 m4 f0 f1 f2 f3 f4
    obtain ⟨⟨m0, m1, m2, m3, m4⟩, f0, f1, f2, f3, f4⟩ := fvf_cells HMC.out.cl
    have C6 := Lib.hid (esEnd HME.out.eye)
    obtain ⟨ff, hff⟩ : ∃ ff, ff = endOf s6.1 s6.2 := ⟨_, rfl⟩
    rw [← hff] at HT C6
    clear hb kb C5 hwh hs6 hff
    go_wp2_with fail
    refine C6.out.mono ?_
    rintro e w' ⟨rfl, hq⟩
    subst hq
    clear m0 m1 m2 m3 m4 f0 f1 f2 f3 f4 C6
    generalize wb.setCell ⟨L, 4, none⟩ (.bool wh) = wx at *
    obtain ⟨⟨r0, r1, r2, r3, r4⟩, g0, g1, g2, g3, g4⟩ := fvf_cells (a0 := .int .i64 0) (a1 := .slice none 0 0) (a2 := .slice none 0 0) (a3 := .int .i64 0) (a4 := .bool false) HME.out.cr
    by_cases hf : ff = 0
    · rw [if_neg (by simp [hf])] at HT
      subst hf
      obtain ⟨⟨m0, m1, m2, m3, m4⟩, f0, f1, f2, f3, f4⟩ := fvf_cells HME.out.cl
      obtain ⟨ai, ci, rfl⟩ : ∃ a c, iv = .slice a A.length c := by
        rcases HME.out.row.2 with ⟨h1, h2⟩ | ⟨g, cap, cur, h1, _⟩
        · exact ⟨none, 0, by rw [h1, h2]⟩
        · exact ⟨_, cap, h1⟩
      have HFX := Lib.hid (set_fiv (a0 := .int .i64 0) (a1 := .slice none 0 0) (a2 := .slice none 0 0) (a3 := .int .i64 0) (a4 := .bool false) HME.out.cr (.int .i64 E) (.slice a7 bb.length c7) (.slice ai A.length ci) (.int .i64 room) (.bool wh))
      have HCX := Lib.hid (chg_fiv HME.out.eye.chg HME.out.newR (.int .i64 E) (.slice a7 bb.length c7) (.slice ai A.length ci) (.int .i64 room) (.bool wh))
      have HBX := Lib.hid HME.out.ends
      go_wp2_with fail
      refine bodyPost_ret (ret_rpo (e := E) (bv := .slice a7 bb.length c7) (iv := .slice ai A.length ci) (room := room) (wh := wh) rfl _ rfl rfl HFX.out) rfl ?_
      rw [HD.out, HT.out]
      exact ⟨_, rfl, HBX.out, HCX.out⟩
    · rw [if_pos hf] at HT
      have qf : (ff != 0) = true := by simp [hf]
      have HFX := Lib.hid (set_fiv (a0 := .int .i64 0) (a1 := .slice none 0 0) (a2 := .slice none 0 0) (a3 := .int .i64 0) (a4 := .bool false) HME.out.cr (.int .i64 0) (.slice none 0 0) (.slice none 0 0) (.int .i64 0) (.bool false))
      have HCX := Lib.hid (chg_fiv HME.out.eye.chg HME.out.newR (.int .i64 0) (.slice none 0 0) (.slice none 0 0) (.int .i64 0) (.bool false))
      clear hf
      go_wp2_with fail
      refine bodyPost_ret (ret_rpo (e := 0) (bv := .slice none 0 0) (iv := .slice none 0 0) (room := 0) (wh := false) rfl _ rfl rfl HFX.out) rfl ?_
      rw [HD.out, HT.out]
      exact ⟨_, rfl, ⟨_, _, rfl, BytesAt.nil _, by simp [Value.ownBlock], World.ownsRow_nil _ _ _ _⟩, HCX.out⟩

theorem REyeS.badc {K : List Nat} {w0 w : World} {b : Nat} {s : PB} (h : REyeS K w0 w b s) : w.cell? ⟨b, 1, none⟩ = some (.int .i64 s.2) := by
  obtain ⟨g, ⟨v, hb, _⟩, _⟩ := h.eye
  exact blk_cell hb 1 _ rfl

section
variable {K Y T : List Nat} {w0 w w' : World} {b : Nat} {s s' : PB}
theorem REyeS.wrote (h : REyeS K w0 w b s) (hc : Chg T w w') (hT : ∀ x ∈ T, x ∈ K ∧ w0.heap.size ≤ x) (hY : ∀ k ∈ Y, k ∈ K ∨ (w.heap.size ≤ k ∧ k < w'.heap.size)) : REyeS Y w0 w' b s := by
  obtain ⟨g, he, hg⟩ := h.eye
  have hb := he.blt
  obtain ⟨g', he', hg'⟩ := he.pick (w'.heap.size + b + 1) (by omega)
  have hz := hc.size
  have hgT : g' ∉ T := fun hm => by
    have h1 := h.lim g' (hT g' hm).1
    rcases hg' with ⟨rfl, _⟩ | rfl
    · exact hg (hT _ hm).1
    · omega
  refine ⟨⟨g', he'.keep hc (fun hm => h.own.2 (hT b hm).1) hgT, fun hm => ?_⟩, ⟨h.own.1, fun hm => ?_⟩, h.chg.trans hc (fun x hx => .inr (hT x hx).2), fun x hx => ?_⟩
  · rcases hg' with ⟨rfl, h1⟩ | rfl
    · rcases hY _ hm with h2 | h2
      · exact hg h2
      · omega
    · rcases hY _ hm with h2 | h2
      · have := h.lim _ h2; omega
      · omega
  · rcases hY _ hm with h2 | h2
    · exact h.own.2 h2
    · omega
  · rcases hY x hx with h2 | h2
    · exact Nat.lt_of_lt_of_le (h.lim x h2) hz
    · exact h2.2
theorem resRaw2 (h : REyeS K w0 w b s) : Calls Tryz.prog 62 #[.pointer (some ⟨b, 0, none⟩), .int .i64 65535] w fun e w' => ∃ v, e = .returned v ∧ REyeS (kB v (erV s) ++ K) w0 w' b (erS s) ∧ (∀ x ∈ K, w'.heap[x]? = w.heap[x]?) ∧ BRow w' v (erV s) ∧ (∀ k, v.ownBlock = some k → w.heap.size ≤ k) := by
  obtain ⟨g, he, hg⟩ := h.eye
  refine (rraw_any b g s.1 s.2 65535 w he (by omega)).mono ?_
  rintro e w' ⟨v, rfl, h1, h2, h3, h4⟩
  have hst := h.step (s' := erS s) hg h3 h4
  refine ⟨v, rfl, ?_, hst.2, h1, h2⟩
  by_cases hb : erV s = []
  · rw [hb, kB_nil]
    exact hst.1
  · have hs : s.1 ≠ [] := fun hs => hb (by unfold erV; rw [hs]; exact eyeRaw_nil _ _)
    have hgl : g < w.heap.size := by
      obtain ⟨v', _, hv', _⟩ := he
      rcases hv' with ⟨e, _⟩ | ⟨o, cap, e, _, _, hg', _⟩
      · exact absurd e hs
      · exact hg' 
    have hbl := he.blt
    refine ⟨⟨g, h3, fun hm => ?_⟩, ⟨hst.1.own.1, fun hm => ?_⟩, hst.1.chg, fun x hx => ?_⟩
    · rcases List.mem_append.1 hm with hm | hm
      · have := h2 g ((mem_kB hb).1 hm); omega
      · exact hg hm
    · rcases List.mem_append.1 hm with hm | hm
      · have := h2 b ((mem_kB hb).1 hm); omega
      · exact h.own.2 hm
    · rcases List.mem_append.1 hx with hm | hm
      · exact h1.lt x ((mem_kB hb).1 hm)
      · exact hst.1.lim x hm
/-- A reply that is being read: in block L; the result's own block is R. -/
structure RepR (w0 w : World) (b L R : Nat) (E : Int) (bb : List UInt8) (bv iv : Value) (A : List Id) (room : Int) (wh : Bool) (s : PB) : Prop where
  eye : REyeS (kB bv bb ++ (iv.ownBlock.toList ++ [L, R])) w0 w b s
  row : w.ownsRow w0.heap.size 38 4 iv A.length (A.flatMap idE)
  bytes : BytesAt w bv bb
  brow : bb ≠ [] → BRow w bv bb
  bnew : ∀ k, bv.ownBlock = some k → w0.heap.size ≤ k
  cl : w.heap[L]? = some (.cells #[.int .i64 E, bv, iv, .int .i64 room, .bool wh] 54 (0, 0))
  cr : w.heap[R]? = some (.cells zeroRp 54 (0, 0))
  newL : w0.heap.size ≤ L
  newR : w0.heap.size ≤ R
  ne : R ≠ L
variable {L R : Nat} {E room : Int} {bb : List UInt8} {bv iv : Value} {A : List Id} {wh : Bool}
theorem RepR.same (h : RepR w0 w b L R E bb bv iv A room wh s) (he : REyeS (kB bv bb ++ (iv.ownBlock.toList ++ [L, R])) w0 w' b s') (hk : ∀ x ∈ kB bv bb ++ (iv.ownBlock.toList ++ [L, R]), w'.heap[x]? = w.heap[x]?) : RepR w0 w' b L R E bb bv iv A room wh s' :=
  ⟨he, row_keep h.row (fun g hg => hk g (List.mem_append_right _ (List.mem_append_left _ (by simpa using hg)))), bytes_keepL h.bytes (fun hne g hg => hk g (List.mem_append_left _ ((mem_kB hne).2 hg))),
    fun hne => (h.brow hne).keep (fun g hg => hk g (List.mem_append_left _ ((mem_kB hne).2 hg))), h.bnew, keepO h.cl (hk L (by simp)), keepO h.cr (hk R (by simp)), h.newL, h.newR, h.ne⟩
theorem RepR.quiet (h : RepR w0 w b L R E bb bv iv A room wh s) (hc : Chg [] w w') : RepR w0 w' b L R E bb bv iv A room wh s :=
  h.same (h.eye.keepD hc) (fun x hx => hc.block x (h.eye.lim x hx) (by simp))
theorem RepR.notL (h : RepR w0 w b L R E bb bv iv A room wh s) : iv.ownBlock ≠ some L := row_ne h.row h.cl (by decide)
theorem RepR.notBL (h : RepR w0 w b L R E bb bv iv A room wh s) (hne : bb ≠ []) : bv.ownBlock ≠ some L := row_ne (h.brow hne) h.cl (by decide)
theorem RepR.notR (h : RepR w0 w b L R E bb bv iv A room wh s) : iv.ownBlock ≠ some R := row_ne h.row h.cr (by decide)
theorem RepR.notBR (h : RepR w0 w b L R E bb bv iv A room wh s) (hne : bb ≠ []) : bv.ownBlock ≠ some R := row_ne (h.brow hne) h.cr (by decide)
theorem RepR.setL (h : RepR w0 w b L R E bb bv iv A room wh s) (j : Nat) (u : Value) (E' room' : Int) (wh' : Bool) (hcs : (#[.int .i64 E, bv, iv, .int .i64 room, .bool wh] : Array Value).setIfInBounds j u = #[.int .i64 E', bv, iv, .int .i64 room', .bool wh']) :
    RepR w0 (w.setCell ⟨L, j, none⟩ u) b L R E' bb bv iv A room' wh' s := by
  have hs : ∀ g, g ≠ L → (w.setCell ⟨L, j, none⟩ u).heap[g]? = w.heap[g]? := fun g hg => Below.heap_setCell w ⟨L, j, none⟩ u g hg
  refine ⟨h.eye.set (N := L) (by simp) h.newL j u, row_keep h.row (fun g hg => hs g (fun e => h.notL (by rw [← e]; exact hg))), bytes_keepL h.bytes (fun hne g hg => hs g (fun e => h.notBL hne (by rw [← e]; exact hg))), fun hne => (h.brow hne).keep (fun g hg => hs g (fun e => h.notBL hne (by rw [← e]; exact hg))), h.bnew, ?_, blk_sets h.cr h.ne, h.newL, h.newR, h.ne⟩
  rw [← hcs]
  exact set_blk h.cl
theorem RepR.setB (h : RepR w0 w b L R E [] (.slice none 0 0) iv A room wh s) {v : Value} (he : REyeS (kB v bb ++ (kB (.slice none 0 0) [] ++ (iv.ownBlock.toList ++ [L, R]))) w0 w' b s') (hk : ∀ x ∈ kB (.slice none 0 0) [] ++ (iv.ownBlock.toList ++ [L, R]), w'.heap[x]? = w.heap[x]?) (hb : BRow w' v bb) (hn : ∀ k, v.ownBlock = some k → w.heap.size ≤ k) :
    RepR w0 (w'.setCell ⟨L, 1, none⟩ v) b L R E bb v iv A room wh s' := by
  rw [kB_nil, List.nil_append] at he hk
  have hl := blk_lt h.cl
  have hs : ∀ g, g ≠ L → (w'.setCell ⟨L, 1, none⟩ v).heap[g]? = w'.heap[g]? := fun g hg => Below.heap_setCell w' ⟨L, 1, none⟩ v g hg
  have hvL : ∀ g, v.ownBlock = some g → g ≠ L := fun g hg e => by have := hn g hg; omega
  refine ⟨he.set (N := L) (by simp) h.newL 1 v, row_keep h.row (fun g hg => (hs g (fun e => h.notL (by rw [← e]; exact hg))).trans (hk g (List.mem_append_left _ (by simpa using hg)))), hb.bytes.keep (fun g hg => hs g (hvL g hg)), fun _ => hb.keep (fun g hg => hs g (hvL g hg)), fun k hk => ?_, ?_, blk_sets (keepO h.cr (hk R (by simp))) h.ne, h.newL, h.newR, h.ne⟩
  · have := hn k hk
    have := h.eye.chg.size
    omega
  · exact set_blk (keepO h.cl (hk L (by simp)))
/-- One more id. -/
theorem RepR.snoc (h : RepR w0 w b L R E bb bv iv A room wh s) {x : Id} {g cap : Nat} (ho : w'.ownsRow w0.heap.size 38 4 (.slice (some ⟨g, 0, none⟩) (A.length + 1) cap) (A.length + 1) (A.flatMap idE ++ idE x)) (hg : w.grownBy w' iv.ownBlock) (hat : iv.ownBlock = some g ∨ g = w.heap.size + 1) :
    RepR w0 (w'.setCell ⟨L, 2, none⟩ (.slice (some ⟨g, 0, none⟩) (A.length + 1) cap)) b L R E bb bv (.slice (some ⟨g, 0, none⟩) (A.length + 1) cap) (A ++ [x]) room wh s ∧ w'.heap[L]? = w.heap[L]? := by
  have hc : Chg iv.ownBlock.toList w w' := (Chg.refl _ w).grown hg (fun k hk => .inl (by simp [hk]))
  have hLn : L ∉ iv.ownBlock.toList := fun hm => h.notL (by simpa using hm)
  have hRn : R ∉ iv.ownBlock.toList := fun hm => h.notR (by simpa using hm)
  have hL : w'.heap[L]? = w.heap[L]? := hc.block L (blk_lt h.cl) hLn
  have hR : w'.heap[R]? = w.heap[R]? := hc.block R (blk_lt h.cr) hRn
  have hgl := (World.ownsRow.lt ho g rfl)
  have hgL : g ≠ L := fun e => row_ne ho (L := L) (keepO h.cl hL) (by decide) (by rw [← e]; rfl)
  have hs : ∀ k, k ≠ L → (w'.setCell ⟨L, 2, none⟩ (.slice (some ⟨g, 0, none⟩) (A.length + 1) cap)).heap[k]? = w'.heap[k]? := fun k hk => Below.heap_setCell w' ⟨L, 2, none⟩ _ k hk
  have hbk : bb ≠ [] → ∀ k, bv.ownBlock = some k → w'.heap[k]? = w.heap[k]? := fun hne k hk => hc.block k ((h.brow hne).lt k hk) (fun hm => row_rows (h.brow hne) h.row (by decide) hk (by simpa using hm))
  refine ⟨⟨?_, ?_, ?_, ?_, h.bnew, ?_, blk_sets (keepO h.cr hR) h.ne, h.newL, h.newR, h.ne⟩, hL⟩
  · have he : REyeS (kB bv bb ++ ((Value.slice (some ⟨g, 0, none⟩) (A.length + 1) cap).ownBlock.toList ++ [L, R])) w0 w' b s := h.eye.wrote hc (fun x hx => ⟨List.mem_append_right _ (List.mem_append_left _ hx), (World.ownsRow.lt h.row x (by simpa using hx)).1⟩) (fun k hk => by
      rcases List.mem_append.1 hk with hk | hk
      · exact .inl (List.mem_append_left _ hk)
      · rcases List.mem_append.1 hk with hk | hk
        · obtain rfl : k = g := by simpa [Value.ownBlock] using hk
          rcases hat with hat | hat
          · exact .inl (List.mem_append_right _ (List.mem_append_left _ (by simpa using hat)))
          · exact .inr ⟨by omega, hgl.2⟩
        · exact .inl (List.mem_append_right _ (List.mem_append_right _ hk)))
    exact he.set (N := L) (by simp) h.newL 2 _
  · rw [List.length_append, List.flatMap_append]
    refine row_keep (v := .slice (some ⟨g, 0, none⟩) (A.length + 1) cap) (by simpa using ho) (fun k hk => hs k (fun e => ?_))
    obtain rfl : g = k := by simpa [Value.ownBlock] using hk
    exact hgL e
  · exact bytes_keepL h.bytes (fun hne k hk => (hs k (fun e => h.notBL hne (by rw [← e]; exact hk))).trans (hbk hne k hk))
  · exact fun hne => (h.brow hne).keep (fun k hk => (hs k (fun e => h.notBL hne (by rw [← e]; exact hk))).trans (hbk hne k hk))
  · exact set_blk (keepO h.cl hL)
/-- The end: the result's block is filled. -/
theorem RepR.ends (h : RepR w0 w b L R E bb bv iv A room wh s) : 
    RpAt w0 (((((w.setCell ⟨R, 0, none⟩ (.int .i64 E)).setCell ⟨R, 1, none⟩ bv).setCell ⟨R, 2, none⟩ iv).setCell ⟨R, 3, none⟩ (.int .i64 room)).setCell ⟨R, 4, none⟩ (.bool wh)) (rpV E bv iv room wh) ⟨E, bb, A, room, wh⟩ :=
  ⟨bv, iv, rfl, bytes_keepL h.bytes (fun hne g hg => same_fiv (fun e => h.notBR hne (by rw [← e]; exact hg)) _ _ _ _ _), h.bnew, row_keep h.row (fun g hg => same_fiv (fun e => h.notR (by rw [← e]; exact hg)) _ _ _ _ _)⟩
end
theorem ret_rpr {fn : Func} {p u : Tmp} (h : fn.results = #[.cell p 54, .tmp u]) (tmps : Array Value) {w : World} {b t : Nat} {e room : Int} {bv iv q : Value} {wh : Bool} (hp : tmps.getD p undef = .pointer (some ⟨b, 0, none⟩)) (hu : tmps.getD u undef = q) (hb : w.heap[b]? = some (.cells (rpL e bv iv room wh).toArray t (0, 0))) :
    (results fn tmps).run Tryz.prog w = .ok (.tuple #[rpV e bv iv room wh, q]) w := by
  have hl := run_loadVar_row (P := Tryz.prog) w b t 54 (rpL e bv iv room wh).toArray (0, 0) _ hb Tryz.underlying54 rfl (rrp_size _ _ _ _ _)
  rw [results_cell_tmp h, hp, hu]
  simp only [asAddr, Sem.run_pure, Result.andThen_ok, hl]
  rfl

set_option maxHeartbeats 16000000 in
set_option maxRecDepth 100000 in
theorem rsvdecr_any (v : Value) (l : List UInt8) (w : World) (hv : BytesAt w v l) (hl : l.length ≤ 1000000) : Calls Tryz.prog 31 #[v] w (DecRPost w (repDec l)) := by
  obtain ⟨R, hR⟩ : ∃ R, R = w.heap.size := ⟨_, rfl⟩
  obtain ⟨w1, hw1⟩ : ∃ w1, w1 = w.alloc (.cells zeroRp 54) := ⟨_, rfl⟩
  have hc1 : Chg [] w w1 := by rw [hw1]; exact (Chg.refl [] w).alloc _
  have hb1 : w1.heap[R]? = some (.cells zeroRp 54 (0, 0)) := by rw [hw1, hR]; exact heap_alloc_new w _
  have hs1 : w1.heap.size = R + 1 := by rw [hw1, hR]; simp
  obtain ⟨b, hbE0⟩ : ∃ b, b = R + 1 := ⟨_, rfl⟩
  obtain ⟨L, hLE⟩ : ∃ L, L = R + 1 + 1 := ⟨_, rfl⟩
  obtain ⟨w2, hw2⟩ : ∃ w2, w2 = w1.alloc (.cells #[v, .int .i64 0] 127) := ⟨_, rfl⟩
  have hc2 : Chg [] w1 w2 := by rw [hw2]; exact (Chg.refl [] w1).alloc _
  have hbE : w2.heap[b]? = some (.cells #[v, .int .i64 0] 127 (0, 0)) := by rw [hw2, hbE0, ← hs1]; exact heap_alloc_new w1 _
  have hs2 : w2.heap.size = R + 2 := by rw [hw2]; simp [hs1]
  obtain ⟨w3, hw3⟩ : ∃ w3, w3 = w2.alloc (.cells #[.int .i64 0, .slice none 0 0, .slice none 0 0, .int .i64 0, .bool false] 54) := ⟨_, rfl⟩
  have hc3 : Chg [] w2 w3 := by rw [hw3]; exact (Chg.refl [] w2).alloc _
  have hbL : w3.heap[L]? = some (.cells zeroRp 54 (0, 0)) := by rw [hw3, hLE, show R + 1 + 1 = R + 2 from rfl, ← hs2]; exact heap_alloc_new w2 _
  obtain ⟨g, hev, hgg⟩ := hv.rseye (R + 7)
  have hc12 : Chg [] w w2 := hc1.trans hc2 (by simp)
  have h2 : REyeS [R] w w2 b (l, 0) := ⟨⟨g, ⟨v, hbE, hev.keepC hc12 (by simp), by omega, hl⟩, by simp; omega⟩, ⟨by omega, by simp; omega⟩, hc12, fun x hx => by rw [List.mem_singleton.1 hx]; omega⟩
  obtain ⟨a, cap, rfl⟩ := hv.slice
  have h3 : REyeS [L, R] w w3 b (l, 0) := h2.add hc3 (fun k hk => by
    simp at hk
    rcases hk with rfl | rfl
    · exact .inr ⟨by omega, blk_lt hbL⟩
    · exact .inl (by simp))
  have HM3 : Hid (RepR w w3 b L R 0 [] (.slice none 0 0) (.slice none 0 0) [] 0 false (l, 0)) := Lib.hid ⟨by simpa [kB, Value.ownBlock] using h3, World.ownsRow_nil _ _ _ _, BytesAt.nil _, fun h => absurd rfl h, by simp [Value.ownBlock], hbL, (hc2.trans hc3 (by simp)).keep hb1 (by simp), by omega, by omega, by omega⟩
  have HW1 := Lib.hid hw1
  have HW2 := Lib.hid hw2
  have HW3 := Lib.hid hw3
  have HLE2 : Hid (R + 1 + 1 = L) := Lib.hid hLE.symm
  have HBE : Hid (R + 1 = b) := Lib.hid hbE0.symm
  have HR := Lib.hid hR
  have HD0 := Lib.hid (repDec_ref l _ rfl)
  have C1 := Lib.hid (resNum HM3.out.eye 1 (by omega) (by omega))
  clear hb1 hc1 hw1 hR hs1 hv hbE0 hLE hw2 hc2 hbE hs2 hw3 hc3 hbL hev hgg hc12 h2 h3
  go_enter Tryz.func31, Tryz.ntmps31
  go_wp2_with fail
  rw [show (w.alloc (.cells #[.int .i64 0, .slice none 0 0, .slice none 0 0, .int .i64 0, .bool false] 54)) = w1 from HW1.out.symm, ← HW2.out, ← HW3.out]
  try rw [← HR.out]
  rw [HLE2.out, HBE.out]
  refine C1.out.mono ?_
  rintro e w4 ⟨rfl, h4, k4⟩
  have HM4 := Lib.hid (HM3.out.same h4 k4)
  obtain ⟨E, hE⟩ : ∃ E, E = enV (l, 0) 1 := ⟨_, rfl⟩
  rw [← hE]
  have HEE := Lib.hid hE
  have HM5 := Lib.hid (HM4.out.setL 0 (.int .i64 E) E 0 false rfl)
  obtain ⟨⟨m0, m1, m2, m3, m4⟩, f0, f1, f2, f3, f4⟩ := fvf_cells HM4.out.cl
  clear h4 k4 C1 hE
  obtain ⟨s0, hs0⟩ : ∃ s0, s0 = enS (l, 0) 1 := ⟨_, rfl⟩
  rw [← hs0] at HM5
  rw [← HEE.out, ← hs0] at HD0
  obtain ⟨q18, hq18⟩ : ∃ q, q = decide (18 < E) := ⟨_, rfl⟩
  have hq7 : decide (E > 18) = q18 := hq18.symm
  rw [← hq18] at HD0
  have CF := Lib.hid (resForm HM5.out.eye q18)
  have HQ := Lib.hid hq18
  obtain ⟨s1, hs1⟩ : ∃ s1 : PB, s1 = (s0.1, if q18 = true ∧ s0.2 = 0 then 4 else s0.2) := ⟨_, rfl⟩
  rw [← hs1] at CF HD0
  have HD := HD0
  clear hs1 hs0 hq18 HM4
  go_wp2_with fail
  refine CF.out.mono ?_
  rintro e w5 ⟨rfl, h5, k5⟩
  have HM6 := Lib.hid (HM5.out.same h5 k5)
  clear m0 m1 m2 m3 m4 f0 f1 f2 f3 f4 CF h5 k5 hq7
  obtain ⟨⟨m0, m1, m2, m3, m4⟩, f0, f1, f2, f3, f4⟩ := fvf_cells HM6.out.cl
  have C2 := Lib.hid (resRaw2 HM6.out.eye)
  go_wp2_with fail
  refine C2.out.mono ?_
  rintro e w7 ⟨v7, rfl, h7, k7, hb7, hn7⟩
  have HCL7 := Lib.hid (keepO HM6.out.cl (k7 L (by simp)))
  have HM8 := Lib.hid (HM6.out.setB h7 k7 hb7 hn7)
  obtain ⟨s2, hs2⟩ : ∃ s2, s2 = erS s1 := ⟨_, rfl⟩
  obtain ⟨bb, hbb⟩ : ∃ bb, bb = erV s1 := ⟨_, rfl⟩
  rw [← hbb] at hb7
  rw [← hs2, ← hbb] at HD HM8
  obtain ⟨a7, c7, rfl⟩ := hb7.slice
  clear m0 m1 m2 m3 m4 f0 f1 f2 f3 f4 h7 k7 hb7 hn7 C2 hs2 hbb HM6
  obtain ⟨⟨m0, m1, m2, m3, m4⟩, f0, f1, f2, f3, f4⟩ := fvf_cells HCL7.out
  have C3 := Lib.hid (resNum HM8.out.eye 2 (by omega) (by omega))
  go_wp2_with fail
  refine C3.out.mono ?_
  rintro e w9 ⟨rfl, h9, k9⟩
  have HM9 := Lib.hid (HM8.out.same h9 k9)
  obtain ⟨s3, hs3⟩ : ∃ s3, s3 = enS s2 2 := ⟨_, rfl⟩
  obtain ⟨n, hn, hn16⟩ := enV_rng s2
  rw [hn]
  rw [hn, Int.toNat_natCast, ← hs3] at HD
  rw [← hs3] at HM9
  clear m0 m1 m2 m3 m4 f0 f1 f2 f3 f4 h9 k9 C3 hs3 hn HM8 HCL7
  go_wp2_with fail
  go_loopg [7, 8] n (fun g' s7 s8 wr => ∃ (i : Nat) (A : List Id) (s : PB) (iv : Value), s7 = .int .i64 (i : Int) ∧ i ≤ n ∧ n ≤ i + g' ∧ A.length ≤ i ∧ Hid (GiAt n s3 A (n - i) s) ∧ Hid (RepR w wr b L R E bb (.slice a7 bb.length c7) iv A 0 false s))
  case atStart => exact ⟨0, [], s3, _, rfl, by omega, by omega, by simp, Lib.hid (GiAt.new n s3), HM9⟩
  case round =>
  obtain ⟨i, A, s, iv, rfl, hi, hig, hAl, HG, HM⟩ := hrel
  clear HM9
  have hbc := HM.out.eye.badc
  obtain ⟨bad, hbad⟩ : ∃ bad, bad = s.2 := ⟨_, rfl⟩
  rw [← hbad] at hbc
  have HBAD := Lib.hid hbad
  clear hbad
  by_cases hlt : i < n ∧ bad = 0
  · obtain ⟨hlt, hb0⟩ := hlt
    subst hb0
    have hiz : (i : Int) < (n : Int) := by omega
    obtain ⟨k, hk⟩ : ∃ k, n - i = k + 1 := ⟨n - i - 1, by omega⟩
    rw [hk] at HG
    have HGF := Lib.hid (fun h => HG.out.fail h k)
    have HGO := Lib.hid (fun h => HG.out.ok h)
    have C := Lib.hid (resGetId HM.out.eye)
    have hk' : n - (i + 1) = k := by omega
    have HK' := Lib.hid hk'
    clear hk hk' HG
    go_wp2_with fail
    refine C.out.mono ?_
    rintro e wg ⟨rfl, hg, kg⟩
    have HMG := Lib.hid (HM.out.same hg kg)
    obtain ⟨s', hs'⟩ : ∃ s', s' = giS s := ⟨_, rfl⟩
    obtain ⟨x, hx⟩ : ∃ x, x = giV s := ⟨_, rfl⟩
    rw [← hx, ← hs'] at HGO
    rw [← hs'] at HGF HMG
    rw [← hx]
    clear hg kg C hs' hx HM hbc HBAD
    obtain ⟨xc, xl, xn, xi⟩ := x
    obtain ⟨wA, hwA⟩ : ∃ wA, wA = wg.alloc (.cells #[.int .i64 xc, .int .i64 xl, .int .i64 xn, .int .i64 xi] 38) := ⟨_, rfl⟩
    have hcA : Chg [] wg wA := by rw [hwA]; exact (Chg.refl [] wg).alloc _
    have hbA : wA.heap[wg.heap.size]? = some (.cells (idC ⟨xc, xl, xn, xi⟩) 38 (0, 0)) := by rw [hwA]; exact heap_alloc_new wg _
    have HMA := Lib.hid (HMG.out.quiet hcA)
    have hbc := HMA.out.eye.badc
    have hbc2 : (wg.alloc (.cells #[.int .i64 xc, .int .i64 xl, .int .i64 xn, .int .i64 xi] 38)).cell? ⟨b, 1, none⟩ = some (.int .i64 s'.2) := by rw [← hwA]; exact hbc
    obtain ⟨bad', hbad⟩ : ∃ bad', bad' = s'.2 := ⟨_, rfl⟩
    rw [← hbad] at HGO HGF hbc hbc2
    have HBD := Lib.hid hbad
    obtain ⟨x0, x1, x2, x3⟩ := id_cells hbA
    have HWA := Lib.hid hwA
    have hsz := HMA.out.eye.chg.size
    have HSZ := Lib.hid hsz
    clear hwA hcA hbA hsz hbad
    go_upto_region 11 with (fail)
    rw [← HWA.out]
    clear hbc2
    obtain ⟨⟨m0, m1, m2, m3, m4⟩, f0, f1, f2, f3, f4⟩ := fvf_cells HMA.out.cl
    by_cases hb0 : bad' = 0
    · have HG2 := Lib.hid (HGO.out hb0)
      subst hb0
      obtain ⟨ai, ci, hiv⟩ : ∃ a c, iv = .slice a A.length c := by
        rcases HMA.out.row.2 with ⟨h1, h2⟩ | ⟨g, cap, cur, h1, _⟩
        · exact ⟨none, 0, by rw [h1, h2]⟩
        · exact ⟨_, cap, h1⟩
      have hro := HMA.out.row
      subst hiv
      have hl16 : A.length ≤ 65535 := by omega
      go_wp2_with (at_builtin; go_loud (refine wpList_app1L rfl _ _ _ rfl w.heap.size elIds _ _ _ rfl hro 1 #[.int .i64 xc, .int .i64 xl, .int .i64 xn, .int .i64 xi] rfl rfl (by intro u hu; simp at hu; rcases hu with rfl | rfl | rfl | rfl <;> rfl) (by unfold maxLen; omega) (by omega) HSZ.out ?_); intro g7 cap7 w7 ho7 hg7 hat7; refine stopT_of ?_)
      obtain ⟨hsn, hL7⟩ := HMA.out.snoc (x := ⟨xc, xl, xn, xi⟩) ho7 hg7 hat7
      have HSN := Lib.hid hsn
      have HCL := Lib.hid (keepO HMA.out.cl hL7)
      clear m0 m1 m2 m3 m4 f0 f1 f2 f3 f4 ho7 hg7 hat7 hL7 hsn hro x0 x1 x2 x3 hbc
      obtain ⟨⟨m0, m1, m2, m3, m4⟩, f0, f1, f2, f3, f4⟩ := fvf_cells HCL.out
      unfold StopT
      go_wp2_with fail
      go_roundg (gk - 1)
      case measure => omega
      case rel => exact ⟨i + 1, A ++ [⟨xc, xl, xn, xi⟩], s', _, by go_num, by omega, by omega, by simp; omega, by rw [HK'.out]; exact HG2, HSN⟩
    · have qb : (bad' == 0) = false := by simp [hb0]
      have HG2 := Lib.hid (HGF.out hb0)
      clear hb0
      go_wp2_with fail
      go_roundg (gk - 1)
      case measure => omega
      case rel => exact ⟨i + 1, A, s', _, by go_num, by omega, by omega, by omega, by rw [HK'.out]; exact HG2, HMA⟩
  have hgd := HG.out.done (by
    rw [← HBAD.out]
    rcases Nat.lt_or_ge i n with h | h
    · exact .inr (fun e => hlt ⟨h, e⟩)
    · exact .inl (by omega))
  rw [hgd] at HD
  have HLT := Lib.hid hlt
  obtain ⟨⟨m0, m1, m2, m3, m4⟩, f0, f1, f2, f3, f4⟩ := fvf_cells HM.out.cl
  clear hgd HG hlt
  go_upto_region 8 with (fail)
  go_cut [36] (fun s36 wx => s36 = .bool false ∧ wx = wr)
  case first =>
    by_cases hin : i < n
    · have hiz : (i : Int) < (n : Int) := by omega
      have qb : (bad == 0) = false := by
        have := fun e => HLT.out ⟨hin, e⟩
        simpa using this
      go_wp2_with fail
      go_meet
      exact ⟨rfl, rfl⟩
    · have hiz : ¬ (i : Int) < (n : Int) := by omega
      go_wp2_with fail
      go_meet
      exact ⟨rfl, rfl⟩
  case rest =>
  obtain ⟨rfl, hwc⟩ := hcut
  rw [hwc]
  clear hwc hbc
  have C4 := Lib.hid (resNum HM.out.eye 2 (by omega) (by omega))
  go_wp2_with fail
  refine C4.out.mono ?_
  rintro e wa ⟨rfl, ha, ka⟩
  have HMA := Lib.hid (HM.out.same ha ka)
  obtain ⟨room, hroom⟩ : ∃ room, room = enV s 2 := ⟨_, rfl⟩
  obtain ⟨s5, hs5⟩ : ∃ s5, s5 = enS s 2 := ⟨_, rfl⟩
  have HT : Hid (repTail E bb (A, s) = if endOf (ebS s5).1 (ebS s5).2 ≠ 0 then (noRp, endOf (ebS s5).1 (ebS s5).2) else (⟨E, bb, A, room, ebV s5⟩, 0)) := Lib.hid (by rw [hroom, hs5]; rfl)
  rw [← hs5] at HMA
  rw [← hroom]
  have HMB := Lib.hid (HMA.out.setL 3 (.int .i64 room) E room false rfl)
  obtain ⟨⟨m0, m1, m2, m3, m4⟩, f0, f1, f2, f3, f4⟩ := fvf_cells HMA.out.cl
  have C5 := Lib.hid (resBool HMB.out.eye)
  clear ha ka C4 hroom hs5
  go_wp2_with fail
  refine C5.out.mono ?_
  rintro e wb ⟨rfl, hb, kb⟩
  have HMC := Lib.hid (HMB.out.same hb kb)
  obtain ⟨wh, hwh⟩ : ∃ wh, wh = ebV s5 := ⟨_, rfl⟩
  obtain ⟨s6, hs6⟩ : ∃ s6, s6 = ebS s5 := ⟨_, rfl⟩
  rw [← hwh, ← hs6] at HT
  rw [← hwh]
  rw [← hs6] at HMC
  have HME := Lib.hid (HMC.out.setL 4 (.bool wh) E room wh rfl)
  clear m0 m1 m2 m3 m4 f0 f1 f2 f3 f4
  obtain ⟨⟨m0, m1, m2, m3, m4⟩, f0, f1, f2, f3, f4⟩ := fvf_cells HMC.out.cl
  have C6 := Lib.hid (resEnd HME.out.eye)
  obtain ⟨ff, hff⟩ : ∃ ff, ff = endOf s6.1 s6.2 := ⟨_, rfl⟩
  rw [← hff] at HT C6
  clear hb kb C5 hwh hs6 hff
  go_wp2_with fail
  refine C6.out.mono ?_
  rintro e w' ⟨rfl, hq⟩
  subst hq
  clear m0 m1 m2 m3 m4 f0 f1 f2 f3 f4 C6
  generalize wb.setCell ⟨L, 4, none⟩ (.bool wh) = wx at *
  obtain ⟨⟨r0, r1, r2, r3, r4⟩, g0, g1, g2, g3, g4⟩ := fvf_cells (a0 := .int .i64 0) (a1 := .slice none 0 0) (a2 := .slice none 0 0) (a3 := .int .i64 0) (a4 := .bool false) HME.out.cr
  by_cases hf : ff = 0
  · rw [if_neg (by simp [hf])] at HT
    subst hf
    obtain ⟨⟨m0, m1, m2, m3, m4⟩, f0, f1, f2, f3, f4⟩ := fvf_cells HME.out.cl
    obtain ⟨ai, ci, rfl⟩ : ∃ a c, iv = .slice a A.length c := by
      rcases HME.out.row.2 with ⟨h1, h2⟩ | ⟨g, cap, cur, h1, _⟩
      · exact ⟨none, 0, by rw [h1, h2]⟩
      · exact ⟨_, cap, h1⟩
    have HFX := Lib.hid (set_fiv (a0 := .int .i64 0) (a1 := .slice none 0 0) (a2 := .slice none 0 0) (a3 := .int .i64 0) (a4 := .bool false) HME.out.cr (.int .i64 E) (.slice a7 bb.length c7) (.slice ai A.length ci) (.int .i64 room) (.bool wh))
    have HCX := Lib.hid (chg_fiv HME.out.eye.chg HME.out.newR (.int .i64 E) (.slice a7 bb.length c7) (.slice ai A.length ci) (.int .i64 room) (.bool wh))
    have HBX := Lib.hid HME.out.ends
    go_wp2_with fail
    refine bodyPost_ret (ret_rpr (e := E) (bv := .slice a7 bb.length c7) (iv := .slice ai A.length ci) (room := room) (wh := wh) rfl _ rfl rfl HFX.out) rfl ?_
    rw [HD.out, HT.out]
    exact ⟨_, rfl, HBX.out, HCX.out⟩
  · rw [if_pos hf] at HT
    have qf : (ff != 0) = true := by simp [hf]
    have HFX := Lib.hid (set_fiv (a0 := .int .i64 0) (a1 := .slice none 0 0) (a2 := .slice none 0 0) (a3 := .int .i64 0) (a4 := .bool false) HME.out.cr (.int .i64 0) (.slice none 0 0) (.slice none 0 0) (.int .i64 0) (.bool false))
    have HCX := Lib.hid (chg_fiv HME.out.eye.chg HME.out.newR (.int .i64 0) (.slice none 0 0) (.slice none 0 0) (.int .i64 0) (.bool false))
    clear hf
    go_wp2_with fail
    refine bodyPost_ret (ret_rpr (e := 0) (bv := .slice none 0 0) (iv := .slice none 0 0) (room := 0) (wh := false) rfl _ rfl rfl HFX.out) rfl ?_
    rw [HD.out, HT.out]
    exact ⟨_, rfl, ⟨_, _, rfl, BytesAt.nil _, by simp [Value.ownBlock], World.ownsRow_nil _ _ _ _⟩, HCX.out⟩
end Go.Proofs.YtdkhmfcfihbjeaaGreatDoor.W
