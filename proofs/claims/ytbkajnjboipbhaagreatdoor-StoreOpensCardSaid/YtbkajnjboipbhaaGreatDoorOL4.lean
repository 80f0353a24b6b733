/- Texts laid together. -/
import Derived.Test.YtbkajnjboipbhaaGreatDoorOL3
import Derived.WideKeyEntry
import Derived.Maps.AppendAt
import Derived.Deep.QuietTactic
import Derived.BigQuiet
import Derived.Test.YtbkajnjboipbhaaGreatDoorOL1
import Derived.Shelf.SlSortCmp.NoneTotal
import Derived.Lib.Bytealg
import Derived.Ground.SlsfProg
import Derived.Shelf.Small.Utf8
import Derived.Shelf.Small.Bits
import Derived.Shelf.Strconv.Itoa0
import Derived.Test.YtbkajnjboipbhaaGreatDoorProg
/- Package store, plainly; where a store lies in memory. -/
namespace Go.Proofs.YtbkajnjboipbhaaGreatDoor.W
open Go.RowKit
set_option linter.unusedVariables false
set_option linter.unusedSimpArgs false
variable {G : List Nat}

/-! ### Plainly -/
structure Sto where
  s : SS
  whole : Bool
def rowIs (rows : List SRow) (k : List UInt8) (j : Nat) : Bool := (rows.getD j noRow).used && decide ((rows.getD j noRow).key = k)
/-- The slots ahead of the i-th that have a key. -/
def upto (rows : List SRow) (i : Nat) (k : List UInt8) : List Nat := (List.range i).filter (rowIs rows k)
theorem upto_succ (rows : List SRow) (i : Nat) (k : List UInt8) : upto rows (i + 1) k = upto rows i k ++ if rowIs rows k i then [i] else [] := by
  unfold upto
  rw [List.range_succ, List.filter_append]
  congr 1
  by_cases h : rowIs rows k i = true <;> simp [h]
theorem upto_len (rows : List SRow) (i : Nat) (k : List UInt8) : (upto rows i k).length ≤ i := by
  have := List.length_filter_le (rowIs rows k) (List.range i)
  rwa [List.length_range] at this
theorem upto_mem {rows : List SRow} {i : Nat} {k : List UInt8} {j : Nat} : j ∈ upto rows i k ↔ j < i ∧ (rows.getD j noRow).used = true ∧ (rows.getD j noRow).key = k := by
  unfold upto rowIs
  rw [List.mem_filter, List.mem_range, Bool.and_eq_true, decide_eq_true_eq]
def Sto.at (t : Sto) (x : Id) : List Nat := if mayId x = true then upto t.s.rows t.s.rows.length (idKey x) else []
theorem Sto.at_may {t : Sto} {x : Id} (h : mayId x = true) : t.at x = upto t.s.rows t.s.rows.length (idKey x) := by unfold Sto.at; rw [if_pos h]
theorem Sto.at_not {t : Sto} {x : Id} (h : mayId x = false) : t.at x = [] := by unfold Sto.at; rw [if_neg (by rw [h]; simp)]
def keysOk (rows : List SRow) : Prop := ∀ r ∈ rows, r.used = true → unOk r.key = true
def stKeys (rows : List SRow) : Bool := rows.all (fun r => !r.used || unOk r.key)
theorem stKeys_iff {rows : List SRow} : stKeys rows = true ↔ keysOk rows := by
  unfold stKeys keysOk
  rw [List.all_eq_true]
  constructor
  · intro h r hr hu
    have := h r hr
    simpa [hu] using this
  · intro h r hr
    cases hu : r.used with
    | false => rfl
    | true => rw [h r hr hu]; rfl
def DS.stOpen (d : DS) : Int × Option Sto :=
  if d.n < 9 then (1, none) else if d.dead then (14, none) else
  if (((d.now 0).getD 0 0 ≠ 1 ∧ (d.now 0).getD 0 0 ≠ 2) ∨ allZ ((d.now 0).drop 1) = false) then (4, none) else
  match (d.slots 1).2 with
  | none => ((d.slots 1).1, none)
  | some s => if stKeys s.rows then (0, some ⟨s, (d.now 0).getD 0 0 == 2⟩) else (4, none)
def DS.wipe (d : DS) : Nat → Nat → Int × DS
  | 0, _ => d.sync
  | k + 1, a => if (d.write (a : Nat) (zeros 64)).1 ≠ 0 then d.write (a : Nat) (zeros 64) else (d.write (a : Nat) (zeros 64)).2.wipe k (a + 8)
theorem DS.wipe_ok : ∀ (k a : Nat) (d : DS), (d.wipe k a).2.n = d.n ∧ (d.wipe k a).2.ops ≤ d.ops + k + 1 ∧ (d.wipe k a).2.since.length ≤ d.since.length + k
  | 0, a, d => by
    obtain ⟨h1, h2, h3⟩ := d.sync_ok
    exact ⟨h1, by simpa [DS.wipe] using h2, by simpa [DS.wipe] using h3⟩
  | k + 1, a, d => by
    obtain ⟨h1, h2, h3⟩ := d.write_ok (a : Nat) (zeros 64)
    obtain ⟨g1, g2, g3⟩ := DS.wipe_ok k (a + 8) (d.write (a : Nat) (zeros 64)).2
    unfold DS.wipe
    split
    · exact ⟨h1, by omega, by omega⟩
    · exact ⟨by rw [g1, h1], by omega, by omega⟩
def DS.fmt1 (d : DS) : Int × DS := d.wipe ((d.n - 1) / 8) 1
def DS.fmt2 (d : DS) : Int × DS := d.fmt1.2.sign 1
def DS.format (d : DS) : (Int × Option Sto) × DS :=
  if d.n < 9 then ((1, none), d) else if d.fmt1.1 ≠ 0 then ((d.fmt1.1, none), d.fmt1.2) else if d.fmt2.1 ≠ 0 then ((d.fmt2.1, none), d.fmt2.2) else (d.fmt2.2.stOpen, d.fmt2.2)
def Sto.put (t : Sto) (x : Id) (b : List UInt8) : Int × Sto :=
  if mayId x = false then (1, t) else if 448 < b.length then (3, t) else
  match t.at x with
  | i :: _ => if (t.s.get i).2 ≠ 0 then ((t.s.get i).2, t) else if (t.s.get i).1 = b then (0, t) else (7, t)
  | [] => if t.s.free < 0 then (5, t) else ((t.s.put t.s.free (idKey x) b).1, { t with s := (t.s.put t.s.free (idKey x) b).2 })
def Sto.get (t : Sto) (x : Id) : List UInt8 × Int :=
  if mayId x = false then ([], 1) else match t.at x with
  | [] => ([], 6)
  | i :: _ => t.s.get i
def SS.clears (s : SS) : List Nat → Int × SS
  | [] => (0, s)
  | i :: r => if (s.clear i).1 ≠ 0 then s.clear i else (s.clear i).2.clears r
def Sto.del (t : Sto) (x : Id) : Int × Sto := if mayId x = false then (1, t) else ((t.s.clears (t.at x)).1, { t with s := (t.s.clears (t.at x)).2 })
def Sto.room (t : Sto) : Nat := t.s.rows.countP (fun r => !r.used)
/-! ### In memory -/
def IntsAt (w : World) (v : Value) (l : List Nat) : Prop := ∃ a cap, v = .slice a l.length cap ∧ l.length ≤ cap ∧ cap ≤ maxLen ∧ (l ≠ [] → ∃ g o, a = some ⟨g, o, none⟩ ∧ ∀ i, i < l.length → w.cell? ⟨g, o + i, none⟩ = some (.int .i64 ((l.getD i 0 : Nat) : Int)))
theorem IntsAt.keep {w w' : World} {v : Value} {l : List Nat} (h : IntsAt w v l) (hb : ∀ g, v.ownBlock = some g → w'.heap[g]? = w.heap[g]?) : IntsAt w' v l := by
  obtain ⟨a, cap, rfl, h1, h2, h3⟩ := h
  refine ⟨a, cap, rfl, h1, h2, fun hn => ?_⟩
  obtain ⟨g, o, rfl, h4⟩ := h3 hn
  refine ⟨g, o, rfl, fun i hi => ?_⟩
  rw [← h4 i hi]
  simp only [World.cell?, hb g rfl]
/-- What the map has at an id. -/
def IdsAt (w : World) (U : List Nat) (o : Option Value) (l : List Nat) : Prop := (l = [] ∧ o = none) ∨ (l ≠ [] ∧ ∃ v, o = some v ∧ IntsAt w v l ∧ ∀ g, v.ownBlock = some g → g < w.heap.size ∧ g ∉ U)
theorem IdsAt.keep {w w' : World} {U U' T : List Nat} {o : Option Value} {l : List Nat} (h : IdsAt w U o l) (hc : Chg T w w') (hT : ∀ x ∈ T, x ∈ U ∨ w.heap.size ≤ x) (hU : ∀ x ∈ U', x ∈ U ∨ w.heap.size ≤ x) : IdsAt w' U' o l := by
  rcases h with h | ⟨h1, v, h2, h3, h4⟩
  · exact .inl h
  · refine .inr ⟨h1, v, h2, h3.keep fun g hg => ?_, fun g hg => ⟨Nat.lt_of_lt_of_le (h4 g hg).1 hc.size, fun hm => ?_⟩⟩
    · obtain ⟨k1, k2⟩ := h4 g hg
      refine hc.block g k1 (fun hm => ?_)
      rcases hT g hm with h | h
      · exact k2 h
      · omega
    · obtain ⟨k1, k2⟩ := h4 g hg
      rcases hU g hm with h | h
      · exact k2 h
      · omega
/-- No block of G is one of the map's values. -/
def Far (G : List Nat) (w : World) (φ : Id → Option Value) : Prop := ∀ x ∈ G, x < w.heap.size ∧ ∀ y v, okD y → φ y = some v → v.ownBlock ≠ some x
theorem Far.mono {G : List Nat} {w w' : World} {φ : Id → Option Value} (h : Far G w φ) (hs : w.heap.size ≤ w'.heap.size) : Far G w' φ := fun x hx => ⟨Nat.lt_of_lt_of_le (h x hx).1 hs, (h x hx).2⟩
theorem Far.upd {G : List Nat} {w : World} {φ : Id → Option Value} (h : Far G w φ) (x : Id) {v : Value} (hv : ∀ k ∈ G, v.ownBlock ≠ some k) : Far G w (updF φ x v) := fun k hk => ⟨(h k hk).1, fun y u hy hu => by
  by_cases e : y = x
  · subst e
    rw [updF_self] at hu
    obtain rfl := Option.some.inj hu
    exact hv k hk
  · rw [updF_other _ _ e] at hu
    exact (h k hk).2 y u hy hu⟩
theorem Far.del {G : List Nat} {w : World} {φ : Id → Option Value} (h : Far G w φ) (x : Id) : Far G w (delF φ x) := fun k hk => ⟨(h k hk).1, fun y u hy hu => by
  by_cases e : y = x
  · subst e
    rw [delF_self] at hu
    cases hu
  · rw [delF_other _ e] at hu
    exact (h k hk).2 y u hy hu⟩
structure StOk (G : List Nat) (w : World) (q p sp mb : Nat) (Us : List Nat) (φ : Id → Option Value) (N : Nat) (t : Sto) : Prop where
  head : w.heap[q]? = some (.cells #[.pointer (some ⟨p, 0, none⟩), .pointer (some ⟨sp, 0, none⟩), .map (some mb), .bool t.whole] 100 (0, 0))
  slots : SlotsAt w sp p Us t.s
  map : MapF 25 klD okD w mb φ N
  apart : q ∉ Us ∧ mb ∉ Us
  vals : ∀ x, okD x → IdsAt w (q :: mb :: Us) (φ x) (t.at x)
  ok : keysOk t.s.rows
  far : Far G w φ
def StAt (G : List Nat) (w : World) (q p : Nat) (U : List Nat) (t : Sto) : Prop := ∃ sp mb Us φ N, StOk G w q p sp mb Us φ N t ∧ U = q :: mb :: Us
theorem ne_blk {w : World} {q mb t N : Nat} {cs : Array Value} {φ : Id → Option Value} (h : w.heap[q]? = some (.cells cs t (0, 0))) (hm : MapF 25 klD okD w mb φ N) : q ≠ mb := fun e => by
  obtain ⟨es, clock, h2⟩ := hm.obj
  rw [e, h2] at h
  cases h
theorem SlotsAt.uL {w : World} {q p : Nat} {U : List Nat} {s : SS} (h : SlotsAt w q p U s) : ∀ x ∈ U, x < w.heap.size := by
  obtain ⟨S, rv, R, h⟩ := h
  exact h.uL
theorem StAt.lim {w : World} {q p : Nat} {U : List Nat} {t : Sto} (h : StAt G w q p U t) : ∀ x ∈ U, x < w.heap.size := by
  obtain ⟨sp, mb, Us, φ, N, h, rfl⟩ := h
  intro x hx
  rcases List.mem_cons.1 hx with rfl | hx
  · exact blk_lt h.head
  · rcases List.mem_cons.1 hx with rfl | hx
    · exact h.map.lt
    · exact h.slots.uL x hx
theorem StOk.keep0 {w w' : World} {q p sp mb : Nat} {Us : List Nat} {φ : Id → Option Value} {N : Nat} {t : Sto} (h : StOk G w q p sp mb Us φ N t) (hc : Chg [] w w') : StOk G w' q p sp mb Us φ N t :=
  ⟨hc.keep h.head (by simp), h.slots.keep0 hc, h.map.chg hc (by simp), h.apart, fun x hx => (h.vals x hx).keep hc (by simp) (fun y hy => .inl hy), h.ok, h.far.mono hc.size⟩
theorem StAt.keep0 {w w' : World} {q p : Nat} {U : List Nat} {t : Sto} (h : StAt G w q p U t) (hc : Chg [] w w') : StAt G w' q p U t := by
  obtain ⟨sp, mb, Us, φ, N, h, rfl⟩ := h
  exact ⟨sp, mb, Us, φ, N, h.keep0 hc, rfl⟩
/-- What doing with a store leaves. -/
def Std (G : List Nat) (w w' : World) (q p : Nat) (U : List Nat) (t : Sto) : Prop := ∃ U', StAt G w' q p U' t ∧ (∀ x ∈ U', x ∈ U ∨ w.heap.size ≤ x) ∧ Chg U w w'
theorem Std.same {w : World} {q p : Nat} {U : List Nat} {t : Sto} (h : StAt G w q p U t) : Std G w w q p U t := ⟨U, h, fun x hx => .inl hx, Chg.refl _ _⟩
theorem Std.glue {w w1 w2 : World} {q p : Nat} {U U1 : List Nat} {t : Sto} (hs : ∀ x ∈ U1, x ∈ U ∨ w.heap.size ≤ x) (hc : Chg U w w1) (h : Std G w1 w2 q p U1 t) : Std G w w2 q p U t := by
  obtain ⟨U2, b1, b2, b3⟩ := h
  refine ⟨U2, b1, fun x hx => ?_, hc.trans b3 hs⟩
  rcases b2 x hx with h | h
  · exact hs x h
  · exact .inr (Nat.le_trans hc.size h)
theorem Std.pre {w0 w w' : World} {q p : Nat} {U : List Nat} {t : Sto} (hc : Chg [] w0 w) (h : Std G w w' q p U t) : Std G w0 w' q p U t := Std.glue (fun x hx => .inl hx) (hc.mono (by simp)) h
theorem Std.post {w w1 w2 : World} {q p : Nat} {U : List Nat} {t : Sto} (h : Std G w w1 q p U t) (hc : Chg [] w1 w2) : Std G w w2 q p U t := by
  obtain ⟨U1, a1, a2, a3⟩ := h
  exact ⟨U1, a1.keep0 hc, a2, a3.trans hc (by simp)⟩
/-- The slots go on under the store, which slots have which keys stays. -/
theorem StOk.slotsDid {w w' : World} {q p sp mb : Nat} {Us : List Nat} {φ : Id → Option Value} {N : Nat} {t : Sto} {s' : SS} (h : StOk G w q p sp mb Us φ N t) (hs : Sid w w' sp p Us s') (hr : s'.rows = t.s.rows) :
    ∃ Us', StOk G w' q p sp mb Us' φ N { t with s := s' } ∧ (∀ x ∈ Us', x ∈ Us ∨ w.heap.size ≤ x) ∧ Chg Us w w' := by
  obtain ⟨U', h1, h2, h3⟩ := hs
  have hq := blk_lt h.head
  have hm := h.map.lt
  have hat : ∀ x, Sto.at { t with s := s' } x = t.at x := fun x => by unfold Sto.at; simp only [hr]
  refine ⟨U', ⟨h3.keep h.head h.apart.1, h1, h.map.chg h3 h.apart.2, ⟨fun hx => ?_, fun hx => ?_⟩, fun x hx => ?_, by rw [show ({ t with s := s' } : Sto).s.rows = t.s.rows from hr]; exact h.ok, h.far.mono h3.size⟩, h2, h3⟩
  · rcases h2 q hx with h4 | h4
    · exact h.apart.1 h4
    · omega
  · rcases h2 mb hx with h4 | h4
    · exact h.apart.2 h4
    · omega
  · rw [hat]
    refine (h.vals x hx).keep h3 (fun y hy => .inl (by simp [hy])) (fun y hy => ?_)
    rcases List.mem_cons.1 hy with rfl | hy
    · exact .inl (by simp)
    · rcases List.mem_cons.1 hy with rfl | hy
      · exact .inl (by simp)
      · rcases h2 y hy with h4 | h4
        · exact .inl (by simp [h4])
        · exact .inr h4
theorem StOk.std {w w' : World} {q p sp mb : Nat} {Us Us' : List Nat} {φ : Id → Option Value} {N : Nat} {t : Sto} (h : StOk G w' q p sp mb Us' φ N t) (h2 : ∀ x ∈ Us', x ∈ Us ∨ w.heap.size ≤ x) (h3 : Chg (q :: mb :: Us) w w') : Std G w w' q p (q :: mb :: Us) t := by
  refine ⟨_, ⟨sp, mb, Us', φ, N, h, rfl⟩, fun x hx => ?_, h3⟩
  rcases List.mem_cons.1 hx with rfl | hx
  · exact .inl (by simp)
  · rcases List.mem_cons.1 hx with rfl | hx
    · exact .inl (by simp)
    · rcases h2 x hx with h4 | h4
      · exact .inl (by simp [h4])
      · exact .inr h4
end Go.Proofs.YtbkajnjboipbhaaGreatDoor.W

/- 'm[k] = append(m[k], x)': an entry of a map, and its store. -/
namespace Go.Proofs.YtbkajnjboipbhaaGreatDoor.W
open Go.RowKit
open Go.ChangeMaps Go.MapKept
set_option linter.unusedVariables false
set_option linter.unusedSimpArgs false

theorem keId_klaw : WideMaps.KeyLaw Tryz.prog 25 := deep_law_laid laidD (m := 4) (by decide) (of_decide_eq_true (by kernel_rfl)) (by kernel_rfl) (by rw [Tryz.underlying25])
variable {κ : Type} {k : TypeId} {kv : κ → Value} {kl : κ → Lit} {ok : κ → Prop}
theorem MapF.entry (KL : WideMaps.KeyLaw Tryz.prog k) (E : KE k kv kl ok) {w : World} {b N : Nat} {φ : κ → Option Value} (h : MapF k kl ok w b φ N) {t e : TypeId} (ht : Tryz.prog.underlying t = some (.map k e)) {z : Value} (hz : ∀ w, (zeroValue e).run Tryz.prog w = .ok z w) {x : κ} (hx : ok x) (hN : N < maxLen) :
    ∃ (st : Nat) (w1 : World), (Instr.mapEntry t (.map (some b)) (kv x)).run Tryz.prog w = .ok (.tuple #[(φ x).getD z, goInt st]) w1 ∧ Chg [b] w w1 ∧ w1.heap.size = w.heap.size ∧
      ∀ (w2 : World) (val : Value), w2.heap[b]? = w1.heap[b]? → ∃ w3, (Instr.entryStore t (.map (some b)) (goInt st) val).run Tryz.prog w2 = .ok () w3 ∧ MapF k kl ok w3 b (updF φ x val) (if (φ x).isSome then N else N + 1) ∧ Chg [b] w2 w3 ∧ w3.heap.size = w2.heap.size := by
  have hlook := h.look E ht hz hx
  have hst := fun v => h.store E ht hx v hN
  obtain ⟨D, ho, hs, hf⟩ := h
  obtain ⟨es, clock, hb, F, hsz, rfl⟩ := ho
  obtain ⟨v0, st, es1, clock1, hrun, hv0, hstore⟩ := WideElems.entry_then_store KL ht hz hb F (E.of x hx)
  have hv : v0 = (φ x).getD z := by
    rcases Maps.fit_look false E.law ht (hz w) hb F (E.of x hx) with ⟨g1, g2, _⟩ | ⟨e0, y, g1, g2, g3, _⟩
    · rcases hv0 with ⟨e1, h1, h2, h3⟩ | ⟨_, rfl⟩
      · exact absurd h2 (g2 e1 h1)
      · rw [g1] at hlook
        simp only [Bool.false_eq_true, if_false] at hlook
        exact (Result.ok.inj hlook).1
    · rw [g3] at hlook
      simp only [Bool.false_eq_true, if_false] at hlook
      rw [← (Result.ok.inj hlook).1]
      rcases hv0 with ⟨e1, h1, h2, rfl⟩ | ⟨g, _⟩
      · have hnd := F.stamped.2.2
        have : e1 = e0 := by
          obtain ⟨i, hi⟩ := List.getElem?_of_mem h1
          obtain ⟨j, hj⟩ := List.getElem?_of_mem g1
          have hij : i = j := by
            have h4 : (es.toList.map (·.key))[i]? = some (kv x) := by rw [List.getElem?_map, hi]; simp [h2]
            have h5 : (es.toList.map (·.key))[j]? = some (kv x) := by rw [List.getElem?_map, hj]; simp [g2]
            obtain ⟨hl4, h4'⟩ := List.getElem?_eq_some_iff.1 h4
            obtain ⟨hl5, h5'⟩ := List.getElem?_eq_some_iff.1 h5
            have hne := List.pairwise_iff_getElem.1 hnd
            refine Classical.byContradiction fun hne' => ?_
            rcases Nat.lt_or_gt_of_ne hne' with h | h
            · exact hne i j hl4 hl5 h (h4'.trans h5'.symm)
            · exact hne j i hl5 hl4 h (h5'.trans h4'.symm)
          subst hij
          rw [hi] at hj
          exact Option.some.inj hj
        rw [this]
      · exact absurd g2 (g e0 g1)
  subst hv
  obtain ⟨c1, c2⟩ := turned_chg (w := w) (w' := setBlock w b (.map es1 clock1)) (b := b) ⟨es, clock, es1, clock1, hb, rfl⟩
  refine ⟨st, _, hrun, c1, c2, fun w2 val hw2 => ?_⟩
  have hb2 : w2.heap[b]? = some (.map es1 clock1) := by rw [hw2, heap_setBlock_same hb]
  obtain ⟨es', clock', k1, k2⟩ := hstore w2 val hb2
  obtain ⟨w', m1, m2, m3, m4⟩ := hst val
  rw [k2] at m1
  obtain rfl := (Result.ok.inj m1).2
  obtain ⟨d1, d2⟩ := turned_chg (w := w2) (w' := setBlock w2 b (.map es' clock')) (b := b) ⟨es1, clock1, es', clock', hb2, rfl⟩
  refine ⟨_, k1, m2.keep ?_, d1, d2⟩
  rw [heap_setBlock_same hb2, heap_setBlock_same hb]
open Classical in
theorem nodup_len {α : Type} : ∀ {l L : List α}, l.Nodup → (∀ x ∈ l, x ∈ L) → l.length ≤ L.length
  | [], L, _, _ => Nat.zero_le _
  | a :: l, L, h, hs => by
    have h' := List.nodup_cons.1 h
    have ha := hs a (List.mem_cons_self ..)
    have := nodup_len (l := l) (L := L.erase a) h'.2 (fun x hx => (List.mem_erase_of_ne (fun e => h'.1 (by rw [← e]; exact hx))).2 (hs x (List.mem_cons_of_mem _ hx)))
    rw [List.length_erase_of_mem ha] at this
    have := List.length_pos_of_mem ha
    simp only [List.length_cons]
    omega
/-- How many entries a map may have. -/
theorem MapF.card (E : KE k kv kl ok) {w : World} {b N : Nat} {φ : κ → Option Value} (h : MapF k kl ok w b φ N) (L : List κ) (hL : ∀ x, ok x → (φ x).isSome = true → x ∈ L) : N ≤ L.length := by
  obtain ⟨D, ho, hs, hf⟩ := h
  have hkeys : ∃ es, D = .map es ∧ Go.Maps.Keys (Go.Maps.KeysOf Tryz.prog k) es := by
    obtain ⟨es, clock, hb, F, hn, rfl⟩ := ho
    refine ⟨_, rfl, ?_⟩
    exact fun p hp => Go.Maps.fit_keys F p ((Go.WideShapes.sorted_perm _).mem_iff.1 hp)
  obtain ⟨es, rfl, hk⟩ := hkeys
  obtain ⟨es', he, hp⟩ := ho.tidy E.law
  obtain rfl : es = es' := by simpa using he
  rw [← hs]
  show es.length ≤ L.length
  have hn : (es.map (·.1)).Nodup := by
    rw [List.Nodup, List.pairwise_map]
    exact hp
  have hm : ∀ l ∈ es.map (·.1), l ∈ L.map kl := by
    intro l hl
    obtain ⟨p, hp, rfl⟩ := List.mem_map.1 hl
    obtain ⟨v, hv⟩ := hk p hp
    obtain ⟨x, hx, _, e⟩ := E.inv v _ hv
    rw [e]
    refine List.mem_map_of_mem (hL x hx ?_)
    rw [← (hf x hx).1, Maps.has_eq, List.any_eq_true]
    exact ⟨p, hp, by rw [e]; exact WideAt.sameKey_self (E.law.key (E.of x hx))⟩
  have := nodup_len hn hm
  simpa using this

end Go.Proofs.YtbkajnjboipbhaaGreatDoor.W

/- Package store: Open, where it is refused. -/
namespace Go.Proofs.YtbkajnjboipbhaaGreatDoor.W
open Go.RowKit
set_option linter.unusedVariables false
set_option linter.unusedSimpArgs false

def StOpenPost (p : Nat) (S : List Nat) (w : World) (r : Int × Option Sto) (e : Ending) (w' : World) : Prop := Chg [] w w' ∧ match r with
  | (c, none) => e = .returned (.tuple #[.pointer none, .int .i64 c])
  | (c, some t) => ∃ q U, e = .returned (.tuple #[.pointer (some ⟨q, 0, none⟩), .int .i64 c]) ∧ StAt [] w' q p U t ∧ ∀ x ∈ U, x ∈ S ∨ w.heap.size ≤ x
theorem sec_len {w : World} {p : Nat} {S : List Nat} {d : DS} (h : DiskAt w p S d) {k : Nat} (hk : k < d.n) : (d.now k).length = 64 := by
  obtain ⟨gn, gl, cn, cl, v, H⟩ := h
  exact H.now.len k hk

set_option maxHeartbeats 2000000 in
set_option maxRecDepth 100000 in
theorem stopen_small (p : Nat) (S : List Nat) (d : DS) (w : World) (h : DiskAt w p S d) (hn : d.n < 9) : Calls Tryz.prog 28 #[.pointer (some ⟨p, 0, none⟩)] w fun e w' => e = .returned (.tuple #[.pointer none, .int .i64 1]) ∧ Chg [] w w' := by
  have CS := Lib.hid (dsectors_any p S d w h)
  generalize d.n = n at *
  clear h
  go_enter Tryz.func28, Tryz.ntmps28
  go_wp2_with (go_at_call 52; refine CS.out.mono ?_; rintro e w' ⟨rfl, hq⟩; subst hq)
  go_ret2
  exact ⟨rfl, Chg.refl _ _⟩
set_option maxHeartbeats 2000000 in
set_option maxRecDepth 100000 in
theorem stopen_dead (p : Nat) (S : List Nat) (d : DS) (w : World) (h : DiskAt w p S d) (hn : 9 ≤ d.n) (hd : d.dead = true) : Calls Tryz.prog 28 #[.pointer (some ⟨p, 0, none⟩)] w fun e w' => e = .returned (.tuple #[.pointer none, .int .i64 14]) ∧ Chg [] w w' := by
  have CS := Lib.hid (dsectors_any p S d w h)
  have CR := Lib.hid ((dread_any p S d 0 w h).mono (fun e w' h1 => (⟨by have := h1.1; rwa [if_pos hd] at this, h1.2⟩ : e = .returned (.tuple #[.slice none 0 0, .int .i64 14]) ∧ Chg [] w w')))
  clear h hd
  generalize d.n = n at *
  go_enter Tryz.func28, Tryz.ntmps28
  go_wp2_with (first
    | (go_at_call 52; refine CS.out.mono ?_; rintro e w' ⟨rfl, hq⟩; subst hq)
    | (go_at_call 66; refine CR.out.mono ?_; rintro e w1 ⟨rfl, hc1⟩))
  go_ret2
  exact ⟨rfl, hc1⟩
theorem dread_ok (p : Nat) (S : List Nat) (d : DS) (k : Nat) (w : World) (h : DiskAt w p S d) (hd : d.dead = false) (hk : k < d.n) : Calls Tryz.prog 66 #[.pointer (some ⟨p, 0, none⟩), .int .i64 (k : Int)] w fun e w' =>
    (∃ v, e = .returned (.tuple #[v, .int .i64 0]) ∧ BRow w' v (d.now k) ∧ ∀ g, v.ownBlock = some g → w.heap.size ≤ g) ∧ Chg [] w w' := by
  refine (dread_any p S d k w h).mono ?_
  rintro e w' ⟨h1, h2⟩
  rw [if_neg (by simp [hd]), if_pos (by omega)] at h1
  exact ⟨h1, h2⟩
/-- What the sector says of the store. -/
def hdBad (b : List UInt8) : Bool := !(decide (b.getD 0 0 = 1) || decide (b.getD 0 0 = 2)) || !allZ (b.drop 1)
theorem sec_parts {w : World} {v : Value} {b : List UInt8} (h : BRow w v b) (hl : b.length = 64) : ∃ g cap, v = .slice (some ⟨g, 0, none⟩) 64 cap ∧ 64 ≤ cap ∧ cap ≤ maxLen ∧ w.cell? ⟨g, 0, none⟩ = some (.int .u8 ((b.getD 0 0).toNat : Int)) ∧ BytesAt w (.slice (some ⟨g, 1, none⟩) 63 (cap - 1)) (b.drop 1) := by
  rcases h.2 with ⟨h1, h2⟩ | ⟨g, cap, cur, h1, _, hb, h3, h4, _⟩
  · omega
  · obtain ⟨a2, c2, e2, k1, k2, k3⟩ := h.bytes
    rw [h1] at e2
    rw [hl] at h1 h3
    obtain ⟨rfl, _, rfl⟩ := Value.slice.inj e2
    rcases k3 with ⟨k3, _⟩ | ⟨g', o', k3, k4⟩
    · rw [k3] at hl; cases hl
    · obtain ⟨rfl, rfl⟩ : g = g' ∧ o' = 0 := by simpa [eq_comm] using k3
      have hb' : BytesAt w (.slice (some ⟨g, 0, none⟩) b.length cap) b := by rw [hl, ← h1]; exact h.bytes
      have hd := bytes_drop hb' (k := 1) (by omega) 1 (fun _ => rfl)
      rw [hl] at hd
      refine ⟨g, cap, h1, h3, h4, ?_, hd⟩
      have := k4 0 (by omega)
      rw [this]; rfl
theorem trim_len (g cap : Nat) (l : List UInt8) (w : World) (h : BytesAt w (.slice (some ⟨g, 1, none⟩) 63 cap) l) (hl : l.length = 63) :
    Calls Tryz.prog 67 #[.slice (some ⟨g, 1, none⟩) 63 cap, .string { data := #[0] }] w fun e w' => (∃ a k c, e = .returned (.slice a k c) ∧ (allZ l = true → k = 0) ∧ (allZ l = false → 0 < k)) ∧ Chg [] w w' := by
  refine (trim_any _ l w h (by omega)).mono ?_
  rintro e w' ⟨⟨v', rfl, hv⟩, n, rfl⟩
  obtain ⟨a, c, rfl, _⟩ := hv
  have ht := trimmed_len l
  refine ⟨⟨a, _, c, rfl, fun h => ht.2 h, fun h => ?_⟩, (Chg.refl _ _).drewN n⟩
  apply Nat.pos_of_ne_zero
  intro h0
  rw [ht.1 h0] at h; cases h
set_option maxHeartbeats 4000000 in
set_option maxRecDepth 100000 in
theorem stopen_head (p : Nat) (S : List Nat) (d : DS) (w : World) (h : DiskAt w p S d) (hn : 9 ≤ d.n) (hd : d.dead = false) (hbad : hdBad (d.now 0) = true) : Calls Tryz.prog 28 #[.pointer (some ⟨p, 0, none⟩)] w fun e w' => e = .returned (.tuple #[.pointer none, .int .i64 4]) ∧ Chg [] w w' := by
  have CS := Lib.hid (dsectors_any p S d w h)
  have CR := Lib.hid (dread_ok p S d 0 w h hd (by omega))
  have hlen := sec_len h (show 0 < d.n by omega)
  generalize d.now 0 = b at *
  clear h hd
  generalize d.n = n at *
  go_enter Tryz.func28, Tryz.ntmps28
  go_wp2_with (go_at_call 52; refine CS.out.mono ?_; rintro e w' ⟨rfl, hq⟩; subst hq)
  refine CR.out.mono ?_
  rintro e w1 ⟨⟨v, rfl, hr, ho⟩, hc1⟩
  obtain ⟨g, cap, rfl, hc64, hcm, c0, hb63⟩ := sec_parts hr hlen
  have CT := Lib.hid (trim_len g (cap - 1) (b.drop 1) w1 hb63 (by simp [hlen]))
  have HC1 := Lib.hid hc1
  obtain ⟨x, hx⟩ : ∃ x, x = (b.getD 0 0).toNat := ⟨_, rfl⟩
  have e1 : ∀ c : UInt8, decide (b.getD 0 0 = c) = decide (x = c.toNat) := fun c => by
    rw [hx]
    by_cases h : b.getD 0 0 = c
    · rw [decide_eq_true h, decide_eq_true (by rw [h])]
    · rw [decide_eq_false h, decide_eq_false (fun h' => h (UInt8.toNat.inj h'))]
  have hbad' : (!(decide (x = 1) || decide (x = 2)) || !allZ (b.drop 1)) = true := by
    have := hbad
    unfold hdBad at this
    rw [e1, e1] at this
    exact this
  rw [← hx] at c0
  have hcap : 1 ≤ cap ∧ ¬ cap = 1 := by omega
  have hcl : cap ≤ 9223372036854775807 := by unfold maxLen at hcm; omega
  clear hr ho hc1 hb63 hbad e1 hx CR CS
  generalize allZ (b.drop 1) = z at *
  by_cases x1 : x = 1
  · subst x1
    obtain rfl : z = false := by simpa using hbad'
    go_wp2_with fail
    refine CT.out.mono ?_
    rintro e w2 ⟨⟨a, k, c, rfl, _, hk⟩, hc2⟩
    have hk' := hk (by simp)
    have HC2 := Lib.hid (HC1.out.trans hc2 (by simp))
    clear hk hc2 CT
    go_wp2
    go_ret2
    exact ⟨rfl, HC2.out⟩
  · by_cases x2 : x = 2
    · subst x2
      obtain rfl : z = false := by simpa using hbad'
      go_wp2_with fail
      refine CT.out.mono ?_
      rintro e w2 ⟨⟨a, k, c, rfl, _, hk⟩, hc2⟩
      have hk' := hk (by simp)
      have HC2 := Lib.hid (HC1.out.trans hc2 (by simp))
      clear hk hc2 CT
      go_wp2
      go_ret2
      exact ⟨rfl, HC2.out⟩
    · clear hbad'
      go_wp2
      go_ret2
      exact ⟨rfl, HC1.out⟩
end Go.Proofs.YtbkajnjboipbhaaGreatDoor.W

/- Package store: Open. -/
namespace Go.Proofs.YtbkajnjboipbhaaGreatDoor.W
open Go.RowKit
set_option linter.unusedVariables false
set_option linter.unusedSimpArgs false

def fillAt (rows : List SRow) (i : Nat) (x : Id) : List Nat := if mayId x = true then upto rows i (idKey x) else []
abbrev intC (l : List Nat) : List Value := l.map (fun j => Value.int .i64 ((j : Nat) : Int))
def FillV (w : World) (B : Nat) (o : Option Value) (l : List Nat) : Prop := (l = [] ∧ o = none) ∨ (l ≠ [] ∧ ∃ v, o = some v ∧ w.ownsRow B 3 1 v l.length (intC l))
structure Fill (w3 wr : World) (B ob mb p sp : Nat) (wh : Bool) (rows : List SRow) (i : Nat) (φ : Id → Option Value) (N : Nat) : Prop where
  chg : Chg [] w3 wr
  head : wr.heap[ob]? = some (.cells #[.pointer (some ⟨p, 0, none⟩), .pointer (some ⟨sp, 0, none⟩), .map (some mb), .bool wh] 100 (0, 0))
  map : MapF 25 klD okD wr mb φ N
  few : N ≤ i
  old : w3.heap.size ≤ ob ∧ w3.heap.size ≤ mb
  base : ob < B ∧ mb < B ∧ B ≤ wr.heap.size
  keys : ∀ j, j < i → (rows.getD j noRow).used = true → unOk (rows.getD j noRow).key = true
  vals : ∀ x, okD x → FillV wr B (φ x) (fillAt rows i x)
  apart : ∀ x y u v g, okD x → okD y → x ≠ y → φ x = some u → φ y = some v → u.ownBlock = some g → v.ownBlock ≠ some g
theorem Fill.keep {w3 wr w' : World} {B ob mb p sp : Nat} {wh : Bool} {rows : List SRow} {i : Nat} {φ : Id → Option Value} {N : Nat} (h : Fill w3 wr B ob mb p sp wh rows i φ N) (hc : Chg [] wr w') : Fill w3 w' B ob mb p sp wh rows i φ N :=
  ⟨h.chg.trans hc (by simp), hc.keep h.head (by simp), h.map.chg hc (by simp), h.few, h.old, ⟨h.base.1, h.base.2.1, Nat.le_trans h.base.2.2 hc.size⟩, h.keys, fun x hx => (h.vals x hx).imp id (fun ⟨h1, v, h2, h3⟩ => ⟨h1, v, h2, row_keep h3 (fun g hg => hc.block g (World.ownsRow.lt h3 g hg).2 (by simp))⟩), h.apart⟩
/-- A row that is not used. -/
theorem Fill.skip {w3 wr : World} {B ob mb p sp : Nat} {wh : Bool} {rows : List SRow} {i : Nat} {φ : Id → Option Value} {N : Nat} (h : Fill w3 wr B ob mb p sp wh rows i φ N) (hu : (rows.getD i noRow).used = false) : Fill w3 wr B ob mb p sp wh rows (i + 1) φ N := by
  have hn : ∀ k, rowIs rows k i = false := fun k => by unfold rowIs; rw [hu]; rfl
  refine ⟨h.chg, h.head, h.map, Nat.le_succ_of_le h.few, h.old, h.base, fun j hj hj2 => ?_, fun x hx => ?_, h.apart⟩
  · rcases Nat.lt_or_ge j i with h1 | h1
    · exact h.keys j h1 hj2
    · obtain rfl : j = i := by omega
      rw [hu] at hj2; cases hj2
  · have : fillAt rows (i + 1) x = fillAt rows i x := by
      unfold fillAt
      split
      · rw [upto_succ, hn, if_neg (by simp), List.append_nil]
      · rfl
    rw [this]
    exact h.vals x hx
theorem okW_small {a : Int} (h1 : -9223372036854775808 ≤ a) (h2 : a ≤ 9223372036854775807) : okW a := by
  unfold okW
  exact WalkArith.wf_i64 ⟨h1, h2⟩
theorem may_okD {x : Id} (hm : mayId x = true) : okD x := by
  obtain ⟨a, b, c, d⟩ := may_bounds hm
  exact ⟨okW_small (by omega) (by omega), okW_small (by omega) (by omega), okW_small (by omega) (by omega), okW_small (by omega) (by omega)⟩
/-- An id more. -/
theorem Fill.more {w3 wr wa wb : World} {B ob mb p sp : Nat} {wh : Bool} {rows : List SRow} {i : Nat} {φ : Id → Option Value} {N : Nat} (h : Fill w3 wr B ob mb p sp wh rows i φ N) (hu : (rows.getD i noRow).used = true) (hk : unOk (rows.getD i noRow).key = true) {v' : Value} {x : Id} (hx : x = unId (rows.getD i noRow).key)
    (hrow : wa.ownsRow B 3 1 v' ((fillAt rows i x).length + 1) (intC (fillAt rows i x) ++ [.int .i64 (i : Int)])) (hat : v'.ownBlock = ((φ x).getD (.slice none 0 0)).ownBlock ∨ v'.ownBlock = some wr.heap.size) (hc : Chg (mb :: ((φ x).getD (.slice none 0 0)).ownBlock.toList) wr wa)
    (hcb : Chg [mb] wa wb) (hN : MapF 25 klD okD wb mb (updF φ x v') (if (φ x).isSome then N else N + 1)) : Fill w3 wb B ob mb p sp wh rows (i + 1) (updF φ x v') (if (φ x).isSome then N else N + 1) := by
  obtain ⟨hm, hkey⟩ := un_back hk
  rw [← hx] at hm hkey
  have hxo := may_okD hm
  have hv0 : ∀ g, ((φ x).getD (.slice none 0 0)).ownBlock = some g → B ≤ g ∧ g < wr.heap.size := fun g hg => by
    rcases h.vals x hxo with ⟨_, h2⟩ | ⟨_, u, h2, h3⟩
    · rw [h2] at hg; cases hg
    · rw [h2] at hg; exact World.ownsRow.lt h3 g hg
  obtain ⟨hb1, hb2, hb3⟩ := h.base
  obtain ⟨ho1, ho2⟩ := h.old
  have hcc : Chg (mb :: ((φ x).getD (.slice none 0 0)).ownBlock.toList) wr wb := hc.trans hcb (fun y hy => .inl (by rw [List.mem_singleton.1 hy]; simp))
  have hmem : ∀ y, y ∈ (mb :: ((φ x).getD (.slice none 0 0)).ownBlock.toList) → y = mb ∨ ((φ x).getD (.slice none 0 0)).ownBlock = some y := fun y hy => by
    rcases List.mem_cons.1 hy with h | h
    · exact .inl h
    · exact .inr (by simpa using h)
  have hv' : ∀ g, v'.ownBlock = some g → B ≤ g := fun g hg => (World.ownsRow.lt hrow g hg).1
  have hf : ∀ y, fillAt rows (i + 1) y = if y = x then fillAt rows i y ++ [i] else fillAt rows i y := fun y => by
    by_cases e : y = x
    · subst e
      rw [if_pos rfl]
      unfold fillAt
      rw [if_pos hm, if_pos hm, upto_succ]
      congr 1
      rw [if_pos]
      unfold rowIs
      rw [hu, hkey]; simp
    · rw [if_neg e]
      unfold fillAt
      by_cases hy : mayId y = true
      · rw [if_pos hy, if_pos hy, upto_succ, if_neg, List.append_nil]
        unfold rowIs
        rw [hu, hkey]
        simp only [Bool.true_and, decide_eq_true_eq]
        exact fun h => e (idKey_inj hm hy h).symm
      · rw [if_neg hy, if_neg hy]
  refine ⟨h.chg.trans hcc (fun y hy => .inr ?_), hcc.keep h.head (fun hy => ?_), hN, ?_, h.old, ⟨hb1, hb2, Nat.le_trans hb3 hcc.size⟩, fun j hj hj2 => ?_, fun y hy => ?_, ?_⟩
  · rcases hmem y hy with rfl | h1
    · exact ho2
    · have := (hv0 y h1).1; omega
  · rcases hmem ob hy with h1 | h1
    · exact ne_blk h.head h.map h1
    · have := (hv0 ob h1).1; omega
  · have := h.few
    split <;> omega
  · rcases Nat.lt_or_ge j i with h1 | h1
    · exact h.keys j h1 hj2
    · obtain rfl : j = i := by omega
      exact hk
  · rw [hf y]
    by_cases e : y = x
    · subst e
      rw [if_pos rfl, updF_self]
      refine .inr ⟨by simp, v', rfl, ?_⟩
      have hr2 : wb.ownsRow B 3 1 v' ((fillAt rows i y).length + 1) (intC (fillAt rows i y) ++ [.int .i64 (i : Int)]) := row_keep hrow (fun g hg => hcb.block g (World.ownsRow.lt hrow g hg).2 (by
        have := hv' g hg
        simp; omega))
      simpa [intC] using hr2
    · rw [if_neg e, updF_other _ _ e]
      refine (h.vals y hy).imp id (fun ⟨h1, u, h2, h3⟩ => ⟨h1, u, h2, row_keep h3 (fun g hg => hcc.block g (World.ownsRow.lt h3 g hg).2 (fun hmm => ?_))⟩)
      rcases hmem g hmm with h4 | h4
      · have := (World.ownsRow.lt h3 g hg).1; omega
      · cases hφ : φ x with
        | none => rw [hφ] at h4; cases h4
        | some z =>
          rw [hφ] at h4
          exact h.apart x y z u g hxo hy (Ne.symm e) hφ h2 h4 hg
  · intro a b u z g ha hb hab hua hub hug hzg
    by_cases ea : a = x
    · have eb : b ≠ x := fun e => hab (ea.trans e.symm)
      rw [ea, updF_self] at hua
      obtain rfl := Option.some.inj hua
      rw [updF_other _ _ eb] at hub
      rcases hat with h1 | h1
      · rw [h1] at hug
        cases hφ : φ x with
        | none => rw [hφ] at hug; cases hug
        | some z' =>
          rw [hφ] at hug
          exact h.apart x b z' z g hxo hb (fun e => eb e.symm) hφ hub hug hzg
      · rw [h1] at hug
        obtain rfl := Option.some.inj hug
        rcases h.vals b hb with ⟨_, h2⟩ | ⟨_, u2, h2, h3⟩
        · rw [h2] at hub; cases hub
        · rw [h2] at hub
          obtain rfl := Option.some.inj hub
          have := (World.ownsRow.lt h3 _ hzg).2
          omega
    · rw [updF_other _ _ ea] at hua
      by_cases eb : b = x
      · rw [eb, updF_self] at hub
        obtain rfl := Option.some.inj hub
        rcases hat with h1 | h1
        · rw [h1] at hzg
          cases hφ : φ x with
          | none => rw [hφ] at hzg; cases hzg
          | some z' =>
            rw [hφ] at hzg
            exact h.apart a x u z' g ha hxo ea hua hφ hug hzg
        · rw [h1] at hzg
          obtain rfl := Option.some.inj hzg
          rcases h.vals a ha with ⟨_, h2⟩ | ⟨_, u2, h2, h3⟩
          · rw [h2] at hua; cases hua
          · rw [h2] at hua
            obtain rfl := Option.some.inj hua
            have := (World.ownsRow.lt h3 _ hug).2
            omega
      · rw [updF_other _ _ eb] at hub
        exact h.apart a b u z g ha hb hab hua hub hug hzg
end Go.Proofs.YtbkajnjboipbhaaGreatDoor.W

/- Package store: Open. -/
namespace Go.Proofs.YtbkajnjboipbhaaGreatDoor.W
open Go.RowKit
set_option linter.unusedVariables false
set_option linter.unusedSimpArgs false

theorem wp_entry {P : Program} {o : Oper} {a : Act} {K : Act → World → Prop} {Q : Exit → Act → World → Prop} (m x : Operand) (t : TypeId) (ho : o.op = .mapEntry t m x) {w w1 : World} {mv xv v : Value} (hm : a.eval m = mv) (hx : a.eval x = xv)
    (hrun : (Instr.mapEntry t mv xv).run P w = .ok v w1) (h : K (a.put o.dst v) w1) : Oper.wp P o a w K Q := by
  unfold Oper.wp execOp
  simp only [ho, hm, hx, Sem.run_bind, Sem.run_pure, hrun, Result.andThen_ok]
  exact h
theorem wp_entryStore {P : Program} {o : Oper} {a : Act} {K : Act → World → Prop} {Q : Exit → Act → World → Prop} (m x y : Operand) (t : TypeId) (ho : o.op = .entryStore t m x y) {w w1 : World} {mv xv yv : Value} (hm : a.eval m = mv) (hx : a.eval x = xv) (hy : a.eval y = yv)
    (hrun : (Instr.entryStore t mv xv yv).run P w = .ok () w1) (h : K (a.put o.dst undef) w1) : Oper.wp P o a w K Q := by
  unfold Oper.wp execOp
  simp only [ho, hm, hx, hy, Sem.run_bind, Sem.run_pure, hrun, Result.andThen_ok]
  exact h
theorem zeroInts (w : World) : (zeroValue 49).run Tryz.prog w = .ok (.slice none 0 0) w := by kernel_rfl
theorem facts_int : (Tryz.prog.info? 3).map (fun i => (i.zero, i.size, i.bytes)) = some (some (.int .i64 0), 1, 8) := by kernel_rfl
theorem FillV.row {w : World} {B : Nat} {o : Option Value} {l : List Nat} (h : FillV w B o l) : w.ownsRow B 3 1 (o.getD (.slice none 0 0)) l.length (intC l) := by
  rcases h with ⟨rfl, rfl⟩ | ⟨_, v, rfl, h⟩
  · exact World.ownsRow_nil _ _ _ _
  · exact h
theorem FillV.ids {w : World} {B : Nat} {o : Option Value} {l : List Nat} {U : List Nat} (h : FillV w B o l) (hU : ∀ x ∈ U, x < B) : IdsAt w U o l := by
  rcases h with h | ⟨h1, v, h2, h3⟩
  · exact .inl h
  · refine .inr ⟨h1, v, h2, ?_, fun g hg => ⟨(World.ownsRow.lt h3 g hg).2, fun hm => ?_⟩⟩
    · rcases h3.2 with ⟨e1, e2⟩ | ⟨g, cap, cur, e1, _, _, e3, e4, _⟩
      · exact absurd (List.eq_nil_of_length_eq_zero e2) h1
      · refine ⟨_, cap, e1, e3, e4, fun _ => ⟨g, 0, rfl, fun i hi => ?_⟩⟩
        subst e1
        have := h3.cells (g := g) rfl i (.int .i64 ((l.getD i 0 : Nat) : Int)) (by simp [intC, List.getD_eq_getElem?_getD, List.getElem?_eq_getElem hi])
        rwa [add_none] at this
    · have := (World.ownsRow.lt h3 g hg).1
      have := hU g hm
      omega
theorem Fill.done {w3 wr : World} {B ob mb p sp : Nat} {wh : Bool} {s : SS} {φ : Id → Option Value} {N : Nat} {Us : List Nat} (h : Fill w3 wr B ob mb p sp wh s.rows s.rows.length φ N) (hs : SlotsAt w3 sp p Us s) : StOk [] wr ob p sp mb Us φ N ⟨s, wh⟩ := by
  obtain ⟨hb1, hb2, hb3⟩ := h.base
  obtain ⟨ho1, ho2⟩ := h.old
  have hl := hs.uL
  refine ⟨h.head, hs.keep0 h.chg, h.map, ⟨fun hm => by have := hl _ hm; omega, fun hm => by have := hl _ hm; omega⟩, fun x hx => (h.vals x hx).ids (fun y hy => ?_), fun r hr hu => ?_, fun x hx => by cases hx⟩
  · rcases List.mem_cons.1 hy with rfl | hy
    · exact hb1
    · rcases List.mem_cons.1 hy with rfl | hy
      · exact hb2
      · have := hl y hy; omega
  · obtain ⟨j, hj, rfl⟩ := List.getElem_of_mem hr
    have := h.keys j hj
    rw [List.getD_eq_getElem?_getD, List.getElem?_eq_getElem hj] at this
    exact this hu

set_option maxHeartbeats 4000000 in
set_option maxRecDepth 100000 in
theorem stopen_live (p : Nat) (S : List Nat) (d : DS) (w : World) (h : DiskAt w p S d) (hn : 9 ≤ d.n) (hd : d.dead = false) (hgood : hdBad (d.now 0) = false) : Calls Tryz.prog 28 #[.pointer (some ⟨p, 0, none⟩)] w (StOpenPost p S w d.stOpen) := by
  have CS := Lib.hid (dsectors_any p S d w h)
  have CR := Lib.hid (dread_ok p S d 0 w h hd (by omega))
  have CO := Lib.hid (fun w' (hc : Chg [] w w') => sopen_any p S d 1 w' (h.keep hc (by simp)))
  have hlen := sec_len h (show 0 < d.n by omega)
  have HG : Hid (d.stOpen = match (d.slots 1).2 with | none => ((d.slots 1).1, none) | some s => if stKeys s.rows then (0, some ⟨s, (d.now 0).getD 0 0 == 2⟩) else (4, none)) := Lib.hid (by
    unfold DS.stOpen
    refine (if_neg (by omega)).trans ((if_neg (by simp [hd])).trans (if_neg ?_))
    unfold hdBad at hgood
    simp only [Bool.or_eq_false_iff, Bool.not_eq_false', Bool.or_eq_true, decide_eq_true_eq] at hgood
    rintro (⟨h1, h2⟩ | h1)
    · rcases hgood.1 with h3 | h3
      · exact h1 h3
      · exact h2 h3
    · rw [hgood.2] at h1; cases h1)
  have H1 : Hid ((∃ c, d.slots 1 = (c, none) ∧ c ≠ 0) ∨ ∃ s, d.slots 1 = (0, some s)) := Lib.hid (by
    unfold DS.slots
    rw [if_neg (by omega), if_neg (by simp [hd]; omega)]
    split
    · exact .inl ⟨4, rfl, by simp⟩
    · exact .inr ⟨_, rfl⟩)
  have HH := Lib.hid h
  generalize d.slots 1 = z at *
  generalize d.stOpen = r at *
  generalize hb0 : d.now 0 = b at *
  clear hd hb0 h
  generalize d.n = n at *
  go_enter Tryz.func28, Tryz.ntmps28
  go_wp2_with (go_at_call 52; refine CS.out.mono ?_; rintro e w' ⟨rfl, hq⟩; subst hq)
  refine CR.out.mono ?_
  rintro e w1 ⟨⟨v, rfl, hr, ho⟩, hc1⟩
  obtain ⟨g, cap, rfl, hc64, hcm, c0, hb63⟩ := sec_parts hr hlen
  have hgl : g < w1.heap.size := hr.lt g rfl
  have CT := Lib.hid (trim_len g (cap - 1) (b.drop 1) w1 hb63 (by simp [hlen]))
  have HC1 := Lib.hid hc1
  obtain ⟨x, hx⟩ : ∃ x, x = (b.getD 0 0).toNat := ⟨_, rfl⟩
  have e1 : ∀ c : UInt8, decide (b.getD 0 0 = c) = decide (x = c.toNat) := fun c => by
    rw [hx]
    by_cases h : b.getD 0 0 = c
    · rw [decide_eq_true h, decide_eq_true (by rw [h])]
    · rw [decide_eq_false h, decide_eq_false (fun h' => h (UInt8.toNat.inj h'))]
  have hgood' : (decide (x = 1) || decide (x = 2)) = true ∧ allZ (b.drop 1) = true := by
    have := hgood
    unfold hdBad at this
    rw [e1, e1] at this
    simp only [Bool.or_eq_false_iff, Bool.not_eq_false'] at this
    exact this
  have hwh : (b.getD 0 0 == 2) = decide (x = 2) := by rw [show (b.getD 0 0 == 2) = decide (b.getD 0 0 = 2) from rfl, e1]; rfl
  obtain ⟨wh, hwd⟩ : ∃ wh : Bool, wh = decide (x = 2) := ⟨_, rfl⟩
  rw [hwh, ← hwd] at HG
  rw [← hx] at c0
  have hwd1 : x = 1 → false = wh := fun h => by rw [hwd, h]; rfl
  have hwd2 : x = 2 → true = wh := fun h => by rw [hwd, h]; rfl
  have HWD := Lib.hid (And.intro hwd1 hwd2)
  clear hwd hwd1 hwd2
  have hcap : 1 ≤ cap ∧ ¬ cap = 1 := by omega
  have hcl : cap ≤ 9223372036854775807 := by unfold maxLen at hcm; omega
  obtain ⟨hx12, hz⟩ := hgood'
  simp only [hz] at CT
  clear hr ho hc1 hb63 hgood e1 hx CR CS hz hwh
  have hx12' : x = 1 ∨ x = 2 := by simpa using hx12
  clear hx12
  rcases hx12' with rfl | rfl
  all_goals
    go_wp2_with fail
    refine CT.out.mono ?_
    rintro e w2 ⟨⟨a, k, c, rfl, hk, _⟩, hc2⟩
    obtain rfl := hk (by trivial)
    have HC2 := Lib.hid (HC1.out.trans hc2 (by simp))
    have c02 := hc2.cell c0 (by simp)
    have CO2 := Lib.hid (CO.out w2 HC2.out)
    clear hc2 CT CO hk
    go_wp2_with fail
    refine CO2.out.mono ?_
    rintro e w3 ⟨hc3, h3⟩
    rcases H1.out with ⟨cc, rfl, hcc⟩ | ⟨s, rfl⟩
    · dsimp only at h3 HG
      subst h3
      have q : (cc != 0) = true := by simp [hcc]
      have HC3 := Lib.hid (HC2.out.trans hc3 (by simp))
      clear hcc hc3
      go_wp2
      go_ret2
      rw [HG.out]
      exact ⟨HC3.out, rfl⟩
    · dsimp only at h3 HG
      obtain ⟨sp, Us, rfl, hs3, hU3⟩ := h3
      have c03 := hc3.cell c02 (by simp)
      have HC3 := Lib.hid (HC2.out.trans hc3 (by simp))
      have HS3 := Lib.hid hs3
      have CN := Lib.hid (fun w' (hc : Chg [] w3 w') => scount_any sp p Us s w' (hs3.keep0 hc))
      have CU := Lib.hid (fun (i : Int) w' (hc : Chg [] w3 w') => sused_any sp p Us s i w' (hs3.keep0 hc))
      have CK := Lib.hid (fun (i : Int) w' (hc : Chg [] w3 w') => skey_any sp p Us s i w' (hs3.keep0 hc))
      have hmm := @run_makeMap Tryz.prog
      clear hs3 hc3
      have hc4 : Chg [] w3 (w3.alloc (.map #[] 0)) := (Chg.refl _ _).alloc _
      have c04 := hc4.cell c03 (by simp)
      obtain ⟨w4, hw4⟩ : ∃ w4, w4 = (w3.alloc (.map #[] 0)).alloc (.cells #[.pointer (some ⟨p, 0, none⟩), .pointer (some ⟨sp, 0, none⟩), .map (some w3.heap.size), .bool wh] 100) := ⟨_, rfl⟩
      have HW4 : Hid (∀ q, q = wh → (w3.alloc (.map #[] 0)).alloc (.cells #[.pointer (some ⟨p, 0, none⟩), .pointer (some ⟨sp, 0, none⟩), .map (some w3.heap.size), .bool q] 100) = w4) := Lib.hid (fun q hq => by rw [hw4, hq])
      have hs4 : w4.heap.size = w3.heap.size + 2 := by rw [hw4]; simp
      have HF4 : Hid (Fill w3 w4 (w3.heap.size + 2) (w3.heap.size + 1) w3.heap.size p sp wh s.rows 0 (fun _ => none) 0) := Lib.hid (by
        have hh := heap_alloc_new (w3.alloc (.map #[] 0)) (.cells #[.pointer (some ⟨p, 0, none⟩), .pointer (some ⟨sp, 0, none⟩), .map (some w3.heap.size), .bool wh] 100)
        rw [← hw4, show (w3.alloc (.map #[] 0)).heap.size = w3.heap.size + 1 by simp] at hh
        refine ⟨by rw [hw4]; exact hc4.alloc _, hh, ?_, Nat.le_refl _, ⟨by omega, Nat.le_refl _⟩, ⟨by omega, by omega, by omega⟩, fun j hj => by omega, fun x hx => .inl ⟨?_, rfl⟩, fun x y u v g _ _ _ h => by cases h⟩
        · rw [hw4]
          exact (MapF.made w3).chg ((Chg.refl [] _).alloc _) (by simp)
        · unfold fillAt
          split
          · rfl
          · rfl)
      have hm1 : s.rows.length ≤ 1000 := by
        obtain ⟨S0, rv, R, H⟩ := HS3.out
        have := H.few
        omega
      clear hw4
      go_wp2_with fail
      rw [HW4.out]
      rotate_left
      · first
          | exact HWD.out.1 (by trivial)
          | exact HWD.out.2 (by trivial)
      refine (CN.out w4 HF4.out.chg).mono ?_
      rintro e w' ⟨rfl, hq⟩
      subst hq
      obtain ⟨m, hm⟩ : ∃ m, m = s.rows.length := ⟨_, rfl⟩
      have HM := Lib.hid hm
      rw [← hm]
      have hmz : m ≤ 1000 := by omega
      clear hm
      go_wp2_with fail
      go_loopg [62] m (fun g' s62 wr => ∃ (i : Nat) (φ : Id → Option Value) (N : Nat), s62 = .int .i64 i ∧ i ≤ m ∧ m ≤ i + g' ∧ Hid (Fill w3 wr (w3.heap.size + 2) (w3.heap.size + 1) w3.heap.size p sp wh s.rows i φ N))
      case atStart => exact ⟨0, _, _, rfl, by omega, by omega, HF4⟩
      case round =>
        obtain ⟨i, φ, N, rfl, hi, hig, HFI⟩ := hrel
        by_cases hlt : i < m
        · have hiz : (i : Int) < (m : Int) := by omega
          have hhas : s.has (i : Int) := ⟨by omega, by rw [← HM.out]; omega⟩
          have hrow : s.row (i : Int) = s.rows.getD i noRow := rfl
          have CU1 := Lib.hid (CU.out (i : Int) wr HFI.out.chg)
          have hus := SS.used_true hhas
          rw [hrow] at hus
          rw [hus] at CU1
          go_wp2_with fail
          refine CU1.out.mono ?_
          rintro e w' ⟨rfl, hq⟩
          subst hq
          by_cases hu : (s.rows.getD i noRow).used = true
          · have CK1 := CK.out (i : Int) wr HFI.out.chg
            have hkk : s.key (i : Int) = (s.rows.getD i noRow).key := by
              unfold SS.key
              rw [hus, if_pos hu, hrow]
            rw [hkk] at CK1
            have HCK := Lib.hid CK1
            have hkl : (s.rows.getD i noRow).key.length ≤ 40 := by
              obtain ⟨S0, rv, R, H⟩ := HS3.out
              rw [List.getD_eq_getElem?_getD, List.getElem?_eq_getElem (show i < s.rows.length by rw [← HM.out]; exact hlt)]
              exact (H.ok.rows _ (List.getElem_mem _)).2
            clear CK1 hkk hus hrow
            rw [hu]
            go_wp2_with fail
            refine HCK.out.mono ?_
            rintro e w5 ⟨⟨kv, rfl, hr5⟩, hc5⟩
            have CD := Lib.hid (stread_any kv _ w5 hr5.bytes (by omega))
            obtain ⟨ak, ck, rfl⟩ := hr5.slice
            have HC5 := Lib.hid hc5
            clear hr5 hc5 HCK
            go_wp2_with fail
            refine CD.out.mono ?_
            rintro e w6 ⟨rfl, hc6⟩
            have HF6 := Lib.hid (HFI.out.keep (HC5.out.trans hc6 (by simp)))
            clear hc6 CD HC5
            by_cases hok : unOk (s.rows.getD i noRow).key = true
            · have hokr := hok
              rw [hok]
              obtain ⟨y, hy⟩ : ∃ y, y = unId (s.rows.getD i noRow).key := ⟨_, rfl⟩
              rw [← hy]
              have HY := Lib.hid (And.intro hu (And.intro hok hy))
              have hyo := may_okD (un_back hok).1
              rw [← hy] at hyo
              have HYO := Lib.hid hyo
              clear hok hu hy hokr hyo
              obtain ⟨w7, hw7⟩ : ∃ w7, w7 = w6.alloc (.cells (idC y) 25) := ⟨_, rfl⟩
              have hc7 : Chg [] w6 w7 := by rw [hw7]; exact (Chg.refl _ _).alloc _
              have hb7 : w7.heap[w6.heap.size]? = some (.cells (idC y) 25 (0, 0)) := by rw [hw7]; exact heap_alloc_new w6 _
              have HF7 := Lib.hid (HF6.out.keep hc7)
              have HB7 := Lib.hid hb7
              have HW7 := Lib.hid hw7
              clear hw7 hc7 hb7
              obtain ⟨yc, yl, yn, yi⟩ := y
              go_wp2_with fail
              rw [← HW7.out]
              have c7 := blk_cell HF7.out.head 2 _ rfl
              have mm := id_cells HB7.out
              refine wp_region_L [(7, fun w' => w'.cell? ⟨w3.heap.size + 1, 2, none⟩ = some (.map (some w3.heap.size))), (7, fun w' => (w'.cell? ⟨w6.heap.size, 0, none⟩ = some (.int .i64 yc) ∧ w'.cell? ⟨w6.heap.size, 1, none⟩ = some (.int .i64 yl) ∧ w'.cell? ⟨w6.heap.size, 2, none⟩ = some (.int .i64 yn) ∧ w'.cell? ⟨w6.heap.size, 3, none⟩ = some (.int .i64 yi)))] (by kernel_rfl) ?_ (fun hHeld => ?_)
              · exact (HoldC.cons (c7) (HoldC.cons (mm) HoldC.nil))
              refine wpAnyL_take (i := 0) (oi := _) (v := ?_) rfl (by kernel_rfl) (by kernel_rfl) (by kernel_rfl) (by kernel_rfl) (by kernel_rfl) (fun _ _ _ h => h) (Or.inl ⟨by rfl, ?_⟩) (by assumption) (fun hNew => ?_)
              rotate_left
              · intro w _
                go_simp
                try with_reducible rfl
              clear hHeld
              have hHeld := hNew
              clear hNew
              try simp only [List.getElem_toArray, List.getElem_cons_succ, List.getElem_cons_zero, Act.put, List.setIfInBounds_toArray, List.set_cons_zero, List.set_cons_succ]
              refine wpAnyL_take (i := 1) (oi := _) (v := ?_) rfl (by kernel_rfl) (by kernel_rfl) (by kernel_rfl) (by kernel_rfl) (by kernel_rfl) (fun _ _ _ h => h) (Or.inl ⟨by rfl, ?_⟩) (by assumption) (fun hNew => ?_)
              rotate_left
              · intro w _
                go_simp
                try with_reducible rfl
              clear hHeld
              have hHeld := hNew
              clear hNew
              try simp only [List.getElem_toArray, List.getElem_cons_succ, List.getElem_cons_zero, Act.put, List.setIfInBounds_toArray, List.set_cons_zero, List.set_cons_succ]
              refine wpAnyL_take (i := 2) (oi := _) (v := ?_) rfl (by kernel_rfl) (by kernel_rfl) (by kernel_rfl) (by kernel_rfl) (by kernel_rfl) (fun _ _ _ h => h) (Or.inl ⟨by rfl, ?_⟩) (by assumption) (fun hNew => ?_)
              rotate_left
              · intro w _
                go_simp
                try with_reducible rfl
              clear hHeld
              have hHeld := hNew
              clear hNew
              try simp only [List.getElem_toArray, List.getElem_cons_succ, List.getElem_cons_zero, Act.put, List.setIfInBounds_toArray, List.set_cons_zero, List.set_cons_succ]
              refine wpAnyL_load 0 (i := 3) (oi := _) (v := ?_) rfl rfl (by kernel_rfl) (by kernel_rfl) (by kernel_rfl) (by kernel_rfl) (by kernel_rfl) (by kernel_rfl) (fun _ _ _ h => h) (Or.inl ⟨by rfl, ?_⟩) (by assumption) (fun hNew => ?_)
              rotate_left
              · intro w hSw
                (try dsimp only at hSw)
                go_simp
                try with_reducible rfl
              clear hHeld
              have hHeld := hNew
              clear hNew
              try simp only [List.getElem_toArray, List.getElem_cons_succ, List.getElem_cons_zero, Act.put, List.setIfInBounds_toArray, List.set_cons_zero, List.set_cons_succ]
              refine wpAnyL_load 1 (i := 4) (oi := _) (v := ?_) rfl rfl (by kernel_rfl) (by kernel_rfl) (by kernel_rfl) (by kernel_rfl) (by kernel_rfl) (by kernel_rfl) (fun _ _ _ h => h) (Or.inl ⟨by rfl, ?_⟩) (by assumption) (fun hNew => ?_)
              rotate_left
              · intro w hSw
                (try dsimp only at hSw)
                go_simp
                try with_reducible rfl
              clear hHeld
              have hHeld := hNew
              clear hNew
              try simp only [List.getElem_toArray, List.getElem_cons_succ, List.getElem_cons_zero, Act.put, List.setIfInBounds_toArray, List.set_cons_zero, List.set_cons_succ]
              refine wpAnyL_take (i := 5) (oi := _) (v := ?_) rfl (by kernel_rfl) (by kernel_rfl) (by kernel_rfl) (by kernel_rfl) (by kernel_rfl) (fun _ _ _ h => h) (Or.inl ⟨by rfl, ?_⟩) (by assumption) (fun hNew => ?_)
              rotate_left
              · intro w _
                go_simp
                try with_reducible rfl
              clear hHeld
              have hHeld := hNew
              clear hNew
              try simp only [List.getElem_toArray, List.getElem_cons_succ, List.getElem_cons_zero, Act.put, List.setIfInBounds_toArray, List.set_cons_zero, List.set_cons_succ]
              refine wpAnyL_ready (rs := [6]) (by kernel_rfl) (by simp) ?_
              refine AllReadyL.cons (o := _) rfl (fun K hK => ?_) AllReadyL.nil
              try simp only [List.getElem_toArray, List.getElem_cons_succ, List.getElem_cons_zero]
              go_simp
              have hcW : Chg [] w7 (w7.alloc (.cells #[.int .i64 (i : Int)] 3)).drew := ((Chg.refl _ _).alloc _).drew
              have hbW : (w7.alloc (.cells #[.int .i64 (i : Int)] 3)).drew.heap[w7.heap.size]? = some (.cells #[.int .i64 (i : Int)] 3 (0, 0)) := heap_alloc_new w7 _
              generalize (w7.alloc (.cells #[.int .i64 (i : Int)] 3)).drew = W at *
              have c8 := hcW.cell c7 (by simp)
              have mm8 := id_cells (hcW.keep HB7.out (by simp))
              have HFW := Lib.hid (HF7.out.keep hcW)
              have HBW := Lib.hid hbW
              have hM : w3.heap.size < w7.heap.size := by have := HF7.out.base; omega
              obtain ⟨st, W1, hrun, hcE, hsE, hstore⟩ := HFW.out.map.entry keId_klaw keId (t := 98) Tryz.underlying98 zeroInts HYO.out (by have := HFW.out.few; unfold maxLen; omega)
              have hrowW := (HFW.out.vals _ HYO.out).row
              have HST := Lib.hid hstore
              have HCE := Lib.hid (And.intro hcE hsE)
              have hrow1 : W1.ownsRow (w3.heap.size + 2) 3 1 ((φ ⟨yc, yl, yn, yi⟩).getD (.slice none 0 0)) (fillAt s.rows i ⟨yc, yl, yn, yi⟩).length (intC (fillAt s.rows i ⟨yc, yl, yn, yi⟩)) := row_keep hrowW (fun k hk => hcE.block k (World.ownsRow.lt hrowW k hk).2 (by
                have := (World.ownsRow.lt hrowW k hk).1
                simp; omega))
              have hel1 := hcE.keep hbW (by simp; omega)
              have HR1 := Lib.hid (And.intro hrow1 hel1)
              have hfl : (fillAt s.rows i ⟨yc, yl, yn, yi⟩).length ≤ 1000 := by
                unfold fillAt
                split
                · have := upto_len s.rows i (idKey ⟨yc, yl, yn, yi⟩); omega
                · simp
              have hbW1 : w3.heap.size + 2 ≤ W1.heap.size := by rw [hsE]; exact HFW.out.base.2.2
              clear hstore hcE hsE hrow1 hrowW hel1 hbW hcW
              clear hHeld
              refine hK.out _ _ ?_ (fun hHeld => ?_)
              · exact (HoldC.cons (c8) (HoldC.cons (mm8) HoldC.nil))
              clear hK K
              try simp only [List.getElem_toArray, List.getElem_cons_succ, List.getElem_cons_zero, Act.put, List.setIfInBounds_toArray, List.set_cons_zero, List.set_cons_succ]
              refine wpAnyL_ready (rs := [7]) (by kernel_rfl) (by simp) ?_
              refine AllReadyL.cons (o := _) rfl (fun K hK => ?_) AllReadyL.nil
              try simp only [List.getElem_toArray, List.getElem_cons_succ, List.getElem_cons_zero]
              refine wp_entry _ _ _ rfl (by rfl) (by rfl) hrun ?_
              clear hHeld
              refine hK.out _ _ ?_ (fun hHeld => ?_)
              · exact (HoldC.past (by kernel_rfl) (HoldC.past (by kernel_rfl) HoldC.nil))
              clear hK K
              try simp only [List.getElem_toArray, List.getElem_cons_succ, List.getElem_cons_zero, Act.put, List.setIfInBounds_toArray, List.set_cons_zero, List.set_cons_succ]
              refine wpAnyL_take (i := 8) (oi := _) (v := ?_) rfl (by kernel_rfl) (by kernel_rfl) (by kernel_rfl) (by kernel_rfl) (by kernel_rfl) (fun _ _ _ h => h) (Or.inl ⟨by rfl, ?_⟩) (by assumption) (fun hNew => ?_)
              rotate_left
              · intro w _
                go_simp
                try with_reducible rfl
              clear hHeld
              have hHeld := hNew
              clear hNew
              try simp only [List.getElem_toArray, List.getElem_cons_succ, List.getElem_cons_zero, Act.put, List.setIfInBounds_toArray, List.set_cons_zero, List.set_cons_succ]
              refine wpAnyL_take (i := 10) (oi := _) (v := ?_) rfl (by kernel_rfl) (by kernel_rfl) (by kernel_rfl) (by kernel_rfl) (by kernel_rfl) (fun _ _ _ h => h) (Or.inl ⟨by rfl, ?_⟩) (by assumption) (fun hNew => ?_)
              rotate_left
              · intro w _
                go_simp
                try with_reducible rfl
              clear hHeld
              have hHeld := hNew
              clear hNew
              try simp only [List.getElem_toArray, List.getElem_cons_succ, List.getElem_cons_zero, Act.put, List.setIfInBounds_toArray, List.set_cons_zero, List.set_cons_succ]
              refine wpAnyL_ready (rs := [9]) (by kernel_rfl) (by simp) ?_
              refine AllReadyL.cons (o := _) rfl (fun K hK => ?_) AllReadyL.nil
              try simp only [List.getElem_toArray, List.getElem_cons_succ, List.getElem_cons_zero]
              obtain ⟨iI, hiI, q1, q2, q3⟩ := info_parts facts_int
              refine wp_append_lies W1 (.tmp 83) (.tmp 85) 49 (by rfl) (w3.heap.size + 2) 3 iI (.int .i64 0) 1 8 Tryz.underlying49 hiI q1 q2 q3 rfl (by omega) _ _ _ (by rfl) HR1.out.1 ⟨w7.heap.size, 0, none⟩ 1 1 [.int .i64 (i : Int)] (by rfl) rfl (fun j u hj => by
                rw [add_none, Nat.zero_add]; exact blk_cell HR1.out.2 j u (by simpa using hj)) (fun u hu => by rw [List.mem_singleton.1 hu]; rfl) (by omega) (by unfold maxLen; omega) (by omega) hbW1 _ rfl ?_
              intro g9 cap9 w9 ho9 hg9 hat9 hl9
              have hc9 : Chg ((φ ⟨yc, yl, yn, yi⟩).getD (.slice none 0 0)).ownBlock.toList W1 w9 := (Chg.refl _ _).grown hg9 (fun k hk => .inl (by rw [hk]; simp))
              have hmb9 : w9.heap[w3.heap.size]? = W1.heap[w3.heap.size]? := hc9.block _ (by omega) (fun hm => by
                have := (World.ownsRow.lt HR1.out.1 _ (by simpa using hm)).1
                omega)
              obtain ⟨w10, hst, hm10, hc10, hs10⟩ := HST.out w9 (.slice (some ⟨g9, 0, none⟩) ((fillAt s.rows i ⟨yc, yl, yn, yi⟩).length + 1) cap9) hmb9
              have HFN := Lib.hid (HFW.out.more HY.out.1 HY.out.2.1 HY.out.2.2 ho9 (by
                rcases hat9 with h | h
                · exact .inl h.symm
                · right; rw [h, ← HCE.out.2]; rfl) ((HCE.out.1.mono (fun x hx => .inl (by rw [List.mem_singleton.1 hx]; simp))).trans hc9 (fun x hx => .inl (List.mem_cons_of_mem _ hx))) hc10 hm10)
              clear hmb9 hc9 hat9 hg9 ho9 hm10 hc10 hs10
              clear hHeld
              refine hK.out _ _ ?_ (fun hHeld => ?_)
              · exact (HoldC.past (by kernel_rfl) (HoldC.past (by kernel_rfl) HoldC.nil))
              clear hK K
              try simp only [List.getElem_toArray, List.getElem_cons_succ, List.getElem_cons_zero, Act.put, List.setIfInBounds_toArray, List.set_cons_zero, List.set_cons_succ]
              refine wpAnyL_ready (rs := [11]) (by kernel_rfl) (by simp) ?_
              refine AllReadyL.cons (o := _) rfl (fun K hK => ?_) AllReadyL.nil
              try simp only [List.getElem_toArray, List.getElem_cons_succ, List.getElem_cons_zero]
              refine wp_entryStore _ _ _ _ rfl (by rfl) (by rfl) (by rfl) hst ?_
              clear hHeld
              refine hK.out _ _ ?_ (fun hHeld => ?_)
              · exact (HoldC.past (by kernel_rfl) (HoldC.past (by kernel_rfl) HoldC.nil))
              clear hK K
              try simp only [List.getElem_toArray, List.getElem_cons_succ, List.getElem_cons_zero, Act.put, List.setIfInBounds_toArray, List.set_cons_zero, List.set_cons_succ]
              refine wpAnyL_done (by kernel_rfl) ?_ _
              clear hHeld
              go_wp2_with fail
              go_roundg (gk - 1)
              case measure => omega
              case rel => exact ⟨i + 1, _, _, by go_num, by omega, by omega, HFN⟩
            · have hall : stKeys s.rows = false := by
                cases hst : stKeys s.rows with
                | false => rfl
                | true =>
                  have h1 := stKeys_iff.1 hst (s.rows.getD i noRow) (by
                    rw [List.getD_eq_getElem?_getD, List.getElem?_eq_getElem (show i < s.rows.length by rw [← HM.out]; exact hlt)]
                    exact List.getElem_mem _) hu
                  exact absurd h1 hok
              have hok' : unOk (s.rows.getD i noRow).key = false := by simpa using hok
              rw [hok']
              have HR : Hid (r = (4, none)) := Lib.hid (by rw [HG.out, hall]; rfl)
              have HC6 := Lib.hid (HC3.out.trans HF6.out.chg (by simp))
              clear hok hok' hu hall
              go_wp2
              go_ret2
              rw [HR.out]
              exact ⟨HC6.out.alloc _, rfl⟩
          · have hu' : (s.rows.getD i noRow).used = false := by simpa using hu
            have HN := Lib.hid (HFI.out.skip hu')
            clear hus hrow
            rw [hu']
            clear hu hu'
            go_wp2_with fail
            go_roundg (gk - 1)
            case measure => omega
            case rel => exact ⟨i + 1, φ, N, by go_num, by omega, by omega, HN⟩
        · have him : i = m := by omega
          have hiz : ¬ (i : Int) < (m : Int) := by omega
          rw [him, HM.out] at HFI
          have HE := Lib.hid (HFI.out.done HS3.out)
          have hall : stKeys s.rows = true := stKeys_iff.2 HE.out.ok
          have HFC := Lib.hid (And.intro HFI.out.chg HFI.out.old)
          have hw2s := HC2.out.size
          clear HFI
          go_wp2
          go_ret2
          rw [HG.out, if_pos hall]
          refine ⟨HC3.out.trans HFC.out.1 (by simp), w3.heap.size + 1, _, rfl, ⟨sp, w3.heap.size, Us, φ, N, HE.out, rfl⟩, fun y hy => ?_⟩
          have hw3s := HC3.out.size
          rcases List.mem_cons.1 hy with rfl | hy
          · right; omega
          · rcases List.mem_cons.1 hy with rfl | hy
            · right; omega
            · rcases hU3 y hy with h | h
              · exact .inl h
              · right; omega
end Go.Proofs.YtbkajnjboipbhaaGreatDoor.W

/- Package store: Open of any disk; Format. -/
namespace Go.Proofs.YtbkajnjboipbhaaGreatDoor.W
open Go.RowKit
set_option linter.unusedVariables false
set_option linter.unusedSimpArgs false

theorem stopen_any (p : Nat) (S : List Nat) (d : DS) (w : World) (h : DiskAt w p S d) : Calls Tryz.prog 28 #[.pointer (some ⟨p, 0, none⟩)] w (StOpenPost p S w d.stOpen) := by
  by_cases hn : d.n < 9
  · have e : d.stOpen = (1, none) := by unfold DS.stOpen; rw [if_pos hn]
    rw [e]
    exact (stopen_small p S d w h hn).mono fun e w' h1 => ⟨h1.2, h1.1⟩
  · by_cases hd : d.dead = true
    · have e : d.stOpen = (14, none) := by unfold DS.stOpen; rw [if_neg hn, if_pos hd]
      rw [e]
      exact (stopen_dead p S d w h (by omega) hd).mono fun e w' h1 => ⟨h1.2, h1.1⟩
    · cases hb : hdBad (d.now 0) with
      | true =>
        have e : d.stOpen = (4, none) := by
          unfold DS.stOpen
          refine (if_neg hn).trans ((if_neg hd).trans (if_pos ?_))
          unfold hdBad at hb
          simp only [Bool.or_eq_true, Bool.not_eq_true', Bool.or_eq_false_iff, decide_eq_false_iff_not] at hb
          exact hb
        rw [e]
        exact (stopen_head p S d w h (by omega) (by simpa using hd) hb).mono fun e w' h1 => ⟨h1.2, h1.1⟩
      | false => exact stopen_live p S d w h (by omega) (by simpa using hd) hb

def FormatPost (p : Nat) (S : List Nat) (w : World) (r : (Int × Option Sto) × DS) (e : Ending) (w' : World) : Prop := match r with
  | ((c, none), d') => e = .returned (.tuple #[.pointer none, .int .i64 c]) ∧ Did w w' p S d'
  | ((c, some t), d') => ∃ q U, e = .returned (.tuple #[.pointer (some ⟨q, 0, none⟩), .int .i64 c]) ∧ StAt [] w' q p U t ∧ (∀ x ∈ U, x ∈ S ∨ w.heap.size ≤ x) ∧ Chg S w w'
theorem zero_row (w : World) : BRow (w.alloc (.cells Z64 5)) (.slice (some ⟨w.heap.size, 0, none⟩) 64 64) (zeros 64) := by
  have h := row_of_block (l := zeros 64) (heap_alloc_new w (.cells Z64 5)) (by simp [zeros, maxLen])
  simpa [zeros] using h

set_option maxHeartbeats 4000000 in
set_option maxRecDepth 100000 in
theorem format_any (p : Nat) (S : List Nat) (d : DS) (w : World) (h : DiskAt w p S d) (ho : d.ops ≤ 100000000) (hw : d.since.length ≤ 100000) :
    Calls Tryz.prog 18 #[.pointer (some ⟨p, 0, none⟩)] w (FormatPost p S w d.format) := by
  have CS := Lib.hid (fun w' S' (d' : DS) (h' : DiskAt w' p S' d') => dsectors_any p S' d' w' h')
  have hmk := make_64
  by_cases hn : d.n < 9
  · have e : d.format = ((1, none), d) := by unfold DS.format; rw [if_pos hn]
    have CS1 := Lib.hid (dsectors_any p S d w h)
    have HH := Lib.hid h
    rw [e]
    generalize hdn : d.n = n at *
    clear h e CS hdn
    go_enter Tryz.func18, Tryz.ntmps18
    go_wp2_with (go_at_call 52; refine CS1.out.mono ?_; rintro e w' ⟨rfl, hq⟩; subst hq)
    go_ret2
    exact ⟨rfl, Did.same HH.out⟩
  · obtain ⟨m, hm⟩ : ∃ m, m = (d.n - 1) / 8 := ⟨_, rfl⟩
    have HG : Hid (d.format = if (d.wipe m 1).1 ≠ 0 then (((d.wipe m 1).1, none), (d.wipe m 1).2) else if ((d.wipe m 1).2.sign 1).1 ≠ 0 then ((((d.wipe m 1).2.sign 1).1, none), ((d.wipe m 1).2.sign 1).2) else (((d.wipe m 1).2.sign 1).2.stOpen, ((d.wipe m 1).2.sign 1).2)) := Lib.hid (by
      unfold DS.format
      rw [if_neg hn]
      unfold DS.fmt2 DS.fmt1
      rw [← hm])
    have hfew : d.n ≤ 4160 := by
      obtain ⟨gn, gl, cn, cl, v, H⟩ := h
      exact H.few
    obtain ⟨n, hdn⟩ : ∃ n, n = d.n := ⟨_, rfl⟩
    have HDN := Lib.hid hdn
    have hm1 : 8 * m + 1 ≤ n ∧ n < 8 * (m + 1) + 1 ∧ m ≤ 520 := by omega
    have hn9 : 9 ≤ n := by omega
    have HH := Lib.hid h
    have CS1 := Lib.hid (dsectors_any p S d w h)
    rw [← hdn] at CS1
    clear h hn hm hfew hdn
    generalize d.format = r at *
    go_enter Tryz.func18, Tryz.ntmps18
    go_wp2_with (go_at_call 52; refine CS1.out.mono ?_; rintro e w' ⟨rfl, hq⟩; subst hq)
    go_loopg [4] m (fun g' s4 wr => ∃ (i : Nat) (di : DS), s4 = .int .i64 ((1 + 8 * i : Nat) : Int) ∧ i ≤ m ∧ m ≤ i + g' ∧ Hid (Did w wr p S di ∧ di.n = n ∧ di.ops ≤ d.ops + i ∧ di.since.length ≤ d.since.length + i ∧ d.wipe m 1 = di.wipe (m - i) (1 + 8 * i)))
    case atStart => exact ⟨0, d, rfl, by omega, by omega, Lib.hid ⟨Did.same HH.out, HDN.out.symm, by omega, by omega, rfl⟩⟩
    case round =>
      obtain ⟨i, di, rfl, hi, hig, HI⟩ := hrel
      obtain ⟨⟨Si, hd1, hd2, hd3⟩, hin, hio, his, hiw⟩ := HI.out
      have CSi := Lib.hid (CS.out wr Si di hd1)
      rw [hin] at CSi
      have HD1 := Lib.hid hd1
      have HD2 := Lib.hid (And.intro hd2 hd3)
      have HIW := Lib.hid hiw
      have hwr := hd3.size
      clear HI hd1 hd2 hd3 hiw
      by_cases hlt : i < m
      · have hle : ((1 + 8 * i : Nat) : Int) + 8 ≤ (n : Int) := by omega
        have HC := Lib.hid ((Chg.refl [] wr).alloc (.cells Z64 5))
        have CW := Lib.hid (dwrite_any p Si di ((1 + 8 * i : Nat) : Int) _ (zeros 64) (wr.alloc (.cells Z64 5)) (HD1.out.keep HC.out (by simp)) (by omega) (by omega) ⟨by omega, by omega⟩ (by simp [zeros]) (zero_row wr).bytes)
        have hwok := di.write_ok ((1 + 8 * i : Nat) : Int) (zeros 64)
        have hmi : m - i = (m - (i + 1)) + 1 := by omega
        have HW2 : Hid (d.wipe m 1 = if (di.write ((1 + 8 * i : Nat) : Int) (zeros 64)).1 ≠ 0 then di.write ((1 + 8 * i : Nat) : Int) (zeros 64) else (di.write ((1 + 8 * i : Nat) : Int) (zeros 64)).2.wipe (m - (i + 1)) (1 + 8 * i + 8)) := Lib.hid (by
          rw [HIW.out, hmi]; rfl)
        generalize di.write ((1 + 8 * i : Nat) : Int) (zeros 64) = z at *
        obtain ⟨e1, d1⟩ := z
        dsimp only at CW hwok HW2
        clear HIW hmi
        go_wp2_with (go_at_call 52; refine CSi.out.mono ?_; rintro e w' ⟨rfl, hq⟩; subst hq)
        refine CW.out.mono ?_
        rintro e w2 ⟨rfl, hd2⟩
        have HD3 := Lib.hid (Did.glue HD2.out.1 HD2.out.2 (Did.pre HC.out hd2))
        clear hd2 CW
        by_cases he : e1 = 0
        · subst he
          have HW3 : Hid (d.wipe m 1 = d1.wipe (m - (i + 1)) (1 + 8 * (i + 1))) := Lib.hid (by
            rw [HW2.out, if_neg (by simp), show 1 + 8 * i + 8 = 1 + 8 * (i + 1) by omega])
          clear HW2
          go_wp2
          go_roundg (gk - 1)
          case measure => omega
          case rel => exact ⟨i + 1, d1, by go_num, by omega, by omega, Lib.hid ⟨HD3.out, by rw [hwok.1, hin], by omega, by omega, HW3.out⟩⟩
        · have HR : Hid (r = ((e1, none), d1)) := Lib.hid (by
            have h1 := HW2.out
            rw [if_pos he] at h1
            rw [HG.out, h1, if_pos he])
          have q : (e1 != 0) = true := by simp [he]
          clear he HW2 HG
          go_wp2
          go_ret2
          rw [HR.out]
          exact ⟨rfl, HD3.out⟩
      · have him : i = m := by omega
        have hle : ¬ ((1 + 8 * i : Nat) : Int) + 8 ≤ (n : Int) := by omega
        have CY := Lib.hid (dsync_any p Si di wr HD1.out (by omega) (by omega))
        have HW2 : Hid (d.wipe m 1 = di.sync) := Lib.hid (by rw [HIW.out, him, Nat.sub_self]; rfl)
        obtain ⟨y1, y2, y3⟩ := di.sync_ok
        generalize di.sync = z at *
        obtain ⟨e1, d1⟩ := z
        dsimp only at CY HW2 y1 y2 y3
        rw [HW2.out] at HG
        dsimp only at HG
        clear HIW HW2
        go_wp2_with (go_at_call 52; refine CSi.out.mono ?_; rintro e w' ⟨rfl, hq⟩; subst hq)
        refine CY.out.mono ?_
        rintro e w2 ⟨rfl, hd2⟩
        have HD3 := Lib.hid (Did.glue HD2.out.1 HD2.out.2 hd2)
        clear hd2 CY
        by_cases he : e1 = 0
        · subst he
          obtain ⟨S2, g1, g2, g3⟩ := HD3.out
          have CG := Lib.hid (sign_any p S2 d1 1 w2 g1 (by omega) (by omega) (by omega))
          have HS2 := Lib.hid (And.intro g2 g3)
          obtain ⟨s1, s2, s3⟩ := d1.sign_ok 1
          rw [if_neg (by simp)] at HG
          generalize d1.sign 1 = z at *
          obtain ⟨e2, d2⟩ := z
          dsimp only at CG HG s1 s2 s3
          rw [show bv 1 = .int .u8 1 from rfl] at CG
          clear g1 g2 g3
          go_wp2_with fail
          refine CG.out.mono ?_
          rintro e w3 ⟨rfl, hd4⟩
          have HD4 := Lib.hid (Did.glue HS2.out.1 HS2.out.2 hd4)
          clear hd4 CG
          by_cases he2 : e2 = 0
          · subst he2
            rw [if_neg (by simp)] at HG
            obtain ⟨S3, g1, g2, g3⟩ := HD4.out
            have CO := Lib.hid (stopen_any p S3 d2 w3 g1)
            have HS3 := Lib.hid (And.intro g2 g3)
            have HD5 := Lib.hid g1
            clear g1 g2 g3
            go_wp2_with fail
            refine CO.out.mono ?_
            rintro e w4 ⟨hc4, h4⟩
            generalize d2.stOpen = z at *
            obtain ⟨e3, ot⟩ := z
            cases ot with
            | none =>
              dsimp only at h4 HG
              subst h4
              have HF : Hid (Did w w4 p S d2) := Lib.hid ⟨S3, HD5.out.keep hc4 (by simp), HS3.out.1, HS3.out.2.trans hc4 (by simp)⟩
              clear hc4 CO
              go_wp2
              go_ret2
              rw [HG.out]
              exact ⟨rfl, HF.out⟩
            | some t =>
              dsimp only at h4 HG
              obtain ⟨q, U, rfl, h5, h6⟩ := h4
              have HF : Hid (∃ U, StAt [] w4 q p U t ∧ (∀ x ∈ U, x ∈ S ∨ w.heap.size ≤ x) ∧ Chg S w w4) := Lib.hid ⟨U, h5, fun x hx => by
                rcases h6 x hx with h | h
                · exact HS3.out.1 x h
                · exact .inr (Nat.le_trans HS3.out.2.size h), HS3.out.2.trans hc4 (by simp)⟩
              clear hc4 CO h5 h6
              go_wp2
              go_ret2
              rw [HG.out]
              obtain ⟨U, k1, k2, k3⟩ := HF.out
              exact ⟨q, U, rfl, k1, k2, k3⟩
          · have HR : Hid (r = ((e2, none), d2)) := Lib.hid (by rw [HG.out, if_pos he2])
            have q : (e2 != 0) = true := by simp [he2]
            clear he2 HG
            go_wp2
            go_ret2
            rw [HR.out]
            exact ⟨rfl, HD4.out⟩
        · have HR : Hid (r = ((e1, none), d1)) := Lib.hid (by rw [HG.out, if_pos he])
          have q : (e1 != 0) = true := by simp [he]
          clear he HG
          go_wp2
          go_ret2
          rw [HR.out]
          exact ⟨rfl, HD3.out⟩
end Go.Proofs.YtbkajnjboipbhaaGreatDoor.W

/- Package store: made, Get. -/
namespace Go.Proofs.YtbkajnjboipbhaaGreatDoor.W
open Go.RowKit
set_option linter.unusedVariables false
set_option linter.unusedSimpArgs false
variable {G : List Nat}

set_option maxHeartbeats 2000000 in
theorem stmade_any (q p : Nat) (w : World) (c0 : w.cell? ⟨q, 0, none⟩ = some (.pointer (some ⟨p, 0, none⟩))) : Calls Tryz.prog 56 #[.pointer (some ⟨q, 0, none⟩)] w fun e w' => e = .returned (.bool true) ∧ w = w' := by
  go_enter Tryz.func56, Tryz.ntmps56
  go_wp2
  go_ret
  exact ⟨rfl, rfl⟩
structure LookAt (w : World) (v : Value) (l : List Nat) : Prop where
  form : ∃ a cap, v = .slice a l.length cap ∧ l.length ≤ cap ∧ cap ≤ maxLen
  first : ∀ i r, l = i :: r → ∃ g o cap, v = .slice (some ⟨g, o, none⟩) l.length cap ∧ w.cell? ⟨g, o, none⟩ = some (.int .i64 (i : Int))
theorem StOk.look {w : World} {q p sp mb : Nat} {Us : List Nat} {φ : Id → Option Value} {N : Nat} {t : Sto} (h : StOk G w q p sp mb Us φ N t) {x : Id} (hx : okD x) :
    ∃ v, (∀ n, (Instr.lookup 98 (.map (some mb)) (idV x) false).run Tryz.prog (w.drewN n) = .ok v (w.drewN n)) ∧ LookAt w v (t.at x) := by
  refine ⟨(φ x).getD (.slice none 0 0), fun n => ?_, ?_⟩
  · exact (h.map.chg ((Chg.refl [] w).drewN n) (by simp)).look keId Tryz.underlying98 zeroInts hx
  · rcases h.vals x hx with ⟨h1, h2⟩ | ⟨h1, v, h2, h3, _⟩
    · rw [h1, h2]
      exact ⟨⟨none, 0, rfl, Nat.le_refl _, by unfold maxLen; omega⟩, fun i r h => by cases h⟩
    · rw [h2]
      obtain ⟨a, cap, rfl, k1, k2, k3⟩ := h3
      refine ⟨⟨a, cap, rfl, k1, k2⟩, fun i r hl => ?_⟩
      obtain ⟨g, o, rfl, hc⟩ := k3 h1
      refine ⟨g, o, cap, rfl, ?_⟩
      have := hc 0 (by rw [hl]; simp)
      rw [hl] at this
      exact this
/-- The first cells of a store. -/
theorem StOk.cells {w : World} {q p sp mb : Nat} {Us : List Nat} {φ : Id → Option Value} {N : Nat} {t : Sto} (h : StOk G w q p sp mb Us φ N t) :
    w.cell? ⟨q, 0, none⟩ = some (.pointer (some ⟨p, 0, none⟩)) ∧ w.cell? ⟨q, 1, none⟩ = some (.pointer (some ⟨sp, 0, none⟩)) ∧ w.cell? ⟨q, 2, none⟩ = some (.map (some mb)) ∧ w.cell? ⟨q, 3, none⟩ = some (.bool t.whole) :=
  ⟨blk_cell h.head 0 _ rfl, blk_cell h.head 1 _ rfl, blk_cell h.head 2 _ rfl, blk_cell h.head 3 _ rfl⟩

set_option maxHeartbeats 4000000 in
set_option maxRecDepth 100000 in
theorem stget_any (q p : Nat) (U : List Nat) (t : Sto) (x : Id) (w : World) (h : StAt G w q p U t) (hxo : okD x) : Calls Tryz.prog 23 #[.pointer (some ⟨q, 0, none⟩), idV x] w (GetPost (t.get x) w) := by
  obtain ⟨sp, mb, Us, φ, N, h, rfl⟩ := h
  obtain ⟨w1, hw1⟩ : ∃ w1, w1 = w.alloc (.cells (idC x) 25) := ⟨_, rfl⟩
  have hc1 : Chg [] w w1 := by rw [hw1]; exact (Chg.refl [] w).alloc _
  have hb1 : w1.heap[w.heap.size]? = some (.cells (idC x) 25 (0, 0)) := by rw [hw1]; exact heap_alloc_new w _
  have H1 := h.keep0 hc1
  obtain ⟨k0, k1, k2, _⟩ := H1.cells
  have CM := Lib.hid (stmade_any q p w1 k0)
  have CY := Lib.hid (mayid_any x w1)
  have HB := Lib.hid hb1
  have HC1 := Lib.hid hc1
  have HW1 := Lib.hid hw1
  have HH1 := Lib.hid H1
  have HX := Lib.hid hxo
  clear hw1 hb1 hc1 h hxo
  by_cases hm : mayId x = true
  · have HG : Hid (t.get x = match t.at x with | [] => ([], 6) | i :: _ => t.s.get i) := Lib.hid (by unfold Sto.get; rw [if_neg (by simp [hm])]; try rfl)
    rw [hm] at CY
    clear H1 k1 k2 hm
    obtain ⟨xc, xl, xn, xi⟩ := x
    go_enter Tryz.func23, Tryz.ntmps23
    go_wp2_with fail
    rw [← HW1.out]
    refine CM.out.mono ?_
    rintro e w' ⟨rfl, hq⟩
    subst hq
    obtain ⟨m0, m1, m2, m3⟩ := id_cells HB.out
    go_wp2_with fail
    refine CY.out.mono ?_
    rintro e w2 ⟨rfl, hc2⟩
    have HB2 := Lib.hid (hc2.keep HB.out (by simp))
    have HH2 := Lib.hid (HH1.out.keep0 hc2)
    have HC2 := Lib.hid (HC1.out.trans hc2 (by simp))
    clear hc2 m0 m1 m2 m3 k0 CM CY HB
    obtain ⟨v, hlk, hlook⟩ := HH2.out.look HX.out
    obtain ⟨k0, k1, k2, _⟩ := HH2.out.cells
    obtain ⟨m0, m1, m2, m3⟩ := id_cells HB2.out
    obtain ⟨⟨a, cap, hv, hl1, hl2⟩, hfst⟩ := hlook
    cases hat : t.at ⟨xc, xl, xn, xi⟩ with
    | nil =>
      rw [hat] at HG hv
      subst hv
      dsimp only at HG
      have HR : Hid (∀ w', Chg [] w w' → GetPost ([], 6) w (.returned (.tuple #[.slice none 0 0, .int .i64 6])) w') := Lib.hid (fun w' hc => GetPost.nil hc)
      rw [← HG.out] at HR
      clear hfst hat
      go_wp2_with fail
      go_quiet (fail)
      go_wp2
      go_ret2
      exact HR.out _ (HC2.out.drewN _)
    | cons i rest =>
      obtain ⟨g, o, cap', hv', hc0⟩ := hfst i rest hat
      rw [hv'] at hv
      obtain ⟨rfl, _, rfl⟩ := Value.slice.inj hv
      rw [hat] at HG hv'
      dsimp only at HG
      subst hv'
      have hpos : 0 < (i :: rest).length := by simp
      have hcl : (i :: rest).length ≤ cap' := by rw [← hat]; exact hl1
      have hbig : (i :: rest).length ≤ 9223372036854775807 := by unfold maxLen at hl2; omega
      generalize (i :: rest).length = n at *
      have hn0 : ((n : Int) == 0) = false := by simp; omega
      clear hv hfst hat hl1 hl2
      go_wp2_with fail
      go_quiet (fail)
      have hlk3 : (Instr.lookup 98 (.map (some mb)) (.agg #[.int .i64 xc, .int .i64 xl, .int .i64 xn, .int .i64 xi]) false).run Tryz.prog (w2.drewN nq).drew = .ok (.slice (some ⟨g, o, none⟩) n cap') (w2.drewN nq).drew := hlk (nq + 1)
      have hc03 : (w2.drewN nq).drew.cell? ⟨g, o, none⟩ = some (.int .i64 (i : Int)) := hc0
      have hbn : (w2.drewN nq).drew.heap[w.heap.size]? = some (.cells (idC ⟨xc, xl, xn, xi⟩) 25 (0, 0)) := HB2.out
      have HCn : Hid (Chg [] w (w2.drewN nq).drew) := Lib.hid (HC2.out.drewN nq).drew
      have HHn := Lib.hid (HH2.out.keep0 ((Chg.refl [] w2).drewN nq).drew)
      have CG := Lib.hid (sget_any sp p Us t.s i _ HHn.out.slots)
      obtain ⟨h0, h1, h2, _⟩ := HHn.out.cells
      have mm := id_cells hbn
      clear hlk hc0 k0 k1 k2 m0 m1 m2 m3 hbn
      generalize w2.drewN nq = w3 at *
      go_wp2_with fail
      refine wp_region_L [(12, fun w' => w'.cell? ⟨q, 1, none⟩ = some (.pointer (some ⟨sp, 0, none⟩))), (12, fun w' => w'.cell? ⟨q, 2, none⟩ = some (.map (some mb))), (12, fun w' => (w'.cell? ⟨w.heap.size, 0, none⟩ = some (.int .i64 xc) ∧ w'.cell? ⟨w.heap.size, 1, none⟩ = some (.int .i64 xl) ∧ w'.cell? ⟨w.heap.size, 2, none⟩ = some (.int .i64 xn) ∧ w'.cell? ⟨w.heap.size, 3, none⟩ = some (.int .i64 xi))), (12, fun w' => (Instr.lookup 98 (.map (some mb)) (.agg #[.int .i64 xc, .int .i64 xl, .int .i64 xn, .int .i64 xi]) false).run Tryz.prog w' = .ok (.slice (some ⟨g, o, none⟩) n cap') w'), (12, fun w' => w'.cell? ⟨g, o, none⟩ = some (.int .i64 (i : Int)))] (by kernel_rfl) ?_ (fun hHeld => ?_)
      · exact (HoldC.cons (h1) (HoldC.cons (h2) (HoldC.cons (mm) (HoldC.cons (hlk3) (HoldC.cons (hc03) HoldC.nil)))))
      refine wpAnyL_take (i := 0) (oi := _) (v := ?_) rfl (by kernel_rfl) (by kernel_rfl) (by kernel_rfl) (by kernel_rfl) (by kernel_rfl) (fun _ _ _ h => h) (Or.inl ⟨by rfl, ?_⟩) (by assumption) (fun hNew => ?_)
      rotate_left
      · intro w _
        go_simp
        try with_reducible rfl
      clear hHeld
      have hHeld := hNew
      clear hNew
      try simp only [List.getElem_toArray, List.getElem_cons_succ, List.getElem_cons_zero, Act.put, List.setIfInBounds_toArray, List.set_cons_zero, List.set_cons_succ]
      refine wpAnyL_take (i := 1) (oi := _) (v := ?_) rfl (by kernel_rfl) (by kernel_rfl) (by kernel_rfl) (by kernel_rfl) (by kernel_rfl) (fun _ _ _ h => h) (Or.inl ⟨by rfl, ?_⟩) (by assumption) (fun hNew => ?_)
      rotate_left
      · intro w _
        go_simp
        try with_reducible rfl
      clear hHeld
      have hHeld := hNew
      clear hNew
      try simp only [List.getElem_toArray, List.getElem_cons_succ, List.getElem_cons_zero, Act.put, List.setIfInBounds_toArray, List.set_cons_zero, List.set_cons_succ]
      refine wpAnyL_take (i := 2) (oi := _) (v := ?_) rfl (by kernel_rfl) (by kernel_rfl) (by kernel_rfl) (by kernel_rfl) (by kernel_rfl) (fun _ _ _ h => h) (Or.inl ⟨by rfl, ?_⟩) (by assumption) (fun hNew => ?_)
      rotate_left
      · intro w _
        go_simp
        try with_reducible rfl
      clear hHeld
      have hHeld := hNew
      clear hNew
      try simp only [List.getElem_toArray, List.getElem_cons_succ, List.getElem_cons_zero, Act.put, List.setIfInBounds_toArray, List.set_cons_zero, List.set_cons_succ]
      refine wpAnyL_load 0 (i := 3) (oi := _) (v := ?_) rfl rfl (by kernel_rfl) (by kernel_rfl) (by kernel_rfl) (by kernel_rfl) (by kernel_rfl) (by kernel_rfl) (fun _ _ _ h => h) (Or.inl ⟨by rfl, ?_⟩) (by assumption) (fun hNew => ?_)
      rotate_left
      · intro w hSw
        (try dsimp only at hSw)
        go_simp
        try with_reducible rfl
      clear hHeld
      have hHeld := hNew
      clear hNew
      try simp only [List.getElem_toArray, List.getElem_cons_succ, List.getElem_cons_zero, Act.put, List.setIfInBounds_toArray, List.set_cons_zero, List.set_cons_succ]
      refine wpAnyL_take (i := 4) (oi := _) (v := ?_) rfl (by kernel_rfl) (by kernel_rfl) (by kernel_rfl) (by kernel_rfl) (by kernel_rfl) (fun _ _ _ h => h) (Or.inl ⟨by rfl, ?_⟩) (by assumption) (fun hNew => ?_)
      rotate_left
      · intro w _
        go_simp
        try with_reducible rfl
      clear hHeld
      have hHeld := hNew
      clear hNew
      try simp only [List.getElem_toArray, List.getElem_cons_succ, List.getElem_cons_zero, Act.put, List.setIfInBounds_toArray, List.set_cons_zero, List.set_cons_succ]
      refine wpAnyL_take (i := 5) (oi := _) (v := ?_) rfl (by kernel_rfl) (by kernel_rfl) (by kernel_rfl) (by kernel_rfl) (by kernel_rfl) (fun _ _ _ h => h) (Or.inl ⟨by rfl, ?_⟩) (by assumption) (fun hNew => ?_)
      rotate_left
      · intro w _
        go_simp
        try with_reducible rfl
      clear hHeld
      have hHeld := hNew
      clear hNew
      try simp only [List.getElem_toArray, List.getElem_cons_succ, List.getElem_cons_zero, Act.put, List.setIfInBounds_toArray, List.set_cons_zero, List.set_cons_succ]
      refine wpAnyL_take (i := 6) (oi := _) (v := ?_) rfl (by kernel_rfl) (by kernel_rfl) (by kernel_rfl) (by kernel_rfl) (by kernel_rfl) (fun _ _ _ h => h) (Or.inl ⟨by rfl, ?_⟩) (by assumption) (fun hNew => ?_)
      rotate_left
      · intro w _
        go_simp
        try with_reducible rfl
      clear hHeld
      have hHeld := hNew
      clear hNew
      try simp only [List.getElem_toArray, List.getElem_cons_succ, List.getElem_cons_zero, Act.put, List.setIfInBounds_toArray, List.set_cons_zero, List.set_cons_succ]
      refine wpAnyL_load 1 (i := 7) (oi := _) (v := ?_) rfl rfl (by kernel_rfl) (by kernel_rfl) (by kernel_rfl) (by kernel_rfl) (by kernel_rfl) (by kernel_rfl) (fun _ _ _ h => h) (Or.inl ⟨by rfl, ?_⟩) (by assumption) (fun hNew => ?_)
      rotate_left
      · intro w hSw
        (try dsimp only at hSw)
        go_simp
        try with_reducible rfl
      clear hHeld
      have hHeld := hNew
      clear hNew
      try simp only [List.getElem_toArray, List.getElem_cons_succ, List.getElem_cons_zero, Act.put, List.setIfInBounds_toArray, List.set_cons_zero, List.set_cons_succ]
      refine wpAnyL_load 2 (i := 8) (oi := _) (v := ?_) rfl rfl (by kernel_rfl) (by kernel_rfl) (by kernel_rfl) (by kernel_rfl) (by kernel_rfl) (by kernel_rfl) (fun _ _ _ h => h) (Or.inl ⟨by rfl, ?_⟩) (by assumption) (fun hNew => ?_)
      rotate_left
      · intro w hSw
        (try dsimp only at hSw)
        go_simp
        try with_reducible rfl
      clear hHeld
      have hHeld := hNew
      clear hNew
      try simp only [List.getElem_toArray, List.getElem_cons_succ, List.getElem_cons_zero, Act.put, List.setIfInBounds_toArray, List.set_cons_zero, List.set_cons_succ]
      refine wpAnyL_load 3 (i := 9) (oi := _) (v := ?_) rfl rfl (by kernel_rfl) (by kernel_rfl) (by kernel_rfl) (by kernel_rfl) (by kernel_rfl) (by kernel_rfl) (fun _ _ _ h => h) (Or.inl ⟨by rfl, ?_⟩) (by assumption) (fun hNew => ?_)
      rotate_left
      · intro w hSw
        (try dsimp only at hSw)
        go_simp
        try with_reducible rfl
      clear hHeld
      have hHeld := hNew
      clear hNew
      try simp only [List.getElem_toArray, List.getElem_cons_succ, List.getElem_cons_zero, Act.put, List.setIfInBounds_toArray, List.set_cons_zero, List.set_cons_succ]
      refine wpAnyL_take (i := 10) (oi := _) (v := ?_) rfl (by kernel_rfl) (by kernel_rfl) (by kernel_rfl) (by kernel_rfl) (by kernel_rfl) (fun _ _ _ h => h) (Or.inl ⟨by rfl, ?_⟩) (by assumption) (fun hNew => ?_)
      rotate_left
      · intro w _
        go_simp
        try with_reducible rfl
      clear hHeld
      have hHeld := hNew
      clear hNew
      try simp only [List.getElem_toArray, List.getElem_cons_succ, List.getElem_cons_zero, Act.put, List.setIfInBounds_toArray, List.set_cons_zero, List.set_cons_succ]
      refine wpAnyL_load 4 (i := 11) (oi := _) (v := ?_) rfl rfl (by kernel_rfl) (by kernel_rfl) (by kernel_rfl) (by kernel_rfl) (by kernel_rfl) (by kernel_rfl) (fun _ _ _ h => h) (Or.inl ⟨by rfl, ?_⟩) (by assumption) (fun hNew => ?_)
      rotate_left
      · intro w hSw
        (try dsimp only at hSw)
        go_simp
        try with_reducible rfl
      clear hHeld
      have hHeld := hNew
      clear hNew
      try simp only [List.getElem_toArray, List.getElem_cons_succ, List.getElem_cons_zero, Act.put, List.setIfInBounds_toArray, List.set_cons_zero, List.set_cons_succ]
      refine wpAnyL_ready (rs := [12]) (by kernel_rfl) (by simp) ?_
      refine AllReadyL.cons (o := _) rfl (fun K hK => ?_) AllReadyL.nil
      try simp only [List.getElem_toArray, List.getElem_cons_succ, List.getElem_cons_zero]
      go_simp
      refine CG.out.mono ?_
      rintro e w4 ⟨⟨v4, rfl, hb4, ho4⟩, hc4⟩
      have HF : Hid (GetPost (t.s.get i) w (.returned (.tuple #[v4, .int .i64 (t.s.get i).2])) w4) := Lib.hid ⟨⟨v4, rfl, hb4, fun k hk => by have := ho4 k hk; have := HCn.out.size; omega⟩, HCn.out.trans hc4 (by simp)⟩
      obtain ⟨a4, c4, rfl⟩ := hb4.slice
      clear hb4 ho4 hc4 CG
      clear hHeld
      refine hK.out _ _ ?_ (fun hHeld => ?_)
      · exact (HoldC.past (by kernel_rfl) (HoldC.past (by kernel_rfl) (HoldC.past (by kernel_rfl) (HoldC.past (by kernel_rfl) (HoldC.past (by kernel_rfl) HoldC.nil)))))
      clear hK K
      try simp only [List.getElem_toArray, List.getElem_cons_succ, List.getElem_cons_zero, Act.put, List.setIfInBounds_toArray, List.set_cons_zero, List.set_cons_succ]
      refine wpAnyL_take (i := 13) (oi := _) (v := ?_) rfl (by kernel_rfl) (by kernel_rfl) (by kernel_rfl) (by kernel_rfl) (by kernel_rfl) (fun _ _ _ h => h) (Or.inl ⟨by rfl, ?_⟩) (by assumption) (fun hNew => ?_)
      rotate_left
      · intro w _
        go_simp
        try with_reducible rfl
      clear hHeld
      have hHeld := hNew
      clear hNew
      try simp only [List.getElem_toArray, List.getElem_cons_succ, List.getElem_cons_zero, Act.put, List.setIfInBounds_toArray, List.set_cons_zero, List.set_cons_succ]
      refine wpAnyL_take (i := 14) (oi := _) (v := ?_) rfl (by kernel_rfl) (by kernel_rfl) (by kernel_rfl) (by kernel_rfl) (by kernel_rfl) (fun _ _ _ h => h) (Or.inl ⟨by rfl, ?_⟩) (by assumption) (fun hNew => ?_)
      rotate_left
      · intro w _
        go_simp
        try with_reducible rfl
      clear hHeld
      have hHeld := hNew
      clear hNew
      try simp only [List.getElem_toArray, List.getElem_cons_succ, List.getElem_cons_zero, Act.put, List.setIfInBounds_toArray, List.set_cons_zero, List.set_cons_succ]
      refine wpAnyL_ready (rs := [15]) (by kernel_rfl) (by simp) ?_
      refine AllReadyL.cons (o := _) rfl (fun K hK => ?_) AllReadyL.nil
      try simp only [List.getElem_toArray, List.getElem_cons_succ, List.getElem_cons_zero]
      go_simp
      clear hHeld
      refine hK.out _ _ ?_ (fun hHeld => ?_)
      · exact (HoldC.past (by kernel_rfl) (HoldC.past (by kernel_rfl) (HoldC.past (by kernel_rfl) (HoldC.past (by kernel_rfl) (HoldC.past (by kernel_rfl) HoldC.nil)))))
      clear hK K
      try simp only [List.getElem_toArray, List.getElem_cons_succ, List.getElem_cons_zero, Act.put, List.setIfInBounds_toArray, List.set_cons_zero, List.set_cons_succ]
      refine wpAnyL_ready (rs := [16]) (by kernel_rfl) (by simp) ?_
      refine AllReadyL.cons (o := _) rfl (fun K hK => ?_) AllReadyL.nil
      try simp only [List.getElem_toArray, List.getElem_cons_succ, List.getElem_cons_zero]
      go_simp
      clear hHeld
      refine hK.out _ _ ?_ (fun hHeld => ?_)
      · exact (HoldC.past (by kernel_rfl) (HoldC.past (by kernel_rfl) (HoldC.past (by kernel_rfl) (HoldC.past (by kernel_rfl) (HoldC.past (by kernel_rfl) HoldC.nil)))))
      clear hK K
      try simp only [List.getElem_toArray, List.getElem_cons_succ, List.getElem_cons_zero, Act.put, List.setIfInBounds_toArray, List.set_cons_zero, List.set_cons_succ]
      refine wpAnyL_done (by kernel_rfl) ?_ _
      clear hHeld
      go_wp2_with fail
      go_ret2
      rw [HG.out]
      exact HF.out
  · have hm' : mayId x = false := by simpa using hm
    have HG : Hid (t.get x = ([], 1)) := Lib.hid (by unfold Sto.get; rw [if_pos hm'])
    rw [HG.out]
    have HR : Hid (∀ w', Chg [] w w' → GetPost ([], 1) w (.returned (.tuple #[.slice none 0 0, .int .i64 1])) w') := Lib.hid (fun w' hc => GetPost.nil hc)
    rw [hm'] at CY
    clear H1 k1 k2 hm hm'
    obtain ⟨xc, xl, xn, xi⟩ := x
    go_enter Tryz.func23, Tryz.ntmps23
    go_wp2_with fail
    rw [← HW1.out]
    refine CM.out.mono ?_
    rintro e w' ⟨rfl, hq⟩
    subst hq
    obtain ⟨m0, m1, m2, m3⟩ := id_cells HB.out
    go_wp2_with fail
    refine CY.out.mono ?_
    rintro e w2 ⟨rfl, hc2⟩
    have HC2 := Lib.hid (HC1.out.trans hc2 (by simp))
    clear hc2
    go_wp2
    go_ret2
    exact HR.out _ HC2.out
end Go.Proofs.YtbkajnjboipbhaaGreatDoor.W

/- Package store: what putting and deleting leave, plainly and in memory. -/
namespace Go.Proofs.YtbkajnjboipbhaaGreatDoor.W
open Go.RowKit
set_option linter.unusedVariables false
set_option linter.unusedSimpArgs false
variable {G : List Nat}

theorem rowFree_spec : ∀ (l : List SRow) (k : Nat), (rowFree l k = -1 ∧ ∀ r ∈ l, r.used = true) ∨ ∃ n, n < l.length ∧ rowFree l k = ((k + n : Nat) : Int) ∧ (l.getD n noRow).used = false ∧ ∀ j, j < n → (l.getD j noRow).used = true
  | [], k => .inl ⟨rfl, by simp⟩
  | r :: rs, k => by
    rw [rowFree_cons]
    by_cases h : r.used = false
    · rw [if_pos h]
      exact .inr ⟨0, by simp, by simp, by simpa using h, fun j hj => by omega⟩
    · rw [if_neg h]
      rcases rowFree_spec rs (k + 1) with ⟨h1, h2⟩ | ⟨n, h1, h2, h3, h4⟩
      · refine .inl ⟨h1, fun x hx => ?_⟩
        rcases List.mem_cons.1 hx with rfl | hx
        · simpa using h
        · exact h2 x hx
      · refine .inr ⟨n + 1, by simp; omega, by rw [h2]; congr 1; omega, by simpa using h3, fun j hj => ?_⟩
        cases j with
        | zero => simpa using h
        | succ j => simpa using h4 j (by omega)
theorem SS.put_not {s : SS} {i : Int} {key b : List UInt8} (h : (s.put i key b).1 ≠ 0) : (s.put i key b).2.rows = s.rows := by
  unfold SS.put at h ⊢
  split
  · rfl
  · split
    · rfl
    · split
      · rfl
      · split
        · rfl
        · split
          · rfl
          · rename_i h1 h2 h3 h4 h5
            rw [if_neg h1, if_neg h2, if_neg h3, if_neg h4, if_neg h5] at h
            simp at h
theorem SS.put_done {s : SS} {i : Int} {key b : List UInt8} (h : (s.put i key b).1 = 0) : s.has i ∧ (s.row i).used = false ∧ (s.put i key b).2.rows = s.rows.set i.toNat ⟨true, b.length, key⟩ := by
  unfold SS.put at h ⊢
  by_cases h1 : ¬ s.has i
  · rw [if_pos h1] at h; simp at h
  · rw [if_neg h1] at h ⊢
    by_cases h2 : 40 < key.length ∨ 448 < b.length
    · rw [if_pos h2] at h; simp at h
    · rw [if_neg h2] at h ⊢
      by_cases h3 : (s.row i).used = true
      · rw [if_pos h3] at h; simp at h
      · rw [if_neg h3] at h ⊢
        by_cases h4 : (s.d.lays (s.pos i + 1) b).1 ≠ 0
        · rw [if_pos h4] at h; exact absurd h h4
        · rw [if_neg h4] at h ⊢
          by_cases h5 : ((s.d.lays (s.pos i + 1) b).2.lays (s.pos i) (headBytes b.length key)).1 ≠ 0
          · rw [if_pos h5] at h; exact absurd h h5
          · rw [if_neg h5]
            exact ⟨by simpa using h1, by simpa using h3, rfl⟩
theorem SS.clear_done {s : SS} {i : Int} (h : (s.clear i).1 = 0) : s.has i ∧ (s.row i).used = true ∧ (s.clear i).2.rows = s.rows.set i.toNat noRow := by
  unfold SS.clear at h ⊢
  by_cases h1 : ¬ s.has i
  · rw [if_pos h1] at h; simp at h
  · rw [if_neg h1] at h ⊢
    by_cases h2 : (s.row i).used = false
    · rw [if_pos h2] at h; simp at h
    · rw [if_neg h2] at h ⊢
      by_cases h3 : (s.d.lays (s.pos i) (zeros 64)).1 ≠ 0
      · rw [if_pos h3] at h; exact absurd h h3
      · rw [if_neg h3]
        exact ⟨by simpa using h1, by simpa using h2, rfl⟩

theorem getD_set (l : List SRow) (i j : Nat) (r : SRow) : (l.set i r).getD j noRow = if i = j ∧ j < l.length then r else l.getD j noRow := by
  simp only [List.getD_eq_getElem?_getD, List.getElem?_set]
  by_cases h : i = j
  · subst h
    by_cases hl : i < l.length
    · simp [hl]
    · simp [hl]
  · simp [h]
theorem filter_eq (n i : Nat) (h : i < n) : (List.range n).filter (fun j => decide (j = i)) = [i] := by
  induction n with
  | zero => omega
  | succ n ih =>
    rw [List.range_succ, List.filter_append]
    by_cases e : i = n
    · subst e
      have : (List.range i).filter (fun j => decide (j = i)) = [] := by
        rw [List.filter_eq_nil_iff]
        intro j hj
        have := List.mem_range.1 hj
        simp; omega
      rw [this]; simp
    · rw [ih (by omega)]
      simp [show ¬ n = i by omega]
/-- A slot more. -/
theorem upto_put {rows : List SRow} {i : Nat} {k key : List UInt8} {n : Nat} (hi : i < rows.length) (hu : (rows.getD i noRow).used = false) (h0 : upto rows rows.length key = []) : upto (rows.set i ⟨true, n, key⟩) (rows.set i ⟨true, n, key⟩).length k = if k = key then [i] else upto rows rows.length k := by
  rw [List.length_set]
  unfold upto
  by_cases e : k = key
  · subst e
    rw [if_pos rfl, ← filter_eq rows.length i hi]
    refine List.filter_congr (fun j hj => ?_)
    have hjl := List.mem_range.1 hj
    unfold rowIs
    rw [getD_set]
    by_cases e2 : i = j
    · subst e2
      simp [hi]
    · rw [if_neg (fun h => e2 h.1)]
      have : j ∉ upto rows rows.length k := by rw [h0]; simp
      rw [upto_mem] at this
      have e3 : ¬ j = i := fun h => e2 h.symm
      rw [decide_eq_false e3]
      cases hu2 : (rows.getD j noRow).used with
      | false => rfl
      | true =>
        simp only [Bool.true_and, decide_eq_false_iff_not]
        exact fun h => this ⟨hjl, hu2, h⟩
  · rw [if_neg e]
    refine List.filter_congr (fun j hj => ?_)
    unfold rowIs
    rw [getD_set]
    by_cases e2 : i = j
    · subst e2
      rw [if_pos ⟨rfl, hi⟩, hu]
      simp only [Bool.true_and, Bool.false_and, decide_eq_false_iff_not]
      exact fun h => e h.symm
    · rw [if_neg (fun h => e2 h.1)]
theorem filter_not_mem {l : List Nat} {P : Nat → Bool} {i : Nat} {r : List Nat} (hn : l.Nodup) (h : l.filter P = i :: r) : l.filter (fun j => P j && !decide (j = i)) = r := by
  have e : l.filter (fun j => P j && !decide (j = i)) = (l.filter P).filter (fun j => !decide (j = i)) := by rw [List.filter_filter]; congr 1; funext j; exact Bool.and_comm _ _
  rw [e, h]
  have hnd : (i :: r).Nodup := by rw [← h]; exact hn.filter _
  have hi := (List.nodup_cons.1 hnd).1
  rw [List.filter_cons]
  simp only [decide_true, Bool.not_true, Bool.false_eq_true, if_false]
  rw [List.filter_eq_self]
  intro j hj
  simp only [Bool.not_eq_true', decide_eq_false_iff_not]
  exact fun e => hi (e ▸ hj)
/-- A slot less. -/
theorem upto_clear {rows : List SRow} {i : Nat} {key k : List UInt8} {r : List Nat} (h0 : upto rows rows.length key = i :: r) : upto (rows.set i noRow) (rows.set i noRow).length k = if k = key then r else upto rows rows.length k := by
  rw [List.length_set]
  have hm : i ∈ upto rows rows.length key := by rw [h0]; simp
  obtain ⟨hi, hu, hk⟩ := upto_mem.1 hm
  unfold upto
  by_cases e : k = key
  · subst e
    rw [if_pos rfl, ← filter_not_mem List.nodup_range h0]
    refine List.filter_congr (fun j hj => ?_)
    unfold rowIs
    rw [getD_set]
    by_cases e2 : i = j
    · subst e2
      rw [if_pos ⟨rfl, hi⟩]
      simp [noRow]
    · have e3 : decide (j = i) = false := decide_eq_false (fun h => e2 h.symm)
      rw [if_neg (fun h => e2 h.1), e3]
      simp
  · rw [if_neg e]
    refine List.filter_congr (fun j hj => ?_)
    unfold rowIs
    rw [getD_set]
    by_cases e2 : i = j
    · subst e2
      rw [if_pos ⟨rfl, hi⟩, hk]
      have : decide (key = k) = false := decide_eq_false (fun h => e h.symm)
      rw [this]
      simp [noRow]
    · rw [if_neg (fun h => e2 h.1)]
theorem keysOk.set {rows : List SRow} (h : keysOk rows) (i : Nat) {r : SRow} (hr : r.used = true → unOk r.key = true) : keysOk (rows.set i r) := by
  intro x hx hu
  rcases List.mem_or_eq_of_mem_set hx with h1 | rfl
  · exact h x h1 hu
  · exact hr hu
theorem wp_upd {κ : Type} {k : TypeId} {kv : κ → Value} {kl : κ → Lit} {ok : κ → Prop} (E : KE k kv kl ok) (w : World) {o : Oper} {a : Act} {K : Act → World → Prop} {Q : Exit → Act → World → Prop} (m x v : Operand) (t : TypeId) (hop : o.op = Op.mapUpdate t m x v) (e : TypeId)
    (ht : Tryz.prog.underlying t = some (.map k e)) (b N : Nat) (φ : κ → Option Value) (hm : a.eval m = .map (some b)) (h : MapF k kl ok w b φ N) (hN : N < maxLen) (y : κ) (hx : a.eval x = kv y) (hy : ok y) (u : Value) (hv : a.eval v = u)
    (hK : ∀ w', MapF k kl ok w' b (updF φ y u) (if (φ y).isSome then N else N + 1) → Chg [b] w w' → w'.heap.size = w.heap.size → K (a.put o.dst undef) w') : Oper.wp Tryz.prog o a w K Q := by
  obtain ⟨w', hrun, r1, r2, r3⟩ := h.store E ht hy u hN
  unfold Oper.wp
  simp [execOp, hop, hm, hx, hv, hrun, Result.andThen]
  exact hK w' r1 r2 r3
/-- Slots hear nothing of a map. -/
theorem SlotsAt.keepMap {w w' : World} {q p mb : Nat} {U : List Nat} {s : SS} (h : SlotsAt w q p U s) (hc : Chg [mb] w w') (hm : ∃ es clock, w.heap[mb]? = some (.map es clock)) (hU : mb ∉ U) : SlotsAt w' q p U s := by
  obtain ⟨S, rv, R, h⟩ := h
  have hne : ∀ x ∈ U, x ∉ [mb] := fun x hx hmm => hU (by rw [← List.mem_singleton.1 hmm]; exact hx)
  refine ⟨S, rv, R, h.obj.keep hc (fun x hx => hne x (h.uB x hx)), h.disk.keep hc (fun x hx => hne x (h.uS x hx)), h.rows, h.sep, fun x hx => ?_, h.uS, h.uB, fun x hx => Nat.lt_of_lt_of_le (h.uL x hx) hc.size, h.ok⟩
  obtain ⟨h1, h2⟩ := h.keys x hx
  refine ⟨h1.chgW hc (fun hn k hk hmm => ?_), fun g hg => ⟨Nat.lt_of_lt_of_le (h2 g hg).1 hc.size, (h2 g hg).2⟩⟩
  obtain rfl := List.mem_singleton.1 hmm
  obtain ⟨es, clock, hmo⟩ := hm
  obtain ⟨a, cap, hv, _, _, h3⟩ := h1
  rw [hv] at hk
  rcases h3 with ⟨h3, _⟩ | ⟨g, o, rfl, hcell⟩
  · exact hn h3
  · obtain rfl : g = k := by simpa [Value.ownBlock] using hk
    have := hcell 0 (List.length_pos_iff.2 hn)
    simp only [World.cell?, hmo] at this
    cases this
/-- A fragment more, in memory. -/
theorem StOk.added {w w2 w3 : World} {q p sp mb : Nat} {Us : List Nat} {φ : Id → Option Value} {N N' : Nat} {t : Sto} {s' : SS} {i n : Nat} {x : Id} {v : Value} (h : StOk G w q p sp mb Us φ N t) (hs : Sid w w2 sp p Us s') (hrows : s'.rows = t.s.rows.set i ⟨true, n, idKey x⟩) (hi : i < t.s.rows.length)
    (hu : (t.s.rows.getD i noRow).used = false) (hx : mayId x = true) (hat : t.at x = []) (hc : Chg [mb] w2 w3) (hmap : MapF 25 klD okD w3 mb (updF φ x v) N') (hv : IntsAt w3 v [i]) (hf : ∀ g, v.ownBlock = some g → w2.heap.size ≤ g ∧ g < w3.heap.size) :
    Std G w w3 q p (q :: mb :: Us) { t with s := s' } := by
  obtain ⟨U', h1, h2, h3⟩ := hs
  have hq := blk_lt h.head
  have hm := h.map.lt
  have hqm := ne_blk h.head h.map
  rw [Sto.at_may hx] at hat
  have hat' : ∀ y, Sto.at { t with s := s' } y = if y = x then [i] else t.at y := fun y => by
    by_cases hy : mayId y = true
    · rw [Sto.at_may hy, Sto.at_may hy]
      show upto s'.rows s'.rows.length (idKey y) = _
      rw [hrows, upto_put hi hu hat]
      by_cases e : y = x
      · subst e; rw [if_pos rfl, if_pos rfl]
      · rw [if_neg e, if_neg (fun h => e (idKey_inj hy hx h))]
    · have hy' : mayId y = false := by simpa using hy
      rw [Sto.at_not hy', Sto.at_not hy', if_neg (fun e => by subst e; exact hy hx)]
  have hqU : q ∉ U' := fun hx => by
    rcases h2 q hx with h4 | h4
    · exact h.apart.1 h4
    · omega
  have hmU : mb ∉ U' := fun hx => by
    rcases h2 mb hx with h4 | h4
    · exact h.apart.2 h4
    · omega
  have hcc : Chg (mb :: Us) w w3 := (h3.mono (fun y hy => .inl (List.mem_cons_of_mem _ hy))).trans hc (fun y hy => .inl (by rw [List.mem_singleton.1 hy]; simp))
  have hU2 : ∀ y ∈ q :: mb :: U', y ∈ q :: mb :: Us ∨ w.heap.size ≤ y := fun y hy => by
    rcases List.mem_cons.1 hy with rfl | hy
    · exact .inl (by simp)
    · rcases List.mem_cons.1 hy with rfl | hy
      · exact .inl (by simp)
      · rcases h2 y hy with h4 | h4
        · exact .inl (by simp [h4])
        · exact .inr h4
  refine StOk.std (Us' := U') ⟨hcc.keep h.head (fun hy => ?_), h1.keepMap hc (h.map.chg h3 h.apart.2).obj hmU, hmap, ⟨hqU, hmU⟩, fun y hy => ?_, ?_, (h.far.mono hcc.size).upd x (fun k hk e => by have := (hf k e).1; have := (h.far k hk).1; have := h3.size; omega)⟩ h2 (hcc.mono (fun y hy => .inl (List.mem_cons_of_mem _ hy)))
  · rcases List.mem_cons.1 hy with h4 | h4
    · exact hqm h4
    · exact h.apart.1 h4
  · rw [hat' y]
    by_cases e : y = x
    · subst e
      rw [if_pos rfl, updF_self]
      refine .inr ⟨by simp, v, rfl, hv, fun g hg => ⟨(hf g hg).2, fun hmm => ?_⟩⟩
      have := (hf g hg).1
      rcases List.mem_cons.1 hmm with rfl | hmm
      · have := h3.size; omega
      · rcases List.mem_cons.1 hmm with rfl | hmm
        · have := h3.size; omega
        · have := h1.uL g hmm; omega
    · rw [if_neg e, updF_other _ _ e]
      exact (h.vals y hy).keep hcc (fun z hz => .inl (List.mem_cons_of_mem _ hz)) hU2
  · show keysOk s'.rows
    rw [hrows]
    exact h.ok.set i (fun _ => (un_key hx).2)
end Go.Proofs.YtbkajnjboipbhaaGreatDoor.W

/- Package store: Put. -/
namespace Go.Proofs.YtbkajnjboipbhaaGreatDoor.W
open Go.RowKit
set_option linter.unusedVariables false
set_option linter.unusedSimpArgs false
variable {G : List Nat}

theorem SS.free_ok {s : SS} (h : ¬ s.free < 0) : ∃ i : Nat, s.free = (i : Int) ∧ i < s.rows.length ∧ (s.rows.getD i noRow).used = false := by
  unfold SS.free at h ⊢
  rcases rowFree_spec s.rows 0 with ⟨h1, _⟩ | ⟨n, h1, h2, h3, _⟩
  · rw [h1] at h; omega
  · exact ⟨n, by rw [h2, Nat.zero_add], h1, h3⟩
set_option maxHeartbeats 8000000 in
set_option maxRecDepth 100000 in
theorem stput_any (q p : Nat) (U : List Nat) (t : Sto) (x : Id) (bv : Value) (b : List UInt8) (w : World) (h : StAt G w q p U t) (hxo : okD x) (hb : BytesAt w bv b) (hbU : b ≠ [] → ∀ k, bv.ownBlock = some k → k ∉ U) (hbl : b.length ≤ 1000000) (ho : t.s.d.ops ≤ 900000000) (hw : t.s.d.since.length ≤ 900000) :
    Calls Tryz.prog 19 #[.pointer (some ⟨q, 0, none⟩), idV x, bv] w fun e w' => e = .returned (.int .i64 (t.put x b).1) ∧ Std G w w' q p U (t.put x b).2 := by
  obtain ⟨sp, mb, Us, φ, N, h, rfl⟩ := h
  obtain ⟨w1, hw1⟩ : ∃ w1, w1 = w.alloc (.cells (idC x) 25) := ⟨_, rfl⟩
  have hc1 : Chg [] w w1 := by rw [hw1]; exact (Chg.refl [] w).alloc _
  have hb1 : w1.heap[w.heap.size]? = some (.cells (idC x) 25 (0, 0)) := by rw [hw1]; exact heap_alloc_new w _
  have H1 := h.keep0 hc1
  obtain ⟨k0, _, _, _⟩ := H1.cells
  have CM := Lib.hid (stmade_any q p w1 k0)
  have CK := Lib.hid (stkey_any x w1)
  have HB := Lib.hid hb1
  have HC1 := Lib.hid hc1
  have HW1 := Lib.hid hw1
  have HH1 := Lib.hid H1
  have HX := Lib.hid hxo
  have HBY := Lib.hid (hb.chg hc1 (by simp))
  have HBU := Lib.hid hbU
  have HUL := Lib.hid h.slots.uL
  obtain ⟨ab, cb, rfl⟩ := hb.slice
  have HST : Hid (∀ w', Chg [] w1 w' → Std G w w' q p (q :: mb :: Us) t) := Lib.hid (fun w' hc => ⟨q :: mb :: Us, ⟨sp, mb, Us, φ, N, H1.keep0 hc, rfl⟩, fun y hy => .inl hy, (hc1.trans hc (by simp)).mono (by simp)⟩)
  clear hw1 hb1 hc1 h hxo hb hbU H1
  unfold KeyPost at CK
  by_cases hm : mayId x = true
  · simp only [hm, if_true] at CK
    have HM := Lib.hid hm
    have HG0 : Hid (t.put x b = if 448 < b.length then (3, t) else match t.at x with
        | i :: _ => if (t.s.get i).2 ≠ 0 then ((t.s.get i).2, t) else if (t.s.get i).1 = b then (0, t) else (7, t)
        | [] => if t.s.free < 0 then (5, t) else ((t.s.put t.s.free (idKey x) b).1, { t with s := (t.s.put t.s.free (idKey x) b).2 })) := Lib.hid (by unfold Sto.put; rw [if_neg (by simp [hm])]; try rfl)
    generalize t.put x b = r at *
    obtain ⟨xc, xl, xn, xi⟩ := x
    clear hm
    have hkl := idKey_len ⟨xc, xl, xn, xi⟩
    go_enter Tryz.func19, Tryz.ntmps19
    go_wp2_with fail
    rw [← HW1.out]
    refine CM.out.mono ?_
    rintro e w' ⟨rfl, hq⟩
    subst hq
    obtain ⟨m0, m1, m2, m3⟩ := id_cells HB.out
    go_wp2_with fail
    refine CK.out.mono ?_
    rintro e w2 ⟨hc2, kv, rfl, hkr, hkf⟩
    have HB2 := Lib.hid (hc2.keep HB.out (by simp))
    have HH2 := Lib.hid (HH1.out.keep0 hc2)
    have HC2 := Lib.hid hc2
    have HBY2 := Lib.hid (HBY.out.chg hc2 (by simp))
    have HKR := Lib.hid (And.intro hkr hkf)
    obtain ⟨ak, ck, rfl⟩ := hkr.slice
    clear hc2 m0 m1 m2 m3 k0 CM CK HB HBY hkr hkf
    by_cases hlen : 448 < b.length
    · have HR : Hid (r = (3, t)) := Lib.hid (by rw [HG0.out, if_pos hlen])
      have hlz : (448 : Int) < (b.length : Int) := by omega
      clear HG0
      go_wp2
      go_ret
      rw [HR.out]
      exact ⟨rfl, HST.out _ HC2.out⟩
    · have hlz : ¬ (448 : Int) < (b.length : Int) := by omega
      rw [if_neg hlen] at HG0
      obtain ⟨v, hlk, hlook⟩ := HH2.out.look HX.out
      obtain ⟨k0, k1, k2, _⟩ := HH2.out.cells
      obtain ⟨m0, m1, m2, m3⟩ := id_cells HB2.out
      obtain ⟨⟨a, cap, hv, hl1, hl2⟩, hfst⟩ := hlook
      cases hat : t.at ⟨xc, xl, xn, xi⟩ with
      | nil =>
        rw [hat] at HG0 hv
        subst hv
        dsimp only at HG0
        have HAT := Lib.hid hat
        clear hfst hat
        go_wp2_with fail
        go_quiet (fail)
        have HCn : Hid (Chg [] w2 (w2.drewN nq)) := Lib.hid ((Chg.refl [] w2).drewN nq)
        have HHn := Lib.hid (HH2.out.keep0 HCn.out)
        have HBn := Lib.hid (HBY2.out.chg HCn.out (by simp))
        have HKn := Lib.hid (HKR.out.1.bytes.chg HCn.out (by simp))
        have HIn := Lib.hid (show (w2.drewN nq).heap[w.heap.size]? = some (.cells (idC ⟨xc, xl, xn, xi⟩) 25 (0, 0)) from HB2.out)
        have CF := Lib.hid (sfree_any sp p Us t.s _ HHn.out.slots)
        obtain ⟨k0, k1, k2, _⟩ := HHn.out.cells
        clear hlk m0 m1 m2 m3
        generalize w2.drewN nq = w3 at *
        by_cases hfr : t.s.free < 0
        · have HR : Hid (r = (5, t)) := Lib.hid (by rw [HG0.out, if_pos hfr])
          clear HG0
          go_wp2_with (go_at_call 59; refine CF.out.mono ?_; rintro e w' ⟨rfl, hq⟩; subst hq)
          go_ret
          rw [HR.out]
          exact ⟨rfl, HST.out _ (HC2.out.trans HCn.out (by simp))⟩
        · rw [if_neg hfr] at HG0
          obtain ⟨i, hfi, hil, hiu⟩ := SS.free_ok hfr
          rw [hfi] at CF HG0 hfr
          have CP := Lib.hid (sput_any sp p Us t.s (i : Int) _ _ _ b w3 HHn.out.slots HKn.out (fun _ k hk hm => by
            have a1 := HKR.out.2 k hk
            have a2 := HH1.out.slots.uL k hm
            omega) HBn.out (fun hne k hk hm => HBU.out hne k hk (by simp [hm])) (by rw [hkl]; omega) hbl ho hw)
          have hpn := @SS.put_not t.s (i : Int) (idKey ⟨xc, xl, xn, xi⟩) b
          have hpd := @SS.put_done t.s (i : Int) (idKey ⟨xc, xl, xn, xi⟩) b
          generalize t.s.put (i : Int) (idKey ⟨xc, xl, xn, xi⟩) b = z at *
          obtain ⟨ze, zs⟩ := z
          dsimp only at HG0 hpn hpd
          unfold SidPost at CP
          have HPN := Lib.hid (And.intro hpn hpd)
          have HIU := Lib.hid (And.intro hil hiu)
          clear hpn hpd hfi hil hiu
          go_wp2_with (go_at_call 59; refine CF.out.mono ?_; rintro e w' ⟨rfl, hq⟩; subst hq)
          refine CP.out.mono ?_
          rintro e w4 ⟨rfl, hs4⟩
          have HS4 := Lib.hid (Sid.pre (HC1.out.trans (HC2.out.trans HCn.out (by simp)) (by simp)) hs4)
          have HS4' := Lib.hid hs4
          clear hs4 CP CF
          by_cases he : ze = 0
          · subst he
            have HR : Hid (r = (0, { t with s := zs })) := Lib.hid (by rw [HG0.out])
            obtain ⟨hhas, hun, hrows⟩ := HPN.out.2 rfl
            obtain ⟨Us', hs1, hs2, hs3⟩ := HS4'.out
            have hid4 : w4.heap[w.heap.size]? = some (.cells (idC ⟨xc, xl, xn, xi⟩) 25 (0, 0)) := hs3.keep HIn.out (fun hm => by have := HUL.out _ hm; omega)
            have c4 := hs3.cell HHn.out.cells.2.2.1 HHn.out.apart.1
            have c4' := hs3.cell HHn.out.cells.1 HHn.out.apart.1
            have HM4 := Lib.hid (HHn.out.map.chg hs3 HHn.out.apart.2)
            have mm4 := id_cells hid4
            have HI4 := Lib.hid hid4
            have hml := HM4.out.lt
            have hNN : N < maxLen := by
              have h1 := HHn.out.map.card keId (t.s.rows.map (fun r => unId r.key)) (fun y hy hs => by
                rcases HHn.out.vals y hy with ⟨_, h2⟩ | ⟨h1, _⟩
                · rw [h2] at hs; cases hs
                · obtain ⟨j, l, hjl⟩ := List.exists_cons_of_ne_nil h1
                  by_cases hmy : mayId y = true
                  · rw [Sto.at_may hmy] at hjl
                    have hj : j ∈ upto t.s.rows t.s.rows.length (idKey y) := by rw [hjl]; simp
                    obtain ⟨j1, j2, j3⟩ := upto_mem.1 hj
                    refine List.mem_map.2 ⟨t.s.rows.getD j noRow, ?_, by rw [j3, (un_key hmy).1]⟩
                    rw [List.getD_eq_getElem?_getD, List.getElem?_eq_getElem j1]
                    exact List.getElem_mem _
                  · rw [Sto.at_not (by simpa using hmy)] at hjl; cases hjl)
              obtain ⟨S0, rv0, R0, H0⟩ := HHn.out.slots
              have := H0.few
              rw [List.length_map] at h1
              unfold maxLen
              omega
            have HRW := Lib.hid hrows
            clear hs1 hs2 hs3 hid4 hhas hun hrows HG0
            go_wp2_with fail
            refine wp_region_L [(7, fun w' => w'.cell? ⟨q, 2, none⟩ = some (.map (some mb))), (7, fun w' => (w'.cell? ⟨w.heap.size, 0, none⟩ = some (.int .i64 xc) ∧ w'.cell? ⟨w.heap.size, 1, none⟩ = some (.int .i64 xl) ∧ w'.cell? ⟨w.heap.size, 2, none⟩ = some (.int .i64 xn) ∧ w'.cell? ⟨w.heap.size, 3, none⟩ = some (.int .i64 xi)))] (by kernel_rfl) ?_ (fun hHeld => ?_)
            · exact (HoldC.cons (c4) (HoldC.cons (mm4) HoldC.nil))
            refine wpAnyL_take (i := 0) (oi := _) (v := ?_) rfl (by kernel_rfl) (by kernel_rfl) (by kernel_rfl) (by kernel_rfl) (by kernel_rfl) (fun _ _ _ h => h) (Or.inl ⟨by rfl, ?_⟩) (by assumption) (fun hNew => ?_)
            rotate_left
            · intro w _
              go_simp
              try with_reducible rfl
            clear hHeld
            have hHeld := hNew
            clear hNew
            try simp only [List.getElem_toArray, List.getElem_cons_succ, List.getElem_cons_zero, Act.put, List.setIfInBounds_toArray, List.set_cons_zero, List.set_cons_succ]
            refine wpAnyL_take (i := 1) (oi := _) (v := ?_) rfl (by kernel_rfl) (by kernel_rfl) (by kernel_rfl) (by kernel_rfl) (by kernel_rfl) (fun _ _ _ h => h) (Or.inl ⟨by rfl, ?_⟩) (by assumption) (fun hNew => ?_)
            rotate_left
            · intro w _
              go_simp
              try with_reducible rfl
            clear hHeld
            have hHeld := hNew
            clear hNew
            try simp only [List.getElem_toArray, List.getElem_cons_succ, List.getElem_cons_zero, Act.put, List.setIfInBounds_toArray, List.set_cons_zero, List.set_cons_succ]
            refine wpAnyL_take (i := 2) (oi := _) (v := ?_) rfl (by kernel_rfl) (by kernel_rfl) (by kernel_rfl) (by kernel_rfl) (by kernel_rfl) (fun _ _ _ h => h) (Or.inl ⟨by rfl, ?_⟩) (by assumption) (fun hNew => ?_)
            rotate_left
            · intro w _
              go_simp
              try with_reducible rfl
            clear hHeld
            have hHeld := hNew
            clear hNew
            try simp only [List.getElem_toArray, List.getElem_cons_succ, List.getElem_cons_zero, Act.put, List.setIfInBounds_toArray, List.set_cons_zero, List.set_cons_succ]
            refine wpAnyL_load 0 (i := 3) (oi := _) (v := ?_) rfl rfl (by kernel_rfl) (by kernel_rfl) (by kernel_rfl) (by kernel_rfl) (by kernel_rfl) (by kernel_rfl) (fun _ _ _ h => h) (Or.inl ⟨by rfl, ?_⟩) (by assumption) (fun hNew => ?_)
            rotate_left
            · intro w hSw
              (try dsimp only at hSw)
              go_simp
              try with_reducible rfl
            clear hHeld
            have hHeld := hNew
            clear hNew
            try simp only [List.getElem_toArray, List.getElem_cons_succ, List.getElem_cons_zero, Act.put, List.setIfInBounds_toArray, List.set_cons_zero, List.set_cons_succ]
            refine wpAnyL_load 1 (i := 4) (oi := _) (v := ?_) rfl rfl (by kernel_rfl) (by kernel_rfl) (by kernel_rfl) (by kernel_rfl) (by kernel_rfl) (by kernel_rfl) (fun _ _ _ h => h) (Or.inl ⟨by rfl, ?_⟩) (by assumption) (fun hNew => ?_)
            rotate_left
            · intro w hSw
              (try dsimp only at hSw)
              go_simp
              try with_reducible rfl
            clear hHeld
            have hHeld := hNew
            clear hNew
            try simp only [List.getElem_toArray, List.getElem_cons_succ, List.getElem_cons_zero, Act.put, List.setIfInBounds_toArray, List.set_cons_zero, List.set_cons_succ]
            refine wpAnyL_take (i := 5) (oi := _) (v := ?_) rfl (by kernel_rfl) (by kernel_rfl) (by kernel_rfl) (by kernel_rfl) (by kernel_rfl) (fun _ _ _ h => h) (Or.inl ⟨by rfl, ?_⟩) (by assumption) (fun hNew => ?_)
            rotate_left
            · intro w _
              go_simp
              try with_reducible rfl
            clear hHeld
            have hHeld := hNew
            clear hNew
            try simp only [List.getElem_toArray, List.getElem_cons_succ, List.getElem_cons_zero, Act.put, List.setIfInBounds_toArray, List.set_cons_zero, List.set_cons_succ]
            refine wpAnyL_ready (rs := [6]) (by kernel_rfl) (by simp) ?_
            refine AllReadyL.cons (o := _) rfl (fun K hK => ?_) AllReadyL.nil
            try simp only [List.getElem_toArray, List.getElem_cons_succ, List.getElem_cons_zero]
            go_simp
            have hcW : Chg [] w4 (w4.alloc (.cells #[.int .i64 (i : Int)] 3)).drew := ((Chg.refl _ _).alloc _).drew
            have hbW : (w4.alloc (.cells #[.int .i64 (i : Int)] 3)).drew.heap[w4.heap.size]? = some (.cells #[.int .i64 (i : Int)] 3 (0, 0)) := heap_alloc_new w4 _
            have hbl2 : w4.heap.size < (w4.alloc (.cells #[.int .i64 (i : Int)] 3)).drew.heap.size := blk_lt hbW
            generalize (w4.alloc (.cells #[.int .i64 (i : Int)] 3)).drew = W at *
            have c8 := hcW.cell c4 (by simp)
            have mm8 := id_cells (hcW.keep HI4.out (by simp))
            have HMW := Lib.hid (HM4.out.chg hcW (by simp))
            clear hHeld
            refine hK.out _ _ ?_ (fun hHeld => ?_)
            · exact (HoldC.cons (c8) (HoldC.cons (mm8) HoldC.nil))
            clear hK K
            try simp only [List.getElem_toArray, List.getElem_cons_succ, List.getElem_cons_zero, Act.put, List.setIfInBounds_toArray, List.set_cons_zero, List.set_cons_succ]
            refine wpAnyL_ready (rs := [7]) (by kernel_rfl) (by simp) ?_
            refine AllReadyL.cons (o := _) rfl (fun K hK => ?_) AllReadyL.nil
            try simp only [List.getElem_toArray, List.getElem_cons_succ, List.getElem_cons_zero]
            refine wp_upd keId W (.tmp 77) (.tmp 78) (.tmp 80) 98 (by rfl) 49 Tryz.underlying98 mb N φ (by rfl) HMW.out hNN ⟨xc, xl, xn, xi⟩ (by rfl) HX.out (.slice (some ⟨w4.heap.size, 0, none⟩) 1 1) (by rfl) ?_
            intro w6 hm6 hc6 hs6
            have hv6 : IntsAt w6 (.slice (some ⟨w4.heap.size, 0, none⟩) 1 1) [i] := ⟨_, 1, rfl, by simp, by unfold maxLen; omega, fun _ => ⟨_, 0, rfl, fun j hj => by
              obtain rfl : j = 0 := by simpa using hj
              exact hc6.cell (blk_cell hbW 0 _ rfl) (by simp; omega)⟩⟩
            have hF := HHn.out.added HS4'.out HRW.out HIU.out.1 HIU.out.2 HM.out HAT.out ((hcW.mono (by simp)).trans hc6 (fun y hy => .inl hy)) hm6 hv6 (fun k hk => by
              obtain rfl : w4.heap.size = k := by simpa [Value.ownBlock] using hk
              exact ⟨Nat.le_refl _, by omega⟩)
            have HF := Lib.hid (Std.pre (HC1.out.trans (HC2.out.trans HCn.out (by simp)) (by simp)) hF)
            clear hF hm6 hc6 hs6 hv6 hcW hbW
            clear hHeld
            refine hK.out _ _ ?_ (fun hHeld => ?_)
            · exact (HoldC.past (by kernel_rfl) (HoldC.past (by kernel_rfl) HoldC.nil))
            clear hK K
            try simp only [List.getElem_toArray, List.getElem_cons_succ, List.getElem_cons_zero, Act.put, List.setIfInBounds_toArray, List.set_cons_zero, List.set_cons_succ]
            refine wpAnyL_done (by kernel_rfl) ?_ _
            clear hHeld
            go_wp2_with fail
            go_ret
            rw [HR.out]
            exact ⟨rfl, HF.out⟩
          · have HR : Hid (r = (ze, { t with s := zs })) := Lib.hid (by rw [HG0.out])
            have q0 : (ze != 0) = true := by simp [he]
            have HF : Hid (Std G w w4 q p (q :: mb :: Us) { t with s := zs }) := Lib.hid (by
              obtain ⟨Us', h1, h2, h3⟩ := HHn.out.slotsDid HS4'.out (HPN.out.1 he)
              have hc0 : Chg [] w w3 := HC1.out.trans (HC2.out.trans HCn.out (by simp)) (by simp)
              refine Std.pre hc0 (h1.std h2 (h3.mono (fun y hy => .inl (by simp [hy])))))
            clear HG0 he
            go_wp2
            go_ret
            rw [HR.out]
            exact ⟨rfl, HF.out⟩
      | cons i rest =>
        obtain ⟨g, o, cap', hv', hc0⟩ := hfst i rest hat
        rw [hv'] at hv
        obtain ⟨rfl, _, rfl⟩ := Value.slice.inj hv
        rw [hat] at HG0 hv'
        dsimp only at HG0
        subst hv'
        have hpos : 0 < (i :: rest).length := by simp
        have hcl : (i :: rest).length ≤ cap' := by rw [← hat]; exact hl1
        have hbig : (i :: rest).length ≤ 9223372036854775807 := by rw [hat] at hl1; unfold maxLen at hl2; omega
        generalize (i :: rest).length = n at *
        have hn0 : ((n : Int) == 0) = false := by simp; omega
        clear hv hfst hat hl1 hl2
        go_wp2_with fail
        go_quiet (fail)
        have hc03 : (w2.drewN nq).drew.cell? ⟨g, o, none⟩ = some (.int .i64 (i : Int)) := hc0
        have HCn : Hid (Chg [] w2 (w2.drewN nq).drew) := Lib.hid (((Chg.refl [] w2).drewN nq).drew)
        have HHn := Lib.hid (HH2.out.keep0 HCn.out)
        have CG := Lib.hid (sget_any sp p Us t.s i _ HHn.out.slots)
        have HBn := Lib.hid (HBY2.out.chg HCn.out (by simp))
        obtain ⟨h0, h1, h2, _⟩ := HHn.out.cells
        clear hlk hc0 k0 k1 k2 m0 m1 m2 m3
        generalize w2.drewN nq = w3 at *
        go_wp2_with fail
        refine wp_region_L [(7, fun w' => w'.cell? ⟨q, 1, none⟩ = some (.pointer (some ⟨sp, 0, none⟩))), (7, fun w' => w'.cell? ⟨g, o, none⟩ = some (.int .i64 (i : Int)))] (by kernel_rfl) ?_ (fun hHeld => ?_)
        · exact (HoldC.cons (h1) (HoldC.cons (hc03) HoldC.nil))
        refine wpAnyL_take (i := 0) (oi := _) (v := ?_) rfl (by kernel_rfl) (by kernel_rfl) (by kernel_rfl) (by kernel_rfl) (by kernel_rfl) (fun _ _ _ h => h) (Or.inl ⟨by rfl, ?_⟩) (by assumption) (fun hNew => ?_)
        rotate_left
        · intro w _
          go_simp
          try with_reducible rfl
        clear hHeld
        have hHeld := hNew
        clear hNew
        try simp only [List.getElem_toArray, List.getElem_cons_succ, List.getElem_cons_zero, Act.put, List.setIfInBounds_toArray, List.set_cons_zero, List.set_cons_succ]
        refine wpAnyL_take (i := 1) (oi := _) (v := ?_) rfl (by kernel_rfl) (by kernel_rfl) (by kernel_rfl) (by kernel_rfl) (by kernel_rfl) (fun _ _ _ h => h) (Or.inl ⟨by rfl, ?_⟩) (by assumption) (fun hNew => ?_)
        rotate_left
        · intro w _
          go_simp
          try with_reducible rfl
        clear hHeld
        have hHeld := hNew
        clear hNew
        try simp only [List.getElem_toArray, List.getElem_cons_succ, List.getElem_cons_zero, Act.put, List.setIfInBounds_toArray, List.set_cons_zero, List.set_cons_succ]
        refine wpAnyL_take (i := 2) (oi := _) (v := ?_) rfl (by kernel_rfl) (by kernel_rfl) (by kernel_rfl) (by kernel_rfl) (by kernel_rfl) (fun _ _ _ h => h) (Or.inl ⟨by rfl, ?_⟩) (by assumption) (fun hNew => ?_)
        rotate_left
        · intro w _
          go_simp
          try with_reducible rfl
        clear hHeld
        have hHeld := hNew
        clear hNew
        try simp only [List.getElem_toArray, List.getElem_cons_succ, List.getElem_cons_zero, Act.put, List.setIfInBounds_toArray, List.set_cons_zero, List.set_cons_succ]
        refine wpAnyL_load 0 (i := 3) (oi := _) (v := ?_) rfl rfl (by kernel_rfl) (by kernel_rfl) (by kernel_rfl) (by kernel_rfl) (by kernel_rfl) (by kernel_rfl) (fun _ _ _ h => h) (Or.inl ⟨by rfl, ?_⟩) (by assumption) (fun hNew => ?_)
        rotate_left
        · intro w hSw
          (try dsimp only at hSw)
          go_simp
          try with_reducible rfl
        clear hHeld
        have hHeld := hNew
        clear hNew
        try simp only [List.getElem_toArray, List.getElem_cons_succ, List.getElem_cons_zero, Act.put, List.setIfInBounds_toArray, List.set_cons_zero, List.set_cons_succ]
        refine wpAnyL_take (i := 4) (oi := _) (v := ?_) rfl (by kernel_rfl) (by kernel_rfl) (by kernel_rfl) (by kernel_rfl) (by kernel_rfl) (fun _ _ _ h => h) (Or.inl ⟨by rfl, ?_⟩) (by assumption) (fun hNew => ?_)
        rotate_left
        · intro w _
          go_simp
          try with_reducible rfl
        clear hHeld
        have hHeld := hNew
        clear hNew
        try simp only [List.getElem_toArray, List.getElem_cons_succ, List.getElem_cons_zero, Act.put, List.setIfInBounds_toArray, List.set_cons_zero, List.set_cons_succ]
        refine wpAnyL_take (i := 5) (oi := _) (v := ?_) rfl (by kernel_rfl) (by kernel_rfl) (by kernel_rfl) (by kernel_rfl) (by kernel_rfl) (fun _ _ _ h => h) (Or.inl ⟨by rfl, ?_⟩) (by assumption) (fun hNew => ?_)
        rotate_left
        · intro w _
          go_simp
          try with_reducible rfl
        clear hHeld
        have hHeld := hNew
        clear hNew
        try simp only [List.getElem_toArray, List.getElem_cons_succ, List.getElem_cons_zero, Act.put, List.setIfInBounds_toArray, List.set_cons_zero, List.set_cons_succ]
        refine wpAnyL_load 1 (i := 6) (oi := _) (v := ?_) rfl rfl (by kernel_rfl) (by kernel_rfl) (by kernel_rfl) (by kernel_rfl) (by kernel_rfl) (by kernel_rfl) (fun _ _ _ h => h) (Or.inl ⟨by rfl, ?_⟩) (by assumption) (fun hNew => ?_)
        rotate_left
        · intro w hSw
          (try dsimp only at hSw)
          go_simp
          try with_reducible rfl
        clear hHeld
        have hHeld := hNew
        clear hNew
        try simp only [List.getElem_toArray, List.getElem_cons_succ, List.getElem_cons_zero, Act.put, List.setIfInBounds_toArray, List.set_cons_zero, List.set_cons_succ]
        refine wpAnyL_ready (rs := [7]) (by kernel_rfl) (by simp) ?_
        refine AllReadyL.cons (o := _) rfl (fun K hK => ?_) AllReadyL.nil
        try simp only [List.getElem_toArray, List.getElem_cons_succ, List.getElem_cons_zero]
        go_simp
        refine CG.out.mono ?_
        rintro e w4 ⟨⟨v4, rfl, hb4, ho4⟩, hc4⟩
        have HC4 := Lib.hid ((HC2.out.trans HCn.out (by simp)).trans hc4 (by simp))
        obtain ⟨a4, c4, rfl⟩ := hb4.slice
        have CE := Lib.hid (equal_any _ _ _ _ w4 hb4 (HBn.out.chg hc4 (by simp)))
        clear hb4 ho4 hc4 CG
        clear hHeld
        refine hK.out _ _ ?_ (fun hHeld => ?_)
        · exact (HoldC.past (by kernel_rfl) (HoldC.past (by kernel_rfl) HoldC.nil))
        clear hK K
        try simp only [List.getElem_toArray, List.getElem_cons_succ, List.getElem_cons_zero, Act.put, List.setIfInBounds_toArray, List.set_cons_zero, List.set_cons_succ]
        refine wpAnyL_take (i := 8) (oi := _) (v := ?_) rfl (by kernel_rfl) (by kernel_rfl) (by kernel_rfl) (by kernel_rfl) (by kernel_rfl) (fun _ _ _ h => h) (Or.inl ⟨by rfl, ?_⟩) (by assumption) (fun hNew => ?_)
        rotate_left
        · intro w _
          go_simp
          try with_reducible rfl
        clear hHeld
        have hHeld := hNew
        clear hNew
        try simp only [List.getElem_toArray, List.getElem_cons_succ, List.getElem_cons_zero, Act.put, List.setIfInBounds_toArray, List.set_cons_zero, List.set_cons_succ]
        refine wpAnyL_take (i := 9) (oi := _) (v := ?_) rfl (by kernel_rfl) (by kernel_rfl) (by kernel_rfl) (by kernel_rfl) (by kernel_rfl) (fun _ _ _ h => h) (Or.inl ⟨by rfl, ?_⟩) (by assumption) (fun hNew => ?_)
        rotate_left
        · intro w _
          go_simp
          try with_reducible rfl
        clear hHeld
        have hHeld := hNew
        clear hNew
        try simp only [List.getElem_toArray, List.getElem_cons_succ, List.getElem_cons_zero, Act.put, List.setIfInBounds_toArray, List.set_cons_zero, List.set_cons_succ]
        refine wpAnyL_take (i := 10) (oi := _) (v := ?_) rfl (by kernel_rfl) (by kernel_rfl) (by kernel_rfl) (by kernel_rfl) (by kernel_rfl) (fun _ _ _ h => h) (Or.inl ⟨by rfl, ?_⟩) (by assumption) (fun hNew => ?_)
        rotate_left
        · intro w _
          go_simp
          try with_reducible rfl
        clear hHeld
        have hHeld := hNew
        clear hNew
        try simp only [List.getElem_toArray, List.getElem_cons_succ, List.getElem_cons_zero, Act.put, List.setIfInBounds_toArray, List.set_cons_zero, List.set_cons_succ]
        refine wpAnyL_ready (rs := [11]) (by kernel_rfl) (by simp) ?_
        refine AllReadyL.cons (o := _) rfl (fun K hK => ?_) AllReadyL.nil
        try simp only [List.getElem_toArray, List.getElem_cons_succ, List.getElem_cons_zero]
        go_simp
        clear hHeld
        refine hK.out _ _ ?_ (fun hHeld => ?_)
        · exact (HoldC.past (by kernel_rfl) (HoldC.past (by kernel_rfl) HoldC.nil))
        clear hK K
        try simp only [List.getElem_toArray, List.getElem_cons_succ, List.getElem_cons_zero, Act.put, List.setIfInBounds_toArray, List.set_cons_zero, List.set_cons_succ]
        refine wpAnyL_ready (rs := [12]) (by kernel_rfl) (by simp) ?_
        refine AllReadyL.cons (o := _) rfl (fun K hK => ?_) AllReadyL.nil
        try simp only [List.getElem_toArray, List.getElem_cons_succ, List.getElem_cons_zero]
        go_simp
        clear hHeld
        refine hK.out _ _ ?_ (fun hHeld => ?_)
        · exact (HoldC.past (by kernel_rfl) (HoldC.past (by kernel_rfl) HoldC.nil))
        clear hK K
        try simp only [List.getElem_toArray, List.getElem_cons_succ, List.getElem_cons_zero, Act.put, List.setIfInBounds_toArray, List.set_cons_zero, List.set_cons_succ]
        refine wpAnyL_done (by kernel_rfl) ?_ _
        clear hHeld
        generalize t.s.get i = z at *
        obtain ⟨zb, ze⟩ := z
        dsimp only at CE HG0
        by_cases he : ze = 0
        · subst he
          rw [if_neg (by simp)] at HG0
          by_cases hbb : zb = b
          · have HR : Hid (r = (0, t)) := Lib.hid (by rw [HG0.out, if_pos hbb])
            rw [decide_eq_true hbb] at CE
            clear HG0 hbb
            go_wp2_with (go_at_call 58; refine CE.out.mono ?_; rintro e w' ⟨rfl, hq⟩; subst hq)
            go_ret
            rw [HR.out]
            exact ⟨rfl, HST.out _ HC4.out⟩
          · have HR : Hid (r = (7, t)) := Lib.hid (by rw [HG0.out, if_neg hbb])
            rw [decide_eq_false hbb] at CE
            clear HG0 hbb
            go_wp2_with (go_at_call 58; refine CE.out.mono ?_; rintro e w' ⟨rfl, hq⟩; subst hq)
            go_ret
            rw [HR.out]
            exact ⟨rfl, HST.out _ HC4.out⟩
        · have HR : Hid (r = (ze, t)) := Lib.hid (by rw [HG0.out, if_pos he])
          have q0 : (ze != 0) = true := by simp [he]
          clear HG0 he
          go_wp2
          go_ret
          rw [HR.out]
          exact ⟨rfl, HST.out _ HC4.out⟩
  · have hm' : mayId x = false := by simpa using hm
    have HG : Hid (t.put x b = (1, t)) := Lib.hid (by unfold Sto.put; rw [if_pos hm'])
    rw [HG.out]
    simp only [hm] at CK
    clear hm hm'
    obtain ⟨xc, xl, xn, xi⟩ := x
    go_enter Tryz.func19, Tryz.ntmps19
    go_wp2_with fail
    rw [← HW1.out]
    refine CM.out.mono ?_
    rintro e w' ⟨rfl, hq⟩
    subst hq
    obtain ⟨m0, m1, m2, m3⟩ := id_cells HB.out
    go_wp2_with fail
    refine CK.out.mono ?_
    rintro e w2 ⟨hc2, rfl⟩
    have HC2 := Lib.hid hc2
    clear hc2
    go_wp2
    go_ret
    exact ⟨rfl, HST.out _ HC2.out⟩
end Go.Proofs.YtbkajnjboipbhaaGreatDoor.W

/- Package store: what deleting does, in memory. -/
namespace Go.Proofs.YtbkajnjboipbhaaGreatDoor.W
open Go.RowKit
set_option linter.unusedVariables false
set_option linter.unusedSimpArgs false
variable {G : List Nat}

/-- As IdsAt; a slice that is empty may stand there. -/
def IdsAt0 (w : World) (U : List Nat) (o : Option Value) (l : List Nat) : Prop := (l = [] ∧ o = none) ∨ ∃ v, o = some v ∧ IntsAt w v l ∧ ∀ g, v.ownBlock = some g → g < w.heap.size ∧ g ∉ U
theorem IdsAt0.keep {w w' : World} {U U' T : List Nat} {o : Option Value} {l : List Nat} (h : IdsAt0 w U o l) (hc : Chg T w w') (hT : ∀ x ∈ T, x ∈ U ∨ w.heap.size ≤ x) (hU : ∀ x ∈ U', x ∈ U ∨ w.heap.size ≤ x) : IdsAt0 w' U' o l := by
  rcases h with h | ⟨v, h2, h3, h4⟩
  · exact .inl h
  · refine .inr ⟨v, h2, h3.keep fun g hg => ?_, fun g hg => ⟨Nat.lt_of_lt_of_le (h4 g hg).1 hc.size, fun hm => ?_⟩⟩
    · obtain ⟨k1, k2⟩ := h4 g hg
      refine hc.block g k1 (fun hm => ?_)
      rcases hT g hm with h | h
      · exact k2 h
      · omega
    · obtain ⟨k1, k2⟩ := h4 g hg
      rcases hU g hm with h | h
      · exact k2 h
      · omega
/-- A store while an id is being deleted. -/
structure StMid (G : List Nat) (w : World) (q p sp mb : Nat) (Us : List Nat) (φ : Id → Option Value) (N : Nat) (t : Sto) (x : Id) : Prop where
  head : w.heap[q]? = some (.cells #[.pointer (some ⟨p, 0, none⟩), .pointer (some ⟨sp, 0, none⟩), .map (some mb), .bool t.whole] 100 (0, 0))
  slots : SlotsAt w sp p Us t.s
  map : MapF 25 klD okD w mb φ N
  apart : q ∉ Us ∧ mb ∉ Us
  vals : ∀ y, okD y → y ≠ x → IdsAt w (q :: mb :: Us) (φ y) (t.at y)
  val : IdsAt0 w (q :: mb :: Us) (φ x) (t.at x)
  ok : keysOk t.s.rows
  far : Far G w φ
variable {w w2 w3 : World} {q p sp mb : Nat} {Us : List Nat} {φ : Id → Option Value} {N N' : Nat} {t : Sto} {x : Id}
theorem StMid.full (h : StMid G w q p sp mb Us φ N t x) (hne : t.at x ≠ []) : StOk G w q p sp mb Us φ N t := by
  refine ⟨h.head, h.slots, h.map, h.apart, fun y hy => ?_, h.ok, h.far⟩
  by_cases e : y = x
  · subst e
    rcases h.val with ⟨h1, _⟩ | ⟨v, h2, h3⟩
    · exact absurd h1 hne
    · exact .inr ⟨hne, v, h2, h3⟩
  · exact h.vals y hy e
theorem StMid.keep0 (h : StMid G w q p sp mb Us φ N t x) (hc : Chg [] w w2) : StMid G w2 q p sp mb Us φ N t x :=
  ⟨hc.keep h.head (by simp), h.slots.keep0 hc, h.map.chg hc (by simp), h.apart, fun y hy hn => (h.vals y hy hn).keep hc (by simp) (fun y hy => .inl hy), h.val.keep hc (by simp) (fun y hy => .inl hy), h.ok, h.far.mono hc.size⟩
theorem StMid.cells (h : StMid G w q p sp mb Us φ N t x) :
    w.cell? ⟨q, 0, none⟩ = some (.pointer (some ⟨p, 0, none⟩)) ∧ w.cell? ⟨q, 1, none⟩ = some (.pointer (some ⟨sp, 0, none⟩)) ∧ w.cell? ⟨q, 2, none⟩ = some (.map (some mb)) ∧ w.cell? ⟨q, 3, none⟩ = some (.bool t.whole) :=
  ⟨blk_cell h.head 0 _ rfl, blk_cell h.head 1 _ rfl, blk_cell h.head 2 _ rfl, blk_cell h.head 3 _ rfl⟩
/-- What is found at the id. -/
structure MidLook (G : List Nat) (w : World) (U : List Nat) (v : Value) (l : List Nat) : Prop where
  ints : IntsAt w v l
  own : ∀ g, v.ownBlock = some g → g < w.heap.size ∧ g ∉ U
  far : ∀ k ∈ G, v.ownBlock ≠ some k
theorem StMid.look (h : StMid G w q p sp mb Us φ N t x) (hx : okD x) :
    ∃ v, (∀ n, (Instr.lookup 98 (.map (some mb)) (idV x) false).run Tryz.prog (w.drewN n) = .ok v (w.drewN n)) ∧ MidLook G w (q :: mb :: Us) v (t.at x) := by
  refine ⟨(φ x).getD (.slice none 0 0), fun n => ?_, ?_⟩
  · exact (h.map.chg ((Chg.refl [] w).drewN n) (by simp)).look keId Tryz.underlying98 zeroInts hx
  · rcases h.val with ⟨h1, h2⟩ | ⟨v, h2, h3, h4⟩
    · rw [h1, h2]
      exact ⟨⟨none, 0, rfl, Nat.le_refl _, by unfold maxLen; omega, fun h => absurd rfl h⟩, (fun g hg => by cases hg), fun k hk e => by cases e⟩
    · rw [h2]
      exact ⟨h3, h4, fun k hk => (h.far k hk).2 x v hx h2⟩
theorem MidLook.keep {U U' T : List Nat} {v : Value} {l : List Nat} (h : MidLook G w U v l) (hc : Chg T w w2) (hT : ∀ x ∈ T, x ∈ U ∨ w.heap.size ≤ x) (hU : ∀ x ∈ U', x ∈ U ∨ w.heap.size ≤ x) : MidLook G w2 U' v l := by
  refine ⟨h.ints.keep fun g hg => ?_, fun g hg => ⟨Nat.lt_of_lt_of_le (h.own g hg).1 hc.size, fun hm => ?_⟩, h.far⟩
  · obtain ⟨k1, k2⟩ := h.own g hg
    refine hc.block g k1 (fun hm => ?_)
    rcases hT g hm with h | h
    · exact k2 h
    · omega
  · obtain ⟨k1, k2⟩ := h.own g hg
    rcases hU g hm with h | h
    · exact k2 h
    · omega
theorem MidLook.first {U : List Nat} {v : Value} {i : Nat} {r : List Nat} (h : MidLook G w U v (i :: r)) : ∃ g o cap, v = .slice (some ⟨g, o, none⟩) (r.length + 1) cap ∧ r.length + 1 ≤ cap ∧ cap ≤ maxLen ∧ w.cell? ⟨g, o, none⟩ = some (.int .i64 (i : Int)) ∧ MidLook G w U (.slice (some ⟨g, if cap = 1 then o else o + 1, none⟩) r.length (cap - 1)) r := by
  obtain ⟨a, cap, rfl, h1, h2, h3⟩ := h.ints
  obtain ⟨g, o, rfl, h4⟩ := h3 (by simp)
  simp only [List.length_cons] at h1 h4
  refine ⟨g, o, cap, rfl, h1, h2, h4 0 (by omega), ⟨⟨_, cap - 1, rfl, by omega, by omega, fun hn => ?_⟩, fun k hk => h.own k hk, fun k hk => h.far k hk⟩⟩
  have hr := List.length_pos_iff.2 hn
  rw [if_neg (by omega)]
  exact ⟨g, o + 1, rfl, fun j hj => by
    have := h4 (j + 1) (by omega)
    rw [show o + 1 + j = o + (j + 1) by omega, this]; rfl⟩
/-- The slots go on: the rows as they were. -/
theorem StMid.slotsDid {s' : SS} (h : StMid G w q p sp mb Us φ N t x) (hs : Sid w w2 sp p Us s') (hr : s'.rows = t.s.rows) :
    ∃ Us', StMid G w2 q p sp mb Us' φ N { t with s := s' } x ∧ (∀ x ∈ Us', x ∈ Us ∨ w.heap.size ≤ x) ∧ Chg Us w w2 := by
  obtain ⟨U', h1, h2, h3⟩ := hs
  have hq := blk_lt h.head
  have hm := h.map.lt
  have hat : ∀ x, Sto.at { t with s := s' } x = t.at x := fun x => by unfold Sto.at; simp only [hr]
  have hU : ∀ y ∈ q :: mb :: U', y ∈ q :: mb :: Us ∨ w.heap.size ≤ y := fun y hy => by
    rcases List.mem_cons.1 hy with rfl | hy
    · exact .inl (by simp)
    · rcases List.mem_cons.1 hy with rfl | hy
      · exact .inl (by simp)
      · rcases h2 y hy with h4 | h4
        · exact .inl (by simp [h4])
        · exact .inr h4
  refine ⟨U', ⟨h3.keep h.head h.apart.1, h1, h.map.chg h3 h.apart.2, ⟨fun hx => ?_, fun hx => ?_⟩, fun y hy hn => ?_, ?_, by rw [show ({ t with s := s' } : Sto).s.rows = t.s.rows from hr]; exact h.ok, h.far.mono h3.size⟩, h2, h3⟩
  · rcases h2 q hx with h4 | h4
    · exact h.apart.1 h4
    · omega
  · rcases h2 mb hx with h4 | h4
    · exact h.apart.2 h4
    · omega
  · rw [hat]
    exact (h.vals y hy hn).keep h3 (fun y hy => .inl (by simp [hy])) hU
  · rw [hat]
    exact h.val.keep h3 (fun y hy => .inl (by simp [hy])) hU
/-- The entry is gone. -/
theorem StMid.gone (h : StMid G w q p sp mb Us φ N t x) (hat : t.at x = []) (hc : Chg [mb] w w2) (hmap : MapF 25 klD okD w2 mb (delF φ x) N') : StOk G w2 q p sp mb Us (delF φ x) N' t := by
  have hqm := ne_blk h.head h.map
  refine ⟨hc.keep h.head (by simpa using hqm), h.slots.keepMap hc h.map.obj h.apart.2, hmap, h.apart, fun y hy => ?_, h.ok, (h.far.mono hc.size).del x⟩
  by_cases e : y = x
  · subst e
    rw [hat, delF_self]
    exact .inl ⟨rfl, rfl⟩
  · rw [delF_other _ e]
    exact (h.vals y hy e).keep hc (fun z hz => .inl (by rw [List.mem_singleton.1 hz]; simp)) (fun y hy => .inl hy)
theorem StMid.few (h : StMid G w q p sp mb Us φ N t x) : N < maxLen := by
  have h1 := h.map.card keId (x :: t.s.rows.map (fun r => unId r.key)) (fun y hy hs => by
    by_cases e : y = x
    · rw [e]; simp
    · rcases h.vals y hy e with ⟨_, h2⟩ | ⟨h1, _⟩
      · rw [h2] at hs; cases hs
      · obtain ⟨j, l, hjl⟩ := List.exists_cons_of_ne_nil h1
        by_cases hmy : mayId y = true
        · rw [Sto.at_may hmy] at hjl
          have hj : j ∈ upto t.s.rows t.s.rows.length (idKey y) := by rw [hjl]; simp
          obtain ⟨j1, j2, j3⟩ := upto_mem.1 hj
          refine List.mem_cons_of_mem _ (List.mem_map.2 ⟨t.s.rows.getD j noRow, ?_, by rw [j3, (un_key hmy).1]⟩)
          rw [List.getD_eq_getElem?_getD, List.getElem?_eq_getElem j1]
          exact List.getElem_mem _
        · rw [Sto.at_not (by simpa using hmy)] at hjl; cases hjl)
  obtain ⟨S0, rv0, R0, H0⟩ := h.slots
  have := H0.few
  rw [List.length_cons, List.length_map] at h1
  unfold maxLen
  omega
theorem SS.clear_ok (s : SS) (i : Int) : (s.clear i).2.d.ops ≤ s.d.ops + 2 ∧ (s.clear i).2.d.since.length ≤ s.d.since.length + 1 ∧ (s.clear i).2.d.n = s.d.n := by
  obtain ⟨h1, h2, h3⟩ := s.d.lays_ok (s.pos i) (zeros 64)
  have hn : nsec (zeros 64).length = 1 := by simp [nsec, zeros]
  rw [hn] at h2 h3
  unfold SS.clear
  split
  · exact ⟨Nat.le_add_right _ _, Nat.le_add_right _ _, rfl⟩
  · split
    · exact ⟨Nat.le_add_right _ _, Nat.le_add_right _ _, rfl⟩
    · split
      · exact ⟨by dsimp only; omega, h3, h1⟩
      · exact ⟨by dsimp only; omega, h3, h1⟩
end Go.Proofs.YtbkajnjboipbhaaGreatDoor.W

/- Package store: Delete. -/
namespace Go.Proofs.YtbkajnjboipbhaaGreatDoor.W
open Go.RowKit
set_option linter.unusedVariables false
set_option linter.unusedSimpArgs false
variable {G : List Nat}

theorem clears_cons (s : SS) (i : Nat) (r : List Nat) : s.clears (i :: r) = if (s.clear i).1 ≠ 0 then s.clear i else (s.clear i).2.clears r := rfl
end Go.Proofs.YtbkajnjboipbhaaGreatDoor.W

/- A row of elements of several cells, sorted by slices.SortFunc: what it owns behind it. -/
namespace Go.Proofs.YtbkajnjboipbhaaGreatDoor.W
open Go.RowKit Go.Sort Go.Lib
set_option linter.unusedVariables false
set_option linter.unusedSimpArgs false

theorem flatMap_len {α : Type} (enc : α → List Value) {k : Nat} (hk : ∀ x, (enc x).length = k) : ∀ l : List α, (l.flatMap enc).length = l.length * k
  | [] => by simp
  | x :: r => by rw [List.flatMap_cons, List.length_append, hk, flatMap_len enc hk r, List.length_cons, Nat.add_mul]; omega
theorem flatMap_at {α : Type} [Inhabited α] (enc : α → List Value) {k : Nat} (hk : ∀ x, (enc x).length = k) : ∀ (l : List α) (i j : Nat), i < l.length → j < k → (l.flatMap enc)[i * k + j]? = (enc l[i]!)[j]?
  | [], i, j, h, _ => by simp at h
  | x :: r, 0, j, h, hj => by
    rw [List.flatMap_cons, Nat.zero_mul, Nat.zero_add, List.getElem?_append_left (by rw [hk]; exact hj)]; rfl
  | x :: r, i + 1, j, h, hj => by
    rw [List.flatMap_cons, List.getElem?_append_right (by rw [hk, Nat.add_mul]; omega), hk, show (i + 1) * k + j - k = i * k + j by rw [Nat.add_mul]; omega]
    exact flatMap_at enc hk r i j (by simpa using h) hj
theorem flat_eq {α : Type} [Inhabited α] (enc : α → List Value) {k : Nat} (hk : ∀ x, (enc x).length = k) (l : List α) : (flatK enc k l.toArray).toList = l.flatMap enc := by
  apply List.ext_getElem?
  intro t
  by_cases ht : t < l.length * k
  · have k0 : 0 < k := by
      rcases Nat.eq_zero_or_pos k with h | h
      · subst h; simp at ht
      · exact h
    have hi : t / k < l.length := (Nat.div_lt_iff_lt_mul k0).2 ht
    have hj : t % k < k := Nat.mod_lt _ k0
    have e : t = t / k * k + t % k := by rw [Nat.mul_comm]; exact (Nat.div_add_mod t k).symm
    rw [Array.getElem?_toList, Array.getElem?_eq_getElem (by simpa using ht)]
    have h1 := get_flatK enc k l.toArray t (by simpa using ht)
    rw [getElem!_pos _ t (by simpa using ht)] at h1
    rw [h1]
    conv => rhs; rw [e]
    rw [flatMap_at enc hk l _ _ hi hj]
    have h2 : l.toArray[t / k]! = l[t / k]! := by simp
    rw [h2, getElem!_pos _ (t % k) (by rw [hk]; exact hj), List.getElem?_eq_getElem]
  · rw [List.getElem?_eq_none (by simp; omega), List.getElem?_eq_none (by rw [flatMap_len enc hk]; omega)]

theorem holds_row {α : Type} [Inhabited α] (enc : α → List Value) {k : Nat} (hk : ∀ x, (enc x).length = k) {w : World} {g : Nat} {cur : Array Value} {e : TypeId} {ss : List α} (hb : w.heap[g]? = some (.cells cur e (0, 0))) (ht : cur.toList.take (ss.length * k) = ss.flatMap enc) : HoldsK enc k w g 0 ss.toArray := by
  intro j hj
  have hj' : j < ss.length * k := by simpa using hj
  rw [Nat.zero_add]
  have h1 : (flatK enc k ss.toArray)[j]! = (ss.flatMap enc)[j]'(by rw [flatMap_len enc hk]; exact hj') := by
    rw [getElem!_pos _ j hj]
    have := flat_eq enc hk ss
    rw [← Array.getElem_toList]
    simp only [this]
  have h2 : cur[j]? = some ((ss.flatMap enc)[j]'(by rw [flatMap_len enc hk]; exact hj')) := by
    rw [← Array.getElem?_toList, ← List.getElem?_take_of_lt hj', ht, List.getElem?_eq_getElem]
  refine ⟨?_, blk_frozen hb j⟩
  rw [blk_cell hb j _ h2, h1]; rfl
theorem heap_sortedK {w : World} {g n : Nat} {os : Array Obj} {cur : Array Value} {e : TypeId} {fr : Nat × Nat} (d : Array Value) (hb : w.heap[g]? = some (.cells cur e fr)) :
    (grow (putRow id (Sort.ahead w n) g 0 d) os).heap[g]? = some (.cells (putCells id 0 d cur) e fr) := by
  have hg : g < w.heap.size := (Array.getElem?_eq_some_iff.1 hb).1
  rw [heap_grow_old _ _ (by simpa using hg)]
  simp [putRow, mapBlock, Sort.ahead, Array.getElem?_modify, hb, onCells]
theorem chg_sortedK {α : Type} [Inhabited α] (enc : α → List Value) (k : Nat) {w : World} {g n : Nat} {os : Array Obj} (d : Array α) : Chg [g] w (sortWorldK enc k w g 0 n d os) := by
  refine ⟨rfl, rfl, rfl, by simp [sortWorldK, putRowK], fun j hj hne => ?_⟩
  unfold sortWorldK putRowK
  rw [heap_grow_old _ _ (by simpa using hj)]
  have : g ≠ j := fun e => hne (by simp [e])
  simp [putRow, mapBlock, Sort.ahead, Array.getElem?_modify, this]
theorem take_putK (cur : Array Value) (F : Array Value) (h : F.size ≤ cur.size) : (putCells id 0 F cur).toList.take F.size = F.toList := by
  apply List.ext_getElem?
  intro j
  by_cases hj : j < F.size
  · rw [List.getElem?_take_of_lt hj, Array.getElem?_toList, Array.getElem?_toList]
    simp [putCells, hj, show j < cur.size by omega]
  · rw [List.getElem?_take_eq_none (by omega), List.getElem?_eq_none (by simp; omega)]
theorem ownsRow_sortedK {α : Type} [Inhabited α] (enc : α → List Value) {k : Nat} (hk : ∀ x, (enc x).length = k) {w : World} {base g cap n : Nat} {e : TypeId} {os : Array Obj} {cur : Array Value} {m : Nat} {ts : List α} (hl : ts.length = m) (hbase : base ≤ g) (hb : w.heap[g]? = some (.cells cur e (0, 0)))
    (h1 : m ≤ cap) (h2 : cap ≤ maxLen) (h3 : cur.size = cap * k) :
    (sortWorldK enc k w g 0 n ts.toArray os).ownsRow base e k (.slice (some ⟨g, 0, none⟩) m cap) m (ts.flatMap enc) := by
  refine ⟨by rw [flatMap_len enc hk, hl], .inr ⟨g, cap, _, rfl, hbase, heap_sortedK _ hb, h1, h2, by simp [putCells, h3], ?_⟩⟩
  have hs : (flatK enc k ts.toArray).size = m * k := by simp [hl]
  rw [← hs, take_putK _ _ (by rw [hs, h3]; exact Nat.mul_le_mul_right k h1), flat_eq enc hk]

/-! ### Bytes in their order -/
end Go.Proofs.YtbkajnjboipbhaaGreatDoor.W

/- Ids in their order: plainly. -/
namespace Go.Proofs.YtbkajnjboipbhaaGreatDoor.W
open Go.RowKit Go.Sort
set_option linter.unusedVariables false
set_option linter.unusedSimpArgs false

def cmpI (x y : Int) : Int := if x < y then -1 else if y < x then 1 else 0
def firstNZ : List Int → Int
  | [] => 0
  | x :: r => if x ≠ 0 then x else firstNZ r
def cmpId (x y : Id) : Int := firstNZ [cmpI x.c y.c, cmpI x.l y.l, cmpI x.n y.n, cmpI x.i y.i]
def idLt (a b : Id) : Prop := a.c < b.c ∨ (a.c = b.c ∧ (a.l < b.l ∨ (a.l = b.l ∧ (a.n < b.n ∨ (a.n = b.n ∧ a.i < b.i)))))
instance (a b : Id) : Decidable (idLt a b) := inferInstanceAs (Decidable (_ ∨ _))
theorem cmpI_spec (x y : Int) : (x < y ∧ cmpI x y = -1) ∨ (y < x ∧ cmpI x y = 1) ∨ (x = y ∧ cmpI x y = 0) := by
  unfold cmpI
  by_cases h : x < y
  · exact .inl ⟨h, if_pos h⟩
  · rw [if_neg h]
    by_cases h2 : y < x
    · exact .inr (.inl ⟨h2, if_pos h2⟩)
    · exact .inr (.inr ⟨by omega, if_neg h2⟩)
theorem cmpId_lt (a b : Id) : cmpId a b < 0 ↔ idLt a b := by
  unfold cmpId idLt firstNZ firstNZ firstNZ firstNZ firstNZ
  rcases cmpI_spec a.c b.c with ⟨h1, e1⟩ | ⟨h1, e1⟩ | ⟨h1, e1⟩ <;> rcases cmpI_spec a.l b.l with ⟨h2, e2⟩ | ⟨h2, e2⟩ | ⟨h2, e2⟩ <;> rcases cmpI_spec a.n b.n with ⟨h3, e3⟩ | ⟨h3, e3⟩ | ⟨h3, e3⟩ <;>
    rcases cmpI_spec a.i b.i with ⟨h4, e4⟩ | ⟨h4, e4⟩ | ⟨h4, e4⟩ <;> rw [e1, e2, e3, e4] <;> simp <;> omega
theorem ltI (x y : Id) : ltOf cmpId x y = decide (idLt x y) := by
  unfold ltOf
  rw [Bool.eq_iff_iff]; simp [cmpId_lt]
theorem idLt_irrefl (a : Id) : ¬ idLt a a := by unfold idLt; omega
theorem idLt_trans {a b c : Id} (h1 : idLt a b) (h2 : idLt b c) : idLt a c := by unfold idLt at *; omega
theorem idLt_or (a b : Id) : idLt a b ∨ a = b ∨ idLt b a := by
  obtain ⟨a1, a2, a3, a4⟩ := a
  obtain ⟨b1, b2, b3, b4⟩ := b
  unfold idLt
  simp only [Id.mk.injEq]
  omega
theorem swoI : SWO (ltOf cmpId) where
  irrefl x := by rw [ltI]; simp [idLt_irrefl]
  trans x y z h1 h2 := by
    rw [ltI, decide_eq_true_eq] at *
    exact idLt_trans h1 h2
  ntrans x y z h1 h2 := by
    rw [ltI, decide_eq_false_iff_not] at *
    unfold idLt at *
    omega
theorem totI (x y : Id) (h1 : ltOf cmpId x y = false) (h2 : ltOf cmpId y x = false) : x = y := by
  rw [ltI, decide_eq_false_iff_not] at *
  rcases idLt_or x y with h | h | h
  · exact absurd h h1
  · exact h
  · exact absurd h h2
abbrev leI (x y : Id) : Bool := !ltOf cmpId y x
theorem leI_iff (x y : Id) : leI x y = true ↔ idLt x y ∨ x = y := by
  unfold leI
  rw [ltI]
  simp only [Bool.not_eq_true', decide_eq_false_iff_not]
  rcases idLt_or x y with h | h | h
  · exact ⟨fun _ => .inl h, fun _ h2 => idLt_irrefl _ (idLt_trans h h2)⟩
  · subst h; exact ⟨fun _ => .inr rfl, fun _ => idLt_irrefl _⟩
  · exact ⟨fun h2 => absurd h h2, fun h2 => by
      rcases h2 with h2 | h2
      · exact absurd (idLt_trans h h2) (idLt_irrefl _)
      · subst h2; exact absurd h (idLt_irrefl _)⟩
theorem leI_trans (a b c : Id) (h1 : leI a b = true) (h2 : leI b c = true) : leI a c = true := by
  rw [leI_iff] at *
  rcases h1 with h1 | rfl
  · rcases h2 with h2 | rfl
    · exact .inl (idLt_trans h1 h2)
    · exact .inl h1
  · exact h2
theorem leI_total (a b : Id) : (leI a b || leI b a) = true := by
  rw [Bool.or_eq_true, leI_iff, leI_iff]
  rcases idLt_or a b with h | h | h
  · exact .inl (.inl h)
  · exact .inl (.inr h)
  · exact .inr (.inl h)
/-- Sorted rows of the same ids are one. -/
theorem sortedI_eq {l m : List Id} (hl : l.Nodup) (hm : m.Nodup) (h : ∀ x, x ∈ l ↔ x ∈ m) : l.mergeSort leI = m.mergeSort leI := by
  have hp : l.Perm m := (List.perm_ext_iff_of_nodup hl hm).2 h
  have hs : ∀ l : List Id, (l.mergeSort leI).Pairwise (fun x y => leI x y = true) := fun l => List.pairwise_mergeSort leI_trans leI_total l
  refine List.Perm.eq_of_pairwise (le := fun x y => leI x y = true) (fun a b _ _ h1 h2 => ?_) (hs _) (hs _) ((List.mergeSort_perm _ _).trans (hp.trans (List.mergeSort_perm _ _).symm))
  rw [leI_iff] at h1 h2
  rcases h1 with h1 | h1
  · rcases h2 with h2 | h2
    · exact absurd (idLt_trans h1 h2) (idLt_irrefl _)
    · exact h2.symm
  · exact h1

/-! ### The ids of a store -/
def isFirst (rows : List SRow) (j : Nat) : Bool := (rows.getD j noRow).used && (upto rows j (rows.getD j noRow).key).isEmpty
def firsts (rows : List SRow) : List Id := ((List.range rows.length).filter (isFirst rows)).map (fun j => unId (rows.getD j noRow).key)
def Sto.ids (t : Sto) : List Id := (firsts t.s.rows).mergeSort leI
theorem row_mem {rows : List SRow} {j : Nat} (h : j < rows.length) : rows.getD j noRow ∈ rows := by
  rw [List.getD_eq_getElem?_getD, List.getElem?_eq_getElem h]
  exact List.getElem_mem _
theorem mem_isFirst {rows : List SRow} {j : Nat} : isFirst rows j = true ↔ (rows.getD j noRow).used = true ∧ ∀ k, k < j → ¬ ((rows.getD k noRow).used = true ∧ (rows.getD k noRow).key = (rows.getD j noRow).key) := by
  unfold isFirst
  rw [Bool.and_eq_true, List.isEmpty_iff]
  constructor
  · rintro ⟨h1, h2⟩
    refine ⟨h1, fun k hk hh => ?_⟩
    have : k ∈ upto rows j (rows.getD j noRow).key := upto_mem.2 ⟨hk, hh.1, hh.2⟩
    rw [h2] at this
    cases this
  · rintro ⟨h1, h2⟩
    refine ⟨h1, ?_⟩
    cases hu : upto rows j (rows.getD j noRow).key with
    | nil => rfl
    | cons k r =>
      have : k ∈ upto rows j (rows.getD j noRow).key := by rw [hu]; simp
      obtain ⟨a, b, c⟩ := upto_mem.1 this
      exact absurd ⟨b, c⟩ (h2 k a)
theorem mem_firsts {t : Sto} (hk : keysOk t.s.rows) (x : Id) : x ∈ firsts t.s.rows ↔ t.at x ≠ [] := by
  unfold firsts
  rw [List.mem_map]
  constructor
  · rintro ⟨j, hj, rfl⟩
    obtain ⟨h1, h2⟩ := List.mem_filter.1 hj
    have hjl := List.mem_range.1 h1
    obtain ⟨hu, _⟩ := mem_isFirst.1 h2
    obtain ⟨hm, he⟩ := un_back (hk _ (row_mem hjl) hu)
    rw [Sto.at_may hm]
    intro h0
    have : j ∈ upto t.s.rows t.s.rows.length (idKey (unId (t.s.rows.getD j noRow).key)) := upto_mem.2 ⟨hjl, hu, he⟩
    rw [h0] at this
    cases this
  · intro h
    by_cases hm : mayId x = true
    · rw [Sto.at_may hm] at h
      cases hu : upto t.s.rows t.s.rows.length (idKey x) with
      | nil => exact absurd hu h
      | cons j r =>
        have hj : j ∈ upto t.s.rows t.s.rows.length (idKey x) := by rw [hu]; simp
        obtain ⟨a, b, c⟩ := upto_mem.1 hj
        refine ⟨j, List.mem_filter.2 ⟨List.mem_range.2 a, mem_isFirst.2 ⟨b, fun k hkj hh => ?_⟩⟩, by rw [c, (un_key hm).1]⟩
        rw [c] at hh
        have hk2 : k ∈ upto t.s.rows t.s.rows.length (idKey x) := upto_mem.2 ⟨by omega, hh.1, hh.2⟩
        have hpw : (upto t.s.rows t.s.rows.length (idKey x)).Pairwise (· < ·) := List.pairwise_lt_range.filter _
        rw [hu] at hpw hk2
        rcases List.mem_cons.1 hk2 with h3 | h3
        · omega
        · have := (List.pairwise_cons.1 hpw).1 k h3
          omega
    · rw [Sto.at_not (by simpa using hm)] at h
      exact absurd rfl h
theorem firsts_nodup {t : Sto} (hk : keysOk t.s.rows) : (firsts t.s.rows).Nodup := by
  unfold firsts List.Nodup
  rw [List.pairwise_map]
  refine List.Pairwise.imp_of_mem ?_ (List.pairwise_lt_range.filter (isFirst t.s.rows))
  intro a b ha hb hab e
  obtain ⟨ha1, ha2⟩ := List.mem_filter.1 ha
  obtain ⟨hb1, hb2⟩ := List.mem_filter.1 hb
  obtain ⟨hau, _⟩ := mem_isFirst.1 ha2
  obtain ⟨hbu, hb3⟩ := mem_isFirst.1 hb2
  have h1 := (un_back (hk _ (row_mem (List.mem_range.1 ha1)) hau)).2
  have h2 := (un_back (hk _ (row_mem (List.mem_range.1 hb1)) hbu)).2
  exact hb3 a hab ⟨hau, by rw [h1, h2, e]⟩
theorem Sto.mem_ids {t : Sto} (hk : keysOk t.s.rows) (x : Id) : x ∈ t.ids ↔ t.at x ≠ [] := by
  unfold Sto.ids
  rw [List.mem_mergeSort, mem_firsts hk]
theorem Sto.ids_rise {t : Sto} (hk : keysOk t.s.rows) : t.ids.Pairwise idLt := by
  have h1 : t.ids.Pairwise (fun x y => leI x y = true) := List.pairwise_mergeSort leI_trans leI_total _
  have h2 : t.ids.Nodup := ((List.mergeSort_perm _ _).nodup_iff).2 (firsts_nodup hk)
  refine List.Pairwise.imp₂ (fun {a b} h3 h4 => ?_) h1 h2
  rw [leI_iff] at h3
  rcases h3 with h3 | h3
  · exact h3
  · exact absurd h3 h4
theorem Sto.ids_len (t : Sto) : t.ids.length ≤ t.s.rows.length := by
  unfold Sto.ids firsts
  rw [List.length_mergeSort, List.length_map]
  have := List.length_filter_le (isFirst t.s.rows) (List.range t.s.rows.length)
  rwa [List.length_range] at this
end Go.Proofs.YtbkajnjboipbhaaGreatDoor.W

/-
  DERIVED: THE SHELF's CONTRACTS AT THIS DUMP, IN PLAIN WORDS (tools/lay-plain.mjs out of 'TryzShelf.lean', which tools/lay-shelf.mjs wrote): THE SAME DECLARATIONS UNDER THE SAME NAMES: 'import', 'namespace', 'open', 'def', 'theorem' AND NOTHING ELSE: no command of the shelf's: FOR A HAND-IN. Each laying: the table of numbers ('.._ren') and one theorem, a field a fact of the dump's own or the kernel's comparison; each contract: ONE APPLICATION.
-/
namespace Go.Proofs
open Go.Shelf
def Tryz.laysSortE_ren : Go.Shelf.Ren := ⟨fun | 6 => 61 | 15 => 103 | 14 => 102 | 28 => 133 | 29 => 134 | 20 => 125 | 21 => 126 | 22 => 127 | 23 => 128 | 24 => 129 | 25 => 130 | 26 => 131 | 27 => 132 | 46 => 147 | 47 => 148 | 48 => 149 | 49 => 150 | 50 => 151 | 57 => 157 | n => n, fun | 22 => 36 | 24 => 25 | 25 => 106 | 3 => 3 | 39 => 54 | 0 => 0 | 53 => 178 | 55 => 180 | 4 => 4 | 46 => 171 | 45 => 170 | 50 => 175 | 5 => 5 | 9 => 9 | 66 => 190 | 70 => 194 | 76 => 197 | 77 => 198 | n => n, fun | n => n⟩
theorem Tryz.laysSortE : Go.Proofs.SlLaysF0.n6 Tryz.prog Tryz.laysSortE_ren := {
  mixed := by kernel_rfl
  f6 := ⟨Tryz.f61.name, by decide, Tryz.func61.trans (congrArg some (by kernel_rfl))⟩
  f14 := ⟨Tryz.f102.name, by decide, Tryz.func102.trans (congrArg some (by kernel_rfl))⟩
  f15 := Tryz.func103.trans (congrArg some (by kernel_rfl))
  f20 := ⟨Tryz.f125.name, by decide, Tryz.func125.trans (congrArg some (by kernel_rfl))⟩
  f21 := ⟨Tryz.f126.name, by decide, Tryz.func126.trans (congrArg some (by kernel_rfl))⟩
  f22 := ⟨Tryz.f127.name, by decide, Tryz.func127.trans (congrArg some (by kernel_rfl))⟩
  f23 := ⟨Tryz.f128.name, by decide, Tryz.func128.trans (congrArg some (by kernel_rfl))⟩
  f24 := ⟨Tryz.f129.name, by decide, Tryz.func129.trans (congrArg some (by kernel_rfl))⟩
  f25 := ⟨Tryz.f130.name, by decide, Tryz.func130.trans (congrArg some (by kernel_rfl))⟩
  f26 := ⟨Tryz.f131.name, by decide, Tryz.func131.trans (congrArg some (by kernel_rfl))⟩
  f27 := ⟨Tryz.f132.name, by decide, Tryz.func132.trans (congrArg some (by kernel_rfl))⟩
  f28 := Tryz.func133.trans (congrArg some (by kernel_rfl))
  f29 := Tryz.func134.trans (congrArg some (by kernel_rfl))
  f46 := ⟨Tryz.f147.name, by decide, Tryz.func147.trans (congrArg some (by kernel_rfl))⟩
  f47 := Tryz.func148.trans (congrArg some (by kernel_rfl))
  f48 := Tryz.func149.trans (congrArg some (by kernel_rfl))
  f49 := ⟨Tryz.f150.name, by decide, Tryz.func150.trans (congrArg some (by kernel_rfl))⟩
  f50 := ⟨Tryz.f151.name, by decide, Tryz.func151.trans (congrArg some (by kernel_rfl))⟩
  f57 := ⟨Tryz.f157.name, by decide, Tryz.func157.trans (congrArg some (by kernel_rfl))⟩
  t0 := Tryz.underlying0
  a0 := Tryz.isAgg0
  z0 := Tryz.sizeOf0
  v0 := Tryz.zeroValue0
  t3 := Tryz.underlying3
  a3 := Tryz.isAgg3
  z3 := Tryz.sizeOf3
  v3 := Tryz.zeroValue3
  t4 := Tryz.underlying4
  a4 := Tryz.isAgg4
  z4 := Tryz.sizeOf4
  v4 := Tryz.zeroValue4
  t5 := Tryz.underlying5
  a5 := Tryz.isAgg5
  z5 := Tryz.sizeOf5
  v5 := Tryz.zeroValue5
  t9 := Tryz.underlying9
  a9 := Tryz.isAgg9
  z9 := Tryz.sizeOf9
  v9 := Tryz.zeroValue9
  t22 := Tryz.underlying36
  a22 := Tryz.isAgg36
  z22 := Tryz.sizeOf36
  v22 := Tryz.zeroValue36
  t25 := Tryz.underlying106
  a25 := Tryz.isAgg106
  z25 := Tryz.sizeOf106
  v25 := Tryz.zeroValue106
  t39 := Tryz.underlying54
  a39 := Tryz.isAgg54
  z39 := Tryz.sizeOf54
  v39 := Tryz.zeroValue54
  t45 := Tryz.underlying170
  a45 := Tryz.isAgg170
  z45 := Tryz.sizeOf170
  v45 := Tryz.zeroValue170
  t46 := Tryz.underlying171
  a46 := Tryz.isAgg171
  z46 := Tryz.sizeOf171
  v46 := Tryz.zeroValue171
  t50 := Tryz.underlying175
  a50 := Tryz.isAgg175
  z50 := Tryz.sizeOf175
  v50 := Tryz.zeroValue175
  t53 := Tryz.underlying178
  a53 := Tryz.isAgg178
  z53 := Tryz.sizeOf178
  v53 := Tryz.zeroValue178
  t55 := Tryz.underlying180
  a55 := Tryz.isAgg180
  z55 := Tryz.sizeOf180
  v55 := Tryz.zeroValue180
  t66 := Tryz.underlying190
  a66 := Tryz.isAgg190
  z66 := Tryz.sizeOf190
  v66 := Tryz.zeroValue190
  t70 := Tryz.underlying194
  a70 := Tryz.isAgg194
  z70 := Tryz.sizeOf194
  v70 := Tryz.zeroValue194
  t76 := Tryz.underlying197
  a76 := Tryz.isAgg197
  z76 := Tryz.sizeOf197
  v76 := Tryz.zeroValue197
  t77 := Tryz.underlying198
  a77 := Tryz.isAgg198
  z77 := Tryz.sizeOf198
  v77 := Tryz.zeroValue198 }
end Go.Proofs

/- Package store: the order that List sorts by. -/
namespace Go.Proofs.YtbkajnjboipbhaaGreatDoor.W
open Go.RowKit Go.Sort
set_option linter.unusedVariables false
set_option linter.unusedSimpArgs false

theorem isnan_any (x : Int) (w : World) : Calls Tryz.prog 104 #[.int .i64 x] w fun e w' => e = .returned (.bool false) ∧ w = w' := by
  go_enter Tryz.func104, Tryz.ntmps104
  go_wp2
  go_ret
  exact ⟨by simp, rfl⟩
set_option maxHeartbeats 2000000 in
theorem ccmp_any (x y : Int) (w : World) : Calls Tryz.prog 64 #[.int .i64 x, .int .i64 y] w fun e w' => e = .returned (.int .i64 (cmpI x y)) ∧ w = w' := by
  unfold cmpI
  by_cases h : x < y
  · rw [if_pos h]
    go_enter Tryz.func64, Tryz.ntmps64
    go_wp2_with (go_at_call 104; refine (isnan_any _ _).mono ?_; rintro e w' ⟨rfl, hq⟩; subst hq)
    go_ret
    exact ⟨rfl, rfl⟩
  · rw [if_neg h]
    by_cases h2 : y < x
    · rw [if_pos h2]
      go_enter Tryz.func64, Tryz.ntmps64
      go_wp2_with (go_at_call 104; refine (isnan_any _ _).mono ?_; rintro e w' ⟨rfl, hq⟩; subst hq)
      go_ret
      exact ⟨rfl, rfl⟩
    · rw [if_neg h2]
      go_enter Tryz.func64, Tryz.ntmps64
      go_wp2_with (go_at_call 104; refine (isnan_any _ _).mono ?_; rintro e w' ⟨rfl, hq⟩; subst hq)
      go_ret
      exact ⟨rfl, rfl⟩
theorem firstNZ_zero : ∀ (l : List Int), (∀ x ∈ l, x = 0) → firstNZ l = 0
  | [], _ => rfl
  | x :: r, h => by
    unfold firstNZ
    rw [if_neg (by simpa using h x (by simp))]
    exact firstNZ_zero r (fun y hy => h y (List.mem_cons_of_mem _ hy))
theorem firstNZ_at : ∀ (l : List Int) (j : Nat), (∀ k, k < j → l.getD k 0 = 0) → l.getD j 0 ≠ 0 → firstNZ l = l.getD j 0
  | [], j, _, h => by simp at h
  | x :: r, 0, _, h => by
    unfold firstNZ
    simp at h ⊢
    intro h0
    exact absurd h0 h
  | x :: r, j + 1, h0, h => by
    have hx := h0 0 (by omega)
    simp at hx
    unfold firstNZ
    rw [if_neg (by simp [hx])]
    simp only [List.getD_cons_succ] at h ⊢
    exact firstNZ_at r j (fun k hk => by have := h0 (k + 1) (by omega); simpa using this) h
set_option maxHeartbeats 2000000 in
set_option maxRecDepth 100000 in
theorem cor_any (l : List Int) (hl : l.length = 4) (g : Nat) (w : World) (hc : ∀ j, j < 4 → w.cell? ⟨g, j, none⟩ = some (.int .i64 (l.getD j 0))) : Calls Tryz.prog 63 #[.slice (some ⟨g, 0, none⟩) 4 4] w fun e w' => e = .returned (.int .i64 (firstNZ l)) ∧ w = w' := by
  have HC := Lib.hid hc
  clear hc
  go_enter Tryz.func63, Tryz.ntmps63
  go_wp2_with fail
  go_loopg [8] 4 (fun g' s8 wr => ∃ j : Nat, s8 = .int .i64 (j : Int) ∧ j ≤ 4 ∧ 4 ≤ j + g' ∧ Hid (wr = w ∧ ∀ k, k < j → l.getD k 0 = 0))
  case atStart => exact ⟨0, rfl, by omega, by omega, Lib.hid ⟨rfl, fun k hk => by omega⟩⟩
  case round =>
    obtain ⟨j, rfl, hj, hjg, HJ⟩ := hrel
    obtain ⟨rfl, hz⟩ := HJ.out
    have HZ := Lib.hid hz
    clear hz HJ
    by_cases hlt : j < 4
    · have c0 := HC.out j hlt
      have hjz : (j : Int) < 4 := by omega
      have HV : Hid (l.getD j 0 ≠ 0 → firstNZ l = l.getD j 0) := Lib.hid (fun h => firstNZ_at l j HZ.out h)
      have HN : Hid (l.getD j 0 = 0 → ∀ k, k < j + 1 → l.getD k 0 = 0) := Lib.hid (fun h k hk => by
        rcases Nat.lt_or_ge k j with h1 | h1
        · exact HZ.out k h1
        · obtain rfl : k = j := by omega
          exact h)
      generalize l.getD j 0 = v at *
      by_cases hv : v = 0
      · subst hv
        go_wp2_with fail
        go_roundg (gk - 1)
        case measure => omega
        case rel => exact ⟨j + 1, by go_num, by omega, by omega, Lib.hid ⟨rfl, HN.out (by simp)⟩⟩
      · have q0 : (v != 0) = true := by simp [hv]
        have HW := Lib.hid (HV.out hv)
        clear hv
        go_wp2_with fail
        go_ret
        rw [HW.out]
        exact ⟨rfl, rfl⟩
    · have hj4 : j = 4 := by omega
      subst hj4
      have HW : Hid (firstNZ l = 0) := Lib.hid (firstNZ_zero l (fun x hx => by
        obtain ⟨k, hk, rfl⟩ := List.getElem_of_mem hx
        have := HZ.out k (by omega)
        rwa [List.getD_eq_getElem?_getD, List.getElem?_eq_getElem hk] at this))
      go_wp2
      go_ret
      rw [HW.out]
      exact ⟨rfl, rfl⟩
end Go.Proofs.YtbkajnjboipbhaaGreatDoor.W
