/- Texts laid together. -/
import Derived.Test.YtnbhanmpmjjkkaaGreatDoorFZ3
import Derived.WideKeyEntry
import Derived.Maps.AppendAt
import Derived.Deep.QuietTactic
import Derived.BigQuiet
import Derived.Test.YtnbhanmpmjjkkaaGreatDoorFZ1
import Derived.Shelf.SlSortCmp.NoneTotal
import Derived.Lib.Bytealg
import Derived.Ground.SlsfProg
import Derived.Shelf.Small.Utf8
import Derived.Shelf.Small.Bits
import Derived.Shelf.Strconv.Itoa0
import Derived.Test.YtnbhanmpmjjkkaaGreatDoorProg
set_option linter.unusedVariables false
set_option linter.unusedSimpArgs false
set_option maxHeartbeats 64000000
set_option maxRecDepth 100000
namespace Go.Proofs.YtnbhanmpmjjkkaaGreatDoor.W
open Go.RowKit
section
open Go.RowKit
variable {G : List Nat}
structure Sto where
 s : SS
 whole : Bool
def rowIs (rows : List SRow) (k : List UInt8) (j : Nat) : Bool := (rows.getD j noRow).used && decide ((rows.getD j noRow).key = k)
def upto (rows : List SRow) (i : Nat) (k : List UInt8) : List Nat := (List.range i).filter (rowIs rows k)
theorem upto_succ (rows : List SRow) (i : Nat) (k : List UInt8) : upto rows (i + 1) k = upto rows i k ++ if rowIs rows k i then [i] else [] := by
 unfold upto
 rw [List.range_succ, List.filter_append]
 congr 1
 by_cases h : rowIs rows k i = true <;> simp [h]
theorem upto_len (rows : List SRow) (i : Nat) (k : List UInt8) : (upto rows i k).length <= i := by
 have := List.length_filter_le (rowIs rows k) (List.range i)
 rwa [List.length_range] at this
theorem upto_mem {rows : List SRow} {i : Nat} {k : List UInt8} {j : Nat} : j ∈ upto rows i k ↔ j < i /\ (rows.getD j noRow).used = true /\ (rows.getD j noRow).key = k := by
 unfold upto rowIs
 rw [List.mem_filter, List.mem_range, Bool.and_eq_true, decide_eq_true_eq]
def Sto.at (t : Sto) (x : Id) : List Nat := if mayId x = true then upto t.s.rows t.s.rows.length (idKey x) else []
theorem Sto.at_may {t : Sto} {x : Id} (h : mayId x = true) : t.at x = upto t.s.rows t.s.rows.length (idKey x) := by unfold Sto.at; rw [if_pos h]
theorem Sto.at_not {t : Sto} {x : Id} (h : mayId x = false) : t.at x = [] := by unfold Sto.at; rw [if_neg (by rw [h]; simp)]
def keysOk (rows : List SRow) : Prop := ∀ r ∈ rows, r.used = true -> unOk r.key = true
def stKeys (rows : List SRow) : Bool := rows.all (fun r => !r.used || unOk r.key)
theorem stKeys_iff {rows : List SRow} : stKeys rows = true ↔ keysOk rows := by
 unfold stKeys keysOk
 rw [List.all_eq_true]
 constructor
 ·intro h r hr hu
  have := h r hr
  simpa [hu] using this
 ·intro h r hr
  cases hu : r.used with
  | false => rfl
  | true => rw [h r hr hu]; rfl
def DS.stOpen (d : DS) : Int × Option Sto :=
 if d.n < 9 then (1, none) else if d.dead then (14, none) else
 if (((d.now 0).getD 0 0 ≠ 1 /\ (d.now 0).getD 0 0 ≠ 2) ∨ allZ ((d.now 0).drop 1) = false) then (4, none) else
 match (d.slots 1).2 with
 | none => ((d.slots 1).1, none)
 | some s => if stKeys s.rows then (0, some ⟨s, (d.now 0).getD 0 0 == 2⟩) else (4, none)
def DS.wipe (d : DS) : Nat -> Nat -> Int × DS
 | 0, _ => d.sync
 | k + 1, a => if (d.write (a : Nat) (zeros 64)).1 ≠ 0 then d.write (a : Nat) (zeros 64) else (d.write (a : Nat) (zeros 64)).2.wipe k (a + 8)
theorem DS.wipe_ok : ∀ (k a : Nat) (d : DS), (d.wipe k a).2.n = d.n /\ (d.wipe k a).2.ops <= d.ops + k + 1 /\ (d.wipe k a).2.since.length <= d.since.length + k
 | 0, a, d => by
  obtain ⟨h1, h2, h3⟩ := d.sync_ok
  exact ⟨h1, by simpa [DS.wipe] using h2, by simpa [DS.wipe] using h3⟩
 | k + 1, a, d => by
  obtain ⟨h1, h2, h3⟩ := d.write_ok (a : Nat) (zeros 64)
  obtain ⟨g1, g2, g3⟩ := DS.wipe_ok k (a + 8) (d.write (a : Nat) (zeros 64)).2
  unfold DS.wipe
  split
  ·exact ⟨h1, by omega, by omega⟩
  ·exact ⟨by rw [g1, h1], by omega, by omega⟩
def DS.fmt1 (d : DS) : Int × DS := d.wipe ((d.n - 1) / 8) 1
def DS.fmt2 (d : DS) : Int × DS := d.fmt1.2.sign 1
def DS.format (d : DS) : (Int × Option Sto) × DS :=
 if d.n < 9 then ((1, none), d) else if d.fmt1.1 ≠ 0 then ((d.fmt1.1, none), d.fmt1.2) else if d.fmt2.1 ≠ 0 then ((d.fmt2.1, none), d.fmt2.2) else (d.fmt2.2.stOpen, d.fmt2.2)
def Sto.put (t : Sto) (x : Id) (b : List UInt8) : Int × Sto :=
 if mayId x = false then (1, t) else if 448 < b.length then (3, t) else
 match t.at x with
 | i :: _ => if (t.s.get i).2 ≠ 0 then ((t.s.get i).2, t) else if (t.s.get i).1 = b then (0, t) else (7, t)
 | [] => if t.s.free < 0 then (5, t) else ((t.s.put t.s.free (idKey x) b).1, { t with s := (t.s.put t.s.free (idKey x) b).2 })
def Sto.get (t : Sto) (x : Id) : List UInt8 × Int :=
 if mayId x = false then ([], 1) else match t.at x with
 | [] => ([], 6)
 | i :: _ => t.s.get i
def SS.clears (s : SS) : List Nat -> Int × SS
 | [] => (0, s)
 | i :: r => if (s.clear i).1 ≠ 0 then s.clear i else (s.clear i).2.clears r
def Sto.del (t : Sto) (x : Id) : Int × Sto := if mayId x = false then (1, t) else ((t.s.clears (t.at x)).1, { t with s := (t.s.clears (t.at x)).2 })
def Sto.room (t : Sto) : Nat := t.s.rows.countP (fun r => !r.used)
def Sto.setWhole (t : Sto) : Int × Sto := ((t.s.d.sign 2).1, ⟨{ t.s with d := (t.s.d.sign 2).2 }, t.whole || ((t.s.d.sign 2).1 == 0)⟩)
def IntsAt (w : World) (v : Value) (l : List Nat) : Prop := ∃ a cap, v = .slice a l.length cap /\ l.length <= cap /\ cap <= maxLen /\ (l ≠ [] -> ∃ g o, a = some ⟨g, o, none⟩ /\ ∀ i, i < l.length -> w.cell? ⟨g, o + i, none⟩ = some (.int .i64 ((l.getD i 0 : Nat) : Int)))
theorem IntsAt.keep {w w' : World} {v : Value} {l : List Nat} (h : IntsAt w v l) (hb : ∀ g, v.ownBlock = some g -> w'.heap[g]? = w.heap[g]?) : IntsAt w' v l := by
 obtain ⟨a, cap, rfl, h1, h2, h3⟩ := h
 refine ⟨a, cap, rfl, h1, h2, fun hn => ?_⟩
 obtain ⟨g, o, rfl, h4⟩ := h3 hn
 refine ⟨g, o, rfl, fun i hi => ?_⟩
 rw [<- h4 i hi]
 simp only [World.cell?, hb g rfl]
def IdsAt (w : World) (U : List Nat) (o : Option Value) (l : List Nat) : Prop := (l = [] /\ o = none) ∨ (l ≠ [] /\ ∃ v, o = some v /\ IntsAt w v l /\ ∀ g, v.ownBlock = some g -> g < w.heap.size /\ g ∉ U)
theorem IdsAt.keep {w w' : World} {U U' T : List Nat} {o : Option Value} {l : List Nat} (h : IdsAt w U o l) (hc : Chg T w w') (hT : ∀ x ∈ T, x ∈ U ∨ w.heap.size <= x) (hU : ∀ x ∈ U', x ∈ U ∨ w.heap.size <= x) : IdsAt w' U' o l := by
 rcases h with h | ⟨h1, v, h2, h3, h4⟩
 ·exact .inl h
 ·refine .inr ⟨h1, v, h2, h3.keep fun g hg => ?_, fun g hg => ⟨Nat.lt_of_lt_of_le (h4 g hg).1 hc.size, fun hm => ?_⟩⟩
  ·obtain ⟨k1, k2⟩ := h4 g hg
   refine hc.block g k1 (fun hm => ?_)
   rcases hT g hm with h | h
   ·exact k2 h
   ·omega
  ·obtain ⟨k1, k2⟩ := h4 g hg
   rcases hU g hm with h | h
   ·exact k2 h
   ·omega
def Far (G : List Nat) (w : World) (φ : Id -> Option Value) : Prop := ∀ x ∈ G, x < w.heap.size /\ ∀ y v, okD y -> φ y = some v -> v.ownBlock ≠ some x
theorem Far.mono {G : List Nat} {w w' : World} {φ : Id -> Option Value} (h : Far G w φ) (hs : w.heap.size <= w'.heap.size) : Far G w' φ := fun x hx => ⟨Nat.lt_of_lt_of_le (h x hx).1 hs, (h x hx).2⟩
theorem Far.upd {G : List Nat} {w : World} {φ : Id -> Option Value} (h : Far G w φ) (x : Id) {v : Value} (hv : ∀ k ∈ G, v.ownBlock ≠ some k) : Far G w (updF φ x v) := fun k hk => ⟨(h k hk).1, fun y u hy hu => by
 by_cases e : y = x
 ·subst e
  rw [updF_self] at hu
  obtain rfl := Option.some.inj hu
  exact hv k hk
 ·rw [updF_other _ _ e] at hu
  exact (h k hk).2 y u hy hu⟩
theorem Far.del {G : List Nat} {w : World} {φ : Id -> Option Value} (h : Far G w φ) (x : Id) : Far G w (delF φ x) := fun k hk => ⟨(h k hk).1, fun y u hy hu => by
 by_cases e : y = x
 ·subst e
  rw [delF_self] at hu
  cases hu
 ·rw [delF_other _ e] at hu
  exact (h k hk).2 y u hy hu⟩
structure StOk (G : List Nat) (w : World) (q p sp mb : Nat) (Us : List Nat) (φ : Id -> Option Value) (N : Nat) (t : Sto) : Prop where
 head : w.heap[q]? = some (.cells #[.pointer (some ⟨p, 0, none⟩), .pointer (some ⟨sp, 0, none⟩), .map (some mb), .bool t.whole] 109 (0, 0))
 slots : SlotsAt w sp p Us t.s
 map : MapF 45 klD okD w mb φ N
 apart : q ∉ Us /\ mb ∉ Us
 vals : ∀ x, okD x -> IdsAt w (q :: mb :: Us) (φ x) (t.at x)
 ok : keysOk t.s.rows
 far : Far G w φ
def StAt (G : List Nat) (w : World) (q p : Nat) (U : List Nat) (t : Sto) : Prop := ∃ sp mb Us φ N, StOk G w q p sp mb Us φ N t /\ U = q :: mb :: Us
theorem ne_blk {w : World} {q mb t N : Nat} {cs : Array Value} {φ : Id -> Option Value} (h : w.heap[q]? = some (.cells cs t (0, 0))) (hm : MapF 45 klD okD w mb φ N) : q ≠ mb := fun e => by
 obtain ⟨es, clock, h2⟩ := hm.obj
 rw [e, h2] at h
 cases h
theorem SlotsAt.uL {w : World} {q p : Nat} {U : List Nat} {s : SS} (h : SlotsAt w q p U s) : ∀ x ∈ U, x < w.heap.size := by
 obtain ⟨S, rv, R, h⟩ := h
 exact h.uL
theorem StAt.lim {w : World} {q p : Nat} {U : List Nat} {t : Sto} (h : StAt G w q p U t) : ∀ x ∈ U, x < w.heap.size := by
 obtain ⟨sp, mb, Us, φ, N, h, rfl⟩ := h
 intro x hx
 rcases List.mem_cons.1 hx with rfl | hx
 ·exact blk_lt h.head
 ·rcases List.mem_cons.1 hx with rfl | hx
  ·exact h.map.lt
  ·exact h.slots.uL x hx
theorem StOk.keep0 {w w' : World} {q p sp mb : Nat} {Us : List Nat} {φ : Id -> Option Value} {N : Nat} {t : Sto} (h : StOk G w q p sp mb Us φ N t) (hc : Chg [] w w') : StOk G w' q p sp mb Us φ N t :=
 ⟨hc.keep h.head (by simp), h.slots.keep0 hc, h.map.chg hc (by simp), h.apart, fun x hx => (h.vals x hx).keep hc (by simp) (fun y hy => .inl hy), h.ok, h.far.mono hc.size⟩
theorem StAt.keep0 {w w' : World} {q p : Nat} {U : List Nat} {t : Sto} (h : StAt G w q p U t) (hc : Chg [] w w') : StAt G w' q p U t := by
 obtain ⟨sp, mb, Us, φ, N, h, rfl⟩ := h
 exact ⟨sp, mb, Us, φ, N, h.keep0 hc, rfl⟩
def Std (G : List Nat) (w w' : World) (q p : Nat) (U : List Nat) (t : Sto) : Prop := ∃ U', StAt G w' q p U' t /\ (∀ x ∈ U', x ∈ U ∨ w.heap.size <= x) /\ Chg U w w'
theorem Std.glue {w w1 w2 : World} {q p : Nat} {U U1 : List Nat} {t : Sto} (hs : ∀ x ∈ U1, x ∈ U ∨ w.heap.size <= x) (hc : Chg U w w1) (h : Std G w1 w2 q p U1 t) : Std G w w2 q p U t := by
 obtain ⟨U2, b1, b2, b3⟩ := h
 refine ⟨U2, b1, fun x hx => ?_, hc.trans b3 hs⟩
 rcases b2 x hx with h | h
 ·exact hs x h
 ·exact .inr (Nat.le_trans hc.size h)
theorem Std.pre {w0 w w' : World} {q p : Nat} {U : List Nat} {t : Sto} (hc : Chg [] w0 w) (h : Std G w w' q p U t) : Std G w0 w' q p U t := Std.glue (fun x hx => .inl hx) (hc.mono (by simp)) h
theorem Std.post {w w1 w2 : World} {q p : Nat} {U : List Nat} {t : Sto} (h : Std G w w1 q p U t) (hc : Chg [] w1 w2) : Std G w w2 q p U t := by
 obtain ⟨U1, a1, a2, a3⟩ := h
 exact ⟨U1, a1.keep0 hc, a2, a3.trans hc (by simp)⟩
theorem StOk.slotsDid {w w' : World} {q p sp mb : Nat} {Us : List Nat} {φ : Id -> Option Value} {N : Nat} {t : Sto} {s' : SS} (h : StOk G w q p sp mb Us φ N t) (hs : Sid w w' sp p Us s') (hr : s'.rows = t.s.rows) :
  ∃ Us', StOk G w' q p sp mb Us' φ N { t with s := s' } /\ (∀ x ∈ Us', x ∈ Us ∨ w.heap.size <= x) /\ Chg Us w w' := by
 obtain ⟨U', h1, h2, h3⟩ := hs
 have hq := blk_lt h.head
 have hm := h.map.lt
 have hat : ∀ x, Sto.at { t with s := s' } x = t.at x := fun x => by unfold Sto.at; simp only [hr]
 refine ⟨U', ⟨h3.keep h.head h.apart.1, h1, h.map.chg h3 h.apart.2, ⟨fun hx => ?_, fun hx => ?_⟩, fun x hx => ?_, by rw [show ({ t with s := s' } : Sto).s.rows = t.s.rows from hr]; exact h.ok, h.far.mono h3.size⟩, h2, h3⟩
 ·rcases h2 q hx with h4 | h4
  ·exact h.apart.1 h4
  ·omega
 ·rcases h2 mb hx with h4 | h4
  ·exact h.apart.2 h4
  ·omega
 ·rw [hat]
  refine (h.vals x hx).keep h3 (fun y hy => .inl (by simp [hy])) (fun y hy => ?_)
  rcases List.mem_cons.1 hy with rfl | hy
  ·exact .inl (by simp)
  ·rcases List.mem_cons.1 hy with rfl | hy
   ·exact .inl (by simp)
   ·rcases h2 y hy with h4 | h4
    ·exact .inl (by simp [h4])
    ·exact .inr h4
theorem StOk.std {w w' : World} {q p sp mb : Nat} {Us Us' : List Nat} {φ : Id -> Option Value} {N : Nat} {t : Sto} (h : StOk G w' q p sp mb Us' φ N t) (h2 : ∀ x ∈ Us', x ∈ Us ∨ w.heap.size <= x) (h3 : Chg (q :: mb :: Us) w w') : Std G w w' q p (q :: mb :: Us) t := by
 refine ⟨_, ⟨sp, mb, Us', φ, N, h, rfl⟩, fun x hx => ?_, h3⟩
 rcases List.mem_cons.1 hx with rfl | hx
 ·exact .inl (by simp)
 ·rcases List.mem_cons.1 hx with rfl | hx
  ·exact .inl (by simp)
  ·rcases h2 x hx with h4 | h4
   ·exact .inl (by simp [h4])
   ·exact .inr h4
end
section
open Go.RowKit
open Go.ChangeMaps Go.MapKept
theorem keId_klaw : WideMaps.KeyLaw Tryz.prog 45 := deep_law_laid laidD (m := 4) (by decide) (of_decide_eq_true (by kernel_rfl)) (by kernel_rfl) (by rw [Tryz.underlying45])
variable {κ : Type} {k : TypeId} {kv : κ -> Value} {kl : κ -> Lit} {ok : κ -> Prop}
theorem MapF.entry (KL : WideMaps.KeyLaw Tryz.prog k) (E : KE k kv kl ok) {w : World} {b N : Nat} {φ : κ -> Option Value} (h : MapF k kl ok w b φ N) {t e : TypeId} (ht : Tryz.prog.underlying t = some (.map k e)) {z : Value} (hz : ∀ w, (zeroValue e).run Tryz.prog w = .ok z w) {x : κ} (hx : ok x) (hN : N < maxLen) :
  ∃ (st : Nat) (w1 : World), (Instr.mapEntry t (.map (some b)) (kv x)).run Tryz.prog w = .ok (.tuple #[(φ x).getD z, goInt st]) w1 /\ Chg [b] w w1 /\ w1.heap.size = w.heap.size /\
   ∀ (w2 : World) (val : Value), w2.heap[b]? = w1.heap[b]? -> ∃ w3, (Instr.entryStore t (.map (some b)) (goInt st) val).run Tryz.prog w2 = .ok () w3 /\ MapF k kl ok w3 b (updF φ x val) (if (φ x).isSome then N else N + 1) /\ Chg [b] w2 w3 /\ w3.heap.size = w2.heap.size := by
 have hlook := h.look E ht hz hx
 have hst := fun v => h.store E ht hx v hN
 obtain ⟨D, ho, hs, hf⟩ := h
 obtain ⟨es, clock, hb, F, hsz, rfl⟩ := ho
 obtain ⟨v0, st, es1, clock1, hrun, hv0, hstore⟩ := WideElems.entry_then_store KL ht hz hb F (E.of x hx)
 have hv : v0 = (φ x).getD z := by
  rcases Maps.fit_look false E.law ht (hz w) hb F (E.of x hx) with ⟨g1, g2, _⟩ | ⟨e0, y, g1, g2, g3, _⟩
  ·rcases hv0 with ⟨e1, h1, h2, h3⟩ | ⟨_, rfl⟩
   ·exact absurd h2 (g2 e1 h1)
   ·rw [g1] at hlook
    simp only [Bool.false_eq_true, if_false] at hlook
    exact (Result.ok.inj hlook).1
  ·rw [g3] at hlook
   simp only [Bool.false_eq_true, if_false] at hlook
   rw [<- (Result.ok.inj hlook).1]
   rcases hv0 with ⟨e1, h1, h2, rfl⟩ | ⟨g, _⟩
   ·have hnd := F.stamped.2.2
    have : e1 = e0 := by
     obtain ⟨i, hi⟩ := List.getElem?_of_mem h1
     obtain ⟨j, hj⟩ := List.getElem?_of_mem g1
     have hij : i = j := by
      have h4 : (es.toList.map (·.key))[i]? = some (kv x) := by rw [List.getElem?_map, hi]; simp [h2]
      have h5 : (es.toList.map (·.key))[j]? = some (kv x) := by rw [List.getElem?_map, hj]; simp [g2]
      obtain ⟨hl4, h4'⟩ := List.getElem?_eq_some_iff.1 h4
      obtain ⟨hl5, h5'⟩ := List.getElem?_eq_some_iff.1 h5
      have hne := List.pairwise_iff_getElem.1 hnd
      refine Classical.byContradiction fun hne' => ?_
      rcases Nat.lt_or_gt_of_ne hne' with h | h
      ·exact hne i j hl4 hl5 h (h4'.trans h5'.symm)
      ·exact hne j i hl5 hl4 h (h5'.trans h4'.symm)
     subst hij
     rw [hi] at hj
     exact Option.some.inj hj
    rw [this]
   ·exact absurd g2 (g e0 g1)
 subst hv
 obtain ⟨c1, c2⟩ := turned_chg (w := w) (w' := setBlock w b (.map es1 clock1)) (b := b) ⟨es, clock, es1, clock1, hb, rfl⟩
 refine ⟨st, _, hrun, c1, c2, fun w2 val hw2 => ?_⟩
 have hb2 : w2.heap[b]? = some (.map es1 clock1) := by rw [hw2, heap_setBlock_same hb]
 obtain ⟨es', clock', k1, k2⟩ := hstore w2 val hb2
 obtain ⟨w', m1, m2, m3, m4⟩ := hst val
 rw [k2] at m1
 obtain rfl := (Result.ok.inj m1).2
 obtain ⟨d1, d2⟩ := turned_chg (w := w2) (w' := setBlock w2 b (.map es' clock')) (b := b) ⟨es1, clock1, es', clock', hb2, rfl⟩
 refine ⟨_, k1, m2.keep ?_, d1, d2⟩
 rw [heap_setBlock_same hb2, heap_setBlock_same hb]
open Classical in
theorem nodup_len {α : Type} : ∀ {l L : List α}, l.Nodup -> (∀ x ∈ l, x ∈ L) -> l.length <= L.length
 | [], L, _, _ => Nat.zero_le _
 | a :: l, L, h, hs => by
  have h' := List.nodup_cons.1 h
  have ha := hs a (List.mem_cons_self ..)
  have := nodup_len (l := l) (L := L.erase a) h'.2 (fun x hx => (List.mem_erase_of_ne (fun e => h'.1 (by rw [<- e]; exact hx))).2 (hs x (List.mem_cons_of_mem _ hx)))
  rw [List.length_erase_of_mem ha] at this
  have := List.length_pos_of_mem ha
  simp only [List.length_cons]
  omega
theorem MapF.card (E : KE k kv kl ok) {w : World} {b N : Nat} {φ : κ -> Option Value} (h : MapF k kl ok w b φ N) (L : List κ) (hL : ∀ x, ok x -> (φ x).isSome = true -> x ∈ L) : N <= L.length := by
 obtain ⟨D, ho, hs, hf⟩ := h
 have hkeys : ∃ es, D = .map es /\ Go.Maps.Keys (Go.Maps.KeysOf Tryz.prog k) es := by
  obtain ⟨es, clock, hb, F, hn, rfl⟩ := ho
  refine ⟨_, rfl, ?_⟩
  exact fun p hp => Go.Maps.fit_keys F p ((Go.WideShapes.sorted_perm _).mem_iff.1 hp)
 obtain ⟨es, rfl, hk⟩ := hkeys
 obtain ⟨es', he, hp⟩ := ho.tidy E.law
 obtain rfl : es = es' := by simpa using he
 rw [<- hs]
 show es.length <= L.length
 have hn : (es.map (·.1)).Nodup := by
  rw [List.Nodup, List.pairwise_map]
  exact hp
 have hm : ∀ l ∈ es.map (·.1), l ∈ L.map kl := by
  intro l hl
  obtain ⟨p, hp, rfl⟩ := List.mem_map.1 hl
  obtain ⟨v, hv⟩ := hk p hp
  obtain ⟨x, hx, _, e⟩ := E.inv v _ hv
  rw [e]
  refine List.mem_map_of_mem (hL x hx ?_)
  rw [<- (hf x hx).1, Maps.has_eq, List.any_eq_true]
  exact ⟨p, hp, by rw [e]; exact WideAt.sameKey_self (E.law.key (E.of x hx))⟩
 have := nodup_len hn hm
 simpa using this
end
def StOpenPost (p : Nat) (S : List Nat) (w : World) (r : Int × Option Sto) (e : Ending) (w' : World) : Prop := Chg [] w w' /\ match r with
 | (c, none) => e = .returned (.tuple #[.pointer none, .int .i64 c])
 | (c, some t) => ∃ q U, e = .returned (.tuple #[.pointer (some ⟨q, 0, none⟩), .int .i64 c]) /\ StAt [] w' q p U t /\ ∀ x ∈ U, x ∈ S ∨ w.heap.size <= x
theorem sec_len {w : World} {p : Nat} {S : List Nat} {d : DS} (h : DiskAt w p S d) {k : Nat} (hk : k < d.n) : (d.now k).length = 64 := by
 obtain ⟨gn, gl, cn, cl, v, H⟩ := h
 exact H.now.len k hk
theorem stopen_small (p : Nat) (S : List Nat) (d : DS) (w : World) (h : DiskAt w p S d) (hn : d.n < 9) : Calls Tryz.prog 69 #[.pointer (some ⟨p, 0, none⟩)] w fun e w' => e = .returned (.tuple #[.pointer none, .int .i64 1]) /\ Chg [] w w' := by
 have CS := LH (dsectors_any p S d w h)
 generalize d.n = n at *
 clear h
 go_enter Tryz.func69, Tryz.ntmps69
 go_wp2_with (go_at_call 65; refine CS.out.mono ?_; rintro e w' ⟨rfl, hq⟩; subst hq)
 go_ret2
 exact ⟨rfl, Chg.refl _ _⟩
theorem stopen_dead (p : Nat) (S : List Nat) (d : DS) (w : World) (h : DiskAt w p S d) (hn : 9 <= d.n) (hd : d.dead = true) : Calls Tryz.prog 69 #[.pointer (some ⟨p, 0, none⟩)] w fun e w' => e = .returned (.tuple #[.pointer none, .int .i64 14]) /\ Chg [] w w' := by
 have CS := LH (dsectors_any p S d w h)
 have CR := LH ((dread_any p S d 0 w h).mono (fun e w' h1 => (⟨by have := h1.1; rwa [if_pos hd] at this, h1.2⟩ : e = .returned (.tuple #[.slice none 0 0, .int .i64 14]) /\ Chg [] w w')))
 clear h hd
 generalize d.n = n at *
 go_enter Tryz.func69, Tryz.ntmps69
 go_wp2_with (first
  | (go_at_call 65; refine CS.out.mono ?_; rintro e w' ⟨rfl, hq⟩; subst hq)
  | (go_at_call 89; refine CR.out.mono ?_; rintro e w1 ⟨rfl, hc1⟩))
 go_ret2
 exact ⟨rfl, hc1⟩
theorem dread_ok (p : Nat) (S : List Nat) (d : DS) (k : Nat) (w : World) (h : DiskAt w p S d) (hd : d.dead = false) (hk : k < d.n) : Calls Tryz.prog 89 #[.pointer (some ⟨p, 0, none⟩), .int .i64 (k : Int)] w fun e w' =>
  (∃ v, e = .returned (.tuple #[v, .int .i64 0]) /\ BRow w' v (d.now k) /\ ∀ g, v.ownBlock = some g -> w.heap.size <= g) /\ Chg [] w w' := by
 refine (dread_any p S d k w h).mono ?_
 rintro e w' ⟨h1, h2⟩
 rw [if_neg (by simp [hd]), if_pos (by omega)] at h1
 exact ⟨h1, h2⟩
def hdBad (b : List UInt8) : Bool := !(decide (b.getD 0 0 = 1) || decide (b.getD 0 0 = 2)) || !allZ (b.drop 1)
theorem sec_parts {w : World} {v : Value} {b : List UInt8} (h : BRow w v b) (hl : b.length = 64) : ∃ g cap, v = .slice (some ⟨g, 0, none⟩) 64 cap /\ 64 <= cap /\ cap <= maxLen /\ w.cell? ⟨g, 0, none⟩ = some (.int .u8 ((b.getD 0 0).toNat : Int)) /\ BytesAt w (.slice (some ⟨g, 1, none⟩) 63 (cap - 1)) (b.drop 1) := by
 rcases h.2 with ⟨h1, h2⟩ | ⟨g, cap, cur, h1, _, hb, h3, h4, _⟩
 ·omega
 ·obtain ⟨a2, c2, e2, k1, k2, k3⟩ := h.bytes
  rw [h1] at e2
  rw [hl] at h1 h3
  obtain ⟨rfl, _, rfl⟩ := Value.slice.inj e2
  rcases k3 with ⟨k3, _⟩ | ⟨g', o', k3, k4⟩
  ·rw [k3] at hl; cases hl
  ·obtain ⟨rfl, rfl⟩ : g = g' /\ o' = 0 := by simpa [eq_comm] using k3
   have hb' : BytesAt w (.slice (some ⟨g, 0, none⟩) b.length cap) b := by rw [hl, <- h1]; exact h.bytes
   have hd := bytes_drop hb' (k := 1) (by omega) 1 (fun _ => rfl)
   rw [hl] at hd
   refine ⟨g, cap, h1, h3, h4, ?_, hd⟩
   have := k4 0 (by omega)
   rw [this]; rfl
theorem trim_len (g cap : Nat) (l : List UInt8) (w : World) (h : BytesAt w (.slice (some ⟨g, 1, none⟩) 63 cap) l) (hl : l.length = 63) :
  Calls Tryz.prog 90 #[.slice (some ⟨g, 1, none⟩) 63 cap, .string { data := #[0] }] w fun e w' => (∃ a k c, e = .returned (.slice a k c) /\ (allZ l = true -> k = 0) /\ (allZ l = false -> 0 < k)) /\ Chg [] w w' := by
 refine (trim_any _ l w h (by omega)).mono ?_
 rintro e w' ⟨⟨v', rfl, hv⟩, n, rfl⟩
 obtain ⟨a, c, rfl, _⟩ := hv
 have ht := trimmed_len l
 refine ⟨⟨a, _, c, rfl, fun h => ht.2 h, fun h => ?_⟩, (Chg.refl _ _).drewN n⟩
 apply Nat.pos_of_ne_zero
 intro h0
 rw [ht.1 h0] at h; cases h
theorem stopen_head (p : Nat) (S : List Nat) (d : DS) (w : World) (h : DiskAt w p S d) (hn : 9 <= d.n) (hd : d.dead = false) (hbad : hdBad (d.now 0) = true) : Calls Tryz.prog 69 #[.pointer (some ⟨p, 0, none⟩)] w fun e w' => e = .returned (.tuple #[.pointer none, .int .i64 4]) /\ Chg [] w w' := by
 have CS := LH (dsectors_any p S d w h)
 have CR := LH (dread_ok p S d 0 w h hd (by omega))
 have hlen := sec_len h (show 0 < d.n by omega)
 generalize d.now 0 = b at *
 clear h hd
 generalize d.n = n at *
 go_enter Tryz.func69, Tryz.ntmps69
 go_wp2_with (go_at_call 65; refine CS.out.mono ?_; rintro e w' ⟨rfl, hq⟩; subst hq)
 refine CR.out.mono ?_
 rintro e w1 ⟨⟨v, rfl, hr, ho⟩, hc1⟩
 obtain ⟨g, cap, rfl, hc64, hcm, c0, hb63⟩ := sec_parts hr hlen
 have CT := LH (trim_len g (cap - 1) (b.drop 1) w1 hb63 (by simp [hlen]))
 have HC1 := LH hc1
 obtain ⟨x, hx⟩ : ∃ x, x = (b.getD 0 0).toNat := ⟨_, rfl⟩
 have e1 : ∀ c : UInt8, decide (b.getD 0 0 = c) = decide (x = c.toNat) := fun c => by
  rw [hx]
  by_cases h : b.getD 0 0 = c
  ·rw [decide_eq_true h, decide_eq_true (by rw [h])]
  ·rw [decide_eq_false h, decide_eq_false (fun h' => h (UInt8.toNat.inj h'))]
 have hbad' : (!(decide (x = 1) || decide (x = 2)) || !allZ (b.drop 1)) = true := by
  have := hbad
  unfold hdBad at this
  rw [e1, e1] at this
  exact this
 rw [<- hx] at c0
 have hcap : 1 <= cap /\ ¬ cap = 1 := by omega
 have hcl : cap <= 9223372036854775807 := by unfold maxLen at hcm; omega
 clear hr ho hc1 hb63 hbad e1 hx CR CS
 generalize allZ (b.drop 1) = z at *
 by_cases x1 : x = 1
 ·subst x1
  obtain rfl : z = false := by simpa using hbad'
  go_wp2_with fail
  refine CT.out.mono ?_
  rintro e w2 ⟨⟨a, k, c, rfl, _, hk⟩, hc2⟩
  have hk' := hk (by simp)
  have HC2 := LH (HC1.out.trans hc2 (by simp))
  clear hk hc2 CT
  go_wp2
  go_ret2
  exact ⟨rfl, HC2.out⟩
 ·by_cases x2 : x = 2
  ·subst x2
   obtain rfl : z = false := by simpa using hbad'
   go_wp2_with fail
   refine CT.out.mono ?_
   rintro e w2 ⟨⟨a, k, c, rfl, _, hk⟩, hc2⟩
   have hk' := hk (by simp)
   have HC2 := LH (HC1.out.trans hc2 (by simp))
   clear hk hc2 CT
   go_wp2
   go_ret2
   exact ⟨rfl, HC2.out⟩
  ·clear hbad'
   go_wp2
   go_ret2
   exact ⟨rfl, HC1.out⟩
def fillAt (rows : List SRow) (i : Nat) (x : Id) : List Nat := if mayId x = true then upto rows i (idKey x) else []
abbrev intC (l : List Nat) : List Value := l.map (fun j => Value.int .i64 ((j : Nat) : Int))
def FillV (w : World) (B : Nat) (o : Option Value) (l : List Nat) : Prop := (l = [] /\ o = none) ∨ (l ≠ [] /\ ∃ v, o = some v /\ w.ownsRow B 3 1 v l.length (intC l))
structure Fill (w3 wr : World) (B ob mb p sp : Nat) (wh : Bool) (rows : List SRow) (i : Nat) (φ : Id -> Option Value) (N : Nat) : Prop where
 chg : Chg [] w3 wr
 head : wr.heap[ob]? = some (.cells #[.pointer (some ⟨p, 0, none⟩), .pointer (some ⟨sp, 0, none⟩), .map (some mb), .bool wh] 109 (0, 0))
 map : MapF 45 klD okD wr mb φ N
 few : N <= i
 old : w3.heap.size <= ob /\ w3.heap.size <= mb
 base : ob < B /\ mb < B /\ B <= wr.heap.size
 keys : ∀ j, j < i -> (rows.getD j noRow).used = true -> unOk (rows.getD j noRow).key = true
 vals : ∀ x, okD x -> FillV wr B (φ x) (fillAt rows i x)
 apart : ∀ x y u v g, okD x -> okD y -> x ≠ y -> φ x = some u -> φ y = some v -> u.ownBlock = some g -> v.ownBlock ≠ some g
theorem Fill.keep {w3 wr w' : World} {B ob mb p sp : Nat} {wh : Bool} {rows : List SRow} {i : Nat} {φ : Id -> Option Value} {N : Nat} (h : Fill w3 wr B ob mb p sp wh rows i φ N) (hc : Chg [] wr w') : Fill w3 w' B ob mb p sp wh rows i φ N :=
 ⟨h.chg.trans hc (by simp), hc.keep h.head (by simp), h.map.chg hc (by simp), h.few, h.old, ⟨h.base.1, h.base.2.1, Nat.le_trans h.base.2.2 hc.size⟩, h.keys, fun x hx => (h.vals x hx).imp id (fun ⟨h1, v, h2, h3⟩ => ⟨h1, v, h2, row_keep h3 (fun g hg => hc.block g (World.ownsRow.lt h3 g hg).2 (by simp))⟩), h.apart⟩
theorem Fill.skip {w3 wr : World} {B ob mb p sp : Nat} {wh : Bool} {rows : List SRow} {i : Nat} {φ : Id -> Option Value} {N : Nat} (h : Fill w3 wr B ob mb p sp wh rows i φ N) (hu : (rows.getD i noRow).used = false) : Fill w3 wr B ob mb p sp wh rows (i + 1) φ N := by
 have hn : ∀ k, rowIs rows k i = false := fun k => by unfold rowIs; rw [hu]; rfl
 refine ⟨h.chg, h.head, h.map, Nat.le_succ_of_le h.few, h.old, h.base, fun j hj hj2 => ?_, fun x hx => ?_, h.apart⟩
 ·rcases Nat.lt_or_ge j i with h1 | h1
  ·exact h.keys j h1 hj2
  ·obtain rfl : j = i := by omega
   rw [hu] at hj2; cases hj2
 ·have : fillAt rows (i + 1) x = fillAt rows i x := by
   unfold fillAt
   split
   ·rw [upto_succ, hn, if_neg (by simp), List.append_nil]
   ·rfl
  rw [this]
  exact h.vals x hx
theorem okW_small {a : Int} (h1 : -9223372036854775808 <= a) (h2 : a <= 9223372036854775807) : okW a := by
 unfold okW
 exact WalkArith.wf_i64 ⟨h1, h2⟩
theorem may_okD {x : Id} (hm : mayId x = true) : okD x := by
 obtain ⟨a, b, c, d⟩ := may_bounds hm
 exact ⟨okW_small (by omega) (by omega), okW_small (by omega) (by omega), okW_small (by omega) (by omega), okW_small (by omega) (by omega)⟩
theorem Fill.more {w3 wr wa wb : World} {B ob mb p sp : Nat} {wh : Bool} {rows : List SRow} {i : Nat} {φ : Id -> Option Value} {N : Nat} (h : Fill w3 wr B ob mb p sp wh rows i φ N) (hu : (rows.getD i noRow).used = true) (hk : unOk (rows.getD i noRow).key = true) {v' : Value} {x : Id} (hx : x = unId (rows.getD i noRow).key)
  (hrow : wa.ownsRow B 3 1 v' ((fillAt rows i x).length + 1) (intC (fillAt rows i x) ++ [.int .i64 (i : Int)])) (hat : v'.ownBlock = ((φ x).getD (.slice none 0 0)).ownBlock ∨ v'.ownBlock = some wr.heap.size) (hc : Chg (mb :: ((φ x).getD (.slice none 0 0)).ownBlock.toList) wr wa)
  (hcb : Chg [mb] wa wb) (hN : MapF 45 klD okD wb mb (updF φ x v') (if (φ x).isSome then N else N + 1)) : Fill w3 wb B ob mb p sp wh rows (i + 1) (updF φ x v') (if (φ x).isSome then N else N + 1) := by
 obtain ⟨hm, hkey⟩ := un_back hk
 rw [<- hx] at hm hkey
 have hxo := may_okD hm
 have hv0 : ∀ g, ((φ x).getD (.slice none 0 0)).ownBlock = some g -> B <= g /\ g < wr.heap.size := fun g hg => by
  rcases h.vals x hxo with ⟨_, h2⟩ | ⟨_, u, h2, h3⟩
  ·rw [h2] at hg; cases hg
  ·rw [h2] at hg; exact World.ownsRow.lt h3 g hg
 obtain ⟨hb1, hb2, hb3⟩ := h.base
 obtain ⟨ho1, ho2⟩ := h.old
 have hcc : Chg (mb :: ((φ x).getD (.slice none 0 0)).ownBlock.toList) wr wb := hc.trans hcb (fun y hy => .inl (by rw [List.mem_singleton.1 hy]; simp))
 have hmem : ∀ y, y ∈ (mb :: ((φ x).getD (.slice none 0 0)).ownBlock.toList) -> y = mb ∨ ((φ x).getD (.slice none 0 0)).ownBlock = some y := fun y hy => by
  rcases List.mem_cons.1 hy with h | h
  ·exact .inl h
  ·exact .inr (by simpa using h)
 have hv' : ∀ g, v'.ownBlock = some g -> B <= g := fun g hg => (World.ownsRow.lt hrow g hg).1
 have hf : ∀ y, fillAt rows (i + 1) y = if y = x then fillAt rows i y ++ [i] else fillAt rows i y := fun y => by
  by_cases e : y = x
  ·subst e
   rw [if_pos rfl]
   unfold fillAt
   rw [if_pos hm, if_pos hm, upto_succ]
   congr 1
   rw [if_pos]
   unfold rowIs
   rw [hu, hkey]; simp
  ·rw [if_neg e]
   unfold fillAt
   by_cases hy : mayId y = true
   ·rw [if_pos hy, if_pos hy, upto_succ, if_neg, List.append_nil]
    unfold rowIs
    rw [hu, hkey]
    simp only [Bool.true_and, decide_eq_true_eq]
    exact fun h => e (idKey_inj hm hy h).symm
   ·rw [if_neg hy, if_neg hy]
 refine ⟨h.chg.trans hcc (fun y hy => .inr ?_), hcc.keep h.head (fun hy => ?_), hN, ?_, h.old, ⟨hb1, hb2, Nat.le_trans hb3 hcc.size⟩, fun j hj hj2 => ?_, fun y hy => ?_, ?_⟩
 ·rcases hmem y hy with rfl | h1
  ·exact ho2
  ·have := (hv0 y h1).1; omega
 ·rcases hmem ob hy with h1 | h1
  ·exact ne_blk h.head h.map h1
  ·have := (hv0 ob h1).1; omega
 ·have := h.few
  split <;> omega
 ·rcases Nat.lt_or_ge j i with h1 | h1
  ·exact h.keys j h1 hj2
  ·obtain rfl : j = i := by omega
   exact hk
 ·rw [hf y]
  by_cases e : y = x
  ·subst e
   rw [if_pos rfl, updF_self]
   refine .inr ⟨by simp, v', rfl, ?_⟩
   have hr2 : wb.ownsRow B 3 1 v' ((fillAt rows i y).length + 1) (intC (fillAt rows i y) ++ [.int .i64 (i : Int)]) := row_keep hrow (fun g hg => hcb.block g (World.ownsRow.lt hrow g hg).2 (by
    have := hv' g hg
    simp; omega))
   simpa [intC] using hr2
  ·rw [if_neg e, updF_other _ _ e]
   refine (h.vals y hy).imp id (fun ⟨h1, u, h2, h3⟩ => ⟨h1, u, h2, row_keep h3 (fun g hg => hcc.block g (World.ownsRow.lt h3 g hg).2 (fun hmm => ?_))⟩)
   rcases hmem g hmm with h4 | h4
   ·have := (World.ownsRow.lt h3 g hg).1; omega
   ·cases hφ : φ x with
    | none => rw [hφ] at h4; cases h4
    | some z =>
     rw [hφ] at h4
     exact h.apart x y z u g hxo hy (Ne.symm e) hφ h2 h4 hg
 ·intro a b u z g ha hb hab hua hub hug hzg
  by_cases ea : a = x
  ·have eb : b ≠ x := fun e => hab (ea.trans e.symm)
   rw [ea, updF_self] at hua
   obtain rfl := Option.some.inj hua
   rw [updF_other _ _ eb] at hub
   rcases hat with h1 | h1
   ·rw [h1] at hug
    cases hφ : φ x with
    | none => rw [hφ] at hug; cases hug
    | some z' =>
     rw [hφ] at hug
     exact h.apart x b z' z g hxo hb (fun e => eb e.symm) hφ hub hug hzg
   ·rw [h1] at hug
    obtain rfl := Option.some.inj hug
    rcases h.vals b hb with ⟨_, h2⟩ | ⟨_, u2, h2, h3⟩
    ·rw [h2] at hub; cases hub
    ·rw [h2] at hub
     obtain rfl := Option.some.inj hub
     have := (World.ownsRow.lt h3 _ hzg).2
     omega
  ·rw [updF_other _ _ ea] at hua
   by_cases eb : b = x
   ·rw [eb, updF_self] at hub
    obtain rfl := Option.some.inj hub
    rcases hat with h1 | h1
    ·rw [h1] at hzg
     cases hφ : φ x with
     | none => rw [hφ] at hzg; cases hzg
     | some z' =>
      rw [hφ] at hzg
      exact h.apart a x u z' g ha hxo ea hua hφ hug hzg
    ·rw [h1] at hzg
     obtain rfl := Option.some.inj hzg
     rcases h.vals a ha with ⟨_, h2⟩ | ⟨_, u2, h2, h3⟩
     ·rw [h2] at hua; cases hua
     ·rw [h2] at hua
      obtain rfl := Option.some.inj hua
      have := (World.ownsRow.lt h3 _ hug).2
      omega
   ·rw [updF_other _ _ eb] at hub
    exact h.apart a b u z g ha hb hab hua hub hug hzg
theorem wp_entry {P : Program} {o : Oper} {a : Act} {K : Act -> World -> Prop} {Q : Exit -> Act -> World -> Prop} (m x : Operand) (t : TypeId) (ho : o.op = .mapEntry t m x) {w w1 : World} {mv xv v : Value} (hm : a.eval m = mv) (hx : a.eval x = xv)
  (hrun : (Instr.mapEntry t mv xv).run P w = .ok v w1) (h : K (a.put o.dst v) w1) : Oper.wp P o a w K Q := by
 unfold Oper.wp execOp
 simp only [ho, hm, hx, Sem.run_bind, Sem.run_pure, hrun, Result.andThen_ok]
 exact h
theorem wp_entryStore {P : Program} {o : Oper} {a : Act} {K : Act -> World -> Prop} {Q : Exit -> Act -> World -> Prop} (m x y : Operand) (t : TypeId) (ho : o.op = .entryStore t m x y) {w w1 : World} {mv xv yv : Value} (hm : a.eval m = mv) (hx : a.eval x = xv) (hy : a.eval y = yv)
  (hrun : (Instr.entryStore t mv xv yv).run P w = .ok () w1) (h : K (a.put o.dst undef) w1) : Oper.wp P o a w K Q := by
 unfold Oper.wp execOp
 simp only [ho, hm, hx, hy, Sem.run_bind, Sem.run_pure, hrun, Result.andThen_ok]
 exact h
theorem zeroInts (w : World) : (zeroValue 76).run Tryz.prog w = .ok (.slice none 0 0) w := by kernel_rfl
theorem facts_int : (Tryz.prog.info? 3).map (fun i => (i.zero, i.size, i.bytes)) = some (some (.int .i64 0), 1, 8) := by kernel_rfl
theorem FillV.row {w : World} {B : Nat} {o : Option Value} {l : List Nat} (h : FillV w B o l) : w.ownsRow B 3 1 (o.getD (.slice none 0 0)) l.length (intC l) := by
 rcases h with ⟨rfl, rfl⟩ | ⟨_, v, rfl, h⟩
 ·exact World.ownsRow_nil _ _ _ _
 ·exact h
theorem FillV.ids {w : World} {B : Nat} {o : Option Value} {l : List Nat} {U : List Nat} (h : FillV w B o l) (hU : ∀ x ∈ U, x < B) : IdsAt w U o l := by
 rcases h with h | ⟨h1, v, h2, h3⟩
 ·exact .inl h
 ·refine .inr ⟨h1, v, h2, ?_, fun g hg => ⟨(World.ownsRow.lt h3 g hg).2, fun hm => ?_⟩⟩
  ·rcases h3.2 with ⟨e1, e2⟩ | ⟨g, cap, cur, e1, _, _, e3, e4, _⟩
   ·exact absurd (List.eq_nil_of_length_eq_zero e2) h1
   ·refine ⟨_, cap, e1, e3, e4, fun _ => ⟨g, 0, rfl, fun i hi => ?_⟩⟩
    subst e1
    have := h3.cells (g := g) rfl i (.int .i64 ((l.getD i 0 : Nat) : Int)) (by simp [intC, List.getD_eq_getElem?_getD, List.getElem?_eq_getElem hi])
    rwa [add_none] at this
  ·have := (World.ownsRow.lt h3 g hg).1
   have := hU g hm
   omega
theorem Fill.done {w3 wr : World} {B ob mb p sp : Nat} {wh : Bool} {s : SS} {φ : Id -> Option Value} {N : Nat} {Us : List Nat} (h : Fill w3 wr B ob mb p sp wh s.rows s.rows.length φ N) (hs : SlotsAt w3 sp p Us s) : StOk [] wr ob p sp mb Us φ N ⟨s, wh⟩ := by
 obtain ⟨hb1, hb2, hb3⟩ := h.base
 obtain ⟨ho1, ho2⟩ := h.old
 have hl := hs.uL
 refine ⟨h.head, hs.keep0 h.chg, h.map, ⟨fun hm => by have := hl _ hm; omega, fun hm => by have := hl _ hm; omega⟩, fun x hx => (h.vals x hx).ids (fun y hy => ?_), fun r hr hu => ?_, fun x hx => by cases hx⟩
 ·rcases List.mem_cons.1 hy with rfl | hy
  ·exact hb1
  ·rcases List.mem_cons.1 hy with rfl | hy
   ·exact hb2
   ·have := hl y hy; omega
 ·obtain ⟨j, hj, rfl⟩ := List.getElem_of_mem hr
  have := h.keys j hj
  rw [List.getD_eq_getElem?_getD, List.getElem?_eq_getElem hj] at this
  exact this hu
def StOpenPostG (G : List Nat) (p : Nat) (S : List Nat) (w : World) (r : Int × Option Sto) (e : Ending) (w' : World) : Prop := Chg [] w w' /\ match r with
 | (c, none) => e = .returned (.tuple #[.pointer none, .int .i64 c])
 | (c, some t) => ∃ q U, e = .returned (.tuple #[.pointer (some ⟨q, 0, none⟩), .int .i64 c]) /\ StAt G w' q p U t /\ ∀ x ∈ U, x ∈ S ∨ w.heap.size <= x
theorem Fill.doneG {w3 wr : World} {B ob mb p sp : Nat} {wh : Bool} {s : SS} {φ : Id -> Option Value} {N : Nat} {Us G : List Nat} (h : Fill w3 wr B ob mb p sp wh s.rows s.rows.length φ N) (hs : SlotsAt w3 sp p Us s) (hG : ∀ x ∈ G, x < w3.heap.size) : StOk G wr ob p sp mb Us φ N ⟨s, wh⟩ := by
 have h0 := h.done hs
 obtain ⟨hb1, hb2, hb3⟩ := h.base
 obtain ⟨ho1, ho2⟩ := h.old
 have hz := h.chg.size
 refine ⟨h0.head, h0.slots, h0.map, h0.apart, h0.vals, h0.ok, fun x hx => ⟨Nat.lt_of_lt_of_le (hG x hx) hz, fun y v hy hv e => ?_⟩⟩
 have hl := hG x hx
 rcases h.vals y hy with ⟨_, h2⟩ | ⟨_, v', h2, h3⟩
 ·rw [h2] at hv; cases hv
 ·rw [h2] at hv
  obtain rfl := Option.some.inj hv
  have := (World.ownsRow.lt h3 x e).1
  omega
theorem stopen_liveG (G : List Nat) (p : Nat) (S : List Nat) (d : DS) (w : World) (hG0 : ∀ x ∈ G, x < w.heap.size) (h : DiskAt w p S d) (hn : 9 <= d.n) (hd : d.dead = false) (hgood : hdBad (d.now 0) = false) : Calls Tryz.prog 69 #[.pointer (some ⟨p, 0, none⟩)] w (StOpenPostG G p S w d.stOpen) := by
 have CS := LH (dsectors_any p S d w h)
 have CR := LH (dread_ok p S d 0 w h hd (by omega))
 have CO := LH (fun w' (hc : Chg [] w w') => sopen_any p S d 1 w' (h.keep hc (by simp)))
 have hlen := sec_len h (show 0 < d.n by omega)
 have HG : Hid (d.stOpen = match (d.slots 1).2 with | none => ((d.slots 1).1, none) | some s => if stKeys s.rows then (0, some ⟨s, (d.now 0).getD 0 0 == 2⟩) else (4, none)) := LH (by
  unfold DS.stOpen
  refine (if_neg (by omega)).trans ((if_neg (by simp [hd])).trans (if_neg ?_))
  unfold hdBad at hgood
  simp only [Bool.or_eq_false_iff, Bool.not_eq_false', Bool.or_eq_true, decide_eq_true_eq] at hgood
  rintro (⟨h1, h2⟩ | h1)
  ·rcases hgood.1 with h3 | h3
   ·exact h1 h3
   ·exact h2 h3
  ·rw [hgood.2] at h1; cases h1)
 have H1 : Hid ((∃ c, d.slots 1 = (c, none) /\ c ≠ 0) ∨ ∃ s, d.slots 1 = (0, some s)) := LH (by
  unfold DS.slots
  rw [if_neg (by omega), if_neg (by simp [hd]; omega)]
  split
  ·exact .inl ⟨4, rfl, by simp⟩
  ·exact .inr ⟨_, rfl⟩)
 have HH := LH h
 have HG0 := LH hG0
 clear hG0
 generalize d.slots 1 = z at *
 generalize d.stOpen = r at *
 generalize hb0 : d.now 0 = b at *
 clear hd hb0 h
 generalize d.n = n at *
 go_enter Tryz.func69, Tryz.ntmps69
 go_wp2_with (go_at_call 65; refine CS.out.mono ?_; rintro e w' ⟨rfl, hq⟩; subst hq)
 refine CR.out.mono ?_
 rintro e w1 ⟨⟨v, rfl, hr, ho⟩, hc1⟩
 obtain ⟨g, cap, rfl, hc64, hcm, c0, hb63⟩ := sec_parts hr hlen
 have hgl : g < w1.heap.size := hr.lt g rfl
 have CT := LH (trim_len g (cap - 1) (b.drop 1) w1 hb63 (by simp [hlen]))
 have HC1 := LH hc1
 obtain ⟨x, hx⟩ : ∃ x, x = (b.getD 0 0).toNat := ⟨_, rfl⟩
 have e1 : ∀ c : UInt8, decide (b.getD 0 0 = c) = decide (x = c.toNat) := fun c => by
  rw [hx]
  by_cases h : b.getD 0 0 = c
  ·rw [decide_eq_true h, decide_eq_true (by rw [h])]
  ·rw [decide_eq_false h, decide_eq_false (fun h' => h (UInt8.toNat.inj h'))]
 have hgood' : (decide (x = 1) || decide (x = 2)) = true /\ allZ (b.drop 1) = true := by
  have := hgood
  unfold hdBad at this
  rw [e1, e1] at this
  simp only [Bool.or_eq_false_iff, Bool.not_eq_false'] at this
  exact this
 have hwh : (b.getD 0 0 == 2) = decide (x = 2) := by rw [show (b.getD 0 0 == 2) = decide (b.getD 0 0 = 2) from rfl, e1]; rfl
 obtain ⟨wh, hwd⟩ : ∃ wh : Bool, wh = decide (x = 2) := ⟨_, rfl⟩
 rw [hwh, <- hwd] at HG
 rw [<- hx] at c0
 have hwd1 : x = 1 -> false = wh := fun h => by rw [hwd, h]; rfl
 have hwd2 : x = 2 -> true = wh := fun h => by rw [hwd, h]; rfl
 have HWD := LH (And.intro hwd1 hwd2)
 clear hwd hwd1 hwd2
 have hcap : 1 <= cap /\ ¬ cap = 1 := by omega
 have hcl : cap <= 9223372036854775807 := by unfold maxLen at hcm; omega
 obtain ⟨hx12, hz⟩ := hgood'
 simp only [hz] at CT
 clear hr ho hc1 hb63 hgood e1 hx CR CS hz hwh
 have hx12' : x = 1 ∨ x = 2 := by simpa using hx12
 clear hx12
 rcases hx12' with rfl | rfl
 all_goals
  go_wp2_with fail
  refine CT.out.mono ?_
  rintro e w2 ⟨⟨a, k, c, rfl, hk, _⟩, hc2⟩
  obtain rfl := hk (by trivial)
  have HC2 := LH (HC1.out.trans hc2 (by simp))
  have c02 := hc2.cell c0 (by simp)
  have CO2 := LH (CO.out w2 HC2.out)
  clear hc2 CT CO hk
  go_wp2_with fail
  refine CO2.out.mono ?_
  rintro e w3 ⟨hc3, h3⟩
  rcases H1.out with ⟨cc, rfl, hcc⟩ | ⟨s, rfl⟩
  ·dsimp only at h3 HG
   subst h3
   have q : (cc != 0) = true := by simp [hcc]
   have HC3 := LH (HC2.out.trans hc3 (by simp))
   clear hcc hc3
   go_wp2
   go_ret2
   rw [HG.out]
   exact ⟨HC3.out, rfl⟩
  ·dsimp only at h3 HG
   obtain ⟨sp, Us, rfl, hs3, hU3⟩ := h3
   have c03 := hc3.cell c02 (by simp)
   have HC3 := LH (HC2.out.trans hc3 (by simp))
   have HS3 := LH hs3
   have CN := LH (fun w' (hc : Chg [] w3 w') => scount_any sp p Us s w' (hs3.keep0 hc))
   have CU := LH (fun (i : Int) w' (hc : Chg [] w3 w') => sused_any sp p Us s i w' (hs3.keep0 hc))
   have CK := LH (fun (i : Int) w' (hc : Chg [] w3 w') => skey_any sp p Us s i w' (hs3.keep0 hc))
   have hmm := @run_makeMap Tryz.prog
   clear hs3 hc3
   have hc4 : Chg [] w3 (w3.alloc (.map #[] 0)) := (Chg.refl _ _).alloc _
   have c04 := hc4.cell c03 (by simp)
   obtain ⟨w4, hw4⟩ : ∃ w4, w4 = (w3.alloc (.map #[] 0)).alloc (.cells #[.pointer (some ⟨p, 0, none⟩), .pointer (some ⟨sp, 0, none⟩), .map (some w3.heap.size), .bool wh] 109) := ⟨_, rfl⟩
   have HW4 : Hid (∀ q, q = wh -> (w3.alloc (.map #[] 0)).alloc (.cells #[.pointer (some ⟨p, 0, none⟩), .pointer (some ⟨sp, 0, none⟩), .map (some w3.heap.size), .bool q] 109) = w4) := LH (fun q hq => by rw [hw4, hq])
   have hs4 : w4.heap.size = w3.heap.size + 2 := by rw [hw4]; simp
   have HF4 : Hid (Fill w3 w4 (w3.heap.size + 2) (w3.heap.size + 1) w3.heap.size p sp wh s.rows 0 (fun _ => none) 0) := LH (by
    have hh := heap_alloc_new (w3.alloc (.map #[] 0)) (.cells #[.pointer (some ⟨p, 0, none⟩), .pointer (some ⟨sp, 0, none⟩), .map (some w3.heap.size), .bool wh] 109)
    rw [<- hw4, show (w3.alloc (.map #[] 0)).heap.size = w3.heap.size + 1 by simp] at hh
    refine ⟨by rw [hw4]; exact hc4.alloc _, hh, ?_, Nat.le_refl _, ⟨by omega, Nat.le_refl _⟩, ⟨by omega, by omega, by omega⟩, fun j hj => by omega, fun x hx => .inl ⟨?_, rfl⟩, fun x y u v g _ _ _ h => by cases h⟩
    ·rw [hw4]
     exact (MapF.made w3).chg ((Chg.refl [] _).alloc _) (by simp)
    ·unfold fillAt
     split
     ·rfl
     ·rfl)
   have hm1 : s.rows.length <= 1000 := by
    obtain ⟨S0, rv, R, H⟩ := HS3.out
    have := H.few
    omega
   clear hw4
   go_wp2_with fail
   rw [HW4.out]
   rotate_left
   ·first
     | exact HWD.out.1 (by trivial)
     | exact HWD.out.2 (by trivial)
   refine (CN.out w4 HF4.out.chg).mono ?_
   rintro e w' ⟨rfl, hq⟩
   subst hq
   obtain ⟨m, hm⟩ : ∃ m, m = s.rows.length := ⟨_, rfl⟩
   have HM := LH hm
   rw [<- hm]
   have hmz : m <= 1000 := by omega
   clear hm
   go_wp2_with fail
   go_loopg [62] m (fun g' s62 wr => ∃ (i : Nat) (φ : Id -> Option Value) (N : Nat), s62 = .int .i64 i /\ i <= m /\ m <= i + g' /\ Hid (Fill w3 wr (w3.heap.size + 2) (w3.heap.size + 1) w3.heap.size p sp wh s.rows i φ N))
   case atStart => exact ⟨0, _, _, rfl, by omega, by omega, HF4⟩
   case round =>
    obtain ⟨i, φ, N, rfl, hi, hig, HFI⟩ := hrel
    by_cases hlt : i < m
    ·have hiz : (i : Int) < (m : Int) := by omega
     have hhas : s.has (i : Int) := ⟨by omega, by rw [<- HM.out]; omega⟩
     have hrow : s.row (i : Int) = s.rows.getD i noRow := rfl
     have CU1 := LH (CU.out (i : Int) wr HFI.out.chg)
     have hus := SS.used_true hhas
     rw [hrow] at hus
     rw [hus] at CU1
     go_wp2_with fail
     refine CU1.out.mono ?_
     rintro e w' ⟨rfl, hq⟩
     subst hq
     by_cases hu : (s.rows.getD i noRow).used = true
     ·have CK1 := CK.out (i : Int) wr HFI.out.chg
      have hkk : s.key (i : Int) = (s.rows.getD i noRow).key := by
       unfold SS.key
       rw [hus, if_pos hu, hrow]
      rw [hkk] at CK1
      have HCK := LH CK1
      have hkl : (s.rows.getD i noRow).key.length <= 40 := by
       obtain ⟨S0, rv, R, H⟩ := HS3.out
       rw [List.getD_eq_getElem?_getD, List.getElem?_eq_getElem (show i < s.rows.length by rw [<- HM.out]; exact hlt)]
       exact (H.ok.rows _ (List.getElem_mem _)).2
      clear CK1 hkk hus hrow
      rw [hu]
      go_wp2_with fail
      refine HCK.out.mono ?_
      rintro e w5 ⟨⟨kv, rfl, hr5⟩, hc5⟩
      have CD := LH (stread_any kv _ w5 hr5.bytes (by omega))
      obtain ⟨ak, ck, rfl⟩ := hr5.slice
      have HC5 := LH hc5
      clear hr5 hc5 HCK
      go_wp2_with fail
      refine CD.out.mono ?_
      rintro e w6 ⟨rfl, hc6⟩
      have HF6 := LH (HFI.out.keep (HC5.out.trans hc6 (by simp)))
      clear hc6 CD HC5
      by_cases hok : unOk (s.rows.getD i noRow).key = true
      ·have hokr := hok
       rw [hok]
       obtain ⟨y, hy⟩ : ∃ y, y = unId (s.rows.getD i noRow).key := ⟨_, rfl⟩
       rw [<- hy]
       have HY := LH (And.intro hu (And.intro hok hy))
       have hyo := may_okD (un_back hok).1
       rw [<- hy] at hyo
       have HYO := LH hyo
       clear hok hu hy hokr hyo
       obtain ⟨w7, hw7⟩ : ∃ w7, w7 = w6.alloc (.cells (idC y) 45) := ⟨_, rfl⟩
       have hc7 : Chg [] w6 w7 := by rw [hw7]; exact (Chg.refl _ _).alloc _
       have hb7 : w7.heap[w6.heap.size]? = some (.cells (idC y) 45 (0, 0)) := by rw [hw7]; exact heap_alloc_new w6 _
       have HF7 := LH (HF6.out.keep hc7)
       have HB7 := LH hb7
       have HW7 := LH hw7
       clear hw7 hc7 hb7
       obtain ⟨yc, yl, yn, yi⟩ := y
       go_wp2_with fail
       rw [<- HW7.out]
       have c7 := blk_cell HF7.out.head 2 _ rfl
       have mm := id_cells HB7.out
       refine wp_region_L [(7, fun w' => w'.cell? ⟨w3.heap.size + 1, 2, none⟩ = some (.map (some w3.heap.size))), (7, fun w' => (w'.cell? ⟨w6.heap.size, 0, none⟩ = some (.int .i64 yc) /\ w'.cell? ⟨w6.heap.size, 1, none⟩ = some (.int .i64 yl) /\ w'.cell? ⟨w6.heap.size, 2, none⟩ = some (.int .i64 yn) /\ w'.cell? ⟨w6.heap.size, 3, none⟩ = some (.int .i64 yi)))] (by kernel_rfl) ?_ (fun hHeld => ?_)
       ·exact (HoldC.cons (c7) (HoldC.cons (mm) HoldC.nil))
       refine tk 0 ?_ rfl (by kernel_rfl) (fun _ _ _ h => h) (.inl ⟨by rfl, ?_⟩) hHeld ?_; rotate_left; · (intro w _; go_simp; try with_reducible rfl)
       clear hHeld; intro hHeld; try simp only [gA,gB,gC,Act.put,gD,gE,gF]
       refine tk 1 ?_ rfl (by kernel_rfl) (fun _ _ _ h => h) (.inl ⟨by rfl, ?_⟩) hHeld ?_; rotate_left; · (intro w _; go_simp; try with_reducible rfl)
       clear hHeld; intro hHeld; try simp only [gA,gB,gC,Act.put,gD,gE,gF]
       refine tk 2 ?_ rfl (by kernel_rfl) (fun _ _ _ h => h) (.inl ⟨by rfl, ?_⟩) hHeld ?_; rotate_left; · (intro w _; go_simp; try with_reducible rfl)
       clear hHeld; intro hHeld; try simp only [gA,gB,gC,Act.put,gD,gE,gF]
       refine ld 0 3 ?_ rfl rfl (by kernel_rfl) (fun _ _ _ h => h) (.inl ⟨by rfl, ?_⟩) hHeld ?_; rotate_left; · (intro w hSw; (try dsimp only at hSw); go_simp; try with_reducible rfl)
       clear hHeld; intro hHeld; try simp only [gA,gB,gC,Act.put,gD,gE,gF]
       refine ld 1 4 ?_ rfl rfl (by kernel_rfl) (fun _ _ _ h => h) (.inl ⟨by rfl, ?_⟩) hHeld ?_; rotate_left; · (intro w hSw; (try dsimp only at hSw); go_simp; try with_reducible rfl)
       clear hHeld; intro hHeld; try simp only [gA,gB,gC,Act.put,gD,gE,gF]
       refine tk 5 ?_ rfl (by kernel_rfl) (fun _ _ _ h => h) (.inl ⟨by rfl, ?_⟩) hHeld ?_; rotate_left; · (intro w _; go_simp; try with_reducible rfl)
       clear hHeld; intro hHeld; try simp only [gA,gB,gC,Act.put,gD,gE,gF]
       refine wpAnyL_ready (rs := [6]) (by kernel_rfl) (by simp) (AllReadyL.cons (o := _) rfl (fun K hK => ?_) AllReadyL.nil)
       try simp only [gA,gB,gC]
       go_simp
       have hcW : Chg [] w7 (w7.alloc (.cells #[.int .i64 (i : Int)] 3)).drew := ((Chg.refl _ _).alloc _).drew
       have hbW : (w7.alloc (.cells #[.int .i64 (i : Int)] 3)).drew.heap[w7.heap.size]? = some (.cells #[.int .i64 (i : Int)] 3 (0, 0)) := heap_alloc_new w7 _
       generalize (w7.alloc (.cells #[.int .i64 (i : Int)] 3)).drew = W at *
       have c8 := hcW.cell c7 (by simp)
       have mm8 := id_cells (hcW.keep HB7.out (by simp))
       have HFW := LH (HF7.out.keep hcW)
       have HBW := LH hbW
       have hM : w3.heap.size < w7.heap.size := by have := HF7.out.base; omega
       obtain ⟨st, W1, hrun, hcE, hsE, hstore⟩ := HFW.out.map.entry keId_klaw keId (t := 107) Tryz.underlying107 zeroInts HYO.out (by have := HFW.out.few; unfold maxLen; omega)
       have hrowW := (HFW.out.vals _ HYO.out).row
       have HST := LH hstore
       have HCE := LH (And.intro hcE hsE)
       have hrow1 : W1.ownsRow (w3.heap.size + 2) 3 1 ((φ ⟨yc, yl, yn, yi⟩).getD (.slice none 0 0)) (fillAt s.rows i ⟨yc, yl, yn, yi⟩).length (intC (fillAt s.rows i ⟨yc, yl, yn, yi⟩)) := row_keep hrowW (fun k hk => hcE.block k (World.ownsRow.lt hrowW k hk).2 (by
        have := (World.ownsRow.lt hrowW k hk).1
        simp; omega))
       have hel1 := hcE.keep hbW (by simp; omega)
       have HR1 := LH (And.intro hrow1 hel1)
       have hfl : (fillAt s.rows i ⟨yc, yl, yn, yi⟩).length <= 1000 := by
        unfold fillAt
        split
        ·have := upto_len s.rows i (idKey ⟨yc, yl, yn, yi⟩); omega
        ·simp
       have hbW1 : w3.heap.size + 2 <= W1.heap.size := by rw [hsE]; exact HFW.out.base.2.2
       clear hstore hcE hsE hrow1 hrowW hel1 hbW hcW
       clear hHeld
       refine hK.out _ _ ?_ (fun hHeld => ?_)
       ·exact (HoldC.cons (c8) (HoldC.cons (mm8) HoldC.nil))
       clear hK K
       try simp only [gA,gB,gC,Act.put,gD,gE,gF]
       refine wpAnyL_ready (rs := [7]) (by kernel_rfl) (by simp) (AllReadyL.cons (o := _) rfl (fun K hK => ?_) AllReadyL.nil)
       try simp only [gA,gB,gC]
       refine wp_entry _ _ _ rfl (by rfl) (by rfl) hrun ?_
       clear hHeld
       refine hK.out _ _ ?_ (fun hHeld => ?_)
       ·exact (HoldC.past (by kernel_rfl) (HoldC.past (by kernel_rfl) HoldC.nil))
       clear hK K
       try simp only [gA,gB,gC,Act.put,gD,gE,gF]
       refine tk 8 ?_ rfl (by kernel_rfl) (fun _ _ _ h => h) (.inl ⟨by rfl, ?_⟩) hHeld ?_; rotate_left; · (intro w _; go_simp; try with_reducible rfl)
       clear hHeld; intro hHeld; try simp only [gA,gB,gC,Act.put,gD,gE,gF]
       refine tk 10 ?_ rfl (by kernel_rfl) (fun _ _ _ h => h) (.inl ⟨by rfl, ?_⟩) hHeld ?_; rotate_left; · (intro w _; go_simp; try with_reducible rfl)
       clear hHeld; intro hHeld; try simp only [gA,gB,gC,Act.put,gD,gE,gF]
       refine wpAnyL_ready (rs := [9]) (by kernel_rfl) (by simp) (AllReadyL.cons (o := _) rfl (fun K hK => ?_) AllReadyL.nil)
       try simp only [gA,gB,gC]
       obtain ⟨iI, hiI, q1, q2, q3⟩ := info_parts facts_int
       refine wp_append_lies W1 (.tmp 83) (.tmp 85) 76 (by rfl) (w3.heap.size + 2) 3 iI (.int .i64 0) 1 8 Tryz.underlying76 hiI q1 q2 q3 rfl (by omega) _ _ _ (by rfl) HR1.out.1 ⟨w7.heap.size, 0, none⟩ 1 1 [.int .i64 (i : Int)] (by rfl) rfl (fun j u hj => by
        rw [add_none, Nat.zero_add]; exact blk_cell HR1.out.2 j u (by simpa using hj)) (fun u hu => by rw [List.mem_singleton.1 hu]; rfl) (by omega) (by unfold maxLen; omega) (by omega) hbW1 _ rfl ?_
       intro g9 cap9 w9 ho9 hg9 hat9 hl9
       have hc9 : Chg ((φ ⟨yc, yl, yn, yi⟩).getD (.slice none 0 0)).ownBlock.toList W1 w9 := (Chg.refl _ _).grown hg9 (fun k hk => .inl (by rw [hk]; simp))
       have hmb9 : w9.heap[w3.heap.size]? = W1.heap[w3.heap.size]? := hc9.block _ (by omega) (fun hm => by
        have := (World.ownsRow.lt HR1.out.1 _ (by simpa using hm)).1
        omega)
       obtain ⟨w10, hst, hm10, hc10, hs10⟩ := HST.out w9 (.slice (some ⟨g9, 0, none⟩) ((fillAt s.rows i ⟨yc, yl, yn, yi⟩).length + 1) cap9) hmb9
       have HFN := LH (HFW.out.more HY.out.1 HY.out.2.1 HY.out.2.2 ho9 (by
        rcases hat9 with h | h
        ·exact .inl h.symm
        ·right; rw [h, <- HCE.out.2]; rfl) ((HCE.out.1.mono (fun x hx => .inl (by rw [List.mem_singleton.1 hx]; simp))).trans hc9 (fun x hx => .inl (List.mem_cons_of_mem _ hx))) hc10 hm10)
       clear hmb9 hc9 hat9 hg9 ho9 hm10 hc10 hs10
       clear hHeld
       refine hK.out _ _ ?_ (fun hHeld => ?_)
       ·exact (HoldC.past (by kernel_rfl) (HoldC.past (by kernel_rfl) HoldC.nil))
       clear hK K
       try simp only [gA,gB,gC,Act.put,gD,gE,gF]
       refine wpAnyL_ready (rs := [11]) (by kernel_rfl) (by simp) (AllReadyL.cons (o := _) rfl (fun K hK => ?_) AllReadyL.nil)
       try simp only [gA,gB,gC]
       refine wp_entryStore _ _ _ _ rfl (by rfl) (by rfl) (by rfl) hst ?_
       clear hHeld
       refine hK.out _ _ ?_ (fun hHeld => ?_)
       ·exact (HoldC.past (by kernel_rfl) (HoldC.past (by kernel_rfl) HoldC.nil))
       clear hK K
       try simp only [gA,gB,gC,Act.put,gD,gE,gF]
       refine wpAnyL_done (by kernel_rfl) ?_ _
       clear hHeld
       go_wp2_with fail
       go_roundg (gk - 1)
       case measure => omega
       case rel => exact ⟨i + 1, _, _, by go_num, by omega, by omega, HFN⟩
      ·have hall : stKeys s.rows = false := by
        cases hst : stKeys s.rows with
        | false => rfl
        | true =>
         have h1 := stKeys_iff.1 hst (s.rows.getD i noRow) (by
          rw [List.getD_eq_getElem?_getD, List.getElem?_eq_getElem (show i < s.rows.length by rw [<- HM.out]; exact hlt)]
          exact List.getElem_mem _) hu
         exact absurd h1 hok
       have hok' : unOk (s.rows.getD i noRow).key = false := by simpa using hok
       rw [hok']
       have HR : Hid (r = (4, none)) := LH (by rw [HG.out, hall]; rfl)
       have HC6 := LH (HC3.out.trans HF6.out.chg (by simp))
       clear hok hok' hu hall
       go_wp2
       go_ret2
       rw [HR.out]
       exact ⟨HC6.out.alloc _, rfl⟩
     ·have hu' : (s.rows.getD i noRow).used = false := by simpa using hu
      have HN := LH (HFI.out.skip hu')
      clear hus hrow
      rw [hu']
      clear hu hu'
      go_wp2_with fail
      go_roundg (gk - 1)
      case measure => omega
      case rel => exact ⟨i + 1, φ, N, by go_num, by omega, by omega, HN⟩
    ·have him : i = m := by omega
     have hiz : ¬ (i : Int) < (m : Int) := by omega
     rw [him, HM.out] at HFI
     have HE := LH (HFI.out.doneG HS3.out (G := G) (fun x hx => Nat.lt_of_lt_of_le (HG0.out x hx) HC3.out.size))
     have hall : stKeys s.rows = true := stKeys_iff.2 HE.out.ok
     have HFC := LH (And.intro HFI.out.chg HFI.out.old)
     have hw2s := HC2.out.size
     clear HFI
     go_wp2
     go_ret2
     rw [HG.out, if_pos hall]
     refine ⟨HC3.out.trans HFC.out.1 (by simp), w3.heap.size + 1, _, rfl, ⟨sp, w3.heap.size, Us, φ, N, HE.out, rfl⟩, fun y hy => ?_⟩
     have hw3s := HC3.out.size
     rcases List.mem_cons.1 hy with rfl | hy
     ·right; omega
     ·rcases List.mem_cons.1 hy with rfl | hy
      ·right; omega
      ·rcases hU3 y hy with h | h
       ·exact .inl h
       ·right; omega
theorem stopen_live (p : Nat) (S : List Nat) (d : DS) (w : World) (h : DiskAt w p S d) (hn : 9 <= d.n) (hd : d.dead = false) (hgood : hdBad (d.now 0) = false) : Calls Tryz.prog 69 #[.pointer (some ⟨p, 0, none⟩)] w (StOpenPost p S w d.stOpen) :=
 stopen_liveG [] p S d w (by simp) h hn hd hgood
theorem stopen_any (p : Nat) (S : List Nat) (d : DS) (w : World) (h : DiskAt w p S d) : Calls Tryz.prog 69 #[.pointer (some ⟨p, 0, none⟩)] w (StOpenPost p S w d.stOpen) := by
 by_cases hn : d.n < 9
 ·have e : d.stOpen = (1, none) := by unfold DS.stOpen; rw [if_pos hn]
  rw [e]
  exact (stopen_small p S d w h hn).mono fun e w' h1 => ⟨h1.2, h1.1⟩
 ·by_cases hd : d.dead = true
  ·have e : d.stOpen = (14, none) := by unfold DS.stOpen; rw [if_neg hn, if_pos hd]
   rw [e]
   exact (stopen_dead p S d w h (by omega) hd).mono fun e w' h1 => ⟨h1.2, h1.1⟩
  ·cases hb : hdBad (d.now 0) with
   | true =>
    have e : d.stOpen = (4, none) := by
     unfold DS.stOpen
     refine (if_neg hn).trans ((if_neg hd).trans (if_pos ?_))
     unfold hdBad at hb
     simp only [Bool.or_eq_true, Bool.not_eq_true', Bool.or_eq_false_iff, decide_eq_false_iff_not] at hb
     exact hb
    rw [e]
    exact (stopen_head p S d w h (by omega) (by simpa using hd) hb).mono fun e w' h1 => ⟨h1.2, h1.1⟩
   | false => exact stopen_live p S d w h (by omega) (by simpa using hd) hb
def FormatPost (p : Nat) (S : List Nat) (w : World) (r : (Int × Option Sto) × DS) (e : Ending) (w' : World) : Prop := match r with
 | ((c, none), d') => e = .returned (.tuple #[.pointer none, .int .i64 c]) /\ Did w w' p S d'
 | ((c, some t), d') => ∃ q U, e = .returned (.tuple #[.pointer (some ⟨q, 0, none⟩), .int .i64 c]) /\ StAt [] w' q p U t /\ (∀ x ∈ U, x ∈ S ∨ w.heap.size <= x) /\ Chg S w w'
theorem zero_row (w : World) : BRow (w.alloc (.cells Z64 5)) (.slice (some ⟨w.heap.size, 0, none⟩) 64 64) (zeros 64) := by
 have h := row_of_block (l := zeros 64) (heap_alloc_new w (.cells Z64 5)) (by simp [zeros, maxLen])
 simpa [zeros] using h
theorem format_any (p : Nat) (S : List Nat) (d : DS) (w : World) (h : DiskAt w p S d) (ho : d.ops <= 100000000) (hw : d.since.length <= 100000) :
  Calls Tryz.prog 45 #[.pointer (some ⟨p, 0, none⟩)] w (FormatPost p S w d.format) := by
 have CS := LH (fun w' S' (d' : DS) (h' : DiskAt w' p S' d') => dsectors_any p S' d' w' h')
 have hmk := make_64
 by_cases hn : d.n < 9
 ·have e : d.format = ((1, none), d) := by unfold DS.format; rw [if_pos hn]
  have CS1 := LH (dsectors_any p S d w h)
  have HH := LH h
  rw [e]
  generalize hdn : d.n = n at *
  clear h e CS hdn
  go_enter Tryz.func45, Tryz.ntmps45
  go_wp2_with (go_at_call 65; refine CS1.out.mono ?_; rintro e w' ⟨rfl, hq⟩; subst hq)
  go_ret2
  exact ⟨rfl, Did.same HH.out⟩
 ·obtain ⟨m, hm⟩ : ∃ m, m = (d.n - 1) / 8 := ⟨_, rfl⟩
  have HG : Hid (d.format = if (d.wipe m 1).1 ≠ 0 then (((d.wipe m 1).1, none), (d.wipe m 1).2) else if ((d.wipe m 1).2.sign 1).1 ≠ 0 then ((((d.wipe m 1).2.sign 1).1, none), ((d.wipe m 1).2.sign 1).2) else (((d.wipe m 1).2.sign 1).2.stOpen, ((d.wipe m 1).2.sign 1).2)) := LH (by
   unfold DS.format
   rw [if_neg hn]
   unfold DS.fmt2 DS.fmt1
   rw [<- hm])
  have hfew : d.n <= 4160 := by
   obtain ⟨gn, gl, cn, cl, v, H⟩ := h
   exact H.few
  obtain ⟨n, hdn⟩ : ∃ n, n = d.n := ⟨_, rfl⟩
  have HDN := LH hdn
  have hm1 : 8 * m + 1 <= n /\ n < 8 * (m + 1) + 1 /\ m <= 520 := by omega
  have hn9 : 9 <= n := by omega
  have HH := LH h
  have CS1 := LH (dsectors_any p S d w h)
  rw [<- hdn] at CS1
  clear h hn hm hfew hdn
  generalize d.format = r at *
  go_enter Tryz.func45, Tryz.ntmps45
  go_wp2_with (go_at_call 65; refine CS1.out.mono ?_; rintro e w' ⟨rfl, hq⟩; subst hq)
  go_loopg [4] m (fun g' s4 wr => ∃ (i : Nat) (di : DS), s4 = .int .i64 ((1 + 8 * i : Nat) : Int) /\ i <= m /\ m <= i + g' /\ Hid (Did w wr p S di /\ di.n = n /\ di.ops <= d.ops + i /\ di.since.length <= d.since.length + i /\ d.wipe m 1 = di.wipe (m - i) (1 + 8 * i)))
  case atStart => exact ⟨0, d, rfl, by omega, by omega, LH ⟨Did.same HH.out, HDN.out.symm, by omega, by omega, rfl⟩⟩
  case round =>
   obtain ⟨i, di, rfl, hi, hig, HI⟩ := hrel
   obtain ⟨⟨Si, hd1, hd2, hd3⟩, hin, hio, his, hiw⟩ := HI.out
   have CSi := LH (CS.out wr Si di hd1)
   rw [hin] at CSi
   have HD1 := LH hd1
   have HD2 := LH (And.intro hd2 hd3)
   have HIW := LH hiw
   have hwr := hd3.size
   clear HI hd1 hd2 hd3 hiw
   by_cases hlt : i < m
   ·have hle : ((1 + 8 * i : Nat) : Int) + 8 <= (n : Int) := by omega
    have HC := LH ((Chg.refl [] wr).alloc (.cells Z64 5))
    have CW := LH (dwrite_any p Si di ((1 + 8 * i : Nat) : Int) _ (zeros 64) (wr.alloc (.cells Z64 5)) (HD1.out.keep HC.out (by simp)) (by omega) (by omega) ⟨by omega, by omega⟩ (by simp [zeros]) (zero_row wr).bytes)
    have hwok := di.write_ok ((1 + 8 * i : Nat) : Int) (zeros 64)
    have hmi : m - i = (m - (i + 1)) + 1 := by omega
    have HW2 : Hid (d.wipe m 1 = if (di.write ((1 + 8 * i : Nat) : Int) (zeros 64)).1 ≠ 0 then di.write ((1 + 8 * i : Nat) : Int) (zeros 64) else (di.write ((1 + 8 * i : Nat) : Int) (zeros 64)).2.wipe (m - (i + 1)) (1 + 8 * i + 8)) := LH (by
     rw [HIW.out, hmi]; rfl)
    generalize di.write ((1 + 8 * i : Nat) : Int) (zeros 64) = z at *
    obtain ⟨e1, d1⟩ := z
    dsimp only at CW hwok HW2
    clear HIW hmi
    go_wp2_with (go_at_call 65; refine CSi.out.mono ?_; rintro e w' ⟨rfl, hq⟩; subst hq)
    refine CW.out.mono ?_
    rintro e w2 ⟨rfl, hd2⟩
    have HD3 := LH (Did.glue HD2.out.1 HD2.out.2 (Did.pre HC.out hd2))
    clear hd2 CW
    by_cases he : e1 = 0
    ·subst he
     have HW3 : Hid (d.wipe m 1 = d1.wipe (m - (i + 1)) (1 + 8 * (i + 1))) := LH (by
      rw [HW2.out, if_neg (by simp), show 1 + 8 * i + 8 = 1 + 8 * (i + 1) by omega])
     clear HW2
     go_wp2
     go_roundg (gk - 1)
     case measure => omega
     case rel => exact ⟨i + 1, d1, by go_num, by omega, by omega, LH ⟨HD3.out, by rw [hwok.1, hin], by omega, by omega, HW3.out⟩⟩
    ·have HR : Hid (r = ((e1, none), d1)) := LH (by
      have h1 := HW2.out
      rw [if_pos he] at h1
      rw [HG.out, h1, if_pos he])
     have q : (e1 != 0) = true := by simp [he]
     clear he HW2 HG
     go_wp2
     go_ret2
     rw [HR.out]
     exact ⟨rfl, HD3.out⟩
   ·have him : i = m := by omega
    have hle : ¬ ((1 + 8 * i : Nat) : Int) + 8 <= (n : Int) := by omega
    have CY := LH (dsync_any p Si di wr HD1.out (by omega) (by omega))
    have HW2 : Hid (d.wipe m 1 = di.sync) := LH (by rw [HIW.out, him, Nat.sub_self]; rfl)
    obtain ⟨y1, y2, y3⟩ := di.sync_ok
    generalize di.sync = z at *
    obtain ⟨e1, d1⟩ := z
    dsimp only at CY HW2 y1 y2 y3
    rw [HW2.out] at HG
    dsimp only at HG
    clear HIW HW2
    go_wp2_with (go_at_call 65; refine CSi.out.mono ?_; rintro e w' ⟨rfl, hq⟩; subst hq)
    refine CY.out.mono ?_
    rintro e w2 ⟨rfl, hd2⟩
    have HD3 := LH (Did.glue HD2.out.1 HD2.out.2 hd2)
    clear hd2 CY
    by_cases he : e1 = 0
    ·subst he
     obtain ⟨S2, g1, g2, g3⟩ := HD3.out
     have CG := LH (sign_any p S2 d1 1 w2 g1 (by omega) (by omega) (by omega))
     have HS2 := LH (And.intro g2 g3)
     obtain ⟨s1, s2, s3⟩ := d1.sign_ok 1
     rw [if_neg (by simp)] at HG
     generalize d1.sign 1 = z at *
     obtain ⟨e2, d2⟩ := z
     dsimp only at CG HG s1 s2 s3
     rw [show bv 1 = .int .u8 1 from rfl] at CG
     clear g1 g2 g3
     go_wp2_with fail
     refine CG.out.mono ?_
     rintro e w3 ⟨rfl, hd4⟩
     have HD4 := LH (Did.glue HS2.out.1 HS2.out.2 hd4)
     clear hd4 CG
     by_cases he2 : e2 = 0
     ·subst he2
      rw [if_neg (by simp)] at HG
      obtain ⟨S3, g1, g2, g3⟩ := HD4.out
      have CO := LH (stopen_any p S3 d2 w3 g1)
      have HS3 := LH (And.intro g2 g3)
      have HD5 := LH g1
      clear g1 g2 g3
      go_wp2_with fail
      refine CO.out.mono ?_
      rintro e w4 ⟨hc4, h4⟩
      generalize d2.stOpen = z at *
      obtain ⟨e3, ot⟩ := z
      cases ot with
      | none =>
       dsimp only at h4 HG
       subst h4
       have HF : Hid (Did w w4 p S d2) := LH ⟨S3, HD5.out.keep hc4 (by simp), HS3.out.1, HS3.out.2.trans hc4 (by simp)⟩
       clear hc4 CO
       go_wp2
       go_ret2
       rw [HG.out]
       exact ⟨rfl, HF.out⟩
      | some t =>
       dsimp only at h4 HG
       obtain ⟨q, U, rfl, h5, h6⟩ := h4
       have HF : Hid (∃ U, StAt [] w4 q p U t /\ (∀ x ∈ U, x ∈ S ∨ w.heap.size <= x) /\ Chg S w w4) := LH ⟨U, h5, fun x hx => by
        rcases h6 x hx with h | h
        ·exact HS3.out.1 x h
        ·exact .inr (Nat.le_trans HS3.out.2.size h), HS3.out.2.trans hc4 (by simp)⟩
       clear hc4 CO h5 h6
       go_wp2
       go_ret2
       rw [HG.out]
       obtain ⟨U, k1, k2, k3⟩ := HF.out
       exact ⟨q, U, rfl, k1, k2, k3⟩
     ·have HR : Hid (r = ((e2, none), d2)) := LH (by rw [HG.out, if_pos he2])
      have q : (e2 != 0) = true := by simp [he2]
      clear he2 HG
      go_wp2
      go_ret2
      rw [HR.out]
      exact ⟨rfl, HD4.out⟩
    ·have HR : Hid (r = ((e1, none), d1)) := LH (by rw [HG.out, if_pos he])
     have q : (e1 != 0) = true := by simp [he]
     clear he HG
     go_wp2
     go_ret2
     rw [HR.out]
     exact ⟨rfl, HD3.out⟩
section
open Go.RowKit
variable {G : List Nat}
theorem stmade_any (q p : Nat) (w : World) (c0 : w.cell? ⟨q, 0, none⟩ = some (.pointer (some ⟨p, 0, none⟩))) : Calls Tryz.prog 99 #[.pointer (some ⟨q, 0, none⟩)] w fun e w' => e = .returned (.bool true) /\ w = w' := by
 go_enter Tryz.func99, Tryz.ntmps99
 go_wp2
 go_ret
 exact ⟨rfl, rfl⟩
structure LookAt (w : World) (v : Value) (l : List Nat) : Prop where
 form : ∃ a cap, v = .slice a l.length cap /\ l.length <= cap /\ cap <= maxLen
 first : ∀ i r, l = i :: r -> ∃ g o cap, v = .slice (some ⟨g, o, none⟩) l.length cap /\ w.cell? ⟨g, o, none⟩ = some (.int .i64 (i : Int))
theorem StOk.look {w : World} {q p sp mb : Nat} {Us : List Nat} {φ : Id -> Option Value} {N : Nat} {t : Sto} (h : StOk G w q p sp mb Us φ N t) {x : Id} (hx : okD x) :
  ∃ v, (∀ n, (Instr.lookup 107 (.map (some mb)) (idV x) false).run Tryz.prog (w.drewN n) = .ok v (w.drewN n)) /\ LookAt w v (t.at x) := by
 refine ⟨(φ x).getD (.slice none 0 0), fun n => ?_, ?_⟩
 ·exact (h.map.chg ((Chg.refl [] w).drewN n) (by simp)).look keId Tryz.underlying107 zeroInts hx
 ·rcases h.vals x hx with ⟨h1, h2⟩ | ⟨h1, v, h2, h3, _⟩
  ·rw [h1, h2]
   exact ⟨⟨none, 0, rfl, Nat.le_refl _, by unfold maxLen; omega⟩, fun i r h => by cases h⟩
  ·rw [h2]
   obtain ⟨a, cap, rfl, k1, k2, k3⟩ := h3
   refine ⟨⟨a, cap, rfl, k1, k2⟩, fun i r hl => ?_⟩
   obtain ⟨g, o, rfl, hc⟩ := k3 h1
   refine ⟨g, o, cap, rfl, ?_⟩
   have := hc 0 (by rw [hl]; simp)
   rw [hl] at this
   exact this
theorem StOk.cells {w : World} {q p sp mb : Nat} {Us : List Nat} {φ : Id -> Option Value} {N : Nat} {t : Sto} (h : StOk G w q p sp mb Us φ N t) :
  w.cell? ⟨q, 0, none⟩ = some (.pointer (some ⟨p, 0, none⟩)) /\ w.cell? ⟨q, 1, none⟩ = some (.pointer (some ⟨sp, 0, none⟩)) /\ w.cell? ⟨q, 2, none⟩ = some (.map (some mb)) /\ w.cell? ⟨q, 3, none⟩ = some (.bool t.whole) :=
 ⟨blk_cell h.head 0 _ rfl, blk_cell h.head 1 _ rfl, blk_cell h.head 2 _ rfl, blk_cell h.head 3 _ rfl⟩
theorem stget_any (q p : Nat) (U : List Nat) (t : Sto) (x : Id) (w : World) (h : StAt G w q p U t) (hxo : okD x) : Calls Tryz.prog 75 #[.pointer (some ⟨q, 0, none⟩), idV x] w (GetPost (t.get x) w) := by
 obtain ⟨sp, mb, Us, φ, N, h, rfl⟩ := h
 obtain ⟨w1, hw1⟩ : ∃ w1, w1 = w.alloc (.cells (idC x) 45) := ⟨_, rfl⟩
 have hc1 : Chg [] w w1 := by rw [hw1]; exact (Chg.refl [] w).alloc _
 have hb1 : w1.heap[w.heap.size]? = some (.cells (idC x) 45 (0, 0)) := by rw [hw1]; exact heap_alloc_new w _
 have H1 := h.keep0 hc1
 obtain ⟨k0, k1, k2, _⟩ := H1.cells
 have CM := LH (stmade_any q p w1 k0)
 have CY := LH (mayid_any x w1)
 have HB := LH hb1
 have HC1 := LH hc1
 have HW1 := LH hw1
 have HH1 := LH H1
 have HX := LH hxo
 clear hw1 hb1 hc1 h hxo
 by_cases hm : mayId x = true
 ·have HG : Hid (t.get x = match t.at x with | [] => ([], 6) | i :: _ => t.s.get i) := LH (by unfold Sto.get; rw [if_neg (by simp [hm])]; try rfl)
  rw [hm] at CY
  clear H1 k1 k2 hm
  obtain ⟨xc, xl, xn, xi⟩ := x
  go_enter Tryz.func75, Tryz.ntmps75
  go_wp2_with fail
  rw [<- HW1.out]
  refine CM.out.mono ?_
  rintro e w' ⟨rfl, hq⟩
  subst hq
  obtain ⟨m0, m1, m2, m3⟩ := id_cells HB.out
  go_wp2_with fail
  refine CY.out.mono ?_
  rintro e w2 ⟨rfl, hc2⟩
  have HB2 := LH (hc2.keep HB.out (by simp))
  have HH2 := LH (HH1.out.keep0 hc2)
  have HC2 := LH (HC1.out.trans hc2 (by simp))
  clear hc2 m0 m1 m2 m3 k0 CM CY HB
  obtain ⟨v, hlk, hlook⟩ := HH2.out.look HX.out
  obtain ⟨k0, k1, k2, _⟩ := HH2.out.cells
  obtain ⟨m0, m1, m2, m3⟩ := id_cells HB2.out
  obtain ⟨⟨a, cap, hv, hl1, hl2⟩, hfst⟩ := hlook
  cases hat : t.at ⟨xc, xl, xn, xi⟩ with
  | nil =>
   rw [hat] at HG hv
   subst hv
   dsimp only at HG
   have HR : Hid (∀ w', Chg [] w w' -> GetPost ([], 6) w (.returned (.tuple #[.slice none 0 0, .int .i64 6])) w') := LH (fun w' hc => GetPost.nil hc)
   rw [<- HG.out] at HR
   clear hfst hat
   go_wp2_with fail
   go_quiet (fail)
   go_wp2
   go_ret2
   exact HR.out _ (HC2.out.drewN _)
  | cons i rest =>
   obtain ⟨g, o, cap', hv', hc0⟩ := hfst i rest hat
   rw [hv'] at hv
   obtain ⟨rfl, _, rfl⟩ := Value.slice.inj hv
   rw [hat] at HG hv'
   dsimp only at HG
   subst hv'
   have hpos : 0 < (i :: rest).length := by simp
   have hcl : (i :: rest).length <= cap' := by rw [<- hat]; exact hl1
   have hbig : (i :: rest).length <= 9223372036854775807 := by unfold maxLen at hl2; omega
   generalize (i :: rest).length = n at *
   have hn0 : ((n : Int) == 0) = false := by simp; omega
   clear hv hfst hat hl1 hl2
   go_wp2_with fail
   go_quiet (fail)
   have hlk3 : (Instr.lookup 107 (.map (some mb)) (.agg #[.int .i64 xc, .int .i64 xl, .int .i64 xn, .int .i64 xi]) false).run Tryz.prog (w2.drewN nq).drew = .ok (.slice (some ⟨g, o, none⟩) n cap') (w2.drewN nq).drew := hlk (nq + 1)
   have hc03 : (w2.drewN nq).drew.cell? ⟨g, o, none⟩ = some (.int .i64 (i : Int)) := hc0
   have hbn : (w2.drewN nq).drew.heap[w.heap.size]? = some (.cells (idC ⟨xc, xl, xn, xi⟩) 45 (0, 0)) := HB2.out
   have HCn : Hid (Chg [] w (w2.drewN nq).drew) := LH (HC2.out.drewN nq).drew
   have HHn := LH (HH2.out.keep0 ((Chg.refl [] w2).drewN nq).drew)
   have CG := LH (sget_any sp p Us t.s i _ HHn.out.slots)
   obtain ⟨h0, h1, h2, _⟩ := HHn.out.cells
   have mm := id_cells hbn
   clear hlk hc0 k0 k1 k2 m0 m1 m2 m3 hbn
   generalize w2.drewN nq = w3 at *
   go_wp2_with fail
   refine wp_region_L [(12, fun w' => w'.cell? ⟨q, 1, none⟩ = some (.pointer (some ⟨sp, 0, none⟩))), (12, fun w' => w'.cell? ⟨q, 2, none⟩ = some (.map (some mb))), (12, fun w' => (w'.cell? ⟨w.heap.size, 0, none⟩ = some (.int .i64 xc) /\ w'.cell? ⟨w.heap.size, 1, none⟩ = some (.int .i64 xl) /\ w'.cell? ⟨w.heap.size, 2, none⟩ = some (.int .i64 xn) /\ w'.cell? ⟨w.heap.size, 3, none⟩ = some (.int .i64 xi))), (12, fun w' => (Instr.lookup 107 (.map (some mb)) (.agg #[.int .i64 xc, .int .i64 xl, .int .i64 xn, .int .i64 xi]) false).run Tryz.prog w' = .ok (.slice (some ⟨g, o, none⟩) n cap') w'), (12, fun w' => w'.cell? ⟨g, o, none⟩ = some (.int .i64 (i : Int)))] (by kernel_rfl) ?_ (fun hHeld => ?_)
   ·exact (HoldC.cons (h1) (HoldC.cons (h2) (HoldC.cons (mm) (HoldC.cons (hlk3) (HoldC.cons (hc03) HoldC.nil)))))
   refine tk 0 ?_ rfl (by kernel_rfl) (fun _ _ _ h => h) (.inl ⟨by rfl, ?_⟩) hHeld ?_; rotate_left; · (intro w _; go_simp; try with_reducible rfl)
   clear hHeld; intro hHeld; try simp only [gA,gB,gC,Act.put,gD,gE,gF]
   refine tk 1 ?_ rfl (by kernel_rfl) (fun _ _ _ h => h) (.inl ⟨by rfl, ?_⟩) hHeld ?_; rotate_left; · (intro w _; go_simp; try with_reducible rfl)
   clear hHeld; intro hHeld; try simp only [gA,gB,gC,Act.put,gD,gE,gF]
   refine tk 2 ?_ rfl (by kernel_rfl) (fun _ _ _ h => h) (.inl ⟨by rfl, ?_⟩) hHeld ?_; rotate_left; · (intro w _; go_simp; try with_reducible rfl)
   clear hHeld; intro hHeld; try simp only [gA,gB,gC,Act.put,gD,gE,gF]
   refine ld 0 3 ?_ rfl rfl (by kernel_rfl) (fun _ _ _ h => h) (.inl ⟨by rfl, ?_⟩) hHeld ?_; rotate_left; · (intro w hSw; (try dsimp only at hSw); go_simp; try with_reducible rfl)
   clear hHeld; intro hHeld; try simp only [gA,gB,gC,Act.put,gD,gE,gF]
   refine tk 4 ?_ rfl (by kernel_rfl) (fun _ _ _ h => h) (.inl ⟨by rfl, ?_⟩) hHeld ?_; rotate_left; · (intro w _; go_simp; try with_reducible rfl)
   clear hHeld; intro hHeld; try simp only [gA,gB,gC,Act.put,gD,gE,gF]
   refine tk 5 ?_ rfl (by kernel_rfl) (fun _ _ _ h => h) (.inl ⟨by rfl, ?_⟩) hHeld ?_; rotate_left; · (intro w _; go_simp; try with_reducible rfl)
   clear hHeld; intro hHeld; try simp only [gA,gB,gC,Act.put,gD,gE,gF]
   refine tk 6 ?_ rfl (by kernel_rfl) (fun _ _ _ h => h) (.inl ⟨by rfl, ?_⟩) hHeld ?_; rotate_left; · (intro w _; go_simp; try with_reducible rfl)
   clear hHeld; intro hHeld; try simp only [gA,gB,gC,Act.put,gD,gE,gF]
   refine ld 1 7 ?_ rfl rfl (by kernel_rfl) (fun _ _ _ h => h) (.inl ⟨by rfl, ?_⟩) hHeld ?_; rotate_left; · (intro w hSw; (try dsimp only at hSw); go_simp; try with_reducible rfl)
   clear hHeld; intro hHeld; try simp only [gA,gB,gC,Act.put,gD,gE,gF]
   refine ld 2 8 ?_ rfl rfl (by kernel_rfl) (fun _ _ _ h => h) (.inl ⟨by rfl, ?_⟩) hHeld ?_; rotate_left; · (intro w hSw; (try dsimp only at hSw); go_simp; try with_reducible rfl)
   clear hHeld; intro hHeld; try simp only [gA,gB,gC,Act.put,gD,gE,gF]
   refine ld 3 9 ?_ rfl rfl (by kernel_rfl) (fun _ _ _ h => h) (.inl ⟨by rfl, ?_⟩) hHeld ?_; rotate_left; · (intro w hSw; (try dsimp only at hSw); go_simp; try with_reducible rfl)
   clear hHeld; intro hHeld; try simp only [gA,gB,gC,Act.put,gD,gE,gF]
   refine tk 10 ?_ rfl (by kernel_rfl) (fun _ _ _ h => h) (.inl ⟨by rfl, ?_⟩) hHeld ?_; rotate_left; · (intro w _; go_simp; try with_reducible rfl)
   clear hHeld; intro hHeld; try simp only [gA,gB,gC,Act.put,gD,gE,gF]
   refine ld 4 11 ?_ rfl rfl (by kernel_rfl) (fun _ _ _ h => h) (.inl ⟨by rfl, ?_⟩) hHeld ?_; rotate_left; · (intro w hSw; (try dsimp only at hSw); go_simp; try with_reducible rfl)
   clear hHeld; intro hHeld; try simp only [gA,gB,gC,Act.put,gD,gE,gF]
   refine wpAnyL_ready (rs := [12]) (by kernel_rfl) (by simp) (AllReadyL.cons (o := _) rfl (fun K hK => ?_) AllReadyL.nil)
   try simp only [gA,gB,gC]
   go_simp
   refine CG.out.mono ?_
   rintro e w4 ⟨⟨v4, rfl, hb4, ho4⟩, hc4⟩
   have HF : Hid (GetPost (t.s.get i) w (.returned (.tuple #[v4, .int .i64 (t.s.get i).2])) w4) := LH ⟨⟨v4, rfl, hb4, fun k hk => by have := ho4 k hk; have := HCn.out.size; omega⟩, HCn.out.trans hc4 (by simp)⟩
   obtain ⟨a4, c4, rfl⟩ := hb4.slice
   clear hb4 ho4 hc4 CG
   clear hHeld
   refine hK.out _ _ ?_ (fun hHeld => ?_)
   ·exact (HoldC.past (by kernel_rfl) (HoldC.past (by kernel_rfl) (HoldC.past (by kernel_rfl) (HoldC.past (by kernel_rfl) (HoldC.past (by kernel_rfl) HoldC.nil)))))
   clear hK K
   try simp only [gA,gB,gC,Act.put,gD,gE,gF]
   refine tk 13 ?_ rfl (by kernel_rfl) (fun _ _ _ h => h) (.inl ⟨by rfl, ?_⟩) hHeld ?_; rotate_left; · (intro w _; go_simp; try with_reducible rfl)
   clear hHeld; intro hHeld; try simp only [gA,gB,gC,Act.put,gD,gE,gF]
   refine tk 14 ?_ rfl (by kernel_rfl) (fun _ _ _ h => h) (.inl ⟨by rfl, ?_⟩) hHeld ?_; rotate_left; · (intro w _; go_simp; try with_reducible rfl)
   clear hHeld; intro hHeld; try simp only [gA,gB,gC,Act.put,gD,gE,gF]
   refine wpAnyL_ready (rs := [15]) (by kernel_rfl) (by simp) (AllReadyL.cons (o := _) rfl (fun K hK => ?_) AllReadyL.nil)
   try simp only [gA,gB,gC]
   go_simp
   clear hHeld
   refine hK.out _ _ ?_ (fun hHeld => ?_)
   ·exact (HoldC.past (by kernel_rfl) (HoldC.past (by kernel_rfl) (HoldC.past (by kernel_rfl) (HoldC.past (by kernel_rfl) (HoldC.past (by kernel_rfl) HoldC.nil)))))
   clear hK K
   try simp only [gA,gB,gC,Act.put,gD,gE,gF]
   refine wpAnyL_ready (rs := [16]) (by kernel_rfl) (by simp) (AllReadyL.cons (o := _) rfl (fun K hK => ?_) AllReadyL.nil)
   try simp only [gA,gB,gC]
   go_simp
   clear hHeld
   refine hK.out _ _ ?_ (fun hHeld => ?_)
   ·exact (HoldC.past (by kernel_rfl) (HoldC.past (by kernel_rfl) (HoldC.past (by kernel_rfl) (HoldC.past (by kernel_rfl) (HoldC.past (by kernel_rfl) HoldC.nil)))))
   clear hK K
   try simp only [gA,gB,gC,Act.put,gD,gE,gF]
   refine wpAnyL_done (by kernel_rfl) ?_ _
   clear hHeld
   go_wp2_with fail
   go_ret2
   rw [HG.out]
   exact HF.out
 ·have hm' : mayId x = false := by simpa using hm
  have HG : Hid (t.get x = ([], 1)) := LH (by unfold Sto.get; rw [if_pos hm'])
  rw [HG.out]
  have HR : Hid (∀ w', Chg [] w w' -> GetPost ([], 1) w (.returned (.tuple #[.slice none 0 0, .int .i64 1])) w') := LH (fun w' hc => GetPost.nil hc)
  rw [hm'] at CY
  clear H1 k1 k2 hm hm'
  obtain ⟨xc, xl, xn, xi⟩ := x
  go_enter Tryz.func75, Tryz.ntmps75
  go_wp2_with fail
  rw [<- HW1.out]
  refine CM.out.mono ?_
  rintro e w' ⟨rfl, hq⟩
  subst hq
  obtain ⟨m0, m1, m2, m3⟩ := id_cells HB.out
  go_wp2_with fail
  refine CY.out.mono ?_
  rintro e w2 ⟨rfl, hc2⟩
  have HC2 := LH (HC1.out.trans hc2 (by simp))
  clear hc2
  go_wp2
  go_ret2
  exact HR.out _ HC2.out
end
section
open Go.RowKit
variable {G : List Nat}
theorem rowFree_spec : ∀ (l : List SRow) (k : Nat), (rowFree l k = -1 /\ ∀ r ∈ l, r.used = true) ∨ ∃ n, n < l.length /\ rowFree l k = ((k + n : Nat) : Int) /\ (l.getD n noRow).used = false /\ ∀ j, j < n -> (l.getD j noRow).used = true
 | [], k => .inl ⟨rfl, by simp⟩
 | r :: rs, k => by
  rw [rowFree_cons]
  by_cases h : r.used = false
  ·rw [if_pos h]
   exact .inr ⟨0, by simp, by simp, by simpa using h, fun j hj => by omega⟩
  ·rw [if_neg h]
   rcases rowFree_spec rs (k + 1) with ⟨h1, h2⟩ | ⟨n, h1, h2, h3, h4⟩
   ·refine .inl ⟨h1, fun x hx => ?_⟩
    rcases List.mem_cons.1 hx with rfl | hx
    ·simpa using h
    ·exact h2 x hx
   ·refine .inr ⟨n + 1, by simp; omega, by rw [h2]; congr 1; omega, by simpa using h3, fun j hj => ?_⟩
    cases j with
    | zero => simpa using h
    | succ j => simpa using h4 j (by omega)
theorem SS.put_not {s : SS} {i : Int} {key b : List UInt8} (h : (s.put i key b).1 ≠ 0) : (s.put i key b).2.rows = s.rows := by
 unfold SS.put at h ⊢
 split
 ·rfl
 ·split
  ·rfl
  ·split
   ·rfl
   ·split
    ·rfl
    ·split
     ·rfl
     ·rename_i h1 h2 h3 h4 h5
      rw [if_neg h1, if_neg h2, if_neg h3, if_neg h4, if_neg h5] at h
      simp at h
theorem SS.put_done {s : SS} {i : Int} {key b : List UInt8} (h : (s.put i key b).1 = 0) : s.has i /\ (s.row i).used = false /\ (s.put i key b).2.rows = s.rows.set i.toNat ⟨true, b.length, key⟩ := by
 unfold SS.put at h ⊢
 by_cases h1 : ¬ s.has i
 ·rw [if_pos h1] at h; simp at h
 ·rw [if_neg h1] at h ⊢
  by_cases h2 : 40 < key.length ∨ 448 < b.length
  ·rw [if_pos h2] at h; simp at h
  ·rw [if_neg h2] at h ⊢
   by_cases h3 : (s.row i).used = true
   ·rw [if_pos h3] at h; simp at h
   ·rw [if_neg h3] at h ⊢
    by_cases h4 : (s.d.lays (s.pos i + 1) b).1 ≠ 0
    ·rw [if_pos h4] at h; exact absurd h h4
    ·rw [if_neg h4] at h ⊢
     by_cases h5 : ((s.d.lays (s.pos i + 1) b).2.lays (s.pos i) (headBytes b.length key)).1 ≠ 0
     ·rw [if_pos h5] at h; exact absurd h h5
     ·rw [if_neg h5]
      exact ⟨by simpa using h1, by simpa using h3, rfl⟩
theorem SS.clear_not {s : SS} {i : Int} (h : (s.clear i).1 ≠ 0) : (s.clear i).2.rows = s.rows := by
 unfold SS.clear at h ⊢
 split
 ·rfl
 ·split
  ·rfl
  ·split
   ·rfl
   ·rename_i h1 h2 h3
    rw [if_neg h1, if_neg h2, if_neg h3] at h
    simp at h
theorem SS.clear_done {s : SS} {i : Int} (h : (s.clear i).1 = 0) : s.has i /\ (s.row i).used = true /\ (s.clear i).2.rows = s.rows.set i.toNat noRow := by
 unfold SS.clear at h ⊢
 by_cases h1 : ¬ s.has i
 ·rw [if_pos h1] at h; simp at h
 ·rw [if_neg h1] at h ⊢
  by_cases h2 : (s.row i).used = false
  ·rw [if_pos h2] at h; simp at h
  ·rw [if_neg h2] at h ⊢
   by_cases h3 : (s.d.lays (s.pos i) (zeros 64)).1 ≠ 0
   ·rw [if_pos h3] at h; exact absurd h h3
   ·rw [if_neg h3]
    exact ⟨by simpa using h1, by simpa using h2, rfl⟩
theorem getD_set (l : List SRow) (i j : Nat) (r : SRow) : (l.set i r).getD j noRow = if i = j /\ j < l.length then r else l.getD j noRow := by
 simp only [List.getD_eq_getElem?_getD, List.getElem?_set]
 by_cases h : i = j
 ·subst h
  by_cases hl : i < l.length
  ·simp [hl]
  ·simp [hl]
 ·simp [h]
theorem filter_eq (n i : Nat) (h : i < n) : (List.range n).filter (fun j => decide (j = i)) = [i] := by
 induction n with
 | zero => omega
 | succ n ih =>
  rw [List.range_succ, List.filter_append]
  by_cases e : i = n
  ·subst e
   have : (List.range i).filter (fun j => decide (j = i)) = [] := by
    rw [List.filter_eq_nil_iff]
    intro j hj
    have := List.mem_range.1 hj
    simp; omega
   rw [this]; simp
  ·rw [ih (by omega)]
   simp [show ¬ n = i by omega]
theorem upto_put {rows : List SRow} {i : Nat} {k key : List UInt8} {n : Nat} (hi : i < rows.length) (hu : (rows.getD i noRow).used = false) (h0 : upto rows rows.length key = []) : upto (rows.set i ⟨true, n, key⟩) (rows.set i ⟨true, n, key⟩).length k = if k = key then [i] else upto rows rows.length k := by
 rw [List.length_set]
 unfold upto
 by_cases e : k = key
 ·subst e
  rw [if_pos rfl, <- filter_eq rows.length i hi]
  refine List.filter_congr (fun j hj => ?_)
  have hjl := List.mem_range.1 hj
  unfold rowIs
  rw [getD_set]
  by_cases e2 : i = j
  ·subst e2
   simp [hi]
  ·rw [if_neg (fun h => e2 h.1)]
   have : j ∉ upto rows rows.length k := by rw [h0]; simp
   rw [upto_mem] at this
   have e3 : ¬ j = i := fun h => e2 h.symm
   rw [decide_eq_false e3]
   cases hu2 : (rows.getD j noRow).used with
   | false => rfl
   | true =>
    simp only [Bool.true_and, decide_eq_false_iff_not]
    exact fun h => this ⟨hjl, hu2, h⟩
 ·rw [if_neg e]
  refine List.filter_congr (fun j hj => ?_)
  unfold rowIs
  rw [getD_set]
  by_cases e2 : i = j
  ·subst e2
   rw [if_pos ⟨rfl, hi⟩, hu]
   simp only [Bool.true_and, Bool.false_and, decide_eq_false_iff_not]
   exact fun h => e h.symm
  ·rw [if_neg (fun h => e2 h.1)]
theorem filter_not_mem {l : List Nat} {P : Nat -> Bool} {i : Nat} {r : List Nat} (hn : l.Nodup) (h : l.filter P = i :: r) : l.filter (fun j => P j && !decide (j = i)) = r := by
 have e : l.filter (fun j => P j && !decide (j = i)) = (l.filter P).filter (fun j => !decide (j = i)) := by rw [List.filter_filter]; congr 1; funext j; exact Bool.and_comm _ _
 rw [e, h]
 have hnd : (i :: r).Nodup := by rw [<- h]; exact hn.filter _
 have hi := (List.nodup_cons.1 hnd).1
 rw [List.filter_cons]
 simp only [decide_true, Bool.not_true, Bool.false_eq_true, if_false]
 rw [List.filter_eq_self]
 intro j hj
 simp only [Bool.not_eq_true', decide_eq_false_iff_not]
 exact fun e => hi (e ▸ hj)
theorem upto_clear {rows : List SRow} {i : Nat} {key k : List UInt8} {r : List Nat} (h0 : upto rows rows.length key = i :: r) : upto (rows.set i noRow) (rows.set i noRow).length k = if k = key then r else upto rows rows.length k := by
 rw [List.length_set]
 have hm : i ∈ upto rows rows.length key := by rw [h0]; simp
 obtain ⟨hi, hu, hk⟩ := upto_mem.1 hm
 unfold upto
 by_cases e : k = key
 ·subst e
  rw [if_pos rfl, <- filter_not_mem List.nodup_range h0]
  refine List.filter_congr (fun j hj => ?_)
  unfold rowIs
  rw [getD_set]
  by_cases e2 : i = j
  ·subst e2
   rw [if_pos ⟨rfl, hi⟩]
   simp [noRow]
  ·have e3 : decide (j = i) = false := decide_eq_false (fun h => e2 h.symm)
   rw [if_neg (fun h => e2 h.1), e3]
   simp
 ·rw [if_neg e]
  refine List.filter_congr (fun j hj => ?_)
  unfold rowIs
  rw [getD_set]
  by_cases e2 : i = j
  ·subst e2
   rw [if_pos ⟨rfl, hi⟩, hk]
   have : decide (key = k) = false := decide_eq_false (fun h => e h.symm)
   rw [this]
   simp [noRow]
  ·rw [if_neg (fun h => e2 h.1)]
theorem keysOk.set {rows : List SRow} (h : keysOk rows) (i : Nat) {r : SRow} (hr : r.used = true -> unOk r.key = true) : keysOk (rows.set i r) := by
 intro x hx hu
 rcases List.mem_or_eq_of_mem_set hx with h1 | rfl
 ·exact h x h1 hu
 ·exact hr hu
theorem wp_upd {κ : Type} {k : TypeId} {kv : κ -> Value} {kl : κ -> Lit} {ok : κ -> Prop} (E : KE k kv kl ok) (w : World) {o : Oper} {a : Act} {K : Act -> World -> Prop} {Q : Exit -> Act -> World -> Prop} (m x v : Operand) (t : TypeId) (hop : o.op = Op.mapUpdate t m x v) (e : TypeId)
  (ht : Tryz.prog.underlying t = some (.map k e)) (b N : Nat) (φ : κ -> Option Value) (hm : a.eval m = .map (some b)) (h : MapF k kl ok w b φ N) (hN : N < maxLen) (y : κ) (hx : a.eval x = kv y) (hy : ok y) (u : Value) (hv : a.eval v = u)
  (hK : ∀ w', MapF k kl ok w' b (updF φ y u) (if (φ y).isSome then N else N + 1) -> Chg [b] w w' -> w'.heap.size = w.heap.size -> K (a.put o.dst undef) w') : Oper.wp Tryz.prog o a w K Q := by
 obtain ⟨w', hrun, r1, r2, r3⟩ := h.store E ht hy u hN
 unfold Oper.wp
 simp [execOp, hop, hm, hx, hv, hrun, Result.andThen]
 exact hK w' r1 r2 r3
theorem wp_del {κ : Type} {k : TypeId} {kv : κ -> Value} {kl : κ -> Lit} {ok : κ -> Prop} (E : KE k kv kl ok) (w : World) {o : Oper} {a : Act} {K : Act -> World -> Prop} {Q : Exit -> Act -> World -> Prop} (m x : Operand) (t : TypeId) (hop : o.op = Op.call { callee := Callee.builtin Builtin.delete, args := #[m, x], argTypes := #[t, k] }) (e : TypeId)
  (ht : Tryz.prog.underlying t = some (.map k e)) (b N : Nat) (φ : κ -> Option Value) (hm : a.eval m = .map (some b)) (h : MapF k kl ok w b φ N) (y : κ) (hx : a.eval x = kv y) (hy : ok y)
  (hK : ∀ w', MapF k kl ok w' b (delF φ y) (if (φ y).isSome then N - 1 else N) -> Chg [b] w w' -> w'.heap.size = w.heap.size -> K (a.put o.dst (.tuple #[])) w') : Oper.wp Tryz.prog o a w K Q := by
 obtain ⟨w', hrun, r1, r2, r3⟩ := h.drop E ht hy o.type
 unfold Oper.wp execOp
 simp only [hop, resolve, invoke, builtin, Sem.run_bind, Sem.run_pure, Result.andThen_ok, List.map_toArray, List.map_cons, List.map_nil, hm, hx, hrun]
 exact hK _ r1 r2 r3
theorem SlotsAt.keepMap {w w' : World} {q p mb : Nat} {U : List Nat} {s : SS} (h : SlotsAt w q p U s) (hc : Chg [mb] w w') (hm : ∃ es clock, w.heap[mb]? = some (.map es clock)) (hU : mb ∉ U) : SlotsAt w' q p U s := by
 obtain ⟨S, rv, R, h⟩ := h
 have hne : ∀ x ∈ U, x ∉ [mb] := fun x hx hmm => hU (by rw [<- List.mem_singleton.1 hmm]; exact hx)
 refine ⟨S, rv, R, h.obj.keep hc (fun x hx => hne x (h.uB x hx)), h.disk.keep hc (fun x hx => hne x (h.uS x hx)), h.rows, h.sep, fun x hx => ?_, h.uS, h.uB, fun x hx => Nat.lt_of_lt_of_le (h.uL x hx) hc.size, h.ok⟩
 obtain ⟨h1, h2⟩ := h.keys x hx
 refine ⟨h1.chgW hc (fun hn k hk hmm => ?_), fun g hg => ⟨Nat.lt_of_lt_of_le (h2 g hg).1 hc.size, (h2 g hg).2⟩⟩
 obtain rfl := List.mem_singleton.1 hmm
 obtain ⟨es, clock, hmo⟩ := hm
 obtain ⟨a, cap, hv, _, _, h3⟩ := h1.1
 rw [hv] at hk
 rcases h3 with ⟨h3, _⟩ | ⟨g, o, rfl, hcell⟩
 ·exact hn h3
 ·obtain rfl : g = k := by simpa [Value.ownBlock] using hk
  have := hcell 0 (List.length_pos_iff.2 hn)
  simp only [World.cell?, hmo] at this
  cases this
theorem StOk.added {w w2 w3 : World} {q p sp mb : Nat} {Us : List Nat} {φ : Id -> Option Value} {N N' : Nat} {t : Sto} {s' : SS} {i n : Nat} {x : Id} {v : Value} (h : StOk G w q p sp mb Us φ N t) (hs : Sid w w2 sp p Us s') (hrows : s'.rows = t.s.rows.set i ⟨true, n, idKey x⟩) (hi : i < t.s.rows.length)
  (hu : (t.s.rows.getD i noRow).used = false) (hx : mayId x = true) (hat : t.at x = []) (hc : Chg [mb] w2 w3) (hmap : MapF 45 klD okD w3 mb (updF φ x v) N') (hv : IntsAt w3 v [i]) (hf : ∀ g, v.ownBlock = some g -> w2.heap.size <= g /\ g < w3.heap.size) :
  Std G w w3 q p (q :: mb :: Us) { t with s := s' } := by
 obtain ⟨U', h1, h2, h3⟩ := hs
 have hq := blk_lt h.head
 have hm := h.map.lt
 have hqm := ne_blk h.head h.map
 rw [Sto.at_may hx] at hat
 have hat' : ∀ y, Sto.at { t with s := s' } y = if y = x then [i] else t.at y := fun y => by
  by_cases hy : mayId y = true
  ·rw [Sto.at_may hy, Sto.at_may hy]
   show upto s'.rows s'.rows.length (idKey y) = _
   rw [hrows, upto_put hi hu hat]
   by_cases e : y = x
   ·subst e; rw [if_pos rfl, if_pos rfl]
   ·rw [if_neg e, if_neg (fun h => e (idKey_inj hy hx h))]
  ·have hy' : mayId y = false := by simpa using hy
   rw [Sto.at_not hy', Sto.at_not hy', if_neg (fun e => by subst e; exact hy hx)]
 have hqU : q ∉ U' := fun hx => by
  rcases h2 q hx with h4 | h4
  ·exact h.apart.1 h4
  ·omega
 have hmU : mb ∉ U' := fun hx => by
  rcases h2 mb hx with h4 | h4
  ·exact h.apart.2 h4
  ·omega
 have hcc : Chg (mb :: Us) w w3 := (h3.mono (fun y hy => .inl (List.mem_cons_of_mem _ hy))).trans hc (fun y hy => .inl (by rw [List.mem_singleton.1 hy]; simp))
 have hU2 : ∀ y ∈ q :: mb :: U', y ∈ q :: mb :: Us ∨ w.heap.size <= y := fun y hy => by
  rcases List.mem_cons.1 hy with rfl | hy
  ·exact .inl (by simp)
  ·rcases List.mem_cons.1 hy with rfl | hy
   ·exact .inl (by simp)
   ·rcases h2 y hy with h4 | h4
    ·exact .inl (by simp [h4])
    ·exact .inr h4
 refine StOk.std (Us' := U') ⟨hcc.keep h.head (fun hy => ?_), h1.keepMap hc (h.map.chg h3 h.apart.2).obj hmU, hmap, ⟨hqU, hmU⟩, fun y hy => ?_, ?_, (h.far.mono hcc.size).upd x (fun k hk e => by have := (hf k e).1; have := (h.far k hk).1; have := h3.size; omega)⟩ h2 (hcc.mono (fun y hy => .inl (List.mem_cons_of_mem _ hy)))
 ·rcases List.mem_cons.1 hy with h4 | h4
  ·exact hqm h4
  ·exact h.apart.1 h4
 ·rw [hat' y]
  by_cases e : y = x
  ·subst e
   rw [if_pos rfl, updF_self]
   refine .inr ⟨by simp, v, rfl, hv, fun g hg => ⟨(hf g hg).2, fun hmm => ?_⟩⟩
   have := (hf g hg).1
   rcases List.mem_cons.1 hmm with rfl | hmm
   ·have := h3.size; omega
   ·rcases List.mem_cons.1 hmm with rfl | hmm
    ·have := h3.size; omega
    ·have := h1.uL g hmm; omega
  ·rw [if_neg e, updF_other _ _ e]
   exact (h.vals y hy).keep hcc (fun z hz => .inl (List.mem_cons_of_mem _ hz)) hU2
 ·show keysOk s'.rows
  rw [hrows]
  exact h.ok.set i (fun _ => (un_key hx).2)
end
section
open Go.RowKit
variable {G : List Nat}
theorem SS.free_ok {s : SS} (h : ¬ s.free < 0) : ∃ i : Nat, s.free = (i : Int) /\ i < s.rows.length /\ (s.rows.getD i noRow).used = false := by
 unfold SS.free at h ⊢
 rcases rowFree_spec s.rows 0 with ⟨h1, _⟩ | ⟨n, h1, h2, h3, _⟩
 ·rw [h1] at h; omega
 ·exact ⟨n, by rw [h2, Nat.zero_add], h1, h3⟩
theorem stput_any (q p : Nat) (U : List Nat) (t : Sto) (x : Id) (bv : Value) (b : List UInt8) (w : World) (h : StAt G w q p U t) (hxo : okD x) (hb : BytesAt w bv b) (hbU : b ≠ [] -> ∀ k, bv.ownBlock = some k -> k ∉ U) (hbl : b.length <= 1000000) (ho : t.s.d.ops <= 900000000) (hw : t.s.d.since.length <= 900000) :
  Calls Tryz.prog 74 #[.pointer (some ⟨q, 0, none⟩), idV x, bv] w fun e w' => e = .returned (.int .i64 (t.put x b).1) /\ Std G w w' q p U (t.put x b).2 := by
 obtain ⟨sp, mb, Us, φ, N, h, rfl⟩ := h
 obtain ⟨w1, hw1⟩ : ∃ w1, w1 = w.alloc (.cells (idC x) 45) := ⟨_, rfl⟩
 have hc1 : Chg [] w w1 := by rw [hw1]; exact (Chg.refl [] w).alloc _
 have hb1 : w1.heap[w.heap.size]? = some (.cells (idC x) 45 (0, 0)) := by rw [hw1]; exact heap_alloc_new w _
 have H1 := h.keep0 hc1
 obtain ⟨k0, _, _, _⟩ := H1.cells
 have CM := LH (stmade_any q p w1 k0)
 have CK := LH (stkey_any x w1)
 have HB := LH hb1
 have HC1 := LH hc1
 have HW1 := LH hw1
 have HH1 := LH H1
 have HX := LH hxo
 have HBY := LH (hb.chg hc1 (by simp))
 have HBU := LH hbU
 have HUL := LH h.slots.uL
 obtain ⟨ab, cb, rfl⟩ := hb.slice
 have HST : Hid (∀ w', Chg [] w1 w' -> Std G w w' q p (q :: mb :: Us) t) := LH (fun w' hc => ⟨q :: mb :: Us, ⟨sp, mb, Us, φ, N, H1.keep0 hc, rfl⟩, fun y hy => .inl hy, (hc1.trans hc (by simp)).mono (by simp)⟩)
 clear hw1 hb1 hc1 h hxo hb hbU H1
 unfold KeyPost at CK
 by_cases hm : mayId x = true
 ·simp only [hm, if_true] at CK
  have HM := LH hm
  have HG0 : Hid (t.put x b = if 448 < b.length then (3, t) else match t.at x with
    | i :: _ => if (t.s.get i).2 ≠ 0 then ((t.s.get i).2, t) else if (t.s.get i).1 = b then (0, t) else (7, t)
    | [] => if t.s.free < 0 then (5, t) else ((t.s.put t.s.free (idKey x) b).1, { t with s := (t.s.put t.s.free (idKey x) b).2 })) := LH (by unfold Sto.put; rw [if_neg (by simp [hm])]; try rfl)
  generalize t.put x b = r at *
  obtain ⟨xc, xl, xn, xi⟩ := x
  clear hm
  have hkl := idKey_len ⟨xc, xl, xn, xi⟩
  go_enter Tryz.func74, Tryz.ntmps74
  go_wp2_with fail
  rw [<- HW1.out]
  refine CM.out.mono ?_
  rintro e w' ⟨rfl, hq⟩
  subst hq
  obtain ⟨m0, m1, m2, m3⟩ := id_cells HB.out
  go_wp2_with fail
  refine CK.out.mono ?_
  rintro e w2 ⟨hc2, kv, rfl, hkr, hkf⟩
  have HB2 := LH (hc2.keep HB.out (by simp))
  have HH2 := LH (HH1.out.keep0 hc2)
  have HC2 := LH hc2
  have HBY2 := LH (HBY.out.chg hc2 (by simp))
  have HKR := LH (And.intro hkr hkf)
  obtain ⟨ak, ck, rfl⟩ := hkr.slice
  clear hc2 m0 m1 m2 m3 k0 CM CK HB HBY hkr hkf
  by_cases hlen : 448 < b.length
  ·have HR : Hid (r = (3, t)) := LH (by rw [HG0.out, if_pos hlen])
   have hlz : (448 : Int) < (b.length : Int) := by omega
   clear HG0
   go_wp2
   go_ret
   rw [HR.out]
   exact ⟨rfl, HST.out _ HC2.out⟩
  ·have hlz : ¬ (448 : Int) < (b.length : Int) := by omega
   rw [if_neg hlen] at HG0
   obtain ⟨v, hlk, hlook⟩ := HH2.out.look HX.out
   obtain ⟨k0, k1, k2, _⟩ := HH2.out.cells
   obtain ⟨m0, m1, m2, m3⟩ := id_cells HB2.out
   obtain ⟨⟨a, cap, hv, hl1, hl2⟩, hfst⟩ := hlook
   cases hat : t.at ⟨xc, xl, xn, xi⟩ with
   | nil =>
    rw [hat] at HG0 hv
    subst hv
    dsimp only at HG0
    have HAT := LH hat
    clear hfst hat
    go_wp2_with fail
    go_quiet (fail)
    have HCn : Hid (Chg [] w2 (w2.drewN nq)) := LH ((Chg.refl [] w2).drewN nq)
    have HHn := LH (HH2.out.keep0 HCn.out)
    have HBn := LH (HBY2.out.chg HCn.out (by simp))
    have HKn := LH (HKR.out.1.bytes.chg HCn.out (by simp))
    have HIn := LH (show (w2.drewN nq).heap[w.heap.size]? = some (.cells (idC ⟨xc, xl, xn, xi⟩) 45 (0, 0)) from HB2.out)
    have CF := LH (sfree_any sp p Us t.s _ HHn.out.slots)
    obtain ⟨k0, k1, k2, _⟩ := HHn.out.cells
    clear hlk m0 m1 m2 m3
    generalize w2.drewN nq = w3 at *
    by_cases hfr : t.s.free < 0
    ·have HR : Hid (r = (5, t)) := LH (by rw [HG0.out, if_pos hfr])
     clear HG0
     go_wp2_with (go_at_call 103; refine CF.out.mono ?_; rintro e w' ⟨rfl, hq⟩; subst hq)
     go_ret
     rw [HR.out]
     exact ⟨rfl, HST.out _ (HC2.out.trans HCn.out (by simp))⟩
    ·rw [if_neg hfr] at HG0
     obtain ⟨i, hfi, hil, hiu⟩ := SS.free_ok hfr
     rw [hfi] at CF HG0 hfr
     have CP := LH (sput_any sp p Us t.s (i : Int) _ _ _ b w3 HHn.out.slots HKn.out (fun _ k hk hm => by
      have a1 := HKR.out.2 k hk
      have a2 := HH1.out.slots.uL k hm
      omega) HBn.out (fun hne k hk hm => HBU.out hne k hk (by simp [hm])) (by rw [hkl]; omega) hbl ho hw)
     have hpn := @SS.put_not t.s (i : Int) (idKey ⟨xc, xl, xn, xi⟩) b
     have hpd := @SS.put_done t.s (i : Int) (idKey ⟨xc, xl, xn, xi⟩) b
     generalize t.s.put (i : Int) (idKey ⟨xc, xl, xn, xi⟩) b = z at *
     obtain ⟨ze, zs⟩ := z
     dsimp only at HG0 hpn hpd
     unfold SidPost at CP
     have HPN := LH (And.intro hpn hpd)
     have HIU := LH (And.intro hil hiu)
     clear hpn hpd hfi hil hiu
     go_wp2_with (go_at_call 103; refine CF.out.mono ?_; rintro e w' ⟨rfl, hq⟩; subst hq)
     refine CP.out.mono ?_
     rintro e w4 ⟨rfl, hs4⟩
     have HS4 := LH (Sid.pre (HC1.out.trans (HC2.out.trans HCn.out (by simp)) (by simp)) hs4)
     have HS4' := LH hs4
     clear hs4 CP CF
     by_cases he : ze = 0
     ·subst he
      have HR : Hid (r = (0, { t with s := zs })) := LH (by rw [HG0.out])
      obtain ⟨hhas, hun, hrows⟩ := HPN.out.2 rfl
      obtain ⟨Us', hs1, hs2, hs3⟩ := HS4'.out
      have hid4 : w4.heap[w.heap.size]? = some (.cells (idC ⟨xc, xl, xn, xi⟩) 45 (0, 0)) := hs3.keep HIn.out (fun hm => by have := HUL.out _ hm; omega)
      have c4 := hs3.cell HHn.out.cells.2.2.1 HHn.out.apart.1
      have c4' := hs3.cell HHn.out.cells.1 HHn.out.apart.1
      have HM4 := LH (HHn.out.map.chg hs3 HHn.out.apart.2)
      have mm4 := id_cells hid4
      have HI4 := LH hid4
      have hml := HM4.out.lt
      have hNN : N < maxLen := by
       have h1 := HHn.out.map.card keId (t.s.rows.map (fun r => unId r.key)) (fun y hy hs => by
        rcases HHn.out.vals y hy with ⟨_, h2⟩ | ⟨h1, _⟩
        ·rw [h2] at hs; cases hs
        ·obtain ⟨j, l, hjl⟩ := List.exists_cons_of_ne_nil h1
         by_cases hmy : mayId y = true
         ·rw [Sto.at_may hmy] at hjl
          have hj : j ∈ upto t.s.rows t.s.rows.length (idKey y) := by rw [hjl]; simp
          obtain ⟨j1, j2, j3⟩ := upto_mem.1 hj
          refine List.mem_map.2 ⟨t.s.rows.getD j noRow, ?_, by rw [j3, (un_key hmy).1]⟩
          rw [List.getD_eq_getElem?_getD, List.getElem?_eq_getElem j1]
          exact List.getElem_mem _
         ·rw [Sto.at_not (by simpa using hmy)] at hjl; cases hjl)
       obtain ⟨S0, rv0, R0, H0⟩ := HHn.out.slots
       have := H0.few
       rw [List.length_map] at h1
       unfold maxLen
       omega
      have HRW := LH hrows
      clear hs1 hs2 hs3 hid4 hhas hun hrows HG0
      go_wp2_with fail
      refine wp_region_L [(7, fun w' => w'.cell? ⟨q, 2, none⟩ = some (.map (some mb))), (7, fun w' => (w'.cell? ⟨w.heap.size, 0, none⟩ = some (.int .i64 xc) /\ w'.cell? ⟨w.heap.size, 1, none⟩ = some (.int .i64 xl) /\ w'.cell? ⟨w.heap.size, 2, none⟩ = some (.int .i64 xn) /\ w'.cell? ⟨w.heap.size, 3, none⟩ = some (.int .i64 xi)))] (by kernel_rfl) ?_ (fun hHeld => ?_)
      ·exact (HoldC.cons (c4) (HoldC.cons (mm4) HoldC.nil))
      refine tk 0 ?_ rfl (by kernel_rfl) (fun _ _ _ h => h) (.inl ⟨by rfl, ?_⟩) hHeld ?_; rotate_left; · (intro w _; go_simp; try with_reducible rfl)
      clear hHeld; intro hHeld; try simp only [gA,gB,gC,Act.put,gD,gE,gF]
      refine tk 1 ?_ rfl (by kernel_rfl) (fun _ _ _ h => h) (.inl ⟨by rfl, ?_⟩) hHeld ?_; rotate_left; · (intro w _; go_simp; try with_reducible rfl)
      clear hHeld; intro hHeld; try simp only [gA,gB,gC,Act.put,gD,gE,gF]
      refine tk 2 ?_ rfl (by kernel_rfl) (fun _ _ _ h => h) (.inl ⟨by rfl, ?_⟩) hHeld ?_; rotate_left; · (intro w _; go_simp; try with_reducible rfl)
      clear hHeld; intro hHeld; try simp only [gA,gB,gC,Act.put,gD,gE,gF]
      refine ld 0 3 ?_ rfl rfl (by kernel_rfl) (fun _ _ _ h => h) (.inl ⟨by rfl, ?_⟩) hHeld ?_; rotate_left; · (intro w hSw; (try dsimp only at hSw); go_simp; try with_reducible rfl)
      clear hHeld; intro hHeld; try simp only [gA,gB,gC,Act.put,gD,gE,gF]
      refine ld 1 4 ?_ rfl rfl (by kernel_rfl) (fun _ _ _ h => h) (.inl ⟨by rfl, ?_⟩) hHeld ?_; rotate_left; · (intro w hSw; (try dsimp only at hSw); go_simp; try with_reducible rfl)
      clear hHeld; intro hHeld; try simp only [gA,gB,gC,Act.put,gD,gE,gF]
      refine tk 5 ?_ rfl (by kernel_rfl) (fun _ _ _ h => h) (.inl ⟨by rfl, ?_⟩) hHeld ?_; rotate_left; · (intro w _; go_simp; try with_reducible rfl)
      clear hHeld; intro hHeld; try simp only [gA,gB,gC,Act.put,gD,gE,gF]
      refine wpAnyL_ready (rs := [6]) (by kernel_rfl) (by simp) (AllReadyL.cons (o := _) rfl (fun K hK => ?_) AllReadyL.nil)
      try simp only [gA,gB,gC]
      go_simp
      have hcW : Chg [] w4 (w4.alloc (.cells #[.int .i64 (i : Int)] 3)).drew := ((Chg.refl _ _).alloc _).drew
      have hbW : (w4.alloc (.cells #[.int .i64 (i : Int)] 3)).drew.heap[w4.heap.size]? = some (.cells #[.int .i64 (i : Int)] 3 (0, 0)) := heap_alloc_new w4 _
      have hbl2 : w4.heap.size < (w4.alloc (.cells #[.int .i64 (i : Int)] 3)).drew.heap.size := blk_lt hbW
      generalize (w4.alloc (.cells #[.int .i64 (i : Int)] 3)).drew = W at *
      have c8 := hcW.cell c4 (by simp)
      have mm8 := id_cells (hcW.keep HI4.out (by simp))
      have HMW := LH (HM4.out.chg hcW (by simp))
      clear hHeld
      refine hK.out _ _ ?_ (fun hHeld => ?_)
      ·exact (HoldC.cons (c8) (HoldC.cons (mm8) HoldC.nil))
      clear hK K
      try simp only [gA,gB,gC,Act.put,gD,gE,gF]
      refine wpAnyL_ready (rs := [7]) (by kernel_rfl) (by simp) (AllReadyL.cons (o := _) rfl (fun K hK => ?_) AllReadyL.nil)
      try simp only [gA,gB,gC]
      refine wp_upd keId W (.tmp 77) (.tmp 78) (.tmp 80) 107 (by rfl) 76 Tryz.underlying107 mb N φ (by rfl) HMW.out hNN ⟨xc, xl, xn, xi⟩ (by rfl) HX.out (.slice (some ⟨w4.heap.size, 0, none⟩) 1 1) (by rfl) ?_
      intro w6 hm6 hc6 hs6
      have hv6 : IntsAt w6 (.slice (some ⟨w4.heap.size, 0, none⟩) 1 1) [i] := ⟨_, 1, rfl, by simp, by unfold maxLen; omega, fun _ => ⟨_, 0, rfl, fun j hj => by
       obtain rfl : j = 0 := by simpa using hj
       exact hc6.cell (blk_cell hbW 0 _ rfl) (by simp; omega)⟩⟩
      have hF := HHn.out.added HS4'.out HRW.out HIU.out.1 HIU.out.2 HM.out HAT.out ((hcW.mono (by simp)).trans hc6 (fun y hy => .inl hy)) hm6 hv6 (fun k hk => by
       obtain rfl : w4.heap.size = k := by simpa [Value.ownBlock] using hk
       exact ⟨Nat.le_refl _, by omega⟩)
      have HF := LH (Std.pre (HC1.out.trans (HC2.out.trans HCn.out (by simp)) (by simp)) hF)
      clear hF hm6 hc6 hs6 hv6 hcW hbW
      clear hHeld
      refine hK.out _ _ ?_ (fun hHeld => ?_)
      ·exact (HoldC.past (by kernel_rfl) (HoldC.past (by kernel_rfl) HoldC.nil))
      clear hK K
      try simp only [gA,gB,gC,Act.put,gD,gE,gF]
      refine wpAnyL_done (by kernel_rfl) ?_ _
      clear hHeld
      go_wp2_with fail
      go_ret
      rw [HR.out]
      exact ⟨rfl, HF.out⟩
     ·have HR : Hid (r = (ze, { t with s := zs })) := LH (by rw [HG0.out])
      have q0 : (ze != 0) = true := by simp [he]
      have HF : Hid (Std G w w4 q p (q :: mb :: Us) { t with s := zs }) := LH (by
       obtain ⟨Us', h1, h2, h3⟩ := HHn.out.slotsDid HS4'.out (HPN.out.1 he)
       have hc0 : Chg [] w w3 := HC1.out.trans (HC2.out.trans HCn.out (by simp)) (by simp)
       refine Std.pre hc0 (h1.std h2 (h3.mono (fun y hy => .inl (by simp [hy])))))
      clear HG0 he
      go_wp2
      go_ret
      rw [HR.out]
      exact ⟨rfl, HF.out⟩
   | cons i rest =>
    obtain ⟨g, o, cap', hv', hc0⟩ := hfst i rest hat
    rw [hv'] at hv
    obtain ⟨rfl, _, rfl⟩ := Value.slice.inj hv
    rw [hat] at HG0 hv'
    dsimp only at HG0
    subst hv'
    have hpos : 0 < (i :: rest).length := by simp
    have hcl : (i :: rest).length <= cap' := by rw [<- hat]; exact hl1
    have hbig : (i :: rest).length <= 9223372036854775807 := by rw [hat] at hl1; unfold maxLen at hl2; omega
    generalize (i :: rest).length = n at *
    have hn0 : ((n : Int) == 0) = false := by simp; omega
    clear hv hfst hat hl1 hl2
    go_wp2_with fail
    go_quiet (fail)
    have hc03 : (w2.drewN nq).drew.cell? ⟨g, o, none⟩ = some (.int .i64 (i : Int)) := hc0
    have HCn : Hid (Chg [] w2 (w2.drewN nq).drew) := LH (((Chg.refl [] w2).drewN nq).drew)
    have HHn := LH (HH2.out.keep0 HCn.out)
    have CG := LH (sget_any sp p Us t.s i _ HHn.out.slots)
    have HBn := LH (HBY2.out.chg HCn.out (by simp))
    obtain ⟨h0, h1, h2, _⟩ := HHn.out.cells
    clear hlk hc0 k0 k1 k2 m0 m1 m2 m3
    generalize w2.drewN nq = w3 at *
    go_wp2_with fail
    refine wp_region_L [(7, fun w' => w'.cell? ⟨q, 1, none⟩ = some (.pointer (some ⟨sp, 0, none⟩))), (7, fun w' => w'.cell? ⟨g, o, none⟩ = some (.int .i64 (i : Int)))] (by kernel_rfl) ?_ (fun hHeld => ?_)
    ·exact (HoldC.cons (h1) (HoldC.cons (hc03) HoldC.nil))
    refine tk 0 ?_ rfl (by kernel_rfl) (fun _ _ _ h => h) (.inl ⟨by rfl, ?_⟩) hHeld ?_; rotate_left; · (intro w _; go_simp; try with_reducible rfl)
    clear hHeld; intro hHeld; try simp only [gA,gB,gC,Act.put,gD,gE,gF]
    refine tk 1 ?_ rfl (by kernel_rfl) (fun _ _ _ h => h) (.inl ⟨by rfl, ?_⟩) hHeld ?_; rotate_left; · (intro w _; go_simp; try with_reducible rfl)
    clear hHeld; intro hHeld; try simp only [gA,gB,gC,Act.put,gD,gE,gF]
    refine tk 2 ?_ rfl (by kernel_rfl) (fun _ _ _ h => h) (.inl ⟨by rfl, ?_⟩) hHeld ?_; rotate_left; · (intro w _; go_simp; try with_reducible rfl)
    clear hHeld; intro hHeld; try simp only [gA,gB,gC,Act.put,gD,gE,gF]
    refine ld 0 3 ?_ rfl rfl (by kernel_rfl) (fun _ _ _ h => h) (.inl ⟨by rfl, ?_⟩) hHeld ?_; rotate_left; · (intro w hSw; (try dsimp only at hSw); go_simp; try with_reducible rfl)
    clear hHeld; intro hHeld; try simp only [gA,gB,gC,Act.put,gD,gE,gF]
    refine tk 4 ?_ rfl (by kernel_rfl) (fun _ _ _ h => h) (.inl ⟨by rfl, ?_⟩) hHeld ?_; rotate_left; · (intro w _; go_simp; try with_reducible rfl)
    clear hHeld; intro hHeld; try simp only [gA,gB,gC,Act.put,gD,gE,gF]
    refine tk 5 ?_ rfl (by kernel_rfl) (fun _ _ _ h => h) (.inl ⟨by rfl, ?_⟩) hHeld ?_; rotate_left; · (intro w _; go_simp; try with_reducible rfl)
    clear hHeld; intro hHeld; try simp only [gA,gB,gC,Act.put,gD,gE,gF]
    refine ld 1 6 ?_ rfl rfl (by kernel_rfl) (fun _ _ _ h => h) (.inl ⟨by rfl, ?_⟩) hHeld ?_; rotate_left; · (intro w hSw; (try dsimp only at hSw); go_simp; try with_reducible rfl)
    clear hHeld; intro hHeld; try simp only [gA,gB,gC,Act.put,gD,gE,gF]
    refine wpAnyL_ready (rs := [7]) (by kernel_rfl) (by simp) (AllReadyL.cons (o := _) rfl (fun K hK => ?_) AllReadyL.nil)
    try simp only [gA,gB,gC]
    go_simp
    refine CG.out.mono ?_
    rintro e w4 ⟨⟨v4, rfl, hb4, ho4⟩, hc4⟩
    have HC4 := LH ((HC2.out.trans HCn.out (by simp)).trans hc4 (by simp))
    obtain ⟨a4, c4, rfl⟩ := hb4.slice
    have CE := LH (equal_any _ _ _ _ w4 hb4 (HBn.out.chg hc4 (by simp)))
    clear hb4 ho4 hc4 CG
    clear hHeld
    refine hK.out _ _ ?_ (fun hHeld => ?_)
    ·exact (HoldC.past (by kernel_rfl) (HoldC.past (by kernel_rfl) HoldC.nil))
    clear hK K
    try simp only [gA,gB,gC,Act.put,gD,gE,gF]
    refine tk 8 ?_ rfl (by kernel_rfl) (fun _ _ _ h => h) (.inl ⟨by rfl, ?_⟩) hHeld ?_; rotate_left; · (intro w _; go_simp; try with_reducible rfl)
    clear hHeld; intro hHeld; try simp only [gA,gB,gC,Act.put,gD,gE,gF]
    refine tk 9 ?_ rfl (by kernel_rfl) (fun _ _ _ h => h) (.inl ⟨by rfl, ?_⟩) hHeld ?_; rotate_left; · (intro w _; go_simp; try with_reducible rfl)
    clear hHeld; intro hHeld; try simp only [gA,gB,gC,Act.put,gD,gE,gF]
    refine tk 10 ?_ rfl (by kernel_rfl) (fun _ _ _ h => h) (.inl ⟨by rfl, ?_⟩) hHeld ?_; rotate_left; · (intro w _; go_simp; try with_reducible rfl)
    clear hHeld; intro hHeld; try simp only [gA,gB,gC,Act.put,gD,gE,gF]
    refine wpAnyL_ready (rs := [11]) (by kernel_rfl) (by simp) (AllReadyL.cons (o := _) rfl (fun K hK => ?_) AllReadyL.nil)
    try simp only [gA,gB,gC]
    go_simp
    clear hHeld
    refine hK.out _ _ ?_ (fun hHeld => ?_)
    ·exact (HoldC.past (by kernel_rfl) (HoldC.past (by kernel_rfl) HoldC.nil))
    clear hK K
    try simp only [gA,gB,gC,Act.put,gD,gE,gF]
    refine wpAnyL_ready (rs := [12]) (by kernel_rfl) (by simp) (AllReadyL.cons (o := _) rfl (fun K hK => ?_) AllReadyL.nil)
    try simp only [gA,gB,gC]
    go_simp
    clear hHeld
    refine hK.out _ _ ?_ (fun hHeld => ?_)
    ·exact (HoldC.past (by kernel_rfl) (HoldC.past (by kernel_rfl) HoldC.nil))
    clear hK K
    try simp only [gA,gB,gC,Act.put,gD,gE,gF]
    refine wpAnyL_done (by kernel_rfl) ?_ _
    clear hHeld
    generalize t.s.get i = z at *
    obtain ⟨zb, ze⟩ := z
    dsimp only at CE HG0
    by_cases he : ze = 0
    ·subst he
     rw [if_neg (by simp)] at HG0
     by_cases hbb : zb = b
     ·have HR : Hid (r = (0, t)) := LH (by rw [HG0.out, if_pos hbb])
      rw [decide_eq_true hbb] at CE
      clear HG0 hbb
      go_wp2_with (go_at_call 102; refine CE.out.mono ?_; rintro e w' ⟨rfl, hq⟩; subst hq)
      go_ret
      rw [HR.out]
      exact ⟨rfl, HST.out _ HC4.out⟩
     ·have HR : Hid (r = (7, t)) := LH (by rw [HG0.out, if_neg hbb])
      rw [decide_eq_false hbb] at CE
      clear HG0 hbb
      go_wp2_with (go_at_call 102; refine CE.out.mono ?_; rintro e w' ⟨rfl, hq⟩; subst hq)
      go_ret
      rw [HR.out]
      exact ⟨rfl, HST.out _ HC4.out⟩
    ·have HR : Hid (r = (ze, t)) := LH (by rw [HG0.out, if_pos he])
     have q0 : (ze != 0) = true := by simp [he]
     clear HG0 he
     go_wp2
     go_ret
     rw [HR.out]
     exact ⟨rfl, HST.out _ HC4.out⟩
 ·have hm' : mayId x = false := by simpa using hm
  have HG : Hid (t.put x b = (1, t)) := LH (by unfold Sto.put; rw [if_pos hm'])
  rw [HG.out]
  simp only [hm] at CK
  clear hm hm'
  obtain ⟨xc, xl, xn, xi⟩ := x
  go_enter Tryz.func74, Tryz.ntmps74
  go_wp2_with fail
  rw [<- HW1.out]
  refine CM.out.mono ?_
  rintro e w' ⟨rfl, hq⟩
  subst hq
  obtain ⟨m0, m1, m2, m3⟩ := id_cells HB.out
  go_wp2_with fail
  refine CK.out.mono ?_
  rintro e w2 ⟨hc2, rfl⟩
  have HC2 := LH hc2
  clear hc2
  go_wp2
  go_ret
  exact ⟨rfl, HST.out _ HC2.out⟩
end
section
open Go.RowKit
variable {G : List Nat}
def IdsAt0 (w : World) (U : List Nat) (o : Option Value) (l : List Nat) : Prop := (l = [] /\ o = none) ∨ ∃ v, o = some v /\ IntsAt w v l /\ ∀ g, v.ownBlock = some g -> g < w.heap.size /\ g ∉ U
theorem IdsAt0.keep {w w' : World} {U U' T : List Nat} {o : Option Value} {l : List Nat} (h : IdsAt0 w U o l) (hc : Chg T w w') (hT : ∀ x ∈ T, x ∈ U ∨ w.heap.size <= x) (hU : ∀ x ∈ U', x ∈ U ∨ w.heap.size <= x) : IdsAt0 w' U' o l := by
 rcases h with h | ⟨v, h2, h3, h4⟩
 ·exact .inl h
 ·refine .inr ⟨v, h2, h3.keep fun g hg => ?_, fun g hg => ⟨Nat.lt_of_lt_of_le (h4 g hg).1 hc.size, fun hm => ?_⟩⟩
  ·obtain ⟨k1, k2⟩ := h4 g hg
   refine hc.block g k1 (fun hm => ?_)
   rcases hT g hm with h | h
   ·exact k2 h
   ·omega
  ·obtain ⟨k1, k2⟩ := h4 g hg
   rcases hU g hm with h | h
   ·exact k2 h
   ·omega
structure StMid (G : List Nat) (w : World) (q p sp mb : Nat) (Us : List Nat) (φ : Id -> Option Value) (N : Nat) (t : Sto) (x : Id) : Prop where
 head : w.heap[q]? = some (.cells #[.pointer (some ⟨p, 0, none⟩), .pointer (some ⟨sp, 0, none⟩), .map (some mb), .bool t.whole] 109 (0, 0))
 slots : SlotsAt w sp p Us t.s
 map : MapF 45 klD okD w mb φ N
 apart : q ∉ Us /\ mb ∉ Us
 vals : ∀ y, okD y -> y ≠ x -> IdsAt w (q :: mb :: Us) (φ y) (t.at y)
 val : IdsAt0 w (q :: mb :: Us) (φ x) (t.at x)
 ok : keysOk t.s.rows
 far : Far G w φ
theorem StOk.mid {w : World} {q p sp mb : Nat} {Us : List Nat} {φ : Id -> Option Value} {N : Nat} {t : Sto} (h : StOk G w q p sp mb Us φ N t) {x : Id} (hx : okD x) : StMid G w q p sp mb Us φ N t x :=
 ⟨h.head, h.slots, h.map, h.apart, fun y hy _ => h.vals y hy, (h.vals x hx).imp id (fun ⟨_, h⟩ => h), h.ok, h.far⟩
variable {w w2 w3 : World} {q p sp mb : Nat} {Us : List Nat} {φ : Id -> Option Value} {N N' : Nat} {t : Sto} {x : Id}
theorem StMid.full (h : StMid G w q p sp mb Us φ N t x) (hne : t.at x ≠ []) : StOk G w q p sp mb Us φ N t := by
 refine ⟨h.head, h.slots, h.map, h.apart, fun y hy => ?_, h.ok, h.far⟩
 by_cases e : y = x
 ·subst e
  rcases h.val with ⟨h1, _⟩ | ⟨v, h2, h3⟩
  ·exact absurd h1 hne
  ·exact .inr ⟨hne, v, h2, h3⟩
 ·exact h.vals y hy e
theorem StMid.keep0 (h : StMid G w q p sp mb Us φ N t x) (hc : Chg [] w w2) : StMid G w2 q p sp mb Us φ N t x :=
 ⟨hc.keep h.head (by simp), h.slots.keep0 hc, h.map.chg hc (by simp), h.apart, fun y hy hn => (h.vals y hy hn).keep hc (by simp) (fun y hy => .inl hy), h.val.keep hc (by simp) (fun y hy => .inl hy), h.ok, h.far.mono hc.size⟩
theorem StMid.cells (h : StMid G w q p sp mb Us φ N t x) :
  w.cell? ⟨q, 0, none⟩ = some (.pointer (some ⟨p, 0, none⟩)) /\ w.cell? ⟨q, 1, none⟩ = some (.pointer (some ⟨sp, 0, none⟩)) /\ w.cell? ⟨q, 2, none⟩ = some (.map (some mb)) /\ w.cell? ⟨q, 3, none⟩ = some (.bool t.whole) :=
 ⟨blk_cell h.head 0 _ rfl, blk_cell h.head 1 _ rfl, blk_cell h.head 2 _ rfl, blk_cell h.head 3 _ rfl⟩
structure MidLook (G : List Nat) (w : World) (U : List Nat) (v : Value) (l : List Nat) : Prop where
 ints : IntsAt w v l
 own : ∀ g, v.ownBlock = some g -> g < w.heap.size /\ g ∉ U
 far : ∀ k ∈ G, v.ownBlock ≠ some k
theorem StMid.look (h : StMid G w q p sp mb Us φ N t x) (hx : okD x) :
  ∃ v, (∀ n, (Instr.lookup 107 (.map (some mb)) (idV x) false).run Tryz.prog (w.drewN n) = .ok v (w.drewN n)) /\ MidLook G w (q :: mb :: Us) v (t.at x) := by
 refine ⟨(φ x).getD (.slice none 0 0), fun n => ?_, ?_⟩
 ·exact (h.map.chg ((Chg.refl [] w).drewN n) (by simp)).look keId Tryz.underlying107 zeroInts hx
 ·rcases h.val with ⟨h1, h2⟩ | ⟨v, h2, h3, h4⟩
  ·rw [h1, h2]
   exact ⟨⟨none, 0, rfl, Nat.le_refl _, by unfold maxLen; omega, fun h => absurd rfl h⟩, (fun g hg => by cases hg), fun k hk e => by cases e⟩
  ·rw [h2]
   exact ⟨h3, h4, fun k hk => (h.far k hk).2 x v hx h2⟩
theorem MidLook.keep {U U' T : List Nat} {v : Value} {l : List Nat} (h : MidLook G w U v l) (hc : Chg T w w2) (hT : ∀ x ∈ T, x ∈ U ∨ w.heap.size <= x) (hU : ∀ x ∈ U', x ∈ U ∨ w.heap.size <= x) : MidLook G w2 U' v l := by
 refine ⟨h.ints.keep fun g hg => ?_, fun g hg => ⟨Nat.lt_of_lt_of_le (h.own g hg).1 hc.size, fun hm => ?_⟩, h.far⟩
 ·obtain ⟨k1, k2⟩ := h.own g hg
  refine hc.block g k1 (fun hm => ?_)
  rcases hT g hm with h | h
  ·exact k2 h
  ·omega
 ·obtain ⟨k1, k2⟩ := h.own g hg
  rcases hU g hm with h | h
  ·exact k2 h
  ·omega
theorem MidLook.first {U : List Nat} {v : Value} {i : Nat} {r : List Nat} (h : MidLook G w U v (i :: r)) : ∃ g o cap, v = .slice (some ⟨g, o, none⟩) (r.length + 1) cap /\ r.length + 1 <= cap /\ cap <= maxLen /\ w.cell? ⟨g, o, none⟩ = some (.int .i64 (i : Int)) /\ MidLook G w U (.slice (some ⟨g, if cap = 1 then o else o + 1, none⟩) r.length (cap - 1)) r := by
 obtain ⟨a, cap, rfl, h1, h2, h3⟩ := h.ints
 obtain ⟨g, o, rfl, h4⟩ := h3 (by simp)
 simp only [List.length_cons] at h1 h4
 refine ⟨g, o, cap, rfl, h1, h2, h4 0 (by omega), ⟨⟨_, cap - 1, rfl, by omega, by omega, fun hn => ?_⟩, fun k hk => h.own k hk, fun k hk => h.far k hk⟩⟩
 have hr := List.length_pos_iff.2 hn
 rw [if_neg (by omega)]
 exact ⟨g, o + 1, rfl, fun j hj => by
  have := h4 (j + 1) (by omega)
  rw [show o + 1 + j = o + (j + 1) by omega, this]; rfl⟩
theorem StMid.slotsDid {s' : SS} (h : StMid G w q p sp mb Us φ N t x) (hs : Sid w w2 sp p Us s') (hr : s'.rows = t.s.rows) :
  ∃ Us', StMid G w2 q p sp mb Us' φ N { t with s := s' } x /\ (∀ x ∈ Us', x ∈ Us ∨ w.heap.size <= x) /\ Chg Us w w2 := by
 obtain ⟨U', h1, h2, h3⟩ := hs
 have hq := blk_lt h.head
 have hm := h.map.lt
 have hat : ∀ x, Sto.at { t with s := s' } x = t.at x := fun x => by unfold Sto.at; simp only [hr]
 have hU : ∀ y ∈ q :: mb :: U', y ∈ q :: mb :: Us ∨ w.heap.size <= y := fun y hy => by
  rcases List.mem_cons.1 hy with rfl | hy
  ·exact .inl (by simp)
  ·rcases List.mem_cons.1 hy with rfl | hy
   ·exact .inl (by simp)
   ·rcases h2 y hy with h4 | h4
    ·exact .inl (by simp [h4])
    ·exact .inr h4
 refine ⟨U', ⟨h3.keep h.head h.apart.1, h1, h.map.chg h3 h.apart.2, ⟨fun hx => ?_, fun hx => ?_⟩, fun y hy hn => ?_, ?_, by rw [show ({ t with s := s' } : Sto).s.rows = t.s.rows from hr]; exact h.ok, h.far.mono h3.size⟩, h2, h3⟩
 ·rcases h2 q hx with h4 | h4
  ·exact h.apart.1 h4
  ·omega
 ·rcases h2 mb hx with h4 | h4
  ·exact h.apart.2 h4
  ·omega
 ·rw [hat]
  exact (h.vals y hy hn).keep h3 (fun y hy => .inl (by simp [hy])) hU
 ·rw [hat]
  exact h.val.keep h3 (fun y hy => .inl (by simp [hy])) hU
theorem StMid.cleared {s' : SS} {i : Nat} {r : List Nat} {v' : Value} (h : StMid G w q p sp mb Us φ N t x) (hx : mayId x = true) (hat : t.at x = i :: r) (hs : Sid w w2 sp p Us s') (hrows : s'.rows = t.s.rows.set i noRow)
  (hc : Chg [mb] w2 w3) (hmap : MapF 45 klD okD w3 mb (updF φ x v') N') (hv : MidLook G w (q :: mb :: Us) v' r) :
  ∃ Us', StMid G w3 q p sp mb Us' (updF φ x v') N' { t with s := s' } x /\ Sto.at { t with s := s' } x = r /\ (∀ x ∈ Us', x ∈ Us ∨ w.heap.size <= x) /\ Chg (mb :: Us) w w3 := by
 obtain ⟨U', h1, h2, h3⟩ := hs
 have hq := blk_lt h.head
 have hm := h.map.lt
 have hqm := ne_blk h.head h.map
 rw [Sto.at_may hx] at hat
 have hat' : ∀ y, Sto.at { t with s := s' } y = if y = x then r else t.at y := fun y => by
  by_cases hy : mayId y = true
  ·rw [Sto.at_may hy, Sto.at_may hy]
   show upto s'.rows s'.rows.length (idKey y) = _
   rw [hrows, upto_clear hat]
   by_cases e : y = x
   ·subst e; rw [if_pos rfl, if_pos rfl]
   ·rw [if_neg e, if_neg (fun h => e (idKey_inj hy hx h))]
  ·have hy' : mayId y = false := by simpa using hy
   rw [Sto.at_not hy', Sto.at_not hy', if_neg (fun e => by subst e; exact hy hx)]
 have hqU : q ∉ U' := fun hx => by
  rcases h2 q hx with h4 | h4
  ·exact h.apart.1 h4
  ·omega
 have hmU : mb ∉ U' := fun hx => by
  rcases h2 mb hx with h4 | h4
  ·exact h.apart.2 h4
  ·omega
 have hcc : Chg (mb :: Us) w w3 := (h3.mono (fun y hy => .inl (List.mem_cons_of_mem _ hy))).trans hc (fun y hy => .inl (by rw [List.mem_singleton.1 hy]; simp))
 have hU2 : ∀ y ∈ q :: mb :: U', y ∈ q :: mb :: Us ∨ w.heap.size <= y := fun y hy => by
  rcases List.mem_cons.1 hy with rfl | hy
  ·exact .inl (by simp)
  ·rcases List.mem_cons.1 hy with rfl | hy
   ·exact .inl (by simp)
   ·rcases h2 y hy with h4 | h4
    ·exact .inl (by simp [h4])
    ·exact .inr h4
 refine ⟨U', ⟨hcc.keep h.head (fun hy => ?_), h1.keepMap hc (h.map.chg h3 h.apart.2).obj hmU, hmap, ⟨hqU, hmU⟩, fun y hy hn => ?_, ?_, ?_, (h.far.mono hcc.size).upd x hv.far⟩, by rw [hat', if_pos rfl], h2, hcc⟩
 ·rcases List.mem_cons.1 hy with h4 | h4
  ·exact hqm h4
  ·exact h.apart.1 h4
 ·rw [hat' y, if_neg hn, updF_other _ _ hn]
  exact (h.vals y hy hn).keep hcc (fun z hz => .inl (List.mem_cons_of_mem _ hz)) hU2
 ·rw [hat' x, if_pos rfl, updF_self]
  have hk := hv.keep hcc (fun z hz => .inl (List.mem_cons_of_mem _ hz)) hU2
  exact .inr ⟨v', rfl, hk.ints, hk.own⟩
 ·show keysOk s'.rows
  rw [hrows]
  exact h.ok.set i (fun h => by simp [noRow] at h)
theorem StMid.gone (h : StMid G w q p sp mb Us φ N t x) (hat : t.at x = []) (hc : Chg [mb] w w2) (hmap : MapF 45 klD okD w2 mb (delF φ x) N') : StOk G w2 q p sp mb Us (delF φ x) N' t := by
 have hqm := ne_blk h.head h.map
 refine ⟨hc.keep h.head (by simpa using hqm), h.slots.keepMap hc h.map.obj h.apart.2, hmap, h.apart, fun y hy => ?_, h.ok, (h.far.mono hc.size).del x⟩
 by_cases e : y = x
 ·subst e
  rw [hat, delF_self]
  exact .inl ⟨rfl, rfl⟩
 ·rw [delF_other _ e]
  exact (h.vals y hy e).keep hc (fun z hz => .inl (by rw [List.mem_singleton.1 hz]; simp)) (fun y hy => .inl hy)
theorem StMid.few (h : StMid G w q p sp mb Us φ N t x) : N < maxLen := by
 have h1 := h.map.card keId (x :: t.s.rows.map (fun r => unId r.key)) (fun y hy hs => by
  by_cases e : y = x
  ·rw [e]; simp
  ·rcases h.vals y hy e with ⟨_, h2⟩ | ⟨h1, _⟩
   ·rw [h2] at hs; cases hs
   ·obtain ⟨j, l, hjl⟩ := List.exists_cons_of_ne_nil h1
    by_cases hmy : mayId y = true
    ·rw [Sto.at_may hmy] at hjl
     have hj : j ∈ upto t.s.rows t.s.rows.length (idKey y) := by rw [hjl]; simp
     obtain ⟨j1, j2, j3⟩ := upto_mem.1 hj
     refine List.mem_cons_of_mem _ (List.mem_map.2 ⟨t.s.rows.getD j noRow, ?_, by rw [j3, (un_key hmy).1]⟩)
     rw [List.getD_eq_getElem?_getD, List.getElem?_eq_getElem j1]
     exact List.getElem_mem _
    ·rw [Sto.at_not (by simpa using hmy)] at hjl; cases hjl)
 obtain ⟨S0, rv0, R0, H0⟩ := h.slots
 have := H0.few
 rw [List.length_cons, List.length_map] at h1
 unfold maxLen
 omega
theorem SS.clear_ok (s : SS) (i : Int) : (s.clear i).2.d.ops <= s.d.ops + 2 /\ (s.clear i).2.d.since.length <= s.d.since.length + 1 /\ (s.clear i).2.d.n = s.d.n := by
 obtain ⟨h1, h2, h3⟩ := s.d.lays_ok (s.pos i) (zeros 64)
 have hn : nsec (zeros 64).length = 1 := by simp [nsec, zeros]
 rw [hn] at h2 h3
 unfold SS.clear
 split
 ·exact ⟨Nat.le_add_right _ _, Nat.le_add_right _ _, rfl⟩
 ·split
  ·exact ⟨Nat.le_add_right _ _, Nat.le_add_right _ _, rfl⟩
  ·split
   ·exact ⟨by dsimp only; omega, h3, h1⟩
   ·exact ⟨by dsimp only; omega, h3, h1⟩
end
section
open Go.RowKit
variable {G : List Nat}
theorem clears_cons (s : SS) (i : Nat) (r : List Nat) : s.clears (i :: r) = if (s.clear i).1 ≠ 0 then s.clear i else (s.clear i).2.clears r := rfl
theorem stdel_any (q p : Nat) (U : List Nat) (t : Sto) (x : Id) (w : World) (h : StAt G w q p U t) (hxo : okD x) (ho : t.s.d.ops <= 800000000) (hw : t.s.d.since.length <= 800000) :
  Calls Tryz.prog 77 #[.pointer (some ⟨q, 0, none⟩), idV x] w fun e w' => e = .returned (.int .i64 (t.del x).1) /\ Std G w w' q p U (t.del x).2 := by
 obtain ⟨sp, mb, Us, φ, N, h, rfl⟩ := h
 obtain ⟨w1, hw1⟩ : ∃ w1, w1 = w.alloc (.cells (idC x) 45) := ⟨_, rfl⟩
 have hc1 : Chg [] w w1 := by rw [hw1]; exact (Chg.refl [] w).alloc _
 have hb1 : w1.heap[w.heap.size]? = some (.cells (idC x) 45 (0, 0)) := by rw [hw1]; exact heap_alloc_new w _
 have H1 := h.keep0 hc1
 obtain ⟨k0, _, _, _⟩ := H1.cells
 have CM := LH (stmade_any q p w1 k0)
 have CY := LH (mayid_any x w1)
 have HB := LH hb1
 have HC1 := LH hc1
 have HW1 := LH hw1
 have HH1 := LH H1
 have HX := LH hxo
 have HUL := LH h.slots.uL
 have hql := blk_lt h.head
 have hml := h.map.lt
 have HST : Hid (∀ w', Chg [] w1 w' -> Std G w w' q p (q :: mb :: Us) t) := LH (fun w' hc => ⟨q :: mb :: Us, ⟨sp, mb, Us, φ, N, H1.keep0 hc, rfl⟩, fun y hy => .inl hy, (hc1.trans hc (by simp)).mono (by simp)⟩)
 clear hw1 hb1 hc1 h hxo H1
 by_cases hm : mayId x = true
 ·have HG : Hid (t.del x = ((t.s.clears (t.at x)).1, { t with s := (t.s.clears (t.at x)).2 })) := LH (by unfold Sto.del; rw [if_neg (by simp [hm])])
  have HM := LH hm
  rw [hm] at CY
  generalize t.del x = r at *
  clear hm
  obtain ⟨xc, xl, xn, xi⟩ := x
  go_enter Tryz.func77, Tryz.ntmps77
  go_wp2_with fail
  rw [<- HW1.out]
  refine CM.out.mono ?_
  rintro e w' ⟨rfl, hq⟩
  subst hq
  obtain ⟨m0, m1, m2, m3⟩ := id_cells HB.out
  go_wp2_with fail
  refine CY.out.mono ?_
  rintro e w2 ⟨rfl, hc2⟩
  have HB2 := LH (hc2.keep HB.out (by simp))
  have HM2 := LH ((HH1.out.keep0 hc2).mid HX.out)
  have HC2 := LH (HC1.out.trans hc2 (by simp))
  clear hc2 m0 m1 m2 m3 k0 CM CY HB
  obtain ⟨v, hlk, hlook⟩ := HM2.out.look HX.out
  obtain ⟨k0, k1, k2, _⟩ := HM2.out.cells
  obtain ⟨m0, m1, m2, m3⟩ := id_cells HB2.out
  obtain ⟨a, cap, hv, hl1, hl2, _⟩ := hlook.ints
  have HLK := LH hlook
  clear hlook
  have hvn : v = .slice a (t.at ⟨xc, xl, xn, xi⟩).length cap := hv
  rw [hvn] at HLK
  subst hv
  go_wp2_with fail
  go_quiet (fail)
  have hcn : Chg [] w2 (w2.drewN nq) := (Chg.refl [] w2).drewN nq
  have HMn := LH (HM2.out.keep0 hcn)
  have HLn := LH (HLK.out.keep hcn (by simp) (fun y hy => .inl hy))
  have HCn := LH (HC2.out.trans hcn (by simp))
  have HBn := LH (hcn.keep HB2.out (by simp))
  have hatl : (t.at ⟨xc, xl, xn, xi⟩).length <= 1000 := by
   rw [Sto.at_may HM.out]
   have h1 := upto_len t.s.rows t.s.rows.length (idKey ⟨xc, xl, xn, xi⟩)
   obtain ⟨S0, rv0, R0, H0⟩ := HM2.out.slots
   have := H0.few
   omega
  clear hlk k0 k1 k2 m0 m1 m2 m3 hcn hl1 hl2 HM2 HLK HB2
  generalize w2.drewN nq = w3 at *
  generalize hal : t.at ⟨xc, xl, xn, xi⟩ = l0 at *
  have HAL := LH hal
  clear hal
  go_wp2_with fail
  go_loopg [5] l0.length (fun g' s5 wr => ∃ (sk : SS) (l : List Nat) (Uk : List Nat) (φk : Id -> Option Value) (Nk : Nat) (a : Option Addr) (cap : Nat), s5 = .slice a l.length cap /\ l.length <= g' /\ l.length <= l0.length /\ Hid (StMid G wr q p sp mb Uk φk Nk ⟨sk, t.whole⟩ ⟨xc, xl, xn, xi⟩ /\
   Sto.at ⟨sk, t.whole⟩ ⟨xc, xl, xn, xi⟩ = l /\ MidLook G wr (q :: mb :: Uk) (.slice a l.length cap) l /\ t.s.clears l0 = sk.clears l /\ (∀ y ∈ Uk, y ∈ Us ∨ w.heap.size <= y) /\ Chg (q :: mb :: Us) w wr /\ wr.heap[w.heap.size]? = some (.cells (idC ⟨xc, xl, xn, xi⟩) 45 (0, 0)) /\ (∀ y ∈ q :: mb :: Uk, y ≠ w.heap.size) /\
   sk.d.ops + 2 * l.length <= t.s.d.ops + 2 * l0.length /\ sk.d.since.length + l.length <= t.s.d.since.length + l0.length))
  case atStart =>
   refine ⟨t.s, l0, Us, φ, N, a, cap, rfl, Nat.le_refl _, Nat.le_refl _, LH ⟨HMn.out, HAL.out, HLn.out, rfl, fun y hy => .inl hy, HCn.out.mono (by simp), HBn.out, fun y hy => ?_, by omega, by omega⟩⟩
   rcases List.mem_cons.1 hy with rfl | hy
   ·omega
   ·rcases List.mem_cons.1 hy with rfl | hy
    ·omega
    ·have := HUL.out y hy; omega
  case round =>
   obtain ⟨sk, l, Uk, φk, Nk, a, cap, rfl, hlg, hll, HR⟩ := hrel
   obtain ⟨hmid, hat, hlook, hcl, hUk, hck, hbk, hne, hop, hsi⟩ := HR.out
   have HMK := LH hmid
   have HAT := LH hat
   have HLK := LH hlook
   have HCL := LH hcl
   have HUK := LH (And.intro hUk (And.intro hck hne))
   have HBK := LH hbk
   clear HR hmid hat hlook hcl hUk hck hbk hne
   cases l with
   | nil =>
    obtain ⟨k0, k1, k2, _⟩ := HMK.out.cells
    have mm := id_cells HBK.out
    have HR : Hid (r = (0, ⟨sk, t.whole⟩)) := LH (by rw [HG.out, HCL.out]; rfl)
    clear HG hlg hll
    go_wp2_with fail
    have HMD := LH (HMK.out.keep0 (Chg.drew (Chg.refl [] wr)))
    refine wp_region_L [(5, fun w' => w'.cell? ⟨q, 2, none⟩ = some (.map (some mb))), (5, fun w' => (w'.cell? ⟨w.heap.size, 0, none⟩ = some (.int .i64 xc) /\ w'.cell? ⟨w.heap.size, 1, none⟩ = some (.int .i64 xl) /\ w'.cell? ⟨w.heap.size, 2, none⟩ = some (.int .i64 xn) /\ w'.cell? ⟨w.heap.size, 3, none⟩ = some (.int .i64 xi)))] (by kernel_rfl) ?_ (fun hHeld => ?_)
    ·exact (HoldC.cons (k2) (HoldC.cons (mm) HoldC.nil))
    refine tk 0 ?_ rfl (by kernel_rfl) (fun _ _ _ h => h) (.inl ⟨by rfl, ?_⟩) hHeld ?_; rotate_left; · (intro w _; go_simp; try with_reducible rfl)
    clear hHeld; intro hHeld; try simp only [gA,gB,gC,Act.put,gD,gE,gF]
    refine tk 1 ?_ rfl (by kernel_rfl) (fun _ _ _ h => h) (.inl ⟨by rfl, ?_⟩) hHeld ?_; rotate_left; · (intro w _; go_simp; try with_reducible rfl)
    clear hHeld; intro hHeld; try simp only [gA,gB,gC,Act.put,gD,gE,gF]
    refine tk 2 ?_ rfl (by kernel_rfl) (fun _ _ _ h => h) (.inl ⟨by rfl, ?_⟩) hHeld ?_; rotate_left; · (intro w _; go_simp; try with_reducible rfl)
    clear hHeld; intro hHeld; try simp only [gA,gB,gC,Act.put,gD,gE,gF]
    refine ld 0 3 ?_ rfl rfl (by kernel_rfl) (fun _ _ _ h => h) (.inl ⟨by rfl, ?_⟩) hHeld ?_; rotate_left; · (intro w hSw; (try dsimp only at hSw); go_simp; try with_reducible rfl)
    clear hHeld; intro hHeld; try simp only [gA,gB,gC,Act.put,gD,gE,gF]
    refine ld 1 4 ?_ rfl rfl (by kernel_rfl) (fun _ _ _ h => h) (.inl ⟨by rfl, ?_⟩) hHeld ?_; rotate_left; · (intro w hSw; (try dsimp only at hSw); go_simp; try with_reducible rfl)
    clear hHeld; intro hHeld; try simp only [gA,gB,gC,Act.put,gD,gE,gF]
    refine wpAnyL_ready (rs := [5]) (by kernel_rfl) (by simp) (AllReadyL.cons (o := _) rfl (fun K hK => ?_) AllReadyL.nil)
    try simp only [gA,gB,gC]
    refine wp_del keId wr.drew (.tmp 51) (.tmp 52) 107 (by rfl) 76 Tryz.underlying107 mb Nk φk (by rfl) HMD.out.map ⟨xc, xl, xn, xi⟩ (by rfl) HX.out ?_
    intro w6 hm6 hc6 hs6
    have HF : Hid (Std G w w6 q p (q :: mb :: Us) ⟨sk, t.whole⟩) := LH (by
     have h1 := HMD.out.gone HAT.out hc6 hm6
     exact h1.std HUK.out.1 ((HUK.out.2.1.drew).trans hc6 (fun y hy => .inl (by rw [List.mem_singleton.1 hy]; simp))))
    clear hm6 hc6 hs6
    clear hHeld
    refine hK.out _ _ ?_ (fun hHeld => ?_)
    ·exact (HoldC.past (by kernel_rfl) (HoldC.past (by kernel_rfl) HoldC.nil))
    clear hK K
    try simp only [gA,gB,gC,Act.put,gD,gE,gF]
    refine wpAnyL_done (by kernel_rfl) ?_ _
    clear hHeld
    go_wp2_with fail
    go_ret
    rw [HR.out]
    exact ⟨rfl, HF.out⟩
   | cons i rest =>
    obtain ⟨g, o, cap', hv, hl1, hl2, hc0, hmk⟩ := HLK.out.first
    obtain ⟨rfl, _, rfl⟩ := Value.slice.inj hv
    have HMK2 := LH hmk
    obtain ⟨k0, k1, k2, _⟩ := HMK.out.cells
    have hlen : ((i :: rest).length : Int) = (rest.length : Int) + 1 := by simp
    have hrl : rest.length + 1 <= l0.length := hll
    have hgk : rest.length + 1 <= gk := hlg
    have hbig : rest.length + 1 <= 9223372036854775807 := by omega
    have HMD := LH (HMK.out.keep0 (Chg.drew (Chg.refl [] wr)))
    have CC := LH (sclear_any sp p Uk sk (i : Int) wr.drew HMD.out.slots (by simp at hop; omega) (by simp at hsi; omega))
    have HCL2 : Hid (t.s.clears l0 = if (sk.clear (i : Int)).1 ≠ 0 then sk.clear (i : Int) else (sk.clear (i : Int)).2.clears rest) := LH (by rw [HCL.out, clears_cons])
    obtain ⟨z1, z2, z3⟩ := sk.clear_ok (i : Int)
    have hcn := @SS.clear_not sk (i : Int)
    have hcd := @SS.clear_done sk (i : Int)
    generalize sk.clear (i : Int) = z at *
    obtain ⟨ze, zs⟩ := z
    dsimp only at HCL2 z1 z2 z3 hcn hcd
    have HCN := LH (And.intro hcn hcd)
    unfold SidPost at CC
    clear hv hmk hlg hll hcn hcd HCL
    rw [show (i :: rest).length = rest.length + 1 from rfl]
    simp only [List.length_cons] at hop hsi
    go_wp2_with fail
    refine wp_region_L [(7, fun w' => w'.cell? ⟨q, 1, none⟩ = some (.pointer (some ⟨sp, 0, none⟩))), (7, fun w' => w'.cell? ⟨g, o, none⟩ = some (.int .i64 (i : Int)))] (by kernel_rfl) ?_ (fun hHeld => ?_)
    ·exact (HoldC.cons (k1) (HoldC.cons (hc0) HoldC.nil))
    refine tk 0 ?_ rfl (by kernel_rfl) (fun _ _ _ h => h) (.inl ⟨by rfl, ?_⟩) hHeld ?_; rotate_left; · (intro w _; go_simp; try with_reducible rfl)
    clear hHeld; intro hHeld; try simp only [gA,gB,gC,Act.put,gD,gE,gF]
    refine tk 1 ?_ rfl (by kernel_rfl) (fun _ _ _ h => h) (.inl ⟨by rfl, ?_⟩) hHeld ?_; rotate_left; · (intro w _; go_simp; try with_reducible rfl)
    clear hHeld; intro hHeld; try simp only [gA,gB,gC,Act.put,gD,gE,gF]
    refine tk 2 ?_ rfl (by kernel_rfl) (fun _ _ _ h => h) (.inl ⟨by rfl, ?_⟩) hHeld ?_; rotate_left; · (intro w _; go_simp; try with_reducible rfl)
    clear hHeld; intro hHeld; try simp only [gA,gB,gC,Act.put,gD,gE,gF]
    refine ld 0 3 ?_ rfl rfl (by kernel_rfl) (fun _ _ _ h => h) (.inl ⟨by rfl, ?_⟩) hHeld ?_; rotate_left; · (intro w hSw; (try dsimp only at hSw); go_simp; try with_reducible rfl)
    clear hHeld; intro hHeld; try simp only [gA,gB,gC,Act.put,gD,gE,gF]
    refine tk 4 ?_ rfl (by kernel_rfl) (fun _ _ _ h => h) (.inl ⟨by rfl, ?_⟩) hHeld ?_; rotate_left; · (intro w _; go_simp; try with_reducible rfl)
    clear hHeld; intro hHeld; try simp only [gA,gB,gC,Act.put,gD,gE,gF]
    refine tk 5 ?_ rfl (by kernel_rfl) (fun _ _ _ h => h) (.inl ⟨by rfl, ?_⟩) hHeld ?_; rotate_left; · (intro w _; go_simp; try with_reducible rfl)
    clear hHeld; intro hHeld; try simp only [gA,gB,gC,Act.put,gD,gE,gF]
    refine ld 1 6 ?_ rfl rfl (by kernel_rfl) (fun _ _ _ h => h) (.inl ⟨by rfl, ?_⟩) hHeld ?_; rotate_left; · (intro w hSw; (try dsimp only at hSw); go_simp; try with_reducible rfl)
    clear hHeld; intro hHeld; try simp only [gA,gB,gC,Act.put,gD,gE,gF]
    refine wpAnyL_ready (rs := [7]) (by kernel_rfl) (by simp) (AllReadyL.cons (o := _) rfl (fun K hK => ?_) AllReadyL.nil)
    try simp only [gA,gB,gC]
    go_simp
    refine CC.out.mono ?_
    rintro e w5 ⟨rfl, hs5⟩
    have HS5 := LH hs5
    clear hs5 CC
    clear hHeld
    refine hK.out _ _ ?_ (fun hHeld => ?_)
    ·exact (HoldC.past (by kernel_rfl) (HoldC.past (by kernel_rfl) HoldC.nil))
    clear hK K
    try simp only [gA,gB,gC,Act.put,gD,gE,gF]
    refine wpAnyL_ready (rs := [8]) (by kernel_rfl) (by simp) (AllReadyL.cons (o := _) rfl (fun K hK => ?_) AllReadyL.nil)
    try simp only [gA,gB,gC]
    go_simp
    clear hHeld
    refine hK.out _ _ ?_ (fun hHeld => ?_)
    ·exact (HoldC.past (by kernel_rfl) (HoldC.past (by kernel_rfl) HoldC.nil))
    clear hK K
    try simp only [gA,gB,gC,Act.put,gD,gE,gF]
    refine wpAnyL_done (by kernel_rfl) ?_ _
    clear hHeld
    have hdw : Chg [] wr wr.drew := Chg.drew (Chg.refl [] wr)
    by_cases he : ze = 0
    ·subst he
     rw [if_neg (by simp)] at HCL2
     obtain ⟨hhas, hus, hrows⟩ := HCN.out.2 rfl
     obtain ⟨U5, g1, g2, g3⟩ := HS5.out
     have hid5 : w5.heap[w.heap.size]? = some (.cells (idC ⟨xc, xl, xn, xi⟩) 45 (0, 0)) := g3.keep (hdw.keep HBK.out (by simp)) (fun hm => HUK.out.2.2 _ (by simp [hm]) rfl)
     have c5 := g3.cell (hdw.cell k2 (by simp)) HMD.out.apart.1
     have HM5 := LH (HMD.out.map.chg g3 HMD.out.apart.2)
     have mm5 := id_cells hid5
     have HI5 := LH hid5
     have hNN := HMD.out.few
     have HRW := LH hrows
     have HLK5 := LH (HMK2.out.keep hdw (by simp) (fun y hy => .inl hy))
     have hc1 : 1 <= cap := by omega
     clear hid5 g1 g2 g3 hhas hus hrows k0 k1 k2 hc0
     have h1r : (1 : Int) <= (rest.length : Int) + 1 := by omega
     have hcapC : cap = 1 ∨ ¬ cap = 1 := by omega
     rcases hcapC with hcap | hcap
     all_goals
      go_wp2_with fail
      refine wp_region_L [(7, fun w' => w'.cell? ⟨q, 2, none⟩ = some (.map (some mb))), (7, fun w' => (w'.cell? ⟨w.heap.size, 0, none⟩ = some (.int .i64 xc) /\ w'.cell? ⟨w.heap.size, 1, none⟩ = some (.int .i64 xl) /\ w'.cell? ⟨w.heap.size, 2, none⟩ = some (.int .i64 xn) /\ w'.cell? ⟨w.heap.size, 3, none⟩ = some (.int .i64 xi)))] (by kernel_rfl) ?_ (fun hHeld => ?_)
      ·exact (HoldC.cons (c5) (HoldC.cons (mm5) HoldC.nil))
      refine tk 0 ?_ rfl (by kernel_rfl) (fun _ _ _ h => h) (.inl ⟨by rfl, ?_⟩) hHeld ?_; rotate_left; · (intro w _; go_simp; try with_reducible rfl)
      clear hHeld; intro hHeld; try simp only [gA,gB,gC,Act.put,gD,gE,gF]
      refine tk 1 ?_ rfl (by kernel_rfl) (fun _ _ _ h => h) (.inl ⟨by rfl, ?_⟩) hHeld ?_; rotate_left; · (intro w _; go_simp; try with_reducible rfl)
      clear hHeld; intro hHeld; try simp only [gA,gB,gC,Act.put,gD,gE,gF]
      refine tk 2 ?_ rfl (by kernel_rfl) (fun _ _ _ h => h) (.inl ⟨by rfl, ?_⟩) hHeld ?_; rotate_left; · (intro w _; go_simp; try with_reducible rfl)
      clear hHeld; intro hHeld; try simp only [gA,gB,gC,Act.put,gD,gE,gF]
      refine ld 0 3 ?_ rfl rfl (by kernel_rfl) (fun _ _ _ h => h) (.inl ⟨by rfl, ?_⟩) hHeld ?_; rotate_left; · (intro w hSw; (try dsimp only at hSw); go_simp; try with_reducible rfl)
      clear hHeld; intro hHeld; try simp only [gA,gB,gC,Act.put,gD,gE,gF]
      refine ld 1 4 ?_ rfl rfl (by kernel_rfl) (fun _ _ _ h => h) (.inl ⟨by rfl, ?_⟩) hHeld ?_; rotate_left; · (intro w hSw; (try dsimp only at hSw); go_simp; try with_reducible rfl)
      clear hHeld; intro hHeld; try simp only [gA,gB,gC,Act.put,gD,gE,gF]
      refine tk 5 ?_ rfl (by kernel_rfl) (fun _ _ _ h => h) (.inl ⟨by rfl, ?_⟩) hHeld ?_; rotate_left; · (intro w _; go_simp; try with_reducible rfl)
      clear hHeld; intro hHeld; try simp only [gA,gB,gC,Act.put,gD,gE,gF]
      refine tk 6 ?_ rfl (by kernel_rfl) (fun _ _ _ h => h) (.inl ⟨by rfl, ?_⟩) hHeld ?_; rotate_left; · (intro w _; go_simp; try with_reducible rfl)
      clear hHeld; intro hHeld; try simp only [gA,gB,gC,Act.put,gD,gE,gF]
      refine wpAnyL_ready (rs := [7]) (by kernel_rfl) (by simp) (AllReadyL.cons (o := _) rfl (fun K hK => ?_) AllReadyL.nil)
      try simp only [gA,gB,gC]
      have HMW := LH (HM5.out.chg (Chg.drew (Chg.refl [] w5)) (by simp))
      refine wp_upd keId w5.drew (.tmp 44) (.tmp 45) (.tmp 47) 107 (by rfl) 76 Tryz.underlying107 mb Nk φk (by rfl) HMW.out hNN ⟨xc, xl, xn, xi⟩ (by rfl) HX.out (.slice (some ⟨g, if cap = 1 then o else o + 1, none⟩) rest.length (cap - 1)) (by first | (rw [if_neg hcap]; rfl) | (rw [if_pos hcap, hcap]; rfl)) ?_
      intro w6 hm6 hc6 hs6
      have hF := HMD.out.cleared HM.out HAT.out HS5.out HRW.out ((Chg.drew (Chg.refl [mb] w5)).trans hc6 (fun y hy => .inl hy)) hm6 HLK5.out
      have hid6 : w6.heap[w.heap.size]? = some (.cells (idC ⟨xc, xl, xn, xi⟩) 45 (0, 0)) := hc6.keep (show w5.drew.heap[w.heap.size]? = _ from HI5.out) (by simp; omega)
      have HI6 := LH hid6
      have HF := LH hF
      clear hF hm6 hc6 hs6 hid6
      clear hHeld
      refine hK.out _ _ ?_ (fun hHeld => ?_)
      ·exact (HoldC.past (by kernel_rfl) (HoldC.past (by kernel_rfl) HoldC.nil))
      clear hK K
      try simp only [gA,gB,gC,Act.put,gD,gE,gF]
      refine wpAnyL_done (by kernel_rfl) ?_ _
      clear hHeld
      obtain ⟨U6, f1, f2, f3, f4⟩ := HF.out
      obtain ⟨v6, hlk6, hlook6⟩ := f1.look HX.out
      obtain ⟨k0, k1, k2, _⟩ := f1.cells
      obtain ⟨m0, m1, m2, m3⟩ := id_cells HI6.out
      rw [f2] at hlook6
      obtain ⟨a6, cap6, hv6, _, _, _⟩ := hlook6.ints
      subst hv6
      have HL6 := LH hlook6
      have HF1 := LH f1
      have HF2 := LH f2
      have HF3 := LH (And.intro f3 f4)
      clear f1 f2 f3 f4 hlook6
      go_wp2_with fail
      go_quiet (fail)
      have hcn : Chg [] w6 (w6.drewN nq) := (Chg.refl [] w6).drewN nq
      have hwr := HUK.out.2.1.size
      have HREL : Hid (StMid G (w6.drewN nq) q p sp mb U6 (updF φk ⟨xc, xl, xn, xi⟩ (.slice (some ⟨g, if cap = 1 then o else o + 1, none⟩) rest.length (cap - 1))) (if (φk ⟨xc, xl, xn, xi⟩).isSome = true then Nk else Nk + 1) ⟨zs, t.whole⟩ ⟨xc, xl, xn, xi⟩ /\
        Sto.at ⟨zs, t.whole⟩ ⟨xc, xl, xn, xi⟩ = rest /\ MidLook G (w6.drewN nq) (q :: mb :: U6) (.slice a6 rest.length cap6) rest /\ t.s.clears l0 = zs.clears rest /\ (∀ y ∈ U6, y ∈ Us ∨ w.heap.size <= y) /\ Chg (q :: mb :: Us) w (w6.drewN nq) /\ (w6.drewN nq).heap[w.heap.size]? = some (.cells (idC ⟨xc, xl, xn, xi⟩) 45 (0, 0)) /\ (∀ y ∈ q :: mb :: U6, y ≠ w.heap.size) /\
        zs.d.ops + 2 * rest.length <= t.s.d.ops + 2 * l0.length /\ zs.d.since.length + rest.length <= t.s.d.since.length + l0.length) := LH (by
       have hid := blk_lt HBK.out
       refine ⟨HF1.out.keep0 hcn, HF2.out, HL6.out.keep hcn (by simp) (fun y hy => .inl hy), HCL2.out, fun y hy => ?_, ((HUK.out.2.1.drew).trans HF3.out.2 (fun y hy => ?_)).trans hcn (by simp), HI6.out, fun y hy => ?_, by omega, by omega⟩
       ·rcases HF3.out.1 y hy with h | h
        ·exact HUK.out.1 y h
        ·have h' : wr.heap.size <= y := h
         exact .inr (by omega)
       ·rcases List.mem_cons.1 hy with rfl | hy
        ·exact .inl (by simp)
        ·rcases HUK.out.1 y hy with h | h
         ·exact .inl (by simp [h])
         ·exact .inr h
       ·rcases List.mem_cons.1 hy with rfl | hy
        ·omega
        ·rcases List.mem_cons.1 hy with rfl | hy
         ·omega
         ·rcases HF3.out.1 y hy with h | h
          ·exact HUK.out.2.2 y (by simp [h])
          ·have h' : wr.heap.size <= y := h
           omega)
      go_wp2_with fail
      go_roundg rest.length
      case measure => omega
      case rel => exact ⟨zs, rest, U6, _, _, a6, cap6, rfl, Nat.le_refl _, by omega, HREL⟩
    ·have HR : Hid (r = (ze, ⟨zs, t.whole⟩)) := LH (by
      have h1 := HCL2.out
      rw [if_pos he] at h1
      rw [HG.out, h1])
     have HF : Hid (Std G w w5 q p (q :: mb :: Us) ⟨zs, t.whole⟩) := LH (by
      obtain ⟨U5, h1, h2, h3⟩ := HMD.out.slotsDid HS5.out (HCN.out.1 he)
      have hne : Sto.at ⟨zs, t.whole⟩ ⟨xc, xl, xn, xi⟩ ≠ [] := by
       have h4 := HAT.out
       unfold Sto.at at h4 ⊢
       rw [HCN.out.1 he]
       rw [h4]; simp
      have hd := hdw.size
      refine (h1.full hne).std (fun y hy => ?_) ((HUK.out.2.1.drew).trans h3 (fun y hy => ?_))
      ·rcases h2 y hy with h | h
       ·exact HUK.out.1 y h
       ·have := HUK.out.2.1.size; exact .inr (by omega)
      ·rcases HUK.out.1 y hy with h | h
       ·exact .inl (by simp [h])
       ·exact .inr h)
     have q0 : (ze != 0) = true := by simp [he]
     clear he HG HCL2
     go_wp2
     go_ret
     rw [HR.out]
     exact ⟨rfl, HF.out⟩
 ·have hm' : mayId x = false := by simpa using hm
  have HG : Hid (t.del x = (1, t)) := LH (by unfold Sto.del; rw [if_pos hm'])
  rw [HG.out]
  rw [hm'] at CY
  clear hm hm'
  obtain ⟨xc, xl, xn, xi⟩ := x
  go_enter Tryz.func77, Tryz.ntmps77
  go_wp2_with fail
  rw [<- HW1.out]
  refine CM.out.mono ?_
  rintro e w' ⟨rfl, hq⟩
  subst hq
  obtain ⟨m0, m1, m2, m3⟩ := id_cells HB.out
  go_wp2_with fail
  refine CY.out.mono ?_
  rintro e w2 ⟨rfl, hc2⟩
  have HC2 := LH hc2
  clear hc2
  go_wp2
  go_ret
  exact ⟨rfl, HST.out _ HC2.out⟩
end
section
open Go.RowKit Go.Sort Go.Lib
theorem flatMap_len {α : Type} (enc : α -> List Value) {k : Nat} (hk : ∀ x, (enc x).length = k) : ∀ l : List α, (l.flatMap enc).length = l.length * k
 | [] => by simp
 | x :: r => by rw [List.flatMap_cons, List.length_append, hk, flatMap_len enc hk r, List.length_cons, Nat.add_mul]; omega
theorem flatMap_at {α : Type} [Inhabited α] (enc : α -> List Value) {k : Nat} (hk : ∀ x, (enc x).length = k) : ∀ (l : List α) (i j : Nat), i < l.length -> j < k -> (l.flatMap enc)[i * k + j]? = (enc l[i]!)[j]?
 | [], i, j, h, _ => by simp at h
 | x :: r, 0, j, h, hj => by
  rw [List.flatMap_cons, Nat.zero_mul, Nat.zero_add, List.getElem?_append_left (by rw [hk]; exact hj)]; rfl
 | x :: r, i + 1, j, h, hj => by
  rw [List.flatMap_cons, List.getElem?_append_right (by rw [hk, Nat.add_mul]; omega), hk, show (i + 1) * k + j - k = i * k + j by rw [Nat.add_mul]; omega]
  exact flatMap_at enc hk r i j (by simpa using h) hj
theorem flat_eq {α : Type} [Inhabited α] (enc : α -> List Value) {k : Nat} (hk : ∀ x, (enc x).length = k) (l : List α) : (flatK enc k l.toArray).toList = l.flatMap enc := by
 apply List.ext_getElem?
 intro t
 by_cases ht : t < l.length * k
 ·have k0 : 0 < k := by
   rcases Nat.eq_zero_or_pos k with h | h
   ·subst h; simp at ht
   ·exact h
  have hi : t / k < l.length := (Nat.div_lt_iff_lt_mul k0).2 ht
  have hj : t % k < k := Nat.mod_lt _ k0
  have e : t = t / k * k + t % k := by rw [Nat.mul_comm]; exact (Nat.div_add_mod t k).symm
  rw [Array.getElem?_toList, Array.getElem?_eq_getElem (by simpa using ht)]
  have h1 := get_flatK enc k l.toArray t (by simpa using ht)
  rw [getElem!_pos _ t (by simpa using ht)] at h1
  rw [h1]
  conv => rhs; rw [e]
  rw [flatMap_at enc hk l _ _ hi hj]
  have h2 : l.toArray[t / k]! = l[t / k]! := by simp
  rw [h2, getElem!_pos _ (t % k) (by rw [hk]; exact hj), List.getElem?_eq_getElem]
 ·rw [List.getElem?_eq_none (by simp; omega), List.getElem?_eq_none (by rw [flatMap_len enc hk]; omega)]
theorem holds_row {α : Type} [Inhabited α] (enc : α -> List Value) {k : Nat} (hk : ∀ x, (enc x).length = k) {w : World} {g : Nat} {cur : Array Value} {e : TypeId} {ss : List α} (hb : w.heap[g]? = some (.cells cur e (0, 0))) (ht : cur.toList.take (ss.length * k) = ss.flatMap enc) : HoldsK enc k w g 0 ss.toArray := by
 intro j hj
 have hj' : j < ss.length * k := by simpa using hj
 rw [Nat.zero_add]
 have h1 : (flatK enc k ss.toArray)[j]! = (ss.flatMap enc)[j]'(by rw [flatMap_len enc hk]; exact hj') := by
  rw [getElem!_pos _ j hj]
  have := flat_eq enc hk ss
  rw [<- Array.getElem_toList]
  simp only [this]
 have h2 : cur[j]? = some ((ss.flatMap enc)[j]'(by rw [flatMap_len enc hk]; exact hj')) := by
  rw [<- Array.getElem?_toList, <- List.getElem?_take_of_lt hj', ht, List.getElem?_eq_getElem]
 refine ⟨?_, blk_frozen hb j⟩
 rw [blk_cell hb j _ h2, h1]; rfl
theorem heap_sortedK {w : World} {g n : Nat} {os : Array Obj} {cur : Array Value} {e : TypeId} {fr : Nat × Nat} (d : Array Value) (hb : w.heap[g]? = some (.cells cur e fr)) :
  (grow (putRow id (Sort.ahead w n) g 0 d) os).heap[g]? = some (.cells (putCells id 0 d cur) e fr) := by
 have hg : g < w.heap.size := (Array.getElem?_eq_some_iff.1 hb).1
 rw [heap_grow_old _ _ (by simpa using hg)]
 simp [putRow, mapBlock, Sort.ahead, Array.getElem?_modify, hb, onCells]
theorem chg_sortedK {α : Type} [Inhabited α] (enc : α -> List Value) (k : Nat) {w : World} {g n : Nat} {os : Array Obj} (d : Array α) : Chg [g] w (sortWorldK enc k w g 0 n d os) := by
 refine ⟨rfl, rfl, rfl, by simp [sortWorldK, putRowK], fun j hj hne => ?_⟩
 unfold sortWorldK putRowK
 rw [heap_grow_old _ _ (by simpa using hj)]
 have : g ≠ j := fun e => hne (by simp [e])
 simp [putRow, mapBlock, Sort.ahead, Array.getElem?_modify, this]
theorem take_putK (cur : Array Value) (F : Array Value) (h : F.size <= cur.size) : (putCells id 0 F cur).toList.take F.size = F.toList := by
 apply List.ext_getElem?
 intro j
 by_cases hj : j < F.size
 ·rw [List.getElem?_take_of_lt hj, Array.getElem?_toList, Array.getElem?_toList]
  simp [putCells, hj, show j < cur.size by omega]
 ·rw [List.getElem?_take_eq_none (by omega), List.getElem?_eq_none (by simp; omega)]
theorem ownsRow_sortedK {α : Type} [Inhabited α] (enc : α -> List Value) {k : Nat} (hk : ∀ x, (enc x).length = k) {w : World} {base g cap n : Nat} {e : TypeId} {os : Array Obj} {cur : Array Value} {m : Nat} {ts : List α} (hl : ts.length = m) (hbase : base <= g) (hb : w.heap[g]? = some (.cells cur e (0, 0)))
  (h1 : m <= cap) (h2 : cap <= maxLen) (h3 : cur.size = cap * k) :
  (sortWorldK enc k w g 0 n ts.toArray os).ownsRow base e k (.slice (some ⟨g, 0, none⟩) m cap) m (ts.flatMap enc) := by
 refine ⟨by rw [flatMap_len enc hk, hl], .inr ⟨g, cap, _, rfl, hbase, heap_sortedK _ hb, h1, h2, by simp [putCells, h3], ?_⟩⟩
 have hs : (flatK enc k ts.toArray).size = m * k := by simp [hl]
 rw [<- hs, take_putK _ _ (by rw [hs, h3]; exact Nat.mul_le_mul_right k h1), flat_eq enc hk]
end
section
open Go.RowKit Go.Sort
def cmpI (x y : Int) : Int := if x < y then -1 else if y < x then 1 else 0
def firstNZ : List Int -> Int
 | [] => 0
 | x :: r => if x ≠ 0 then x else firstNZ r
def cmpId (x y : Id) : Int := firstNZ [cmpI x.c y.c, cmpI x.l y.l, cmpI x.n y.n, cmpI x.i y.i]
def idLt (a b : Id) : Prop := a.c < b.c ∨ (a.c = b.c /\ (a.l < b.l ∨ (a.l = b.l /\ (a.n < b.n ∨ (a.n = b.n /\ a.i < b.i)))))
instance (a b : Id) : Decidable (idLt a b) := inferInstanceAs (Decidable (_ ∨ _))
theorem cmpI_spec (x y : Int) : (x < y /\ cmpI x y = -1) ∨ (y < x /\ cmpI x y = 1) ∨ (x = y /\ cmpI x y = 0) := by
 unfold cmpI
 by_cases h : x < y
 ·exact .inl ⟨h, if_pos h⟩
 ·rw [if_neg h]
  by_cases h2 : y < x
  ·exact .inr (.inl ⟨h2, if_pos h2⟩)
  ·exact .inr (.inr ⟨by omega, if_neg h2⟩)
theorem cmpId_lt (a b : Id) : cmpId a b < 0 ↔ idLt a b := by
 unfold cmpId idLt firstNZ firstNZ firstNZ firstNZ firstNZ
 rcases cmpI_spec a.c b.c with ⟨h1, e1⟩ | ⟨h1, e1⟩ | ⟨h1, e1⟩ <;> rcases cmpI_spec a.l b.l with ⟨h2, e2⟩ | ⟨h2, e2⟩ | ⟨h2, e2⟩ <;> rcases cmpI_spec a.n b.n with ⟨h3, e3⟩ | ⟨h3, e3⟩ | ⟨h3, e3⟩ <;>
  rcases cmpI_spec a.i b.i with ⟨h4, e4⟩ | ⟨h4, e4⟩ | ⟨h4, e4⟩ <;> rw [e1, e2, e3, e4] <;> simp <;> omega
theorem ltI (x y : Id) : ltOf cmpId x y = decide (idLt x y) := by
 unfold ltOf
 rw [Bool.eq_iff_iff]; simp [cmpId_lt]
theorem idLt_irrefl (a : Id) : ¬ idLt a a := by unfold idLt; omega
theorem idLt_trans {a b c : Id} (h1 : idLt a b) (h2 : idLt b c) : idLt a c := by unfold idLt at *; omega
theorem idLt_or (a b : Id) : idLt a b ∨ a = b ∨ idLt b a := by
 obtain ⟨a1, a2, a3, a4⟩ := a
 obtain ⟨b1, b2, b3, b4⟩ := b
 unfold idLt
 simp only [Id.mk.injEq]
 omega
theorem swoI : SWO (ltOf cmpId) where
 irrefl x := by rw [ltI]; simp [idLt_irrefl]
 trans x y z h1 h2 := by
  rw [ltI, decide_eq_true_eq] at *
  exact idLt_trans h1 h2
 ntrans x y z h1 h2 := by
  rw [ltI, decide_eq_false_iff_not] at *
  unfold idLt at *
  omega
theorem totI (x y : Id) (h1 : ltOf cmpId x y = false) (h2 : ltOf cmpId y x = false) : x = y := by
 rw [ltI, decide_eq_false_iff_not] at *
 rcases idLt_or x y with h | h | h
 ·exact absurd h h1
 ·exact h
 ·exact absurd h h2
abbrev leI (x y : Id) : Bool := !ltOf cmpId y x
theorem leI_iff (x y : Id) : leI x y = true ↔ idLt x y ∨ x = y := by
 unfold leI
 rw [ltI]
 simp only [Bool.not_eq_true', decide_eq_false_iff_not]
 rcases idLt_or x y with h | h | h
 ·exact ⟨fun _ => .inl h, fun _ h2 => idLt_irrefl _ (idLt_trans h h2)⟩
 ·subst h; exact ⟨fun _ => .inr rfl, fun _ => idLt_irrefl _⟩
 ·exact ⟨fun h2 => absurd h h2, fun h2 => by
   rcases h2 with h2 | h2
   ·exact absurd (idLt_trans h h2) (idLt_irrefl _)
   ·subst h2; exact absurd h (idLt_irrefl _)⟩
theorem leI_trans (a b c : Id) (h1 : leI a b = true) (h2 : leI b c = true) : leI a c = true := by
 rw [leI_iff] at *
 rcases h1 with h1 | rfl
 ·rcases h2 with h2 | rfl
  ·exact .inl (idLt_trans h1 h2)
  ·exact .inl h1
 ·exact h2
theorem leI_total (a b : Id) : (leI a b || leI b a) = true := by
 rw [Bool.or_eq_true, leI_iff, leI_iff]
 rcases idLt_or a b with h | h | h
 ·exact .inl (.inl h)
 ·exact .inl (.inr h)
 ·exact .inr (.inl h)
theorem sortedI_eq {l m : List Id} (hl : l.Nodup) (hm : m.Nodup) (h : ∀ x, x ∈ l ↔ x ∈ m) : l.mergeSort leI = m.mergeSort leI := by
 have hp : l.Perm m := (List.perm_ext_iff_of_nodup hl hm).2 h
 have hs : ∀ l : List Id, (l.mergeSort leI).Pairwise (fun x y => leI x y = true) := fun l => List.pairwise_mergeSort leI_trans leI_total l
 refine List.Perm.eq_of_pairwise (le := fun x y => leI x y = true) (fun a b _ _ h1 h2 => ?_) (hs _) (hs _) ((List.mergeSort_perm _ _).trans (hp.trans (List.mergeSort_perm _ _).symm))
 rw [leI_iff] at h1 h2
 rcases h1 with h1 | h1
 ·rcases h2 with h2 | h2
  ·exact absurd (idLt_trans h1 h2) (idLt_irrefl _)
  ·exact h2.symm
 ·exact h1
def isFirst (rows : List SRow) (j : Nat) : Bool := (rows.getD j noRow).used && (upto rows j (rows.getD j noRow).key).isEmpty
def firsts (rows : List SRow) : List Id := ((List.range rows.length).filter (isFirst rows)).map (fun j => unId (rows.getD j noRow).key)
def Sto.ids (t : Sto) : List Id := (firsts t.s.rows).mergeSort leI
theorem row_mem {rows : List SRow} {j : Nat} (h : j < rows.length) : rows.getD j noRow ∈ rows := by
 rw [List.getD_eq_getElem?_getD, List.getElem?_eq_getElem h]
 exact List.getElem_mem _
theorem mem_isFirst {rows : List SRow} {j : Nat} : isFirst rows j = true ↔ (rows.getD j noRow).used = true /\ ∀ k, k < j -> ¬ ((rows.getD k noRow).used = true /\ (rows.getD k noRow).key = (rows.getD j noRow).key) := by
 unfold isFirst
 rw [Bool.and_eq_true, List.isEmpty_iff]
 constructor
 ·rintro ⟨h1, h2⟩
  refine ⟨h1, fun k hk hh => ?_⟩
  have : k ∈ upto rows j (rows.getD j noRow).key := upto_mem.2 ⟨hk, hh.1, hh.2⟩
  rw [h2] at this
  cases this
 ·rintro ⟨h1, h2⟩
  refine ⟨h1, ?_⟩
  cases hu : upto rows j (rows.getD j noRow).key with
  | nil => rfl
  | cons k r =>
   have : k ∈ upto rows j (rows.getD j noRow).key := by rw [hu]; simp
   obtain ⟨a, b, c⟩ := upto_mem.1 this
   exact absurd ⟨b, c⟩ (h2 k a)
theorem mem_firsts {t : Sto} (hk : keysOk t.s.rows) (x : Id) : x ∈ firsts t.s.rows ↔ t.at x ≠ [] := by
 unfold firsts
 rw [List.mem_map]
 constructor
 ·rintro ⟨j, hj, rfl⟩
  obtain ⟨h1, h2⟩ := List.mem_filter.1 hj
  have hjl := List.mem_range.1 h1
  obtain ⟨hu, _⟩ := mem_isFirst.1 h2
  obtain ⟨hm, he⟩ := un_back (hk _ (row_mem hjl) hu)
  rw [Sto.at_may hm]
  intro h0
  have : j ∈ upto t.s.rows t.s.rows.length (idKey (unId (t.s.rows.getD j noRow).key)) := upto_mem.2 ⟨hjl, hu, he⟩
  rw [h0] at this
  cases this
 ·intro h
  by_cases hm : mayId x = true
  ·rw [Sto.at_may hm] at h
   cases hu : upto t.s.rows t.s.rows.length (idKey x) with
   | nil => exact absurd hu h
   | cons j r =>
    have hj : j ∈ upto t.s.rows t.s.rows.length (idKey x) := by rw [hu]; simp
    obtain ⟨a, b, c⟩ := upto_mem.1 hj
    refine ⟨j, List.mem_filter.2 ⟨List.mem_range.2 a, mem_isFirst.2 ⟨b, fun k hkj hh => ?_⟩⟩, by rw [c, (un_key hm).1]⟩
    rw [c] at hh
    have hk2 : k ∈ upto t.s.rows t.s.rows.length (idKey x) := upto_mem.2 ⟨by omega, hh.1, hh.2⟩
    have hpw : (upto t.s.rows t.s.rows.length (idKey x)).Pairwise (· < ·) := List.pairwise_lt_range.filter _
    rw [hu] at hpw hk2
    rcases List.mem_cons.1 hk2 with h3 | h3
    ·omega
    ·have := (List.pairwise_cons.1 hpw).1 k h3
     omega
  ·rw [Sto.at_not (by simpa using hm)] at h
   exact absurd rfl h
theorem firsts_nodup {t : Sto} (hk : keysOk t.s.rows) : (firsts t.s.rows).Nodup := by
 unfold firsts List.Nodup
 rw [List.pairwise_map]
 refine List.Pairwise.imp_of_mem ?_ (List.pairwise_lt_range.filter (isFirst t.s.rows))
 intro a b ha hb hab e
 obtain ⟨ha1, ha2⟩ := List.mem_filter.1 ha
 obtain ⟨hb1, hb2⟩ := List.mem_filter.1 hb
 obtain ⟨hau, _⟩ := mem_isFirst.1 ha2
 obtain ⟨hbu, hb3⟩ := mem_isFirst.1 hb2
 have h1 := (un_back (hk _ (row_mem (List.mem_range.1 ha1)) hau)).2
 have h2 := (un_back (hk _ (row_mem (List.mem_range.1 hb1)) hbu)).2
 exact hb3 a hab ⟨hau, by rw [h1, h2, e]⟩
theorem Sto.ids_len (t : Sto) : t.ids.length <= t.s.rows.length := by
 unfold Sto.ids firsts
 rw [List.length_mergeSort, List.length_map]
 have := List.length_filter_le (isFirst t.s.rows) (List.range t.s.rows.length)
 rwa [List.length_range] at this
end
end Go.Proofs.YtnbhanmpmjjkkaaGreatDoor.W
namespace Go.Proofs
open Go.RowKit
section
open Go.Shelf
def Tryz.laysSortE_ren : Go.Shelf.Ren := ⟨fun | 6 => 107 | 15 => 142 | 14 => 141 | 28 => 168 | 29 => 169 | 20 => 160 | 21 => 161 | 22 => 162 | 23 => 163 | 24 => 164 | 25 => 165 | 26 => 166 | 27 => 167 | 46 => 178 | 47 => 179 | 48 => 180 | 49 => 181 | 50 => 182 | 57 => 188 | n => n, fun | 22 => 50 | 24 => 45 | 25 => 162 | 3 => 3 | 39 => 62 | 0 => 0 | 53 => 220 | 55 => 222 | 4 => 4 | 46 => 213 | 45 => 212 | 50 => 217 | 5 => 5 | 9 => 9 | 66 => 228 | 70 => 232 | 76 => 242 | 77 => 127 | n => n, fun | n => n⟩
theorem Tryz.laysSortE : Go.Proofs.SlLaysF0.n6 Tryz.prog Tryz.laysSortE_ren := {
 mixed := by kernel_rfl
 f6 := ⟨Tryz.f107.name, by decide, Tryz.func107.trans (congrArg some (by kernel_rfl))⟩
 f14 := ⟨Tryz.f141.name, by decide, Tryz.func141.trans (congrArg some (by kernel_rfl))⟩
 f15 := Tryz.func142.trans (congrArg some (by kernel_rfl))
 f20 := ⟨Tryz.f160.name, by decide, Tryz.func160.trans (congrArg some (by kernel_rfl))⟩
 f21 := ⟨Tryz.f161.name, by decide, Tryz.func161.trans (congrArg some (by kernel_rfl))⟩
 f22 := ⟨Tryz.f162.name, by decide, Tryz.func162.trans (congrArg some (by kernel_rfl))⟩
 f23 := ⟨Tryz.f163.name, by decide, Tryz.func163.trans (congrArg some (by kernel_rfl))⟩
 f24 := ⟨Tryz.f164.name, by decide, Tryz.func164.trans (congrArg some (by kernel_rfl))⟩
 f25 := ⟨Tryz.f165.name, by decide, Tryz.func165.trans (congrArg some (by kernel_rfl))⟩
 f26 := ⟨Tryz.f166.name, by decide, Tryz.func166.trans (congrArg some (by kernel_rfl))⟩
 f27 := ⟨Tryz.f167.name, by decide, Tryz.func167.trans (congrArg some (by kernel_rfl))⟩
 f28 := Tryz.func168.trans (congrArg some (by kernel_rfl))
 f29 := Tryz.func169.trans (congrArg some (by kernel_rfl))
 f46 := ⟨Tryz.f178.name, by decide, Tryz.func178.trans (congrArg some (by kernel_rfl))⟩
 f47 := Tryz.func179.trans (congrArg some (by kernel_rfl))
 f48 := Tryz.func180.trans (congrArg some (by kernel_rfl))
 f49 := ⟨Tryz.f181.name, by decide, Tryz.func181.trans (congrArg some (by kernel_rfl))⟩
 f50 := ⟨Tryz.f182.name, by decide, Tryz.func182.trans (congrArg some (by kernel_rfl))⟩
 f57 := ⟨Tryz.f188.name, by decide, Tryz.func188.trans (congrArg some (by kernel_rfl))⟩
 t0 := Tryz.underlying0
 a0 := Tryz.isAgg0
 z0 := Tryz.sizeOf0
 v0 := Tryz.zeroValue0
 t3 := Tryz.underlying3
 a3 := Tryz.isAgg3
 z3 := Tryz.sizeOf3
 v3 := Tryz.zeroValue3
 t4 := Tryz.underlying4
 a4 := Tryz.isAgg4
 z4 := Tryz.sizeOf4
 v4 := Tryz.zeroValue4
 t5 := Tryz.underlying5
 a5 := Tryz.isAgg5
 z5 := Tryz.sizeOf5
 v5 := Tryz.zeroValue5
 t9 := Tryz.underlying9
 a9 := Tryz.isAgg9
 z9 := Tryz.sizeOf9
 v9 := Tryz.zeroValue9
 t22 := Tryz.underlying50
 a22 := Tryz.isAgg50
 z22 := Tryz.sizeOf50
 v22 := Tryz.zeroValue50
 t25 := Tryz.underlying162
 a25 := Tryz.isAgg162
 z25 := Tryz.sizeOf162
 v25 := Tryz.zeroValue162
 t39 := Tryz.underlying62
 a39 := Tryz.isAgg62
 z39 := Tryz.sizeOf62
 v39 := Tryz.zeroValue62
 t45 := Tryz.underlying212
 a45 := Tryz.isAgg212
 z45 := Tryz.sizeOf212
 v45 := Tryz.zeroValue212
 t46 := Tryz.underlying213
 a46 := Tryz.isAgg213
 z46 := Tryz.sizeOf213
 v46 := Tryz.zeroValue213
 t50 := Tryz.underlying217
 a50 := Tryz.isAgg217
 z50 := Tryz.sizeOf217
 v50 := Tryz.zeroValue217
 t53 := Tryz.underlying220
 a53 := Tryz.isAgg220
 z53 := Tryz.sizeOf220
 v53 := Tryz.zeroValue220
 t55 := Tryz.underlying222
 a55 := Tryz.isAgg222
 z55 := Tryz.sizeOf222
 v55 := Tryz.zeroValue222
 t66 := Tryz.underlying228
 a66 := Tryz.isAgg228
 z66 := Tryz.sizeOf228
 v66 := Tryz.zeroValue228
 t70 := Tryz.underlying232
 a70 := Tryz.isAgg232
 z70 := Tryz.sizeOf232
 v70 := Tryz.zeroValue232
 t76 := Tryz.underlying242
 a76 := Tryz.isAgg242
 z76 := Tryz.sizeOf242
 v76 := Tryz.zeroValue242
 t77 := Tryz.underlying127
 a77 := Tryz.isAgg127
 z77 := Tryz.sizeOf127
 v77 := Tryz.zeroValue127 }
end
end Go.Proofs
namespace Go.Proofs.YtnbhanmpmjjkkaaGreatDoor.W
open Go.RowKit
section
open Go.RowKit Go.Sort
theorem isnan_any (x : Int) (w : World) : Calls Tryz.prog 143 #[.int .i64 x] w fun e w' => e = .returned (.bool false) /\ w = w' := by
 go_enter Tryz.func143, Tryz.ntmps143
 go_wp2
 go_ret
 exact ⟨by simp, rfl⟩
theorem ccmp_any (x y : Int) (w : World) : Calls Tryz.prog 110 #[.int .i64 x, .int .i64 y] w fun e w' => e = .returned (.int .i64 (cmpI x y)) /\ w = w' := by
 unfold cmpI
 by_cases h : x < y
 ·rw [if_pos h]
  go_enter Tryz.func110, Tryz.ntmps110
  go_wp2_with (go_at_call 143; refine (isnan_any _ _).mono ?_; rintro e w' ⟨rfl, hq⟩; subst hq)
  go_ret
  exact ⟨rfl, rfl⟩
 ·rw [if_neg h]
  by_cases h2 : y < x
  ·rw [if_pos h2]
   go_enter Tryz.func110, Tryz.ntmps110
   go_wp2_with (go_at_call 143; refine (isnan_any _ _).mono ?_; rintro e w' ⟨rfl, hq⟩; subst hq)
   go_ret
   exact ⟨rfl, rfl⟩
  ·rw [if_neg h2]
   go_enter Tryz.func110, Tryz.ntmps110
   go_wp2_with (go_at_call 143; refine (isnan_any _ _).mono ?_; rintro e w' ⟨rfl, hq⟩; subst hq)
   go_ret
   exact ⟨rfl, rfl⟩
theorem firstNZ_zero : ∀ (l : List Int), (∀ x ∈ l, x = 0) -> firstNZ l = 0
 | [], _ => rfl
 | x :: r, h => by
  unfold firstNZ
  rw [if_neg (by simpa using h x (by simp))]
  exact firstNZ_zero r (fun y hy => h y (List.mem_cons_of_mem _ hy))
theorem firstNZ_at : ∀ (l : List Int) (j : Nat), (∀ k, k < j -> l.getD k 0 = 0) -> l.getD j 0 ≠ 0 -> firstNZ l = l.getD j 0
 | [], j, _, h => by simp at h
 | x :: r, 0, _, h => by
  unfold firstNZ
  simp at h ⊢
  intro h0
  exact absurd h0 h
 | x :: r, j + 1, h0, h => by
  have hx := h0 0 (by omega)
  simp at hx
  unfold firstNZ
  rw [if_neg (by simp [hx])]
  simp only [List.getD_cons_succ] at h ⊢
  exact firstNZ_at r j (fun k hk => by have := h0 (k + 1) (by omega); simpa using this) h
theorem cor_any (l : List Int) (hl : l.length = 4) (g : Nat) (w : World) (hc : ∀ j, j < 4 -> w.cell? ⟨g, j, none⟩ = some (.int .i64 (l.getD j 0))) : Calls Tryz.prog 109 #[.slice (some ⟨g, 0, none⟩) 4 4] w fun e w' => e = .returned (.int .i64 (firstNZ l)) /\ w = w' := by
 have HC := LH hc
 clear hc
 go_enter Tryz.func109, Tryz.ntmps109
 go_wp2_with fail
 go_loopg [8] 4 (fun g' s8 wr => ∃ j : Nat, s8 = .int .i64 (j : Int) /\ j <= 4 /\ 4 <= j + g' /\ Hid (wr = w /\ ∀ k, k < j -> l.getD k 0 = 0))
 case atStart => exact ⟨0, rfl, by omega, by omega, LH ⟨rfl, fun k hk => by omega⟩⟩
 case round =>
  obtain ⟨j, rfl, hj, hjg, HJ⟩ := hrel
  obtain ⟨rfl, hz⟩ := HJ.out
  have HZ := LH hz
  clear hz HJ
  by_cases hlt : j < 4
  ·have c0 := HC.out j hlt
   have hjz : (j : Int) < 4 := by omega
   have HV : Hid (l.getD j 0 ≠ 0 -> firstNZ l = l.getD j 0) := LH (fun h => firstNZ_at l j HZ.out h)
   have HN : Hid (l.getD j 0 = 0 -> ∀ k, k < j + 1 -> l.getD k 0 = 0) := LH (fun h k hk => by
    rcases Nat.lt_or_ge k j with h1 | h1
    ·exact HZ.out k h1
    ·obtain rfl : k = j := by omega
     exact h)
   generalize l.getD j 0 = v at *
   by_cases hv : v = 0
   ·subst hv
    go_wp2_with fail
    go_roundg (gk - 1)
    case measure => omega
    case rel => exact ⟨j + 1, by go_num, by omega, by omega, LH ⟨rfl, HN.out (by simp)⟩⟩
   ·have q0 : (v != 0) = true := by simp [hv]
    have HW := LH (HV.out hv)
    clear hv
    go_wp2_with fail
    go_ret
    rw [HW.out]
    exact ⟨rfl, rfl⟩
  ·have hj4 : j = 4 := by omega
   subst hj4
   have HW : Hid (firstNZ l = 0) := LH (firstNZ_zero l (fun x hx => by
    obtain ⟨k, hk, rfl⟩ := List.getElem_of_mem hx
    have := HZ.out k (by omega)
    rwa [List.getD_eq_getElem?_getD, List.getElem?_eq_getElem hk] at this))
   go_wp2
   go_ret
   rw [HW.out]
   exact ⟨rfl, rfl⟩
end
section
open Go.RowKit Go.Sort
theorem closureI (x y : Id) (W : World) : Calls Tryz.prog 108 #[idV x, idV y] W fun e w' => e = .returned (.int .i64 (cmpId x y)) /\ ∃ q os', w' = Go.Sort.grow (W.drewN q) os' := by
 obtain ⟨xc, xl, xn, xi⟩ := x
 obtain ⟨yc, yl, yn, yi⟩ := y
 obtain ⟨w1, hw1⟩ : ∃ w1, w1 = (W.alloc (.cells (idC ⟨xc, xl, xn, xi⟩) 45)).alloc (.cells (idC ⟨yc, yl, yn, yi⟩) 45) := ⟨_, rfl⟩
 have hx1 : w1.heap[W.heap.size]? = some (.cells (idC ⟨xc, xl, xn, xi⟩) 45 (0, 0)) := by rw [hw1]; exact blk_alloc (heap_alloc_new W _)
 have hy1 : w1.heap[W.heap.size + 1]? = some (.cells (idC ⟨yc, yl, yn, yi⟩) 45 (0, 0)) := by
  rw [hw1]
  have := heap_alloc_new (W.alloc (.cells (idC ⟨xc, xl, xn, xi⟩) 45)) (.cells (idC ⟨yc, yl, yn, yi⟩) 45)
  simpa using this
 obtain ⟨a0, a1, a2, a3⟩ := id_cells hx1
 obtain ⟨b0, b1, b2, b3⟩ := id_cells hy1
 have HW1 := LH hw1
 have C1 := LH (fun w => ccmp_any xc yc w)
 have C2 := LH (fun w => ccmp_any xl yl w)
 have C3 := LH (fun w => ccmp_any xn yn w)
 have C4 := LH (fun w => ccmp_any xi yi w)
 have HF : Hid (cmpId ⟨xc, xl, xn, xi⟩ ⟨yc, yl, yn, yi⟩ = firstNZ [cmpI xc yc, cmpI xl yl, cmpI xn yn, cmpI xi yi]) := LH rfl
 generalize cmpId ⟨xc, xl, xn, xi⟩ ⟨yc, yl, yn, yi⟩ = r at *
 generalize cmpI xc yc = v1 at *
 generalize cmpI xl yl = v2 at *
 generalize cmpI xn yn = v3 at *
 generalize cmpI xi yi = v4 at *
 clear hw1 hx1 hy1
 go_enter Tryz.func108, Tryz.ntmps108
 go_wp2_with fail
 rw [<- HW1.out]
 refine wp_region_L [(6, fun w' => (w'.cell? ⟨W.heap.size, 0, none⟩ = some (.int .i64 xc) /\ w'.cell? ⟨W.heap.size + 1, 0, none⟩ = some (.int .i64 yc))), (13, fun w' => (w'.cell? ⟨W.heap.size, 1, none⟩ = some (.int .i64 xl) /\ w'.cell? ⟨W.heap.size + 1, 1, none⟩ = some (.int .i64 yl))), (20, fun w' => (w'.cell? ⟨W.heap.size, 2, none⟩ = some (.int .i64 xn) /\ w'.cell? ⟨W.heap.size + 1, 2, none⟩ = some (.int .i64 yn))), (25, fun w' => (w'.cell? ⟨W.heap.size, 3, none⟩ = some (.int .i64 xi) /\ w'.cell? ⟨W.heap.size + 1, 3, none⟩ = some (.int .i64 yi)))] (by kernel_rfl) ?_ (fun hHeld => ?_)
 ·exact (HoldC.cons (⟨a0, b0⟩) (HoldC.cons (⟨a1, b1⟩) (HoldC.cons (⟨a2, b2⟩) (HoldC.cons (⟨a3, b3⟩) HoldC.nil))))
 refine tk 0 ?_ rfl (by kernel_rfl) (fun _ _ _ h => h) (.inl ⟨by rfl, ?_⟩) hHeld ?_; rotate_left; · (intro w _; go_simp; try with_reducible rfl)
 clear hHeld; intro hHeld; try simp only [gA,gB,gC,Act.put,gD,gE,gF]
 refine tk 1 ?_ rfl (by kernel_rfl) (fun _ _ _ h => h) (.inl ⟨by rfl, ?_⟩) hHeld ?_; rotate_left; · (intro w _; go_simp; try with_reducible rfl)
 clear hHeld; intro hHeld; try simp only [gA,gB,gC,Act.put,gD,gE,gF]
 refine ld 0 2 ?_ rfl rfl (by kernel_rfl) (fun _ _ _ h => h) (.inl ⟨by rfl, ?_⟩) hHeld ?_; rotate_left; · (intro w hSw; (try dsimp only at hSw); go_simp; try with_reducible rfl)
 clear hHeld; intro hHeld; try simp only [gA,gB,gC,Act.put,gD,gE,gF]
 refine tk 3 ?_ rfl (by kernel_rfl) (fun _ _ _ h => h) (.inl ⟨by rfl, ?_⟩) hHeld ?_; rotate_left; · (intro w _; go_simp; try with_reducible rfl)
 clear hHeld; intro hHeld; try simp only [gA,gB,gC,Act.put,gD,gE,gF]
 refine tk 4 ?_ rfl (by kernel_rfl) (fun _ _ _ h => h) (.inl ⟨by rfl, ?_⟩) hHeld ?_; rotate_left; · (intro w _; go_simp; try with_reducible rfl)
 clear hHeld; intro hHeld; try simp only [gA,gB,gC,Act.put,gD,gE,gF]
 refine ld 0 5 ?_ rfl rfl (by kernel_rfl) (fun _ _ _ h => h) (.inl ⟨by rfl, ?_⟩) hHeld ?_; rotate_left; · (intro w hSw; (try dsimp only at hSw); go_simp; try with_reducible rfl)
 clear hHeld; intro hHeld; try simp only [gA,gB,gC,Act.put,gD,gE,gF]
 refine tk 7 ?_ rfl (by kernel_rfl) (fun _ _ _ h => h) (.inl ⟨by rfl, ?_⟩) hHeld ?_; rotate_left; · (intro w _; go_simp; try with_reducible rfl)
 clear hHeld; intro hHeld; try simp only [gA,gB,gC,Act.put,gD,gE,gF]
 refine tk 8 ?_ rfl (by kernel_rfl) (fun _ _ _ h => h) (.inl ⟨by rfl, ?_⟩) hHeld ?_; rotate_left; · (intro w _; go_simp; try with_reducible rfl)
 clear hHeld; intro hHeld; try simp only [gA,gB,gC,Act.put,gD,gE,gF]
 refine ld 1 9 ?_ rfl rfl (by kernel_rfl) (fun _ _ _ h => h) (.inl ⟨by rfl, ?_⟩) hHeld ?_; rotate_left; · (intro w hSw; (try dsimp only at hSw); go_simp; try with_reducible rfl)
 clear hHeld; intro hHeld; try simp only [gA,gB,gC,Act.put,gD,gE,gF]
 refine tk 10 ?_ rfl (by kernel_rfl) (fun _ _ _ h => h) (.inl ⟨by rfl, ?_⟩) hHeld ?_; rotate_left; · (intro w _; go_simp; try with_reducible rfl)
 clear hHeld; intro hHeld; try simp only [gA,gB,gC,Act.put,gD,gE,gF]
 refine tk 11 ?_ rfl (by kernel_rfl) (fun _ _ _ h => h) (.inl ⟨by rfl, ?_⟩) hHeld ?_; rotate_left; · (intro w _; go_simp; try with_reducible rfl)
 clear hHeld; intro hHeld; try simp only [gA,gB,gC,Act.put,gD,gE,gF]
 refine ld 1 12 ?_ rfl rfl (by kernel_rfl) (fun _ _ _ h => h) (.inl ⟨by rfl, ?_⟩) hHeld ?_; rotate_left; · (intro w hSw; (try dsimp only at hSw); go_simp; try with_reducible rfl)
 clear hHeld; intro hHeld; try simp only [gA,gB,gC,Act.put,gD,gE,gF]
 refine tk 14 ?_ rfl (by kernel_rfl) (fun _ _ _ h => h) (.inl ⟨by rfl, ?_⟩) hHeld ?_; rotate_left; · (intro w _; go_simp; try with_reducible rfl)
 clear hHeld; intro hHeld; try simp only [gA,gB,gC,Act.put,gD,gE,gF]
 refine tk 15 ?_ rfl (by kernel_rfl) (fun _ _ _ h => h) (.inl ⟨by rfl, ?_⟩) hHeld ?_; rotate_left; · (intro w _; go_simp; try with_reducible rfl)
 clear hHeld; intro hHeld; try simp only [gA,gB,gC,Act.put,gD,gE,gF]
 refine ld 2 16 ?_ rfl rfl (by kernel_rfl) (fun _ _ _ h => h) (.inl ⟨by rfl, ?_⟩) hHeld ?_; rotate_left; · (intro w hSw; (try dsimp only at hSw); go_simp; try with_reducible rfl)
 clear hHeld; intro hHeld; try simp only [gA,gB,gC,Act.put,gD,gE,gF]
 refine tk 17 ?_ rfl (by kernel_rfl) (fun _ _ _ h => h) (.inl ⟨by rfl, ?_⟩) hHeld ?_; rotate_left; · (intro w _; go_simp; try with_reducible rfl)
 clear hHeld; intro hHeld; try simp only [gA,gB,gC,Act.put,gD,gE,gF]
 refine tk 18 ?_ rfl (by kernel_rfl) (fun _ _ _ h => h) (.inl ⟨by rfl, ?_⟩) hHeld ?_; rotate_left; · (intro w _; go_simp; try with_reducible rfl)
 clear hHeld; intro hHeld; try simp only [gA,gB,gC,Act.put,gD,gE,gF]
 refine ld 2 19 ?_ rfl rfl (by kernel_rfl) (fun _ _ _ h => h) (.inl ⟨by rfl, ?_⟩) hHeld ?_; rotate_left; · (intro w hSw; (try dsimp only at hSw); go_simp; try with_reducible rfl)
 clear hHeld; intro hHeld; try simp only [gA,gB,gC,Act.put,gD,gE,gF]
 refine tk 21 ?_ rfl (by kernel_rfl) (fun _ _ _ h => h) (.inl ⟨by rfl, ?_⟩) hHeld ?_; rotate_left; · (intro w _; go_simp; try with_reducible rfl)
 clear hHeld; intro hHeld; try simp only [gA,gB,gC,Act.put,gD,gE,gF]
 refine ld 3 22 ?_ rfl rfl (by kernel_rfl) (fun _ _ _ h => h) (.inl ⟨by rfl, ?_⟩) hHeld ?_; rotate_left; · (intro w hSw; (try dsimp only at hSw); go_simp; try with_reducible rfl)
 clear hHeld; intro hHeld; try simp only [gA,gB,gC,Act.put,gD,gE,gF]
 refine tk 23 ?_ rfl (by kernel_rfl) (fun _ _ _ h => h) (.inl ⟨by rfl, ?_⟩) hHeld ?_; rotate_left; · (intro w _; go_simp; try with_reducible rfl)
 clear hHeld; intro hHeld; try simp only [gA,gB,gC,Act.put,gD,gE,gF]
 refine ld 3 24 ?_ rfl rfl (by kernel_rfl) (fun _ _ _ h => h) (.inl ⟨by rfl, ?_⟩) hHeld ?_; rotate_left; · (intro w hSw; (try dsimp only at hSw); go_simp; try with_reducible rfl)
 clear hHeld; intro hHeld; try simp only [gA,gB,gC,Act.put,gD,gE,gF]
 refine wpAnyL_ready (rs := [6]) (by kernel_rfl) (by simp) (AllReadyL.cons (o := _) rfl (fun K hK => ?_) AllReadyL.nil)
 try simp only [gA,gB,gC]
 go_simp
 refine (C1.out _).mono ?_
 rintro e w' ⟨rfl, hq⟩
 subst hq
 clear hHeld
 refine hK.out _ _ ?_ (fun hHeld => ?_)
 ·exact (HoldC.past (by kernel_rfl) (HoldC.cons (⟨a1, b1⟩) (HoldC.cons (⟨a2, b2⟩) (HoldC.cons (⟨a3, b3⟩) HoldC.nil))))
 clear hK K
 try simp only [gA,gB,gC,Act.put,gD,gE,gF]
 refine wpAnyL_ready (rs := [13]) (by kernel_rfl) (by simp) (AllReadyL.cons (o := _) rfl (fun K hK => ?_) AllReadyL.nil)
 try simp only [gA,gB,gC]
 go_simp
 refine (C2.out _).mono ?_
 rintro e w' ⟨rfl, hq⟩
 subst hq
 clear hHeld
 refine hK.out _ _ ?_ (fun hHeld => ?_)
 ·exact (HoldC.past (by kernel_rfl) (HoldC.past (by kernel_rfl) (HoldC.cons (⟨a2, b2⟩) (HoldC.cons (⟨a3, b3⟩) HoldC.nil))))
 clear hK K
 try simp only [gA,gB,gC,Act.put,gD,gE,gF]
 refine wpAnyL_ready (rs := [20]) (by kernel_rfl) (by simp) (AllReadyL.cons (o := _) rfl (fun K hK => ?_) AllReadyL.nil)
 try simp only [gA,gB,gC]
 go_simp
 refine (C3.out _).mono ?_
 rintro e w' ⟨rfl, hq⟩
 subst hq
 clear hHeld
 refine hK.out _ _ ?_ (fun hHeld => ?_)
 ·exact (HoldC.past (by kernel_rfl) (HoldC.past (by kernel_rfl) (HoldC.past (by kernel_rfl) (HoldC.cons (⟨a3, b3⟩) HoldC.nil))))
 clear hK K
 try simp only [gA,gB,gC,Act.put,gD,gE,gF]
 refine wpAnyL_ready (rs := [25]) (by kernel_rfl) (by simp) (AllReadyL.cons (o := _) rfl (fun K hK => ?_) AllReadyL.nil)
 try simp only [gA,gB,gC]
 go_simp
 refine (C4.out _).mono ?_
 rintro e w' ⟨rfl, hq⟩
 subst hq
 clear hHeld
 refine hK.out _ _ ?_ (fun hHeld => ?_)
 ·exact (HoldC.past (by kernel_rfl) (HoldC.past (by kernel_rfl) (HoldC.past (by kernel_rfl) (HoldC.past (by kernel_rfl) HoldC.nil))))
 clear hK K
 try simp only [gA,gB,gC,Act.put,gD,gE,gF]
 refine wpAnyL_ready (rs := [26]) (by kernel_rfl) (by simp) (AllReadyL.cons (o := _) rfl (fun K hK => ?_) AllReadyL.nil)
 try simp only [gA,gB,gC]
 go_simp
 have hbZ : (w1.alloc (.cells #[.int .i64 v1, .int .i64 v2, .int .i64 v3, .int .i64 v4] 3)).drew.heap[w1.heap.size]? = some (.cells #[.int .i64 v1, .int .i64 v2, .int .i64 v3, .int .i64 v4] 3 (0, 0)) := heap_alloc_new w1 _
 have CO := LH (cor_any [v1, v2, v3, v4] rfl w1.heap.size _ (fun j hj => by
  match j, hj with
  | 0, _ => exact blk_cell hbZ 0 _ rfl
  | 1, _ => exact blk_cell hbZ 1 _ rfl
  | 2, _ => exact blk_cell hbZ 2 _ rfl
  | 3, _ => exact blk_cell hbZ 3 _ rfl))
 clear hHeld
 refine hK.out _ _ ?_ (fun hHeld => ?_)
 ·exact (HoldC.past (by kernel_rfl) (HoldC.past (by kernel_rfl) (HoldC.past (by kernel_rfl) (HoldC.past (by kernel_rfl) HoldC.nil))))
 clear hK K
 try simp only [gA,gB,gC,Act.put,gD,gE,gF]
 refine wpAnyL_ready (rs := [27]) (by kernel_rfl) (by simp) (AllReadyL.cons (o := _) rfl (fun K hK => ?_) AllReadyL.nil)
 try simp only [gA,gB,gC]
 go_simp
 refine CO.out.mono ?_
 rintro e w' ⟨rfl, hq⟩
 subst hq
 clear hHeld
 refine hK.out _ _ ?_ (fun hHeld => ?_)
 ·exact (HoldC.past (by kernel_rfl) (HoldC.past (by kernel_rfl) (HoldC.past (by kernel_rfl) (HoldC.past (by kernel_rfl) HoldC.nil))))
 clear hK K
 try simp only [gA,gB,gC,Act.put,gD,gE,gF]
 refine tk 28 ?_ rfl (by kernel_rfl) (fun _ _ _ h => h) (.inl ⟨by rfl, ?_⟩) hHeld ?_; rotate_left; · (intro w _; go_simp; try with_reducible rfl)
 clear hHeld; intro hHeld; try simp only [gA,gB,gC,Act.put,gD,gE,gF]
 refine wpAnyL_done (by kernel_rfl) ?_ _
 clear hHeld
 go_wp2_with fail
 go_ret
 rw [HF.out]
 exact ⟨rfl, 1, _, by rw [HW1.out, Go.Sort.alloc_eq_grow, Go.Sort.alloc_eq_grow, Go.Sort.alloc_eq_grow, Go.Sort.grow_grow, Go.Sort.grow_grow]; rfl⟩
def idE (x : Id) : List Value := [.int .i64 x.c, .int .i64 x.l, .int .i64 x.n, .int .i64 x.i]
theorem idE_len (x : Id) : (idE x).length = 4 := rfl
theorem idE_one (x : Id) : ∀ v ∈ idE x, v.oneCell' = true := by
 intro v hv
 simp [idE] at hv
 rcases hv with rfl | rfl | rfl | rfl <;> rfl
theorem cmpLaysI (blk off size : Nat) (w : World) : CmpLays Tryz.prog 108 #[] idE 4 cmpId blk off size w :=
 fun _ _ _ _ x y => closureI x y _
theorem sortI_any {w : World} {base : Nat} {v : Value} {ss : List Id} (hown : w.ownsRow base 45 4 v ss.length (ss.flatMap idE)) (hl : ss.length <= 1000000) :
  Calls Tryz.prog 107 #[v, .func (.func 108) #[] #[]] w fun e w' => e = .returned (.tuple #[]) /\ w'.ownsRow base 45 4 v ss.length ((ss.mergeSort leI).flatMap idE) /\ ∀ S : List Nat, (∀ k, v.ownBlock = some k -> k ∈ S) -> Chg S w w' := by
 obtain ⟨hlen, hrow⟩ := hown
 rcases hrow with ⟨rfl, h0⟩ | ⟨gb, cap, cur, rfl, hbg, hgb, hnc, hcm, hcs, htake⟩
 ·have hnil : ss = [] := List.eq_nil_of_length_eq_zero h0
  subst hnil
  have hS := AnyF.slices_SortFunc_none (P := Tryz.prog) (ρ := Tryz.laysSortE_ren) { Tryz.laysSortE with } none 0 (.func (.func 108) #[] #[]) w
  change Calls Tryz.prog 107 _ _ _ at hS
  refine hS.mono fun e w' ⟨h1, h2⟩ => ⟨h1, ?_, ?_⟩
  ·rw [h2]; simpa using World.ownsRow_nil w base 45 4
  ·rw [h2]; exact fun S _ => Chg.refl _ _
 ·have hH := holds_row idE idE_len hgb htake
  have eg : ∀ args w, (callFunc 108 args).run Tryz.prog w = .ok (.enter 108 args) w := enters_of Tryz.func108 (by kernel_rfl) rfl
  have hS := AnyQ.slices_SortFunc_total Tryz.laysSortE 4 Tryz.isAgg45 Tryz.sizeOf45 idE idE_len idE_one cmpId swoI 108 #[] gb 0 cap ss.toArray w eg (cmpLaysI gb 0 _ w) hH (blk_lt hgb) (by simp; omega) totI
  change Calls Tryz.prog 107 _ _ _ at hS
  have hsz : ss.toArray.size = ss.length := by simp
  rw [hsz] at hS
  refine hS.mono fun e w' ⟨h1, n, os, h2⟩ => ⟨h1, ?_, fun S hS => ?_⟩
  ·rw [h2]
   exact ownsRow_sortedK idE idE_len (by rw [List.length_mergeSort]) hbg hgb hnc hcm hcs
  ·rw [h2]
   exact (chg_sortedK _ _ _).mono (fun x hx => .inl (by rw [List.mem_singleton.1 hx]; exact hS gb rfl))
end
end Go.Proofs.YtnbhanmpmjjkkaaGreatDoor.W
