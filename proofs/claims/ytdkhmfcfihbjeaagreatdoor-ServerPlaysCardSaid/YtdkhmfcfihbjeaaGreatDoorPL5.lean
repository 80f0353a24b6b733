/- Texts laid together. -/
import Derived.Test.YtdkhmfcfihbjeaaGreatDoorPL4
import Derived.Test.YtdkhmfcfihbjeaaGreatDoorPL1
import Derived.Shelf.SlSortCmp.NoneTotal
import Derived.Lib.Bytealg
import Derived.Ground.SlsfProg
import Derived.Shelf.Small.Utf8
import Derived.Shelf.Small.Bits
import Derived.Shelf.Strconv.Itoa0
import Derived.Test.YtdkhmfcfihbjeaaGreatDoorProg
import Derived.Sort.OwnSorted
import Derived.Test.YtdkhmfcfihbjeaaGreatDoorPL2
import Derived.DeepKeys
import Derived.Laws.StructEq
import Derived.Deep.Slices
import Derived.ChangeSlices
import Derived.Lib.SmallJoins
import Derived.Deep.AppendLies
set_option linter.unusedVariables false
set_option linter.unusedSimpArgs false
set_option maxHeartbeats 64000000
set_option maxRecDepth 100000
namespace Go.Proofs.YtdkhmfcfihbjeaaGreatDoor.W
open Go.RowKit
section
open Go.RowKit
variable {G : List Nat}
def IdsAt0 (w : World) (U : List Nat) (o : Option Value) (l : List Nat) : Prop := (l = [] /\ o = none) ∨ ∃ v, o = some v /\ IntsAt w v l /\ ∀ g, v.ownBlock = some g -> g < w.heap.size /\ g ∉ U
theorem IdsAt0.keep {w w' : World} {U U' T : List Nat} {o : Option Value} {l : List Nat} (h : IdsAt0 w U o l) (hc : Chg T w w') (hT : ∀ x ∈ T, x ∈ U ∨ w.heap.size <= x) (hU : ∀ x ∈ U', x ∈ U ∨ w.heap.size <= x) : IdsAt0 w' U' o l := by
 rcases h with h | ⟨v, h2, h3, h4⟩
 ·exact .inl h
 ·refine .inr ⟨v, h2, h3.keep fun g hg => ?_, fun g hg => ⟨Nat.lt_of_lt_of_le (h4 g hg).1 hc.size, fun hm => ?_⟩⟩
  ·obtain ⟨k1, k2⟩ := h4 g hg
   refine hc.block g k1 (fun hm => ?_)
   rcases hT g hm with h | h
   ·exact k2 h
   ·omega
  ·obtain ⟨k1, k2⟩ := h4 g hg
   rcases hU g hm with h | h
   ·exact k2 h
   ·omega
structure StMid (G : List Nat) (w : World) (q p sp mb : Nat) (Us : List Nat) (φ : Id -> Option Value) (N : Nat) (t : Sto) (x : Id) : Prop where
 head : w.heap[q]? = some (.cells #[.pointer (some ⟨p, 0, none⟩), .pointer (some ⟨sp, 0, none⟩), .map (some mb), .bool t.whole] 98 (0, 0))
 slots : SlotsAt w sp p Us t.s
 map : MapF 38 klD okD w mb φ N
 apart : q ∉ Us /\ mb ∉ Us
 vals : ∀ y, okD y -> y ≠ x -> IdsAt w (q :: mb :: Us) (φ y) (t.at y)
 val : IdsAt0 w (q :: mb :: Us) (φ x) (t.at x)
 ok : keysOk t.s.rows
 far : Far G w φ
theorem StOk.mid {w : World} {q p sp mb : Nat} {Us : List Nat} {φ : Id -> Option Value} {N : Nat} {t : Sto} (h : StOk G w q p sp mb Us φ N t) {x : Id} (hx : okD x) : StMid G w q p sp mb Us φ N t x :=
 ⟨h.head, h.slots, h.map, h.apart, fun y hy _ => h.vals y hy, (h.vals x hx).imp id (fun ⟨_, h⟩ => h), h.ok, h.far⟩
variable {w w2 w3 : World} {q p sp mb : Nat} {Us : List Nat} {φ : Id -> Option Value} {N N' : Nat} {t : Sto} {x : Id}
theorem StMid.full (h : StMid G w q p sp mb Us φ N t x) (hne : t.at x ≠ []) : StOk G w q p sp mb Us φ N t := by
 refine ⟨h.head, h.slots, h.map, h.apart, fun y hy => ?_, h.ok, h.far⟩
 by_cases e : y = x
 ·subst e
  rcases h.val with ⟨h1, _⟩ | ⟨v, h2, h3⟩
  ·exact absurd h1 hne
  ·exact .inr ⟨hne, v, h2, h3⟩
 ·exact h.vals y hy e
theorem StMid.keep0 (h : StMid G w q p sp mb Us φ N t x) (hc : Chg [] w w2) : StMid G w2 q p sp mb Us φ N t x :=
 ⟨hc.keep h.head (by simp), h.slots.keep0 hc, h.map.chg hc (by simp), h.apart, fun y hy hn => (h.vals y hy hn).keep hc (by simp) (fun y hy => .inl hy), h.val.keep hc (by simp) (fun y hy => .inl hy), h.ok, h.far.mono hc.size⟩
theorem StMid.cells (h : StMid G w q p sp mb Us φ N t x) :
  w.cell? ⟨q, 0, none⟩ = some (.pointer (some ⟨p, 0, none⟩)) /\ w.cell? ⟨q, 1, none⟩ = some (.pointer (some ⟨sp, 0, none⟩)) /\ w.cell? ⟨q, 2, none⟩ = some (.map (some mb)) /\ w.cell? ⟨q, 3, none⟩ = some (.bool t.whole) :=
 ⟨blk_cell h.head 0 _ rfl, blk_cell h.head 1 _ rfl, blk_cell h.head 2 _ rfl, blk_cell h.head 3 _ rfl⟩
structure MidLook (G : List Nat) (w : World) (U : List Nat) (v : Value) (l : List Nat) : Prop where
 ints : IntsAt w v l
 own : ∀ g, v.ownBlock = some g -> g < w.heap.size /\ g ∉ U
 far : ∀ k ∈ G, v.ownBlock ≠ some k
theorem StMid.look (h : StMid G w q p sp mb Us φ N t x) (hx : okD x) :
  ∃ v, (∀ n, (Instr.lookup 96 (.map (some mb)) (idV x) false).run Tryz.prog (w.drewN n) = .ok v (w.drewN n)) /\ MidLook G w (q :: mb :: Us) v (t.at x) := by
 refine ⟨(φ x).getD (.slice none 0 0), fun n => ?_, ?_⟩
 ·exact (h.map.chg ((Chg.refl [] w).drewN n) (by simp)).look keId Tryz.underlying96 zeroInts hx
 ·rcases h.val with ⟨h1, h2⟩ | ⟨v, h2, h3, h4⟩
  ·rw [h1, h2]
   exact ⟨⟨none, 0, rfl, Nat.le_refl _, by unfold maxLen; omega, fun h => absurd rfl h⟩, (fun g hg => by cases hg), fun k hk e => by cases e⟩
  ·rw [h2]
   exact ⟨h3, h4, fun k hk => (h.far k hk).2 x v hx h2⟩
theorem MidLook.keep {U U' T : List Nat} {v : Value} {l : List Nat} (h : MidLook G w U v l) (hc : Chg T w w2) (hT : ∀ x ∈ T, x ∈ U ∨ w.heap.size <= x) (hU : ∀ x ∈ U', x ∈ U ∨ w.heap.size <= x) : MidLook G w2 U' v l := by
 refine ⟨h.ints.keep fun g hg => ?_, fun g hg => ⟨Nat.lt_of_lt_of_le (h.own g hg).1 hc.size, fun hm => ?_⟩, h.far⟩
 ·obtain ⟨k1, k2⟩ := h.own g hg
  refine hc.block g k1 (fun hm => ?_)
  rcases hT g hm with h | h
  ·exact k2 h
  ·omega
 ·obtain ⟨k1, k2⟩ := h.own g hg
  rcases hU g hm with h | h
  ·exact k2 h
  ·omega
theorem MidLook.first {U : List Nat} {v : Value} {i : Nat} {r : List Nat} (h : MidLook G w U v (i :: r)) : ∃ g o cap, v = .slice (some ⟨g, o, none⟩) (r.length + 1) cap /\ r.length + 1 <= cap /\ cap <= maxLen /\ w.cell? ⟨g, o, none⟩ = some (.int .i64 (i : Int)) /\ MidLook G w U (.slice (some ⟨g, if cap = 1 then o else o + 1, none⟩) r.length (cap - 1)) r := by
 obtain ⟨a, cap, rfl, h1, h2, h3⟩ := h.ints
 obtain ⟨g, o, rfl, h4⟩ := h3 (by simp)
 simp only [List.length_cons] at h1 h4
 refine ⟨g, o, cap, rfl, h1, h2, h4 0 (by omega), ⟨⟨_, cap - 1, rfl, by omega, by omega, fun hn => ?_⟩, fun k hk => h.own k hk, fun k hk => h.far k hk⟩⟩
 have hr := List.length_pos_iff.2 hn
 rw [if_neg (by omega)]
 exact ⟨g, o + 1, rfl, fun j hj => by
  have := h4 (j + 1) (by omega)
  rw [show o + 1 + j = o + (j + 1) by omega, this]; rfl⟩
theorem StMid.slotsDid {s' : SS} (h : StMid G w q p sp mb Us φ N t x) (hs : Sid w w2 sp p Us s') (hr : s'.rows = t.s.rows) :
  ∃ Us', StMid G w2 q p sp mb Us' φ N { t with s := s' } x /\ (∀ x ∈ Us', x ∈ Us ∨ w.heap.size <= x) /\ Chg Us w w2 := by
 obtain ⟨U', h1, h2, h3⟩ := hs
 have hq := blk_lt h.head
 have hm := h.map.lt
 have hat : ∀ x, Sto.at { t with s := s' } x = t.at x := fun x => by unfold Sto.at; simp only [hr]
 have hU : ∀ y ∈ q :: mb :: U', y ∈ q :: mb :: Us ∨ w.heap.size <= y := fun y hy => by
  rcases List.mem_cons.1 hy with rfl | hy
  ·exact .inl (by simp)
  ·rcases List.mem_cons.1 hy with rfl | hy
   ·exact .inl (by simp)
   ·rcases h2 y hy with h4 | h4
    ·exact .inl (by simp [h4])
    ·exact .inr h4
 refine ⟨U', ⟨h3.keep h.head h.apart.1, h1, h.map.chg h3 h.apart.2, ⟨fun hx => ?_, fun hx => ?_⟩, fun y hy hn => ?_, ?_, by rw [show ({ t with s := s' } : Sto).s.rows = t.s.rows from hr]; exact h.ok, h.far.mono h3.size⟩, h2, h3⟩
 ·rcases h2 q hx with h4 | h4
  ·exact h.apart.1 h4
  ·omega
 ·rcases h2 mb hx with h4 | h4
  ·exact h.apart.2 h4
  ·omega
 ·rw [hat]
  exact (h.vals y hy hn).keep h3 (fun y hy => .inl (by simp [hy])) hU
 ·rw [hat]
  exact h.val.keep h3 (fun y hy => .inl (by simp [hy])) hU
theorem StMid.cleared {s' : SS} {i : Nat} {r : List Nat} {v' : Value} (h : StMid G w q p sp mb Us φ N t x) (hx : mayId x = true) (hat : t.at x = i :: r) (hs : Sid w w2 sp p Us s') (hrows : s'.rows = t.s.rows.set i noRow)
  (hc : Chg [mb] w2 w3) (hmap : MapF 38 klD okD w3 mb (updF φ x v') N') (hv : MidLook G w (q :: mb :: Us) v' r) :
  ∃ Us', StMid G w3 q p sp mb Us' (updF φ x v') N' { t with s := s' } x /\ Sto.at { t with s := s' } x = r /\ (∀ x ∈ Us', x ∈ Us ∨ w.heap.size <= x) /\ Chg (mb :: Us) w w3 := by
 obtain ⟨U', h1, h2, h3⟩ := hs
 have hq := blk_lt h.head
 have hm := h.map.lt
 have hqm := ne_blk h.head h.map
 rw [Sto.at_may hx] at hat
 have hat' : ∀ y, Sto.at { t with s := s' } y = if y = x then r else t.at y := fun y => by
  by_cases hy : mayId y = true
  ·rw [Sto.at_may hy, Sto.at_may hy]
   show upto s'.rows s'.rows.length (idKey y) = _
   rw [hrows, upto_clear hat]
   by_cases e : y = x
   ·subst e; rw [if_pos rfl, if_pos rfl]
   ·rw [if_neg e, if_neg (fun h => e (idKey_inj hy hx h))]
  ·have hy' : mayId y = false := by simpa using hy
   rw [Sto.at_not hy', Sto.at_not hy', if_neg (fun e => by subst e; exact hy hx)]
 have hqU : q ∉ U' := fun hx => by
  rcases h2 q hx with h4 | h4
  ·exact h.apart.1 h4
  ·omega
 have hmU : mb ∉ U' := fun hx => by
  rcases h2 mb hx with h4 | h4
  ·exact h.apart.2 h4
  ·omega
 have hcc : Chg (mb :: Us) w w3 := (h3.mono (fun y hy => .inl (List.mem_cons_of_mem _ hy))).trans hc (fun y hy => .inl (by rw [List.mem_singleton.1 hy]; simp))
 have hU2 : ∀ y ∈ q :: mb :: U', y ∈ q :: mb :: Us ∨ w.heap.size <= y := fun y hy => by
  rcases List.mem_cons.1 hy with rfl | hy
  ·exact .inl (by simp)
  ·rcases List.mem_cons.1 hy with rfl | hy
   ·exact .inl (by simp)
   ·rcases h2 y hy with h4 | h4
    ·exact .inl (by simp [h4])
    ·exact .inr h4
 refine ⟨U', ⟨hcc.keep h.head (fun hy => ?_), h1.keepMap hc (h.map.chg h3 h.apart.2).obj hmU, hmap, ⟨hqU, hmU⟩, fun y hy hn => ?_, ?_, ?_, (h.far.mono hcc.size).upd x hv.far⟩, by rw [hat', if_pos rfl], h2, hcc⟩
 ·rcases List.mem_cons.1 hy with h4 | h4
  ·exact hqm h4
  ·exact h.apart.1 h4
 ·rw [hat' y, if_neg hn, updF_other _ _ hn]
  exact (h.vals y hy hn).keep hcc (fun z hz => .inl (List.mem_cons_of_mem _ hz)) hU2
 ·rw [hat' x, if_pos rfl, updF_self]
  have hk := hv.keep hcc (fun z hz => .inl (List.mem_cons_of_mem _ hz)) hU2
  exact .inr ⟨v', rfl, hk.ints, hk.own⟩
 ·show keysOk s'.rows
  rw [hrows]
  exact h.ok.set i (fun h => by simp [noRow] at h)
theorem StMid.gone (h : StMid G w q p sp mb Us φ N t x) (hat : t.at x = []) (hc : Chg [mb] w w2) (hmap : MapF 38 klD okD w2 mb (delF φ x) N') : StOk G w2 q p sp mb Us (delF φ x) N' t := by
 have hqm := ne_blk h.head h.map
 refine ⟨hc.keep h.head (by simpa using hqm), h.slots.keepMap hc h.map.obj h.apart.2, hmap, h.apart, fun y hy => ?_, h.ok, (h.far.mono hc.size).del x⟩
 by_cases e : y = x
 ·subst e
  rw [hat, delF_self]
  exact .inl ⟨rfl, rfl⟩
 ·rw [delF_other _ e]
  exact (h.vals y hy e).keep hc (fun z hz => .inl (by rw [List.mem_singleton.1 hz]; simp)) (fun y hy => .inl hy)
theorem StMid.few (h : StMid G w q p sp mb Us φ N t x) : N < maxLen := by
 have h1 := h.map.card keId (x :: t.s.rows.map (fun r => unId r.key)) (fun y hy hs => by
  by_cases e : y = x
  ·rw [e]; simp
  ·rcases h.vals y hy e with ⟨_, h2⟩ | ⟨h1, _⟩
   ·rw [h2] at hs; cases hs
   ·obtain ⟨j, l, hjl⟩ := List.exists_cons_of_ne_nil h1
    by_cases hmy : mayId y = true
    ·rw [Sto.at_may hmy] at hjl
     have hj : j ∈ upto t.s.rows t.s.rows.length (idKey y) := by rw [hjl]; simp
     obtain ⟨j1, j2, j3⟩ := upto_mem.1 hj
     refine List.mem_cons_of_mem _ (List.mem_map.2 ⟨t.s.rows.getD j noRow, ?_, by rw [j3, (un_key hmy).1]⟩)
     rw [List.getD_eq_getElem?_getD, List.getElem?_eq_getElem j1]
     exact List.getElem_mem _
    ·rw [Sto.at_not (by simpa using hmy)] at hjl; cases hjl)
 obtain ⟨S0, rv0, R0, H0⟩ := h.slots
 have := H0.few
 rw [List.length_cons, List.length_map] at h1
 unfold maxLen
 omega
theorem SS.clear_ok (s : SS) (i : Int) : (s.clear i).2.d.ops <= s.d.ops + 2 /\ (s.clear i).2.d.since.length <= s.d.since.length + 1 /\ (s.clear i).2.d.n = s.d.n := by
 obtain ⟨h1, h2, h3⟩ := s.d.lays_ok (s.pos i) (zeros 64)
 have hn : nsec (zeros 64).length = 1 := by simp [nsec, zeros]
 rw [hn] at h2 h3
 unfold SS.clear
 split
 ·exact ⟨Nat.le_add_right _ _, Nat.le_add_right _ _, rfl⟩
 ·split
  ·exact ⟨Nat.le_add_right _ _, Nat.le_add_right _ _, rfl⟩
  ·split
   ·exact ⟨by dsimp only; omega, h3, h1⟩
   ·exact ⟨by dsimp only; omega, h3, h1⟩
end
section
open Go.RowKit
variable {G : List Nat}
theorem clears_cons (s : SS) (i : Nat) (r : List Nat) : s.clears (i :: r) = if (s.clear i).1 ≠ 0 then s.clear i else (s.clear i).2.clears r := rfl
theorem stdel_any (q p : Nat) (U : List Nat) (t : Sto) (x : Id) (w : World) (h : StAt G w q p U t) (hxo : okD x) (ho : t.s.d.ops <= 800000000) (hw : t.s.d.since.length <= 800000) :
  Calls Tryz.prog 123 #[.pointer (some ⟨q, 0, none⟩), idV x] w fun e w' => e = .returned (.int .i64 (t.del x).1) /\ Std G w w' q p U (t.del x).2 := by
 obtain ⟨sp, mb, Us, φ, N, h, rfl⟩ := h
 obtain ⟨w1, hw1⟩ : ∃ w1, w1 = w.alloc (.cells (idC x) 38) := ⟨_, rfl⟩
 have hc1 : Chg [] w w1 := by rw [hw1]; exact (Chg.refl [] w).alloc _
 have hb1 : w1.heap[w.heap.size]? = some (.cells (idC x) 38 (0, 0)) := by rw [hw1]; exact heap_alloc_new w _
 have H1 := h.keep0 hc1
 obtain ⟨k0, _, _, _⟩ := H1.cells
 have CM := LH (stmade_any q p w1 k0)
 have CY := LH (mayid_any x w1)
 have HB := LH hb1
 have HC1 := LH hc1
 have HW1 := LH hw1
 have HH1 := LH H1
 have HX := LH hxo
 have HUL := LH h.slots.uL
 have hql := blk_lt h.head
 have hml := h.map.lt
 have HST : Hid (∀ w', Chg [] w1 w' -> Std G w w' q p (q :: mb :: Us) t) := LH (fun w' hc => ⟨q :: mb :: Us, ⟨sp, mb, Us, φ, N, H1.keep0 hc, rfl⟩, fun y hy => .inl hy, (hc1.trans hc (by simp)).mono (by simp)⟩)
 clear hw1 hb1 hc1 h hxo H1
 by_cases hm : mayId x = true
 ·have HG : Hid (t.del x = ((t.s.clears (t.at x)).1, { t with s := (t.s.clears (t.at x)).2 })) := LH (by unfold Sto.del; rw [if_neg (by simp [hm])])
  have HM := LH hm
  rw [hm] at CY
  generalize t.del x = r at *
  clear hm
  obtain ⟨xc, xl, xn, xi⟩ := x
  go_enter Tryz.func123, Tryz.ntmps123
  go_wp2_with fail
  rw [<- HW1.out]
  refine CM.out.mono ?_
  rintro e w' ⟨rfl, hq⟩
  subst hq
  obtain ⟨m0, m1, m2, m3⟩ := id_cells HB.out
  go_wp2_with fail
  refine CY.out.mono ?_
  rintro e w2 ⟨rfl, hc2⟩
  have HB2 := LH (hc2.keep HB.out (by simp))
  have HM2 := LH ((HH1.out.keep0 hc2).mid HX.out)
  have HC2 := LH (HC1.out.trans hc2 (by simp))
  clear hc2 m0 m1 m2 m3 k0 CM CY HB
  obtain ⟨v, hlk, hlook⟩ := HM2.out.look HX.out
  obtain ⟨k0, k1, k2, _⟩ := HM2.out.cells
  obtain ⟨m0, m1, m2, m3⟩ := id_cells HB2.out
  obtain ⟨a, cap, hv, hl1, hl2, _⟩ := hlook.ints
  have HLK := LH hlook
  clear hlook
  have hvn : v = .slice a (t.at ⟨xc, xl, xn, xi⟩).length cap := hv
  rw [hvn] at HLK
  subst hv
  go_wp2_with fail
  go_quiet (fail)
  have hcn : Chg [] w2 (w2.drewN nq) := (Chg.refl [] w2).drewN nq
  have HMn := LH (HM2.out.keep0 hcn)
  have HLn := LH (HLK.out.keep hcn (by simp) (fun y hy => .inl hy))
  have HCn := LH (HC2.out.trans hcn (by simp))
  have HBn := LH (hcn.keep HB2.out (by simp))
  have hatl : (t.at ⟨xc, xl, xn, xi⟩).length <= 1000 := by
   rw [Sto.at_may HM.out]
   have h1 := upto_len t.s.rows t.s.rows.length (idKey ⟨xc, xl, xn, xi⟩)
   obtain ⟨S0, rv0, R0, H0⟩ := HM2.out.slots
   have := H0.few
   omega
  clear hlk k0 k1 k2 m0 m1 m2 m3 hcn hl1 hl2 HM2 HLK HB2
  generalize w2.drewN nq = w3 at *
  generalize hal : t.at ⟨xc, xl, xn, xi⟩ = l0 at *
  have HAL := LH hal
  clear hal
  go_wp2_with fail
  go_loopg [5] l0.length (fun g' s5 wr => ∃ (sk : SS) (l : List Nat) (Uk : List Nat) (φk : Id -> Option Value) (Nk : Nat) (a : Option Addr) (cap : Nat), s5 = .slice a l.length cap /\ l.length <= g' /\ l.length <= l0.length /\ Hid (StMid G wr q p sp mb Uk φk Nk ⟨sk, t.whole⟩ ⟨xc, xl, xn, xi⟩ /\
   Sto.at ⟨sk, t.whole⟩ ⟨xc, xl, xn, xi⟩ = l /\ MidLook G wr (q :: mb :: Uk) (.slice a l.length cap) l /\ t.s.clears l0 = sk.clears l /\ (∀ y ∈ Uk, y ∈ Us ∨ w.heap.size <= y) /\ Chg (q :: mb :: Us) w wr /\ wr.heap[w.heap.size]? = some (.cells (idC ⟨xc, xl, xn, xi⟩) 38 (0, 0)) /\ (∀ y ∈ q :: mb :: Uk, y ≠ w.heap.size) /\
   sk.d.ops + 2 * l.length <= t.s.d.ops + 2 * l0.length /\ sk.d.since.length + l.length <= t.s.d.since.length + l0.length))
  case atStart =>
   refine ⟨t.s, l0, Us, φ, N, a, cap, rfl, Nat.le_refl _, Nat.le_refl _, LH ⟨HMn.out, HAL.out, HLn.out, rfl, fun y hy => .inl hy, HCn.out.mono (by simp), HBn.out, fun y hy => ?_, by omega, by omega⟩⟩
   rcases List.mem_cons.1 hy with rfl | hy
   ·omega
   ·rcases List.mem_cons.1 hy with rfl | hy
    ·omega
    ·have := HUL.out y hy; omega
  case round =>
   obtain ⟨sk, l, Uk, φk, Nk, a, cap, rfl, hlg, hll, HR⟩ := hrel
   obtain ⟨hmid, hat, hlook, hcl, hUk, hck, hbk, hne, hop, hsi⟩ := HR.out
   have HMK := LH hmid
   have HAT := LH hat
   have HLK := LH hlook
   have HCL := LH hcl
   have HUK := LH (And.intro hUk (And.intro hck hne))
   have HBK := LH hbk
   clear HR hmid hat hlook hcl hUk hck hbk hne
   cases l with
   | nil =>
    obtain ⟨k0, k1, k2, _⟩ := HMK.out.cells
    have mm := id_cells HBK.out
    have HR : Hid (r = (0, ⟨sk, t.whole⟩)) := LH (by rw [HG.out, HCL.out]; rfl)
    clear HG hlg hll
    go_wp2_with fail
    have HMD := LH (HMK.out.keep0 (Chg.drew (Chg.refl [] wr)))
    refine wp_region_L [(5, fun w' => w'.cell? ⟨q, 2, none⟩ = some (.map (some mb))), (5, fun w' => (w'.cell? ⟨w.heap.size, 0, none⟩ = some (.int .i64 xc) /\ w'.cell? ⟨w.heap.size, 1, none⟩ = some (.int .i64 xl) /\ w'.cell? ⟨w.heap.size, 2, none⟩ = some (.int .i64 xn) /\ w'.cell? ⟨w.heap.size, 3, none⟩ = some (.int .i64 xi)))] (by kernel_rfl) ?_ (fun hHeld => ?_)
    ·exact (HoldC.cons (k2) (HoldC.cons (mm) HoldC.nil))
    refine tk 0 ?_ rfl (by kernel_rfl) (fun _ _ _ h => h) (.inl ⟨by rfl, ?_⟩) hHeld ?_; rotate_left; · (intro w _; go_simp; try with_reducible rfl)
    clear hHeld; intro hHeld; try simp only [gA,gB,gC,Act.put,gD,gE,gF]
    refine tk 1 ?_ rfl (by kernel_rfl) (fun _ _ _ h => h) (.inl ⟨by rfl, ?_⟩) hHeld ?_; rotate_left; · (intro w _; go_simp; try with_reducible rfl)
    clear hHeld; intro hHeld; try simp only [gA,gB,gC,Act.put,gD,gE,gF]
    refine tk 2 ?_ rfl (by kernel_rfl) (fun _ _ _ h => h) (.inl ⟨by rfl, ?_⟩) hHeld ?_; rotate_left; · (intro w _; go_simp; try with_reducible rfl)
    clear hHeld; intro hHeld; try simp only [gA,gB,gC,Act.put,gD,gE,gF]
    refine ld 0 3 ?_ rfl rfl (by kernel_rfl) (fun _ _ _ h => h) (.inl ⟨by rfl, ?_⟩) hHeld ?_; rotate_left; · (intro w hSw; (try dsimp only at hSw); go_simp; try with_reducible rfl)
    clear hHeld; intro hHeld; try simp only [gA,gB,gC,Act.put,gD,gE,gF]
    refine ld 1 4 ?_ rfl rfl (by kernel_rfl) (fun _ _ _ h => h) (.inl ⟨by rfl, ?_⟩) hHeld ?_; rotate_left; · (intro w hSw; (try dsimp only at hSw); go_simp; try with_reducible rfl)
    clear hHeld; intro hHeld; try simp only [gA,gB,gC,Act.put,gD,gE,gF]
    refine wpAnyL_ready (rs := [5]) (by kernel_rfl) (by simp) (AllReadyL.cons (o := _) rfl (fun K hK => ?_) AllReadyL.nil)
    try simp only [gA,gB,gC]
    refine wp_del keId wr.drew (.tmp 51) (.tmp 52) 96 (by rfl) 132 Tryz.underlying96 mb Nk φk (by rfl) HMD.out.map ⟨xc, xl, xn, xi⟩ (by rfl) HX.out ?_
    intro w6 hm6 hc6 hs6
    have HF : Hid (Std G w w6 q p (q :: mb :: Us) ⟨sk, t.whole⟩) := LH (by
     have h1 := HMD.out.gone HAT.out hc6 hm6
     exact h1.std HUK.out.1 ((HUK.out.2.1.drew).trans hc6 (fun y hy => .inl (by rw [List.mem_singleton.1 hy]; simp))))
    clear hm6 hc6 hs6
    clear hHeld
    refine hK.out _ _ ?_ (fun hHeld => ?_)
    ·exact (HoldC.past (by kernel_rfl) (HoldC.past (by kernel_rfl) HoldC.nil))
    clear hK K
    try simp only [gA,gB,gC,Act.put,gD,gE,gF]
    refine wpAnyL_done (by kernel_rfl) ?_ _
    clear hHeld
    go_wp2_with fail
    go_ret
    rw [HR.out]
    exact ⟨rfl, HF.out⟩
   | cons i rest =>
    obtain ⟨g, o, cap', hv, hl1, hl2, hc0, hmk⟩ := HLK.out.first
    obtain ⟨rfl, _, rfl⟩ := Value.slice.inj hv
    have HMK2 := LH hmk
    obtain ⟨k0, k1, k2, _⟩ := HMK.out.cells
    have hlen : ((i :: rest).length : Int) = (rest.length : Int) + 1 := by simp
    have hrl : rest.length + 1 <= l0.length := hll
    have hgk : rest.length + 1 <= gk := hlg
    have hbig : rest.length + 1 <= 9223372036854775807 := by omega
    have HMD := LH (HMK.out.keep0 (Chg.drew (Chg.refl [] wr)))
    have CC := LH (sclear_any sp p Uk sk (i : Int) wr.drew HMD.out.slots (by simp at hop; omega) (by simp at hsi; omega))
    have HCL2 : Hid (t.s.clears l0 = if (sk.clear (i : Int)).1 ≠ 0 then sk.clear (i : Int) else (sk.clear (i : Int)).2.clears rest) := LH (by rw [HCL.out, clears_cons])
    obtain ⟨z1, z2, z3⟩ := sk.clear_ok (i : Int)
    have hcn := @SS.clear_not sk (i : Int)
    have hcd := @SS.clear_done sk (i : Int)
    generalize sk.clear (i : Int) = z at *
    obtain ⟨ze, zs⟩ := z
    dsimp only at HCL2 z1 z2 z3 hcn hcd
    have HCN := LH (And.intro hcn hcd)
    unfold SidPost at CC
    clear hv hmk hlg hll hcn hcd HCL
    rw [show (i :: rest).length = rest.length + 1 from rfl]
    simp only [List.length_cons] at hop hsi
    go_wp2_with fail
    refine wp_region_L [(7, fun w' => w'.cell? ⟨q, 1, none⟩ = some (.pointer (some ⟨sp, 0, none⟩))), (7, fun w' => w'.cell? ⟨g, o, none⟩ = some (.int .i64 (i : Int)))] (by kernel_rfl) ?_ (fun hHeld => ?_)
    ·exact (HoldC.cons (k1) (HoldC.cons (hc0) HoldC.nil))
    refine tk 0 ?_ rfl (by kernel_rfl) (fun _ _ _ h => h) (.inl ⟨by rfl, ?_⟩) hHeld ?_; rotate_left; · (intro w _; go_simp; try with_reducible rfl)
    clear hHeld; intro hHeld; try simp only [gA,gB,gC,Act.put,gD,gE,gF]
    refine tk 1 ?_ rfl (by kernel_rfl) (fun _ _ _ h => h) (.inl ⟨by rfl, ?_⟩) hHeld ?_; rotate_left; · (intro w _; go_simp; try with_reducible rfl)
    clear hHeld; intro hHeld; try simp only [gA,gB,gC,Act.put,gD,gE,gF]
    refine tk 2 ?_ rfl (by kernel_rfl) (fun _ _ _ h => h) (.inl ⟨by rfl, ?_⟩) hHeld ?_; rotate_left; · (intro w _; go_simp; try with_reducible rfl)
    clear hHeld; intro hHeld; try simp only [gA,gB,gC,Act.put,gD,gE,gF]
    refine ld 0 3 ?_ rfl rfl (by kernel_rfl) (fun _ _ _ h => h) (.inl ⟨by rfl, ?_⟩) hHeld ?_; rotate_left; · (intro w hSw; (try dsimp only at hSw); go_simp; try with_reducible rfl)
    clear hHeld; intro hHeld; try simp only [gA,gB,gC,Act.put,gD,gE,gF]
    refine tk 4 ?_ rfl (by kernel_rfl) (fun _ _ _ h => h) (.inl ⟨by rfl, ?_⟩) hHeld ?_; rotate_left; · (intro w _; go_simp; try with_reducible rfl)
    clear hHeld; intro hHeld; try simp only [gA,gB,gC,Act.put,gD,gE,gF]
    refine tk 5 ?_ rfl (by kernel_rfl) (fun _ _ _ h => h) (.inl ⟨by rfl, ?_⟩) hHeld ?_; rotate_left; · (intro w _; go_simp; try with_reducible rfl)
    clear hHeld; intro hHeld; try simp only [gA,gB,gC,Act.put,gD,gE,gF]
    refine ld 1 6 ?_ rfl rfl (by kernel_rfl) (fun _ _ _ h => h) (.inl ⟨by rfl, ?_⟩) hHeld ?_; rotate_left; · (intro w hSw; (try dsimp only at hSw); go_simp; try with_reducible rfl)
    clear hHeld; intro hHeld; try simp only [gA,gB,gC,Act.put,gD,gE,gF]
    refine wpAnyL_ready (rs := [7]) (by kernel_rfl) (by simp) (AllReadyL.cons (o := _) rfl (fun K hK => ?_) AllReadyL.nil)
    try simp only [gA,gB,gC]
    go_simp
    refine CC.out.mono ?_
    rintro e w5 ⟨rfl, hs5⟩
    have HS5 := LH hs5
    clear hs5 CC
    clear hHeld
    refine hK.out _ _ ?_ (fun hHeld => ?_)
    ·exact (HoldC.past (by kernel_rfl) (HoldC.past (by kernel_rfl) HoldC.nil))
    clear hK K
    try simp only [gA,gB,gC,Act.put,gD,gE,gF]
    refine wpAnyL_ready (rs := [8]) (by kernel_rfl) (by simp) (AllReadyL.cons (o := _) rfl (fun K hK => ?_) AllReadyL.nil)
    try simp only [gA,gB,gC]
    go_simp
    clear hHeld
    refine hK.out _ _ ?_ (fun hHeld => ?_)
    ·exact (HoldC.past (by kernel_rfl) (HoldC.past (by kernel_rfl) HoldC.nil))
    clear hK K
    try simp only [gA,gB,gC,Act.put,gD,gE,gF]
    refine wpAnyL_done (by kernel_rfl) ?_ _
    clear hHeld
    have hdw : Chg [] wr wr.drew := Chg.drew (Chg.refl [] wr)
    by_cases he : ze = 0
    ·subst he
     rw [if_neg (by simp)] at HCL2
     obtain ⟨hhas, hus, hrows⟩ := HCN.out.2 rfl
     obtain ⟨U5, g1, g2, g3⟩ := HS5.out
     have hid5 : w5.heap[w.heap.size]? = some (.cells (idC ⟨xc, xl, xn, xi⟩) 38 (0, 0)) := g3.keep (hdw.keep HBK.out (by simp)) (fun hm => HUK.out.2.2 _ (by simp [hm]) rfl)
     have c5 := g3.cell (hdw.cell k2 (by simp)) HMD.out.apart.1
     have HM5 := LH (HMD.out.map.chg g3 HMD.out.apart.2)
     have mm5 := id_cells hid5
     have HI5 := LH hid5
     have hNN := HMD.out.few
     have HRW := LH hrows
     have HLK5 := LH (HMK2.out.keep hdw (by simp) (fun y hy => .inl hy))
     have hc1 : 1 <= cap := by omega
     clear hid5 g1 g2 g3 hhas hus hrows k0 k1 k2 hc0
     have h1r : (1 : Int) <= (rest.length : Int) + 1 := by omega
     have hcapC : cap = 1 ∨ ¬ cap = 1 := by omega
     rcases hcapC with hcap | hcap
     all_goals
      go_wp2_with fail
      refine wp_region_L [(7, fun w' => w'.cell? ⟨q, 2, none⟩ = some (.map (some mb))), (7, fun w' => (w'.cell? ⟨w.heap.size, 0, none⟩ = some (.int .i64 xc) /\ w'.cell? ⟨w.heap.size, 1, none⟩ = some (.int .i64 xl) /\ w'.cell? ⟨w.heap.size, 2, none⟩ = some (.int .i64 xn) /\ w'.cell? ⟨w.heap.size, 3, none⟩ = some (.int .i64 xi)))] (by kernel_rfl) ?_ (fun hHeld => ?_)
      ·exact (HoldC.cons (c5) (HoldC.cons (mm5) HoldC.nil))
      refine tk 0 ?_ rfl (by kernel_rfl) (fun _ _ _ h => h) (.inl ⟨by rfl, ?_⟩) hHeld ?_; rotate_left; · (intro w _; go_simp; try with_reducible rfl)
      clear hHeld; intro hHeld; try simp only [gA,gB,gC,Act.put,gD,gE,gF]
      refine tk 1 ?_ rfl (by kernel_rfl) (fun _ _ _ h => h) (.inl ⟨by rfl, ?_⟩) hHeld ?_; rotate_left; · (intro w _; go_simp; try with_reducible rfl)
      clear hHeld; intro hHeld; try simp only [gA,gB,gC,Act.put,gD,gE,gF]
      refine tk 2 ?_ rfl (by kernel_rfl) (fun _ _ _ h => h) (.inl ⟨by rfl, ?_⟩) hHeld ?_; rotate_left; · (intro w _; go_simp; try with_reducible rfl)
      clear hHeld; intro hHeld; try simp only [gA,gB,gC,Act.put,gD,gE,gF]
      refine ld 0 3 ?_ rfl rfl (by kernel_rfl) (fun _ _ _ h => h) (.inl ⟨by rfl, ?_⟩) hHeld ?_; rotate_left; · (intro w hSw; (try dsimp only at hSw); go_simp; try with_reducible rfl)
      clear hHeld; intro hHeld; try simp only [gA,gB,gC,Act.put,gD,gE,gF]
      refine ld 1 4 ?_ rfl rfl (by kernel_rfl) (fun _ _ _ h => h) (.inl ⟨by rfl, ?_⟩) hHeld ?_; rotate_left; · (intro w hSw; (try dsimp only at hSw); go_simp; try with_reducible rfl)
      clear hHeld; intro hHeld; try simp only [gA,gB,gC,Act.put,gD,gE,gF]
      refine tk 5 ?_ rfl (by kernel_rfl) (fun _ _ _ h => h) (.inl ⟨by rfl, ?_⟩) hHeld ?_; rotate_left; · (intro w _; go_simp; try with_reducible rfl)
      clear hHeld; intro hHeld; try simp only [gA,gB,gC,Act.put,gD,gE,gF]
      refine tk 6 ?_ rfl (by kernel_rfl) (fun _ _ _ h => h) (.inl ⟨by rfl, ?_⟩) hHeld ?_; rotate_left; · (intro w _; go_simp; try with_reducible rfl)
      clear hHeld; intro hHeld; try simp only [gA,gB,gC,Act.put,gD,gE,gF]
      refine wpAnyL_ready (rs := [7]) (by kernel_rfl) (by simp) (AllReadyL.cons (o := _) rfl (fun K hK => ?_) AllReadyL.nil)
      try simp only [gA,gB,gC]
      have HMW := LH (HM5.out.chg (Chg.drew (Chg.refl [] w5)) (by simp))
      refine wp_upd keId w5.drew (.tmp 44) (.tmp 45) (.tmp 47) 96 (by rfl) 132 Tryz.underlying96 mb Nk φk (by rfl) HMW.out hNN ⟨xc, xl, xn, xi⟩ (by rfl) HX.out (.slice (some ⟨g, if cap = 1 then o else o + 1, none⟩) rest.length (cap - 1)) (by first | (rw [if_neg hcap]; rfl) | (rw [if_pos hcap, hcap]; rfl)) ?_
      intro w6 hm6 hc6 hs6
      have hF := HMD.out.cleared HM.out HAT.out HS5.out HRW.out ((Chg.drew (Chg.refl [mb] w5)).trans hc6 (fun y hy => .inl hy)) hm6 HLK5.out
      have hid6 : w6.heap[w.heap.size]? = some (.cells (idC ⟨xc, xl, xn, xi⟩) 38 (0, 0)) := hc6.keep (show w5.drew.heap[w.heap.size]? = _ from HI5.out) (by simp; omega)
      have HI6 := LH hid6
      have HF := LH hF
      clear hF hm6 hc6 hs6 hid6
      clear hHeld
      refine hK.out _ _ ?_ (fun hHeld => ?_)
      ·exact (HoldC.past (by kernel_rfl) (HoldC.past (by kernel_rfl) HoldC.nil))
      clear hK K
      try simp only [gA,gB,gC,Act.put,gD,gE,gF]
      refine wpAnyL_done (by kernel_rfl) ?_ _
      clear hHeld
      obtain ⟨U6, f1, f2, f3, f4⟩ := HF.out
      obtain ⟨v6, hlk6, hlook6⟩ := f1.look HX.out
      obtain ⟨k0, k1, k2, _⟩ := f1.cells
      obtain ⟨m0, m1, m2, m3⟩ := id_cells HI6.out
      rw [f2] at hlook6
      obtain ⟨a6, cap6, hv6, _, _, _⟩ := hlook6.ints
      subst hv6
      have HL6 := LH hlook6
      have HF1 := LH f1
      have HF2 := LH f2
      have HF3 := LH (And.intro f3 f4)
      clear f1 f2 f3 f4 hlook6
      go_wp2_with fail
      go_quiet (fail)
      have hcn : Chg [] w6 (w6.drewN nq) := (Chg.refl [] w6).drewN nq
      have hwr := HUK.out.2.1.size
      have HREL : Hid (StMid G (w6.drewN nq) q p sp mb U6 (updF φk ⟨xc, xl, xn, xi⟩ (.slice (some ⟨g, if cap = 1 then o else o + 1, none⟩) rest.length (cap - 1))) (if (φk ⟨xc, xl, xn, xi⟩).isSome = true then Nk else Nk + 1) ⟨zs, t.whole⟩ ⟨xc, xl, xn, xi⟩ /\
        Sto.at ⟨zs, t.whole⟩ ⟨xc, xl, xn, xi⟩ = rest /\ MidLook G (w6.drewN nq) (q :: mb :: U6) (.slice a6 rest.length cap6) rest /\ t.s.clears l0 = zs.clears rest /\ (∀ y ∈ U6, y ∈ Us ∨ w.heap.size <= y) /\ Chg (q :: mb :: Us) w (w6.drewN nq) /\ (w6.drewN nq).heap[w.heap.size]? = some (.cells (idC ⟨xc, xl, xn, xi⟩) 38 (0, 0)) /\ (∀ y ∈ q :: mb :: U6, y ≠ w.heap.size) /\
        zs.d.ops + 2 * rest.length <= t.s.d.ops + 2 * l0.length /\ zs.d.since.length + rest.length <= t.s.d.since.length + l0.length) := LH (by
       have hid := blk_lt HBK.out
       refine ⟨HF1.out.keep0 hcn, HF2.out, HL6.out.keep hcn (by simp) (fun y hy => .inl hy), HCL2.out, fun y hy => ?_, ((HUK.out.2.1.drew).trans HF3.out.2 (fun y hy => ?_)).trans hcn (by simp), HI6.out, fun y hy => ?_, by omega, by omega⟩
       ·rcases HF3.out.1 y hy with h | h
        ·exact HUK.out.1 y h
        ·have h' : wr.heap.size <= y := h
         exact .inr (by omega)
       ·rcases List.mem_cons.1 hy with rfl | hy
        ·exact .inl (by simp)
        ·rcases HUK.out.1 y hy with h | h
         ·exact .inl (by simp [h])
         ·exact .inr h
       ·rcases List.mem_cons.1 hy with rfl | hy
        ·omega
        ·rcases List.mem_cons.1 hy with rfl | hy
         ·omega
         ·rcases HF3.out.1 y hy with h | h
          ·exact HUK.out.2.2 y (by simp [h])
          ·have h' : wr.heap.size <= y := h
           omega)
      go_wp2_with fail
      go_roundg rest.length
      case measure => omega
      case rel => exact ⟨zs, rest, U6, _, _, a6, cap6, rfl, Nat.le_refl _, by omega, HREL⟩
    ·have HR : Hid (r = (ze, ⟨zs, t.whole⟩)) := LH (by
      have h1 := HCL2.out
      rw [if_pos he] at h1
      rw [HG.out, h1])
     have HF : Hid (Std G w w5 q p (q :: mb :: Us) ⟨zs, t.whole⟩) := LH (by
      obtain ⟨U5, h1, h2, h3⟩ := HMD.out.slotsDid HS5.out (HCN.out.1 he)
      have hne : Sto.at ⟨zs, t.whole⟩ ⟨xc, xl, xn, xi⟩ ≠ [] := by
       have h4 := HAT.out
       unfold Sto.at at h4 ⊢
       rw [HCN.out.1 he]
       rw [h4]; simp
      have hd := hdw.size
      refine (h1.full hne).std (fun y hy => ?_) ((HUK.out.2.1.drew).trans h3 (fun y hy => ?_))
      ·rcases h2 y hy with h | h
       ·exact HUK.out.1 y h
       ·have := HUK.out.2.1.size; exact .inr (by omega)
      ·rcases HUK.out.1 y hy with h | h
       ·exact .inl (by simp [h])
       ·exact .inr h)
     have q0 : (ze != 0) = true := by simp [he]
     clear he HG HCL2
     go_wp2
     go_ret
     rw [HR.out]
     exact ⟨rfl, HF.out⟩
 ·have hm' : mayId x = false := by simpa using hm
  have HG : Hid (t.del x = (1, t)) := LH (by unfold Sto.del; rw [if_pos hm'])
  rw [HG.out]
  rw [hm'] at CY
  clear hm hm'
  obtain ⟨xc, xl, xn, xi⟩ := x
  go_enter Tryz.func123, Tryz.ntmps123
  go_wp2_with fail
  rw [<- HW1.out]
  refine CM.out.mono ?_
  rintro e w' ⟨rfl, hq⟩
  subst hq
  obtain ⟨m0, m1, m2, m3⟩ := id_cells HB.out
  go_wp2_with fail
  refine CY.out.mono ?_
  rintro e w2 ⟨rfl, hc2⟩
  have HC2 := LH hc2
  clear hc2
  go_wp2
  go_ret
  exact ⟨rfl, HST.out _ HC2.out⟩
end
section
open Go.RowKit Go.Sort Go.Lib
theorem flatMap_len {α : Type} (enc : α -> List Value) {k : Nat} (hk : ∀ x, (enc x).length = k) : ∀ l : List α, (l.flatMap enc).length = l.length * k
 | [] => by simp
 | x :: r => by rw [List.flatMap_cons, List.length_append, hk, flatMap_len enc hk r, List.length_cons, Nat.add_mul]; omega
theorem flatMap_at {α : Type} [Inhabited α] (enc : α -> List Value) {k : Nat} (hk : ∀ x, (enc x).length = k) : ∀ (l : List α) (i j : Nat), i < l.length -> j < k -> (l.flatMap enc)[i * k + j]? = (enc l[i]!)[j]?
 | [], i, j, h, _ => by simp at h
 | x :: r, 0, j, h, hj => by
  rw [List.flatMap_cons, Nat.zero_mul, Nat.zero_add, List.getElem?_append_left (by rw [hk]; exact hj)]; rfl
 | x :: r, i + 1, j, h, hj => by
  rw [List.flatMap_cons, List.getElem?_append_right (by rw [hk, Nat.add_mul]; omega), hk, show (i + 1) * k + j - k = i * k + j by rw [Nat.add_mul]; omega]
  exact flatMap_at enc hk r i j (by simpa using h) hj
theorem flat_eq {α : Type} [Inhabited α] (enc : α -> List Value) {k : Nat} (hk : ∀ x, (enc x).length = k) (l : List α) : (flatK enc k l.toArray).toList = l.flatMap enc := by
 apply List.ext_getElem?
 intro t
 by_cases ht : t < l.length * k
 ·have k0 : 0 < k := by
   rcases Nat.eq_zero_or_pos k with h | h
   ·subst h; simp at ht
   ·exact h
  have hi : t / k < l.length := (Nat.div_lt_iff_lt_mul k0).2 ht
  have hj : t % k < k := Nat.mod_lt _ k0
  have e : t = t / k * k + t % k := by rw [Nat.mul_comm]; exact (Nat.div_add_mod t k).symm
  rw [Array.getElem?_toList, Array.getElem?_eq_getElem (by simpa using ht)]
  have h1 := get_flatK enc k l.toArray t (by simpa using ht)
  rw [getElem!_pos _ t (by simpa using ht)] at h1
  rw [h1]
  conv => rhs; rw [e]
  rw [flatMap_at enc hk l _ _ hi hj]
  have h2 : l.toArray[t / k]! = l[t / k]! := by simp
  rw [h2, getElem!_pos _ (t % k) (by rw [hk]; exact hj), List.getElem?_eq_getElem]
 ·rw [List.getElem?_eq_none (by simp; omega), List.getElem?_eq_none (by rw [flatMap_len enc hk]; omega)]
theorem holds_row {α : Type} [Inhabited α] (enc : α -> List Value) {k : Nat} (hk : ∀ x, (enc x).length = k) {w : World} {g : Nat} {cur : Array Value} {e : TypeId} {ss : List α} (hb : w.heap[g]? = some (.cells cur e (0, 0))) (ht : cur.toList.take (ss.length * k) = ss.flatMap enc) : HoldsK enc k w g 0 ss.toArray := by
 intro j hj
 have hj' : j < ss.length * k := by simpa using hj
 rw [Nat.zero_add]
 have h1 : (flatK enc k ss.toArray)[j]! = (ss.flatMap enc)[j]'(by rw [flatMap_len enc hk]; exact hj') := by
  rw [getElem!_pos _ j hj]
  have := flat_eq enc hk ss
  rw [<- Array.getElem_toList]
  simp only [this]
 have h2 : cur[j]? = some ((ss.flatMap enc)[j]'(by rw [flatMap_len enc hk]; exact hj')) := by
  rw [<- Array.getElem?_toList, <- List.getElem?_take_of_lt hj', ht, List.getElem?_eq_getElem]
 refine ⟨?_, blk_frozen hb j⟩
 rw [blk_cell hb j _ h2, h1]; rfl
theorem heap_sortedK {w : World} {g n : Nat} {os : Array Obj} {cur : Array Value} {e : TypeId} {fr : Nat × Nat} (d : Array Value) (hb : w.heap[g]? = some (.cells cur e fr)) :
  (grow (putRow id (Sort.ahead w n) g 0 d) os).heap[g]? = some (.cells (putCells id 0 d cur) e fr) := by
 have hg : g < w.heap.size := (Array.getElem?_eq_some_iff.1 hb).1
 rw [heap_grow_old _ _ (by simpa using hg)]
 simp [putRow, mapBlock, Sort.ahead, Array.getElem?_modify, hb, onCells]
theorem chg_sortedK {α : Type} [Inhabited α] (enc : α -> List Value) (k : Nat) {w : World} {g n : Nat} {os : Array Obj} (d : Array α) : Chg [g] w (sortWorldK enc k w g 0 n d os) := by
 refine ⟨rfl, rfl, rfl, by simp [sortWorldK, putRowK], fun j hj hne => ?_⟩
 unfold sortWorldK putRowK
 rw [heap_grow_old _ _ (by simpa using hj)]
 have : g ≠ j := fun e => hne (by simp [e])
 simp [putRow, mapBlock, Sort.ahead, Array.getElem?_modify, this]
theorem take_putK (cur : Array Value) (F : Array Value) (h : F.size <= cur.size) : (putCells id 0 F cur).toList.take F.size = F.toList := by
 apply List.ext_getElem?
 intro j
 by_cases hj : j < F.size
 ·rw [List.getElem?_take_of_lt hj, Array.getElem?_toList, Array.getElem?_toList]
  simp [putCells, hj, show j < cur.size by omega]
 ·rw [List.getElem?_take_eq_none (by omega), List.getElem?_eq_none (by simp; omega)]
theorem ownsRow_sortedK {α : Type} [Inhabited α] (enc : α -> List Value) {k : Nat} (hk : ∀ x, (enc x).length = k) {w : World} {base g cap n : Nat} {e : TypeId} {os : Array Obj} {cur : Array Value} {m : Nat} {ts : List α} (hl : ts.length = m) (hbase : base <= g) (hb : w.heap[g]? = some (.cells cur e (0, 0)))
  (h1 : m <= cap) (h2 : cap <= maxLen) (h3 : cur.size = cap * k) :
  (sortWorldK enc k w g 0 n ts.toArray os).ownsRow base e k (.slice (some ⟨g, 0, none⟩) m cap) m (ts.flatMap enc) := by
 refine ⟨by rw [flatMap_len enc hk, hl], .inr ⟨g, cap, _, rfl, hbase, heap_sortedK _ hb, h1, h2, by simp [putCells, h3], ?_⟩⟩
 have hs : (flatK enc k ts.toArray).size = m * k := by simp [hl]
 rw [<- hs, take_putK _ _ (by rw [hs, h3]; exact Nat.mul_le_mul_right k h1), flat_eq enc hk]
end
section
open Go.RowKit Go.Sort
def cmpI (x y : Int) : Int := if x < y then -1 else if y < x then 1 else 0
def firstNZ : List Int -> Int
 | [] => 0
 | x :: r => if x ≠ 0 then x else firstNZ r
def cmpId (x y : Id) : Int := firstNZ [cmpI x.c y.c, cmpI x.l y.l, cmpI x.n y.n, cmpI x.i y.i]
def idLt (a b : Id) : Prop := a.c < b.c ∨ (a.c = b.c /\ (a.l < b.l ∨ (a.l = b.l /\ (a.n < b.n ∨ (a.n = b.n /\ a.i < b.i)))))
instance (a b : Id) : Decidable (idLt a b) := inferInstanceAs (Decidable (_ ∨ _))
theorem cmpI_spec (x y : Int) : (x < y /\ cmpI x y = -1) ∨ (y < x /\ cmpI x y = 1) ∨ (x = y /\ cmpI x y = 0) := by
 unfold cmpI
 by_cases h : x < y
 ·exact .inl ⟨h, if_pos h⟩
 ·rw [if_neg h]
  by_cases h2 : y < x
  ·exact .inr (.inl ⟨h2, if_pos h2⟩)
  ·exact .inr (.inr ⟨by omega, if_neg h2⟩)
theorem cmpId_lt (a b : Id) : cmpId a b < 0 ↔ idLt a b := by
 unfold cmpId idLt firstNZ firstNZ firstNZ firstNZ firstNZ
 rcases cmpI_spec a.c b.c with ⟨h1, e1⟩ | ⟨h1, e1⟩ | ⟨h1, e1⟩ <;> rcases cmpI_spec a.l b.l with ⟨h2, e2⟩ | ⟨h2, e2⟩ | ⟨h2, e2⟩ <;> rcases cmpI_spec a.n b.n with ⟨h3, e3⟩ | ⟨h3, e3⟩ | ⟨h3, e3⟩ <;>
  rcases cmpI_spec a.i b.i with ⟨h4, e4⟩ | ⟨h4, e4⟩ | ⟨h4, e4⟩ <;> rw [e1, e2, e3, e4] <;> simp <;> omega
theorem ltI (x y : Id) : ltOf cmpId x y = decide (idLt x y) := by
 unfold ltOf
 rw [Bool.eq_iff_iff]; simp [cmpId_lt]
theorem idLt_irrefl (a : Id) : ¬ idLt a a := by unfold idLt; omega
theorem idLt_trans {a b c : Id} (h1 : idLt a b) (h2 : idLt b c) : idLt a c := by unfold idLt at *; omega
theorem idLt_or (a b : Id) : idLt a b ∨ a = b ∨ idLt b a := by
 obtain ⟨a1, a2, a3, a4⟩ := a
 obtain ⟨b1, b2, b3, b4⟩ := b
 unfold idLt
 simp only [Id.mk.injEq]
 omega
theorem swoI : SWO (ltOf cmpId) where
 irrefl x := by rw [ltI]; simp [idLt_irrefl]
 trans x y z h1 h2 := by
  rw [ltI, decide_eq_true_eq] at *
  exact idLt_trans h1 h2
 ntrans x y z h1 h2 := by
  rw [ltI, decide_eq_false_iff_not] at *
  unfold idLt at *
  omega
theorem totI (x y : Id) (h1 : ltOf cmpId x y = false) (h2 : ltOf cmpId y x = false) : x = y := by
 rw [ltI, decide_eq_false_iff_not] at *
 rcases idLt_or x y with h | h | h
 ·exact absurd h h1
 ·exact h
 ·exact absurd h h2
abbrev leI (x y : Id) : Bool := !ltOf cmpId y x
theorem leI_iff (x y : Id) : leI x y = true ↔ idLt x y ∨ x = y := by
 unfold leI
 rw [ltI]
 simp only [Bool.not_eq_true', decide_eq_false_iff_not]
 rcases idLt_or x y with h | h | h
 ·exact ⟨fun _ => .inl h, fun _ h2 => idLt_irrefl _ (idLt_trans h h2)⟩
 ·subst h; exact ⟨fun _ => .inr rfl, fun _ => idLt_irrefl _⟩
 ·exact ⟨fun h2 => absurd h h2, fun h2 => by
   rcases h2 with h2 | h2
   ·exact absurd (idLt_trans h h2) (idLt_irrefl _)
   ·subst h2; exact absurd h (idLt_irrefl _)⟩
theorem leI_trans (a b c : Id) (h1 : leI a b = true) (h2 : leI b c = true) : leI a c = true := by
 rw [leI_iff] at *
 rcases h1 with h1 | rfl
 ·rcases h2 with h2 | rfl
  ·exact .inl (idLt_trans h1 h2)
  ·exact .inl h1
 ·exact h2
theorem leI_total (a b : Id) : (leI a b || leI b a) = true := by
 rw [Bool.or_eq_true, leI_iff, leI_iff]
 rcases idLt_or a b with h | h | h
 ·exact .inl (.inl h)
 ·exact .inl (.inr h)
 ·exact .inr (.inl h)
theorem sortedI_eq {l m : List Id} (hl : l.Nodup) (hm : m.Nodup) (h : ∀ x, x ∈ l ↔ x ∈ m) : l.mergeSort leI = m.mergeSort leI := by
 have hp : l.Perm m := (List.perm_ext_iff_of_nodup hl hm).2 h
 have hs : ∀ l : List Id, (l.mergeSort leI).Pairwise (fun x y => leI x y = true) := fun l => List.pairwise_mergeSort leI_trans leI_total l
 refine List.Perm.eq_of_pairwise (le := fun x y => leI x y = true) (fun a b _ _ h1 h2 => ?_) (hs _) (hs _) ((List.mergeSort_perm _ _).trans (hp.trans (List.mergeSort_perm _ _).symm))
 rw [leI_iff] at h1 h2
 rcases h1 with h1 | h1
 ·rcases h2 with h2 | h2
  ·exact absurd (idLt_trans h1 h2) (idLt_irrefl _)
  ·exact h2.symm
 ·exact h1
def isFirst (rows : List SRow) (j : Nat) : Bool := (rows.getD j noRow).used && (upto rows j (rows.getD j noRow).key).isEmpty
def firsts (rows : List SRow) : List Id := ((List.range rows.length).filter (isFirst rows)).map (fun j => unId (rows.getD j noRow).key)
def Sto.ids (t : Sto) : List Id := (firsts t.s.rows).mergeSort leI
theorem row_mem {rows : List SRow} {j : Nat} (h : j < rows.length) : rows.getD j noRow ∈ rows := by
 rw [List.getD_eq_getElem?_getD, List.getElem?_eq_getElem h]
 exact List.getElem_mem _
theorem mem_isFirst {rows : List SRow} {j : Nat} : isFirst rows j = true ↔ (rows.getD j noRow).used = true /\ ∀ k, k < j -> ¬ ((rows.getD k noRow).used = true /\ (rows.getD k noRow).key = (rows.getD j noRow).key) := by
 unfold isFirst
 rw [Bool.and_eq_true, List.isEmpty_iff]
 constructor
 ·rintro ⟨h1, h2⟩
  refine ⟨h1, fun k hk hh => ?_⟩
  have : k ∈ upto rows j (rows.getD j noRow).key := upto_mem.2 ⟨hk, hh.1, hh.2⟩
  rw [h2] at this
  cases this
 ·rintro ⟨h1, h2⟩
  refine ⟨h1, ?_⟩
  cases hu : upto rows j (rows.getD j noRow).key with
  | nil => rfl
  | cons k r =>
   have : k ∈ upto rows j (rows.getD j noRow).key := by rw [hu]; simp
   obtain ⟨a, b, c⟩ := upto_mem.1 this
   exact absurd ⟨b, c⟩ (h2 k a)
theorem mem_firsts {t : Sto} (hk : keysOk t.s.rows) (x : Id) : x ∈ firsts t.s.rows ↔ t.at x ≠ [] := by
 unfold firsts
 rw [List.mem_map]
 constructor
 ·rintro ⟨j, hj, rfl⟩
  obtain ⟨h1, h2⟩ := List.mem_filter.1 hj
  have hjl := List.mem_range.1 h1
  obtain ⟨hu, _⟩ := mem_isFirst.1 h2
  obtain ⟨hm, he⟩ := un_back (hk _ (row_mem hjl) hu)
  rw [Sto.at_may hm]
  intro h0
  have : j ∈ upto t.s.rows t.s.rows.length (idKey (unId (t.s.rows.getD j noRow).key)) := upto_mem.2 ⟨hjl, hu, he⟩
  rw [h0] at this
  cases this
 ·intro h
  by_cases hm : mayId x = true
  ·rw [Sto.at_may hm] at h
   cases hu : upto t.s.rows t.s.rows.length (idKey x) with
   | nil => exact absurd hu h
   | cons j r =>
    have hj : j ∈ upto t.s.rows t.s.rows.length (idKey x) := by rw [hu]; simp
    obtain ⟨a, b, c⟩ := upto_mem.1 hj
    refine ⟨j, List.mem_filter.2 ⟨List.mem_range.2 a, mem_isFirst.2 ⟨b, fun k hkj hh => ?_⟩⟩, by rw [c, (un_key hm).1]⟩
    rw [c] at hh
    have hk2 : k ∈ upto t.s.rows t.s.rows.length (idKey x) := upto_mem.2 ⟨by omega, hh.1, hh.2⟩
    have hpw : (upto t.s.rows t.s.rows.length (idKey x)).Pairwise (· < ·) := List.pairwise_lt_range.filter _
    rw [hu] at hpw hk2
    rcases List.mem_cons.1 hk2 with h3 | h3
    ·omega
    ·have := (List.pairwise_cons.1 hpw).1 k h3
     omega
  ·rw [Sto.at_not (by simpa using hm)] at h
   exact absurd rfl h
theorem firsts_nodup {t : Sto} (hk : keysOk t.s.rows) : (firsts t.s.rows).Nodup := by
 unfold firsts List.Nodup
 rw [List.pairwise_map]
 refine List.Pairwise.imp_of_mem ?_ (List.pairwise_lt_range.filter (isFirst t.s.rows))
 intro a b ha hb hab e
 obtain ⟨ha1, ha2⟩ := List.mem_filter.1 ha
 obtain ⟨hb1, hb2⟩ := List.mem_filter.1 hb
 obtain ⟨hau, _⟩ := mem_isFirst.1 ha2
 obtain ⟨hbu, hb3⟩ := mem_isFirst.1 hb2
 have h1 := (un_back (hk _ (row_mem (List.mem_range.1 ha1)) hau)).2
 have h2 := (un_back (hk _ (row_mem (List.mem_range.1 hb1)) hbu)).2
 exact hb3 a hab ⟨hau, by rw [h1, h2, e]⟩
theorem Sto.mem_ids {t : Sto} (hk : keysOk t.s.rows) (x : Id) : x ∈ t.ids ↔ t.at x ≠ [] := by
 unfold Sto.ids
 rw [List.mem_mergeSort, mem_firsts hk]
theorem Sto.ids_may {t : Sto} (hk : keysOk t.s.rows) {x : Id} (h : x ∈ t.ids) : mayId x = true := by
 rw [Sto.mem_ids hk] at h
 by_cases hm : mayId x = true
 ·exact hm
 ·rw [Sto.at_not (by simpa using hm)] at h
  exact absurd rfl h
theorem Sto.ids_len (t : Sto) : t.ids.length <= t.s.rows.length := by
 unfold Sto.ids firsts
 rw [List.length_mergeSort, List.length_map]
 have := List.length_filter_le (isFirst t.s.rows) (List.range t.s.rows.length)
 rwa [List.length_range] at this
end
end Go.Proofs.YtdkhmfcfihbjeaaGreatDoor.W
namespace Go.Proofs
open Go.RowKit
section
open Go.Shelf
def Tryz.laysSortE_ren : Go.Shelf.Ren := ⟨fun | 6 => 149 | 15 => 165 | 14 => 164 | 28 => 177 | 29 => 178 | 20 => 169 | 21 => 170 | 22 => 171 | 23 => 172 | 24 => 173 | 25 => 174 | 26 => 175 | 27 => 176 | 46 => 179 | 47 => 180 | 48 => 181 | 49 => 182 | 50 => 183 | 57 => 184 | n => n, fun | 22 => 29 | 24 => 38 | 25 => 203 | 3 => 3 | 39 => 157 | 0 => 0 | 53 => 221 | 55 => 223 | 4 => 4 | 46 => 214 | 45 => 213 | 50 => 218 | 5 => 5 | 9 => 9 | 66 => 228 | 70 => 232 | 76 => 234 | 77 => 235 | n => n, fun | n => n⟩
theorem Tryz.laysSortE : Go.Proofs.SlLaysF0.n6 Tryz.prog Tryz.laysSortE_ren := {
 mixed := by kernel_rfl
 f6 := ⟨Tryz.f149.name, by decide, Tryz.func149.trans (congrArg some (by kernel_rfl))⟩
 f14 := ⟨Tryz.f164.name, by decide, Tryz.func164.trans (congrArg some (by kernel_rfl))⟩
 f15 := Tryz.func165.trans (congrArg some (by kernel_rfl))
 f20 := ⟨Tryz.f169.name, by decide, Tryz.func169.trans (congrArg some (by kernel_rfl))⟩
 f21 := ⟨Tryz.f170.name, by decide, Tryz.func170.trans (congrArg some (by kernel_rfl))⟩
 f22 := ⟨Tryz.f171.name, by decide, Tryz.func171.trans (congrArg some (by kernel_rfl))⟩
 f23 := ⟨Tryz.f172.name, by decide, Tryz.func172.trans (congrArg some (by kernel_rfl))⟩
 f24 := ⟨Tryz.f173.name, by decide, Tryz.func173.trans (congrArg some (by kernel_rfl))⟩
 f25 := ⟨Tryz.f174.name, by decide, Tryz.func174.trans (congrArg some (by kernel_rfl))⟩
 f26 := ⟨Tryz.f175.name, by decide, Tryz.func175.trans (congrArg some (by kernel_rfl))⟩
 f27 := ⟨Tryz.f176.name, by decide, Tryz.func176.trans (congrArg some (by kernel_rfl))⟩
 f28 := Tryz.func177.trans (congrArg some (by kernel_rfl))
 f29 := Tryz.func178.trans (congrArg some (by kernel_rfl))
 f46 := ⟨Tryz.f179.name, by decide, Tryz.func179.trans (congrArg some (by kernel_rfl))⟩
 f47 := Tryz.func180.trans (congrArg some (by kernel_rfl))
 f48 := Tryz.func181.trans (congrArg some (by kernel_rfl))
 f49 := ⟨Tryz.f182.name, by decide, Tryz.func182.trans (congrArg some (by kernel_rfl))⟩
 f50 := ⟨Tryz.f183.name, by decide, Tryz.func183.trans (congrArg some (by kernel_rfl))⟩
 f57 := ⟨Tryz.f184.name, by decide, Tryz.func184.trans (congrArg some (by kernel_rfl))⟩
 t0 := Tryz.underlying0
 a0 := Tryz.isAgg0
 z0 := Tryz.sizeOf0
 v0 := Tryz.zeroValue0
 t3 := Tryz.underlying3
 a3 := Tryz.isAgg3
 z3 := Tryz.sizeOf3
 v3 := Tryz.zeroValue3
 t4 := Tryz.underlying4
 a4 := Tryz.isAgg4
 z4 := Tryz.sizeOf4
 v4 := Tryz.zeroValue4
 t5 := Tryz.underlying5
 a5 := Tryz.isAgg5
 z5 := Tryz.sizeOf5
 v5 := Tryz.zeroValue5
 t9 := Tryz.underlying9
 a9 := Tryz.isAgg9
 z9 := Tryz.sizeOf9
 v9 := Tryz.zeroValue9
 t22 := Tryz.underlying29
 a22 := Tryz.isAgg29
 z22 := Tryz.sizeOf29
 v22 := Tryz.zeroValue29
 t25 := Tryz.underlying203
 a25 := Tryz.isAgg203
 z25 := Tryz.sizeOf203
 v25 := Tryz.zeroValue203
 t39 := Tryz.underlying157
 a39 := Tryz.isAgg157
 z39 := Tryz.sizeOf157
 v39 := Tryz.zeroValue157
 t45 := Tryz.underlying213
 a45 := Tryz.isAgg213
 z45 := Tryz.sizeOf213
 v45 := Tryz.zeroValue213
 t46 := Tryz.underlying214
 a46 := Tryz.isAgg214
 z46 := Tryz.sizeOf214
 v46 := Tryz.zeroValue214
 t50 := Tryz.underlying218
 a50 := Tryz.isAgg218
 z50 := Tryz.sizeOf218
 v50 := Tryz.zeroValue218
 t53 := Tryz.underlying221
 a53 := Tryz.isAgg221
 z53 := Tryz.sizeOf221
 v53 := Tryz.zeroValue221
 t55 := Tryz.underlying223
 a55 := Tryz.isAgg223
 z55 := Tryz.sizeOf223
 v55 := Tryz.zeroValue223
 t66 := Tryz.underlying228
 a66 := Tryz.isAgg228
 z66 := Tryz.sizeOf228
 v66 := Tryz.zeroValue228
 t70 := Tryz.underlying232
 a70 := Tryz.isAgg232
 z70 := Tryz.sizeOf232
 v70 := Tryz.zeroValue232
 t76 := Tryz.underlying234
 a76 := Tryz.isAgg234
 z76 := Tryz.sizeOf234
 v76 := Tryz.zeroValue234
 t77 := Tryz.underlying235
 a77 := Tryz.isAgg235
 z77 := Tryz.sizeOf235
 v77 := Tryz.zeroValue235 }
end
end Go.Proofs
namespace Go.Proofs.YtdkhmfcfihbjeaaGreatDoor.W
open Go.RowKit
section
open Go.RowKit Go.Sort
theorem isnan_any (x : Int) (w : World) : Calls Tryz.prog 166 #[.int .i64 x] w fun e w' => e = .returned (.bool false) /\ w = w' := by
 go_enter Tryz.func166, Tryz.ntmps166
 go_wp2
 go_ret
 exact ⟨by simp, rfl⟩
theorem ccmp_any (x y : Int) (w : World) : Calls Tryz.prog 152 #[.int .i64 x, .int .i64 y] w fun e w' => e = .returned (.int .i64 (cmpI x y)) /\ w = w' := by
 unfold cmpI
 by_cases h : x < y
 ·rw [if_pos h]
  go_enter Tryz.func152, Tryz.ntmps152
  go_wp2_with (go_at_call 166; refine (isnan_any _ _).mono ?_; rintro e w' ⟨rfl, hq⟩; subst hq)
  go_ret
  exact ⟨rfl, rfl⟩
 ·rw [if_neg h]
  by_cases h2 : y < x
  ·rw [if_pos h2]
   go_enter Tryz.func152, Tryz.ntmps152
   go_wp2_with (go_at_call 166; refine (isnan_any _ _).mono ?_; rintro e w' ⟨rfl, hq⟩; subst hq)
   go_ret
   exact ⟨rfl, rfl⟩
  ·rw [if_neg h2]
   go_enter Tryz.func152, Tryz.ntmps152
   go_wp2_with (go_at_call 166; refine (isnan_any _ _).mono ?_; rintro e w' ⟨rfl, hq⟩; subst hq)
   go_ret
   exact ⟨rfl, rfl⟩
theorem firstNZ_zero : ∀ (l : List Int), (∀ x ∈ l, x = 0) -> firstNZ l = 0
 | [], _ => rfl
 | x :: r, h => by
  unfold firstNZ
  rw [if_neg (by simpa using h x (by simp))]
  exact firstNZ_zero r (fun y hy => h y (List.mem_cons_of_mem _ hy))
theorem firstNZ_at : ∀ (l : List Int) (j : Nat), (∀ k, k < j -> l.getD k 0 = 0) -> l.getD j 0 ≠ 0 -> firstNZ l = l.getD j 0
 | [], j, _, h => by simp at h
 | x :: r, 0, _, h => by
  unfold firstNZ
  simp at h ⊢
  intro h0
  exact absurd h0 h
 | x :: r, j + 1, h0, h => by
  have hx := h0 0 (by omega)
  simp at hx
  unfold firstNZ
  rw [if_neg (by simp [hx])]
  simp only [List.getD_cons_succ] at h ⊢
  exact firstNZ_at r j (fun k hk => by have := h0 (k + 1) (by omega); simpa using this) h
theorem cor_any (l : List Int) (hl : l.length = 4) (g : Nat) (w : World) (hc : ∀ j, j < 4 -> w.cell? ⟨g, j, none⟩ = some (.int .i64 (l.getD j 0))) : Calls Tryz.prog 151 #[.slice (some ⟨g, 0, none⟩) 4 4] w fun e w' => e = .returned (.int .i64 (firstNZ l)) /\ w = w' := by
 have HC := LH hc
 clear hc
 go_enter Tryz.func151, Tryz.ntmps151
 go_wp2_with fail
 go_loopg [8] 4 (fun g' s8 wr => ∃ j : Nat, s8 = .int .i64 (j : Int) /\ j <= 4 /\ 4 <= j + g' /\ Hid (wr = w /\ ∀ k, k < j -> l.getD k 0 = 0))
 case atStart => exact ⟨0, rfl, by omega, by omega, LH ⟨rfl, fun k hk => by omega⟩⟩
 case round =>
  obtain ⟨j, rfl, hj, hjg, HJ⟩ := hrel
  obtain ⟨rfl, hz⟩ := HJ.out
  have HZ := LH hz
  clear hz HJ
  by_cases hlt : j < 4
  ·have c0 := HC.out j hlt
   have hjz : (j : Int) < 4 := by omega
   have HV : Hid (l.getD j 0 ≠ 0 -> firstNZ l = l.getD j 0) := LH (fun h => firstNZ_at l j HZ.out h)
   have HN : Hid (l.getD j 0 = 0 -> ∀ k, k < j + 1 -> l.getD k 0 = 0) := LH (fun h k hk => by
    rcases Nat.lt_or_ge k j with h1 | h1
    ·exact HZ.out k h1
    ·obtain rfl : k = j := by omega
     exact h)
   generalize l.getD j 0 = v at *
   by_cases hv : v = 0
   ·subst hv
    go_wp2_with fail
    go_roundg (gk - 1)
    case measure => omega
    case rel => exact ⟨j + 1, by go_num, by omega, by omega, LH ⟨rfl, HN.out (by simp)⟩⟩
   ·have q0 : (v != 0) = true := by simp [hv]
    have HW := LH (HV.out hv)
    clear hv
    go_wp2_with fail
    go_ret
    rw [HW.out]
    exact ⟨rfl, rfl⟩
  ·have hj4 : j = 4 := by omega
   subst hj4
   have HW : Hid (firstNZ l = 0) := LH (firstNZ_zero l (fun x hx => by
    obtain ⟨k, hk, rfl⟩ := List.getElem_of_mem hx
    have := HZ.out k (by omega)
    rwa [List.getD_eq_getElem?_getD, List.getElem?_eq_getElem hk] at this))
   go_wp2
   go_ret
   rw [HW.out]
   exact ⟨rfl, rfl⟩
end
section
open Go.RowKit Go.Sort
theorem closureI (x y : Id) (W : World) : Calls Tryz.prog 150 #[idV x, idV y] W fun e w' => e = .returned (.int .i64 (cmpId x y)) /\ ∃ q os', w' = Go.Sort.grow (W.drewN q) os' := by
 obtain ⟨xc, xl, xn, xi⟩ := x
 obtain ⟨yc, yl, yn, yi⟩ := y
 obtain ⟨w1, hw1⟩ : ∃ w1, w1 = (W.alloc (.cells (idC ⟨xc, xl, xn, xi⟩) 38)).alloc (.cells (idC ⟨yc, yl, yn, yi⟩) 38) := ⟨_, rfl⟩
 have hx1 : w1.heap[W.heap.size]? = some (.cells (idC ⟨xc, xl, xn, xi⟩) 38 (0, 0)) := by rw [hw1]; exact blk_alloc (heap_alloc_new W _)
 have hy1 : w1.heap[W.heap.size + 1]? = some (.cells (idC ⟨yc, yl, yn, yi⟩) 38 (0, 0)) := by
  rw [hw1]
  have := heap_alloc_new (W.alloc (.cells (idC ⟨xc, xl, xn, xi⟩) 38)) (.cells (idC ⟨yc, yl, yn, yi⟩) 38)
  simpa using this
 obtain ⟨a0, a1, a2, a3⟩ := id_cells hx1
 obtain ⟨b0, b1, b2, b3⟩ := id_cells hy1
 have HW1 := LH hw1
 have C1 := LH (fun w => ccmp_any xc yc w)
 have C2 := LH (fun w => ccmp_any xl yl w)
 have C3 := LH (fun w => ccmp_any xn yn w)
 have C4 := LH (fun w => ccmp_any xi yi w)
 have HF : Hid (cmpId ⟨xc, xl, xn, xi⟩ ⟨yc, yl, yn, yi⟩ = firstNZ [cmpI xc yc, cmpI xl yl, cmpI xn yn, cmpI xi yi]) := LH rfl
 generalize cmpId ⟨xc, xl, xn, xi⟩ ⟨yc, yl, yn, yi⟩ = r at *
 generalize cmpI xc yc = v1 at *
 generalize cmpI xl yl = v2 at *
 generalize cmpI xn yn = v3 at *
 generalize cmpI xi yi = v4 at *
 clear hw1 hx1 hy1
 go_enter Tryz.func150, Tryz.ntmps150
 go_wp2_with fail
 rw [<- HW1.out]
 refine wp_region_L [(6, fun w' => (w'.cell? ⟨W.heap.size, 0, none⟩ = some (.int .i64 xc) /\ w'.cell? ⟨W.heap.size + 1, 0, none⟩ = some (.int .i64 yc))), (13, fun w' => (w'.cell? ⟨W.heap.size, 1, none⟩ = some (.int .i64 xl) /\ w'.cell? ⟨W.heap.size + 1, 1, none⟩ = some (.int .i64 yl))), (20, fun w' => (w'.cell? ⟨W.heap.size, 2, none⟩ = some (.int .i64 xn) /\ w'.cell? ⟨W.heap.size + 1, 2, none⟩ = some (.int .i64 yn))), (25, fun w' => (w'.cell? ⟨W.heap.size, 3, none⟩ = some (.int .i64 xi) /\ w'.cell? ⟨W.heap.size + 1, 3, none⟩ = some (.int .i64 yi)))] (by kernel_rfl) ?_ (fun hHeld => ?_)
 ·exact (HoldC.cons (⟨a0, b0⟩) (HoldC.cons (⟨a1, b1⟩) (HoldC.cons (⟨a2, b2⟩) (HoldC.cons (⟨a3, b3⟩) HoldC.nil))))
 refine tk 0 ?_ rfl (by kernel_rfl) (fun _ _ _ h => h) (.inl ⟨by rfl, ?_⟩) hHeld ?_; rotate_left; · (intro w _; go_simp; try with_reducible rfl)
 clear hHeld; intro hHeld; try simp only [gA,gB,gC,Act.put,gD,gE,gF]
 refine tk 1 ?_ rfl (by kernel_rfl) (fun _ _ _ h => h) (.inl ⟨by rfl, ?_⟩) hHeld ?_; rotate_left; · (intro w _; go_simp; try with_reducible rfl)
 clear hHeld; intro hHeld; try simp only [gA,gB,gC,Act.put,gD,gE,gF]
 refine ld 0 2 ?_ rfl rfl (by kernel_rfl) (fun _ _ _ h => h) (.inl ⟨by rfl, ?_⟩) hHeld ?_; rotate_left; · (intro w hSw; (try dsimp only at hSw); go_simp; try with_reducible rfl)
 clear hHeld; intro hHeld; try simp only [gA,gB,gC,Act.put,gD,gE,gF]
 refine tk 3 ?_ rfl (by kernel_rfl) (fun _ _ _ h => h) (.inl ⟨by rfl, ?_⟩) hHeld ?_; rotate_left; · (intro w _; go_simp; try with_reducible rfl)
 clear hHeld; intro hHeld; try simp only [gA,gB,gC,Act.put,gD,gE,gF]
 refine tk 4 ?_ rfl (by kernel_rfl) (fun _ _ _ h => h) (.inl ⟨by rfl, ?_⟩) hHeld ?_; rotate_left; · (intro w _; go_simp; try with_reducible rfl)
 clear hHeld; intro hHeld; try simp only [gA,gB,gC,Act.put,gD,gE,gF]
 refine ld 0 5 ?_ rfl rfl (by kernel_rfl) (fun _ _ _ h => h) (.inl ⟨by rfl, ?_⟩) hHeld ?_; rotate_left; · (intro w hSw; (try dsimp only at hSw); go_simp; try with_reducible rfl)
 clear hHeld; intro hHeld; try simp only [gA,gB,gC,Act.put,gD,gE,gF]
 refine tk 7 ?_ rfl (by kernel_rfl) (fun _ _ _ h => h) (.inl ⟨by rfl, ?_⟩) hHeld ?_; rotate_left; · (intro w _; go_simp; try with_reducible rfl)
 clear hHeld; intro hHeld; try simp only [gA,gB,gC,Act.put,gD,gE,gF]
 refine tk 8 ?_ rfl (by kernel_rfl) (fun _ _ _ h => h) (.inl ⟨by rfl, ?_⟩) hHeld ?_; rotate_left; · (intro w _; go_simp; try with_reducible rfl)
 clear hHeld; intro hHeld; try simp only [gA,gB,gC,Act.put,gD,gE,gF]
 refine ld 1 9 ?_ rfl rfl (by kernel_rfl) (fun _ _ _ h => h) (.inl ⟨by rfl, ?_⟩) hHeld ?_; rotate_left; · (intro w hSw; (try dsimp only at hSw); go_simp; try with_reducible rfl)
 clear hHeld; intro hHeld; try simp only [gA,gB,gC,Act.put,gD,gE,gF]
 refine tk 10 ?_ rfl (by kernel_rfl) (fun _ _ _ h => h) (.inl ⟨by rfl, ?_⟩) hHeld ?_; rotate_left; · (intro w _; go_simp; try with_reducible rfl)
 clear hHeld; intro hHeld; try simp only [gA,gB,gC,Act.put,gD,gE,gF]
 refine tk 11 ?_ rfl (by kernel_rfl) (fun _ _ _ h => h) (.inl ⟨by rfl, ?_⟩) hHeld ?_; rotate_left; · (intro w _; go_simp; try with_reducible rfl)
 clear hHeld; intro hHeld; try simp only [gA,gB,gC,Act.put,gD,gE,gF]
 refine ld 1 12 ?_ rfl rfl (by kernel_rfl) (fun _ _ _ h => h) (.inl ⟨by rfl, ?_⟩) hHeld ?_; rotate_left; · (intro w hSw; (try dsimp only at hSw); go_simp; try with_reducible rfl)
 clear hHeld; intro hHeld; try simp only [gA,gB,gC,Act.put,gD,gE,gF]
 refine tk 14 ?_ rfl (by kernel_rfl) (fun _ _ _ h => h) (.inl ⟨by rfl, ?_⟩) hHeld ?_; rotate_left; · (intro w _; go_simp; try with_reducible rfl)
 clear hHeld; intro hHeld; try simp only [gA,gB,gC,Act.put,gD,gE,gF]
 refine tk 15 ?_ rfl (by kernel_rfl) (fun _ _ _ h => h) (.inl ⟨by rfl, ?_⟩) hHeld ?_; rotate_left; · (intro w _; go_simp; try with_reducible rfl)
 clear hHeld; intro hHeld; try simp only [gA,gB,gC,Act.put,gD,gE,gF]
 refine ld 2 16 ?_ rfl rfl (by kernel_rfl) (fun _ _ _ h => h) (.inl ⟨by rfl, ?_⟩) hHeld ?_; rotate_left; · (intro w hSw; (try dsimp only at hSw); go_simp; try with_reducible rfl)
 clear hHeld; intro hHeld; try simp only [gA,gB,gC,Act.put,gD,gE,gF]
 refine tk 17 ?_ rfl (by kernel_rfl) (fun _ _ _ h => h) (.inl ⟨by rfl, ?_⟩) hHeld ?_; rotate_left; · (intro w _; go_simp; try with_reducible rfl)
 clear hHeld; intro hHeld; try simp only [gA,gB,gC,Act.put,gD,gE,gF]
 refine tk 18 ?_ rfl (by kernel_rfl) (fun _ _ _ h => h) (.inl ⟨by rfl, ?_⟩) hHeld ?_; rotate_left; · (intro w _; go_simp; try with_reducible rfl)
 clear hHeld; intro hHeld; try simp only [gA,gB,gC,Act.put,gD,gE,gF]
 refine ld 2 19 ?_ rfl rfl (by kernel_rfl) (fun _ _ _ h => h) (.inl ⟨by rfl, ?_⟩) hHeld ?_; rotate_left; · (intro w hSw; (try dsimp only at hSw); go_simp; try with_reducible rfl)
 clear hHeld; intro hHeld; try simp only [gA,gB,gC,Act.put,gD,gE,gF]
 refine tk 21 ?_ rfl (by kernel_rfl) (fun _ _ _ h => h) (.inl ⟨by rfl, ?_⟩) hHeld ?_; rotate_left; · (intro w _; go_simp; try with_reducible rfl)
 clear hHeld; intro hHeld; try simp only [gA,gB,gC,Act.put,gD,gE,gF]
 refine ld 3 22 ?_ rfl rfl (by kernel_rfl) (fun _ _ _ h => h) (.inl ⟨by rfl, ?_⟩) hHeld ?_; rotate_left; · (intro w hSw; (try dsimp only at hSw); go_simp; try with_reducible rfl)
 clear hHeld; intro hHeld; try simp only [gA,gB,gC,Act.put,gD,gE,gF]
 refine tk 23 ?_ rfl (by kernel_rfl) (fun _ _ _ h => h) (.inl ⟨by rfl, ?_⟩) hHeld ?_; rotate_left; · (intro w _; go_simp; try with_reducible rfl)
 clear hHeld; intro hHeld; try simp only [gA,gB,gC,Act.put,gD,gE,gF]
 refine ld 3 24 ?_ rfl rfl (by kernel_rfl) (fun _ _ _ h => h) (.inl ⟨by rfl, ?_⟩) hHeld ?_; rotate_left; · (intro w hSw; (try dsimp only at hSw); go_simp; try with_reducible rfl)
 clear hHeld; intro hHeld; try simp only [gA,gB,gC,Act.put,gD,gE,gF]
 refine wpAnyL_ready (rs := [6]) (by kernel_rfl) (by simp) (AllReadyL.cons (o := _) rfl (fun K hK => ?_) AllReadyL.nil)
 try simp only [gA,gB,gC]
 go_simp
 refine (C1.out _).mono ?_
 rintro e w' ⟨rfl, hq⟩
 subst hq
 clear hHeld
 refine hK.out _ _ ?_ (fun hHeld => ?_)
 ·exact (HoldC.past (by kernel_rfl) (HoldC.cons (⟨a1, b1⟩) (HoldC.cons (⟨a2, b2⟩) (HoldC.cons (⟨a3, b3⟩) HoldC.nil))))
 clear hK K
 try simp only [gA,gB,gC,Act.put,gD,gE,gF]
 refine wpAnyL_ready (rs := [13]) (by kernel_rfl) (by simp) (AllReadyL.cons (o := _) rfl (fun K hK => ?_) AllReadyL.nil)
 try simp only [gA,gB,gC]
 go_simp
 refine (C2.out _).mono ?_
 rintro e w' ⟨rfl, hq⟩
 subst hq
 clear hHeld
 refine hK.out _ _ ?_ (fun hHeld => ?_)
 ·exact (HoldC.past (by kernel_rfl) (HoldC.past (by kernel_rfl) (HoldC.cons (⟨a2, b2⟩) (HoldC.cons (⟨a3, b3⟩) HoldC.nil))))
 clear hK K
 try simp only [gA,gB,gC,Act.put,gD,gE,gF]
 refine wpAnyL_ready (rs := [20]) (by kernel_rfl) (by simp) (AllReadyL.cons (o := _) rfl (fun K hK => ?_) AllReadyL.nil)
 try simp only [gA,gB,gC]
 go_simp
 refine (C3.out _).mono ?_
 rintro e w' ⟨rfl, hq⟩
 subst hq
 clear hHeld
 refine hK.out _ _ ?_ (fun hHeld => ?_)
 ·exact (HoldC.past (by kernel_rfl) (HoldC.past (by kernel_rfl) (HoldC.past (by kernel_rfl) (HoldC.cons (⟨a3, b3⟩) HoldC.nil))))
 clear hK K
 try simp only [gA,gB,gC,Act.put,gD,gE,gF]
 refine wpAnyL_ready (rs := [25]) (by kernel_rfl) (by simp) (AllReadyL.cons (o := _) rfl (fun K hK => ?_) AllReadyL.nil)
 try simp only [gA,gB,gC]
 go_simp
 refine (C4.out _).mono ?_
 rintro e w' ⟨rfl, hq⟩
 subst hq
 clear hHeld
 refine hK.out _ _ ?_ (fun hHeld => ?_)
 ·exact (HoldC.past (by kernel_rfl) (HoldC.past (by kernel_rfl) (HoldC.past (by kernel_rfl) (HoldC.past (by kernel_rfl) HoldC.nil))))
 clear hK K
 try simp only [gA,gB,gC,Act.put,gD,gE,gF]
 refine wpAnyL_ready (rs := [26]) (by kernel_rfl) (by simp) (AllReadyL.cons (o := _) rfl (fun K hK => ?_) AllReadyL.nil)
 try simp only [gA,gB,gC]
 go_simp
 have hbZ : (w1.alloc (.cells #[.int .i64 v1, .int .i64 v2, .int .i64 v3, .int .i64 v4] 3)).drew.heap[w1.heap.size]? = some (.cells #[.int .i64 v1, .int .i64 v2, .int .i64 v3, .int .i64 v4] 3 (0, 0)) := heap_alloc_new w1 _
 have CO := LH (cor_any [v1, v2, v3, v4] rfl w1.heap.size _ (fun j hj => by
  match j, hj with
  | 0, _ => exact blk_cell hbZ 0 _ rfl
  | 1, _ => exact blk_cell hbZ 1 _ rfl
  | 2, _ => exact blk_cell hbZ 2 _ rfl
  | 3, _ => exact blk_cell hbZ 3 _ rfl))
 clear hHeld
 refine hK.out _ _ ?_ (fun hHeld => ?_)
 ·exact (HoldC.past (by kernel_rfl) (HoldC.past (by kernel_rfl) (HoldC.past (by kernel_rfl) (HoldC.past (by kernel_rfl) HoldC.nil))))
 clear hK K
 try simp only [gA,gB,gC,Act.put,gD,gE,gF]
 refine wpAnyL_ready (rs := [27]) (by kernel_rfl) (by simp) (AllReadyL.cons (o := _) rfl (fun K hK => ?_) AllReadyL.nil)
 try simp only [gA,gB,gC]
 go_simp
 refine CO.out.mono ?_
 rintro e w' ⟨rfl, hq⟩
 subst hq
 clear hHeld
 refine hK.out _ _ ?_ (fun hHeld => ?_)
 ·exact (HoldC.past (by kernel_rfl) (HoldC.past (by kernel_rfl) (HoldC.past (by kernel_rfl) (HoldC.past (by kernel_rfl) HoldC.nil))))
 clear hK K
 try simp only [gA,gB,gC,Act.put,gD,gE,gF]
 refine tk 28 ?_ rfl (by kernel_rfl) (fun _ _ _ h => h) (.inl ⟨by rfl, ?_⟩) hHeld ?_; rotate_left; · (intro w _; go_simp; try with_reducible rfl)
 clear hHeld; intro hHeld; try simp only [gA,gB,gC,Act.put,gD,gE,gF]
 refine wpAnyL_done (by kernel_rfl) ?_ _
 clear hHeld
 go_wp2_with fail
 go_ret
 rw [HF.out]
 exact ⟨rfl, 1, _, by rw [HW1.out, Go.Sort.alloc_eq_grow, Go.Sort.alloc_eq_grow, Go.Sort.alloc_eq_grow, Go.Sort.grow_grow, Go.Sort.grow_grow]; rfl⟩
def idE (x : Id) : List Value := [.int .i64 x.c, .int .i64 x.l, .int .i64 x.n, .int .i64 x.i]
theorem idE_len (x : Id) : (idE x).length = 4 := rfl
theorem idE_one (x : Id) : ∀ v ∈ idE x, v.oneCell' = true := by
 intro v hv
 simp [idE] at hv
 rcases hv with rfl | rfl | rfl | rfl <;> rfl
theorem cmpLaysI (blk off size : Nat) (w : World) : CmpLays Tryz.prog 150 #[] idE 4 cmpId blk off size w :=
 fun _ _ _ _ x y => closureI x y _
theorem sortI_any {w : World} {base : Nat} {v : Value} {ss : List Id} (hown : w.ownsRow base 38 4 v ss.length (ss.flatMap idE)) (hl : ss.length <= 1000000) :
  Calls Tryz.prog 149 #[v, .func (.func 150) #[] #[]] w fun e w' => e = .returned (.tuple #[]) /\ w'.ownsRow base 38 4 v ss.length ((ss.mergeSort leI).flatMap idE) /\ ∀ S : List Nat, (∀ k, v.ownBlock = some k -> k ∈ S) -> Chg S w w' := by
 obtain ⟨hlen, hrow⟩ := hown
 rcases hrow with ⟨rfl, h0⟩ | ⟨gb, cap, cur, rfl, hbg, hgb, hnc, hcm, hcs, htake⟩
 ·have hnil : ss = [] := List.eq_nil_of_length_eq_zero h0
  subst hnil
  have hS := AnyF.slices_SortFunc_none (P := Tryz.prog) (ρ := Tryz.laysSortE_ren) { Tryz.laysSortE with } none 0 (.func (.func 150) #[] #[]) w
  change Calls Tryz.prog 149 _ _ _ at hS
  refine hS.mono fun e w' ⟨h1, h2⟩ => ⟨h1, ?_, ?_⟩
  ·rw [h2]; simpa using World.ownsRow_nil w base 38 4
  ·rw [h2]; exact fun S _ => Chg.refl _ _
 ·have hH := holds_row idE idE_len hgb htake
  have eg : ∀ args w, (callFunc 150 args).run Tryz.prog w = .ok (.enter 150 args) w := enters_of Tryz.func150 (by kernel_rfl) rfl
  have hS := AnyQ.slices_SortFunc_total Tryz.laysSortE 4 Tryz.isAgg38 Tryz.sizeOf38 idE idE_len idE_one cmpId swoI 150 #[] gb 0 cap ss.toArray w eg (cmpLaysI gb 0 _ w) hH (blk_lt hgb) (by simp; omega) totI
  change Calls Tryz.prog 149 _ _ _ at hS
  have hsz : ss.toArray.size = ss.length := by simp
  rw [hsz] at hS
  refine hS.mono fun e w' ⟨h1, n, os, h2⟩ => ⟨h1, ?_, fun S hS => ?_⟩
  ·rw [h2]
   exact ownsRow_sortedK idE idE_len (by rw [List.length_mergeSort]) hbg hgb hnc hcm hcs
  ·rw [h2]
   exact (chg_sortedK _ _ _).mono (fun x hx => .inl (by rw [List.mem_singleton.1 hx]; exact hS gb rfl))
end
section
open Go.RowKit Go.Sort
variable {G : List Nat}
theorem wpList_nxtD (w : World) {ops : Array Oper} {rest : List Oper} {o : Oper} {a : Act} {Q : Exit -> Act -> World -> Prop} (hg : o.guard = none) (it : Operand) (hop : o.op = Op.next it false) (b r N : Nat) (φ : Id -> Option Value) (left : Id -> Bool) (cnt : Nat)
  (hit : a.eval it = .pointer (some ⟨r, 0, none⟩)) (h : Rng 38 klD okD w b r φ N left cnt)
  (hDone : cnt = 0 -> (∀ x, okD x -> left x = false) -> wpList Tryz.prog ops Q rest (a.put o.dst (.tuple #[.bool false])) w)
  (hMore : ∀ (c l n i : Int) (v : Value) (w' : World) (cnt' : Nat), okD ⟨c, l, n, i⟩ -> left ⟨c, l, n, i⟩ = true -> φ ⟨c, l, n, i⟩ = some v -> Rng 38 klD okD w' b r φ N (fun y => !decide (y = ⟨c, l, n, i⟩) && left y) cnt' -> cnt' < cnt -> Chg [r] w w' -> w'.heap.size = w.heap.size ->
   (Instr.entry (.pointer (some ⟨r, 0, none⟩))).run Tryz.prog w' = .ok (.tuple #[.agg #[.int .i64 c, .int .i64 l, .int .i64 n, .int .i64 i], v]) w' -> wpList Tryz.prog ops Q rest (a.put o.dst (.tuple #[.bool true, .agg #[.int .i64 c, .int .i64 l, .int .i64 n, .int .i64 i], v])) w') :
  wpList Tryz.prog ops Q (o :: rest) a w :=
 wpList_nxt keId w hg it hop b r N φ left cnt hit h hDone fun x v w' cnt' h1 h2 h3 h4 h5 h6 h7 h8 => hMore x.c x.l x.n x.i v w' cnt' h1 h2 h3 (h4 _ fun y _ => ⟨fun e => by simp [e], fun e => by
  have e' : ¬ y = ⟨x.c, x.l, x.n, x.i⟩ := e
  simp [e']⟩) h5 h6 h7 h8
theorem elIds : El Tryz.prog 29 38 (.agg #[.int .i64 0, .int .i64 0, .int .i64 0, .int .i64 0]) 4 32 := El.mk Tryz.underlying29 (by kernel_rfl) rfl (by decide)
def ListPost (w : World) (l : List Id) (e : Ending) (w' : World) : Prop := ∃ v, e = .returned v /\ w'.ownsRow w.heap.size 38 4 v l.length (l.flatMap idE) /\ Chg [] w w'
theorem stlist_any (q p : Nat) (U : List Nat) (t : Sto) (w : World) (h : StAt G w q p U t) : Calls Tryz.prog 124 #[.pointer (some ⟨q, 0, none⟩)] w (ListPost w t.ids) := by
 obtain ⟨sp, mb, Us, φ, N, h, rfl⟩ := h
 obtain ⟨k0, _, k2, _⟩ := h.cells
 have CM := LH (stmade_any q p w k0)
 have HM := LH h.map
 have HI : Hid (∀ x, okD x -> (x ∈ firsts t.s.rows ↔ (φ x).isSome = true)) := LH (fun x hx => by
  rw [mem_firsts h.ok]
  rcases h.vals x hx with ⟨h1, h2⟩ | ⟨h1, v, h2, _⟩
  ·rw [h1, h2]; simp
  ·rw [h2]; simp [h1])
 have HFM : Hid (∀ x ∈ firsts t.s.rows, okD x) := LH (fun x hx => by
  rw [mem_firsts h.ok] at hx
  by_cases hm : mayId x = true
  ·exact may_okD hm
  ·rw [Sto.at_not (by simpa using hm)] at hx
   exact absurd rfl hx)
 have HND := LH (firsts_nodup h.ok)
 have hNl : N <= 1000 := by
  have h1 := h.map.card keId (firsts t.s.rows) (fun y hy hs => (HI.out y hy).2 hs)
  have h2 := t.ids_len
  unfold Sto.ids at h2
  rw [List.length_mergeSort] at h2
  obtain ⟨S0, rv0, R0, H0⟩ := h.slots
  have := H0.few
  omega
 have HID : Hid (t.ids = (firsts t.s.rows).mergeSort leI) := LH rfl
 generalize t.ids = L at *
 generalize firsts t.s.rows = F at *
 have hml := h.map.lt
 clear h
 go_enter Tryz.func124, Tryz.ntmps124
 go_wp2_with fail
 refine CM.out.mono ?_
 rintro e w' ⟨rfl, hq⟩
 subst hq
 go_wp2_with (refine wpList_rng keId _ rfl _ _ rfl 132 Tryz.underlying96 mb N φ rfl HM.out ?_; intro w1 hr1 hc1 hs1; have HR1 := LH (And.intro hr1 (And.intro hc1 hs1)); clear hr1 hc1 hs1)
 go_frame
 go_loopg [3] N (fun gh v3 wr => ∃ (v : Value) (ss : List Id) (left : Id -> Bool) (cnt : Nat), v = v3 /\ cnt <= gh /\ ss.length + cnt <= N /\ wr.ownsRow w.heap.size 38 4 v ss.length (ss.flatMap idE) /\ Hid (Rng 38 klD okD wr mb w.heap.size φ N left cnt) /\
  Hid (ss.Nodup /\ ∀ k, okD k -> (k ∈ ss ↔ (φ k).isSome = true /\ left k = false)) /\ Hid (∀ k ∈ ss, okD k) /\ Hid (Chg [] w wr))
 case atStart =>
  refine ⟨_, [], _, _, rfl, Nat.le_refl _, by simp, World.ownsRow_nil _ _ _ _, LH HR1.out.1, LH ⟨List.nodup_nil, fun k hk => ?_⟩, LH (by simp), LH HR1.out.2.1⟩
  constructor
  ·intro h; cases h
  ·rintro ⟨h1, h2⟩
   rw [h1] at h2; cases h2
 case round =>
  obtain ⟨v3, ss, left, cnt, rfl, hcg, hkc, hown, HR, HK, HO, HC⟩ := hrel
  have hrne : some w.heap.size ≠ v3.ownBlock := by
   obtain ⟨D, lf, hr, _⟩ := HR.out
   exact row_ne_iter hown hr
  have HOWN := LH hown
  clear hown
  go_wp2_with (refine wpList_nxtD _ rfl _ rfl mb w.heap.size N φ left cnt rfl HR.out ?_ ?_)
  ·intro hc0 hl0
   have HALL : Hid (∀ k, k ∈ ss ↔ k ∈ F) := LH (fun k => by
    constructor
    ·intro hk
     have hko := HO.out k hk
     exact (HI.out k hko).2 ((HK.out.2 k hko).1 hk).1
    ·intro hk
     have hko := HFM.out k hk
     exact (HK.out.2 k hko).2 ⟨(HI.out k hko).1 hk, hl0 k hko⟩)
   have HS : Hid (ss.mergeSort leI = L) := LH (by rw [HID.out]; exact sortedI_eq HK.out.1 HND.out HALL.out)
   have HL : Hid (ss.length = L.length) := LH (by
    have := congrArg List.length HS.out
    rwa [List.length_mergeSort] at this)
   clear hc0 hl0
   go_wp2_with fail
   refine (sortI_any HOWN.out (by omega)).mono ?_
   rintro e w5 ⟨rfl, hrow, hch⟩
   have HF : Hid (w5.ownsRow w.heap.size 38 4 v3 L.length (L.flatMap idE) /\ Chg [] w w5) := LH (by
    rw [HS.out, HL.out] at hrow
    refine ⟨hrow, ?_⟩
    cases hv : v3.ownBlock with
    | none => exact HC.out.trans (hch [] (by rw [hv]; simp)) (by simp)
    | some k =>
     have hlt := (World.ownsRow.lt HOWN.out k hv).1
     exact HC.out.trans (hch [k] (by rw [hv]; simp)) (by simp; omega))
   clear hrow hch
   go_wp2
   go_ret
   exact ⟨_, rfl, HF.out⟩
  ·intro xc xl xn xi v w2 cnt2 hox hlx hvx hr2 hlt hc2 hs2 hen
   have HX : Hid ((φ ⟨xc, xl, xn, xi⟩).isSome = true /\ (⟨xc, xl, xn, xi⟩ : Id) ∉ ss /\ okD ⟨xc, xl, xn, xi⟩) := LH (by
    refine ⟨by rw [hvx]; rfl, fun hk => ?_, hox⟩
    have := ((HK.out.2 _ hox).1 hk).2
    rw [hlx] at this; cases this)
   have HW2 := LH (And.intro hr2 (And.intro hc2 hs2))
   have hown2 := row_keep HOWN.out (w' := w2) (fun gq hq => hc2.block gq (World.ownsRow.lt HOWN.out gq hq).2 (by
    simp
    rintro rfl
    exact hrne hq.symm))
   have hc2a : Chg [] w2 (w2.alloc (.cells #[.int .i64 xc, .int .i64 xl, .int .i64 xn, .int .i64 xi] 38)) := (Chg.refl [] w2).alloc _
   have hown3 := row_keep hown2 (w' := w2.alloc (.cells #[.int .i64 xc, .int .i64 xl, .int .i64 xn, .int .i64 xi] 38)) (fun gq hq => hc2a.block gq (World.ownsRow.lt hown2 gq hq).2 (by simp))
   have hbase : w.heap.size <= w2.heap.size := by
    have := HC.out.size
    rw [hs2]; omega
   clear hox hlx hvx hr2 hc2 hs2
   go_wp2_with (at_builtin; refine wpList_app1 rfl _ _ _ rfl w.heap.size elIds _ _ _ rfl hown3 1 #[.int .i64 xc, .int .i64 xl, .int .i64 xn, .int .i64 xi] (by rw [show (w2.alloc (.cells #[.int .i64 xc, .int .i64 xl, .int .i64 xn, .int .i64 xi] 38)).heap.size = w2.heap.size + 1 by simp]; rfl) rfl (by intro u hu; simp at hu; rcases hu with rfl | rfl | rfl | rfl <;> rfl) (by unfold maxLen; omega) (by omega) (by simp; omega) ?_; intro v4 w4 hown4 hg4)
   have HEND : Hid (Rng 38 klD okD w4 mb w.heap.size φ N (fun y => !decide (y = ⟨xc, xl, xn, xi⟩) && left y) cnt2 /\ Chg [] w w4) := LH (by
    have hc24 : Chg (match v3.ownBlock with | some k => [k] | none => []) w2 w4 := by
     exact ((Chg.refl (match v3.ownBlock with | some k => [k] | none => []) w2).alloc _).grown hg4 (fun k hk => by
      have hk' : v3.ownBlock = some k := hk
      rw [hk']; exact .inl (by simp))
    have hrb : ∀ k, v3.ownBlock = some k -> w.heap.size <= k /\ k ≠ w.heap.size := fun k hk => ⟨(World.ownsRow.lt HOWN.out k hk).1, fun e => hrne (by rw [hk, e])⟩
    refine ⟨HW2.out.1.kept hc24 ?_ ?_, (HC.out.trans HW2.out.2.1 (fun z hz => ?_)).trans hc24 (fun z hz => ?_)⟩
    ·cases hv : v3.ownBlock with
     | none => simp
     | some k => have := hrb k hv; simp; omega
    ·cases hv : v3.ownBlock with
     | none => simp
     | some k => have := hrb k hv; simp; omega
    ·simp at hz; right; omega
    ·cases hv : v3.ownBlock with
     | none => rw [hv] at hz; simp at hz
     | some k => rw [hv] at hz; simp at hz; have := hrb k hv; right; omega)
   clear hg4
   go_roundg cnt2
   case measure => omega
   case rel =>
    refine ⟨_, ss ++ [⟨xc, xl, xn, xi⟩], _, cnt2, rfl, Nat.le_refl _, by simp; omega, by simpa [idE] using hown4, LH HEND.out.1, LH ⟨?_, fun k hk => ?_⟩, LH (fun k hk => ?_), LH HEND.out.2⟩
    ·refine List.nodup_append.2 ⟨HK.out.1, by simp, fun a ha b hb => ?_⟩
     simp at hb
     rintro rfl
     subst hb
     exact HX.out.2.1 ha
    ·rw [List.mem_append, HK.out.2 k hk]
     by_cases e : k = ⟨xc, xl, xn, xi⟩
     ·subst e; simp [HX.out.1]
     ·simp [e]
    ·rcases List.mem_append.1 hk with hk | hk
     ·exact HO.out k hk
     ·simp at hk; subst hk; exact HX.out.2.2
end
section
open Go.RowKit Go.Sort
variable {G : List Nat}
theorem count_take {α : Type} (f : α -> Bool) (l : List α) (j : Nat) (h : j < l.length) : (l.take (j + 1)).countP f = (l.take j).countP f + if f l[j] then 1 else 0 := by
 rw [List.take_succ_eq_append_getElem h, List.countP_append]
 simp [List.countP_singleton]
theorem stroom_any (q p : Nat) (U : List Nat) (t : Sto) (w : World) (h : StAt G w q p U t) : Calls Tryz.prog 125 #[.pointer (some ⟨q, 0, none⟩)] w fun e w' => e = .returned (.int .i64 (t.room : Int)) /\ w = w' := by
 obtain ⟨sp, mb, Us, φ, N, h, rfl⟩ := h
 obtain ⟨k0, k1, _, _⟩ := h.cells
 have CM := LH (stmade_any q p w k0)
 have CN := LH (scount_any sp p Us t.s w h.slots)
 have CU := LH (fun i => sused_any sp p Us t.s i w h.slots)
 have hfew : t.s.rows.length <= 1000 := by
  obtain ⟨S0, rv0, R0, H0⟩ := h.slots
  have := H0.few
  omega
 have HRM : Hid (t.room = t.s.rows.countP (fun r => !r.used)) := LH rfl
 generalize t.room = R at *
 clear h
 obtain ⟨m, hm⟩ : ∃ m, m = t.s.rows.length := ⟨_, rfl⟩
 rw [<- hm] at CN hfew
 have HM := LH hm
 clear hm
 go_enter Tryz.func125, Tryz.ntmps125
 go_wp2_with (first | (go_at_call 42; refine CM.out.mono ?_; rintro e w' ⟨rfl, hq⟩; subst hq) | (go_at_call 92; refine CN.out.mono ?_; rintro e w' ⟨rfl, hq⟩; subst hq))
 go_loopg [3, 13] m (fun g' s3 s13 wr => ∃ (i n : Nat), s13 = .int .i64 (i : Int) /\ s3 = .int .i64 (n : Int) /\ i <= m /\ m <= i + g' /\ n <= i /\ Hid (wr = w /\ n = (t.s.rows.take i).countP (fun r => !r.used)))
 case atStart => exact ⟨0, 0, rfl, rfl, by omega, by omega, by omega, LH ⟨rfl, by simp⟩⟩
 case round =>
  obtain ⟨i, n, rfl, rfl, hi, hig, hni, HJ⟩ := hrel
  obtain ⟨rfl, hn⟩ := HJ.out
  have HN := LH hn
  clear hn HJ
  by_cases hlt : i < m
  ·have CU1 := LH (CU.out (i : Int))
   have hl2 : i < t.s.rows.length := by rw [<- HM.out]; exact hlt
   have hus : t.s.used (i : Int) = (t.s.rows[i]).used := by
    rw [SS.used_true ⟨by omega, by omega⟩]
    show (t.s.rows.getD i noRow).used = _
    rw [List.getD_eq_getElem?_getD, List.getElem?_eq_getElem hl2]; rfl
   have HC := LH (count_take (fun r => !r.used) t.s.rows i hl2)
   rw [hus] at CU1
   have hiz : (i : Int) < (m : Int) := by omega
   clear hus
   generalize (t.s.rows[i]).used = u at *
   cases u with
   | true =>
    go_wp2_with (go_at_call 93; refine CU1.out.mono ?_; rintro e w' ⟨rfl, hq⟩; subst hq)
    go_roundg (gk - 1)
    case measure => omega
    case rel => exact ⟨i + 1, n, by go_num, rfl, by omega, by omega, by omega, LH ⟨rfl, by rw [HC.out, <- HN.out]; simp⟩⟩
   | false =>
    go_wp2_with (go_at_call 93; refine CU1.out.mono ?_; rintro e w' ⟨rfl, hq⟩; subst hq)
    go_roundg (gk - 1)
    case measure => omega
    case rel => exact ⟨i + 1, n + 1, by go_num, by go_num, by omega, by omega, by omega, LH ⟨rfl, by rw [HC.out, <- HN.out]; simp⟩⟩
  ·have him : i = m := by omega
   have hiz : ¬ (i : Int) < (m : Int) := by omega
   have HE : Hid (R = n) := LH (by rw [HRM.out, HN.out, him, HM.out, List.take_length])
   go_wp2
   go_ret
   rw [HE.out]
   exact ⟨rfl, rfl⟩
theorem stwhole_any (q p : Nat) (U : List Nat) (t : Sto) (w : World) (h : StAt G w q p U t) : Calls Tryz.prog 21 #[.pointer (some ⟨q, 0, none⟩)] w fun e w' => e = .returned (.bool t.whole) /\ w = w' := by
 obtain ⟨sp, mb, Us, φ, N, h, rfl⟩ := h
 obtain ⟨k0, _, _, k3⟩ := h.cells
 have CM := LH (stmade_any q p w k0)
 generalize t.whole = b at *
 clear h
 go_enter Tryz.func21, Tryz.ntmps21
 go_wp2_with (go_at_call 42; refine CM.out.mono ?_; rintro e w' ⟨rfl, hq⟩; subst hq)
 go_ret
 exact ⟨rfl, rfl⟩
end
section
open Go.RowKit Go.Sort
variable {G : List Nat}
theorem SlotsAt.keepNB {w w' : World} {q p B : Nat} {U : List Nat} {s : SS} (h : SlotsAt w q p U s) (hc : Chg [B] w w') (hm : ∀ o c, w.cell? ⟨B, o, none⟩ ≠ some (bv c)) (hU : B ∉ U) : SlotsAt w' q p U s := by
 obtain ⟨S, rv, R, h⟩ := h
 have hne : ∀ x ∈ U, x ∉ [B] := fun x hx hmm => hU (by rw [<- List.mem_singleton.1 hmm]; exact hx)
 refine ⟨S, rv, R, h.obj.keep hc (fun x hx => hne x (h.uB x hx)), h.disk.keep hc (fun x hx => hne x (h.uS x hx)), h.rows, h.sep, fun x hx => ?_, h.uS, h.uB, fun x hx => Nat.lt_of_lt_of_le (h.uL x hx) hc.size, h.ok⟩
 obtain ⟨h1, h2⟩ := h.keys x hx
 refine ⟨h1.chgW hc (fun hn k hk hmm => ?_), fun g hg => ⟨Nat.lt_of_lt_of_le (h2 g hg).1 hc.size, (h2 g hg).2⟩⟩
 obtain rfl := List.mem_singleton.1 hmm
 obtain ⟨a, cap, hv, _, _, h3⟩ := h1
 rw [hv] at hk
 rcases h3 with ⟨h3, _⟩ | ⟨g, o, rfl, hcell⟩
 ·exact hn h3
 ·obtain rfl : g = k := by simpa [Value.ownBlock] using hk
  exact hm _ _ (hcell 0 (List.length_pos_iff.2 hn))
theorem head_nb {w : World} {q p sp mb : Nat} {b : Bool} (h : w.heap[q]? = some (.cells #[.pointer (some ⟨p, 0, none⟩), .pointer (some ⟨sp, 0, none⟩), .map (some mb), .bool b] 98 (0, 0))) (o : Nat) (c : UInt8) : w.cell? ⟨q, o, none⟩ ≠ some (bv c) := by
 simp only [World.cell?, h]
 match o with
 | 0 => simp [bv]
 | 1 => simp [bv]
 | 2 => simp [bv]
 | 3 => simp [bv]
 | o + 4 => simp
theorem StOk.setW {w : World} {q p sp mb : Nat} {Us : List Nat} {φ : Id -> Option Value} {N : Nat} {t : Sto} (h : StOk G w q p sp mb Us φ N t) (b : Bool) : StOk G (w.setCell ⟨q, 3, none⟩ (.bool b)) q p sp mb Us φ N ⟨t.s, b⟩ := by
 have hc : Chg [q] w (w.setCell ⟨q, 3, none⟩ (.bool b)) := (Chg.refl [q] w).setCell (p := ⟨q, 3, none⟩) (.inl (by simp)) _
 have hqm := ne_blk h.head h.map
 refine ⟨set_blk h.head, h.slots.keepNB hc (head_nb h.head) h.apart.1, h.map.chg hc (by simpa using Ne.symm hqm), h.apart, fun x hx => ?_, h.ok, h.far.mono hc.size⟩
 exact (h.vals x hx).keep hc (fun y hy => .inl (by rw [List.mem_singleton.1 hy]; simp)) (fun y hy => .inl hy)
theorem stsetw_any (q p : Nat) (U : List Nat) (t : Sto) (w : World) (h : StAt G w q p U t) (hn : 1 <= t.s.d.n) (ho : t.s.d.ops <= 900000000) (hw : t.s.d.since.length <= 900000) :
  Calls Tryz.prog 126 #[.pointer (some ⟨q, 0, none⟩)] w fun e w' => e = .returned (.int .i64 t.setWhole.1) /\ Std G w w' q p U t.setWhole.2 := by
 obtain ⟨sp, mb, Us, φ, N, h, rfl⟩ := h
 obtain ⟨k0, _, _, k3⟩ := h.cells
 have CM := LH (stmade_any q p w k0)
 have HH := LH h
 obtain ⟨S, rv, R, hS⟩ := h.slots
 have CS := LH (sign_any p S t.s.d 2 w hS.disk hn ho hw)
 obtain ⟨sn, _, _⟩ := t.s.d.sign_ok 2
 have HS := LH hS
 have HG : Hid (t.setWhole = ((t.s.d.sign 2).1, ⟨{ t.s with d := (t.s.d.sign 2).2 }, t.whole || ((t.s.d.sign 2).1 == 0)⟩)) := LH rfl
 generalize t.setWhole = r at *
 generalize t.s.d.sign 2 = z at *
 obtain ⟨ze, d'⟩ := z
 dsimp only at CS HG sn
 rw [show bv 2 = .int .u8 2 from rfl] at CS
 have HSN := LH sn
 clear h hS sn
 go_enter Tryz.func126, Tryz.ntmps126
 go_wp2_with (go_at_call 42; refine CM.out.mono ?_; rintro e w' ⟨rfl, hq⟩; subst hq)
 refine CS.out.mono ?_
 rintro e w2 ⟨rfl, hd2⟩
 have hsid := SlotsAt.did HS.out hd2 HSN.out
 obtain ⟨Us2, g1, g2, g3⟩ := HH.out.slotsDid hsid rfl
 obtain ⟨c0, _, _, c3⟩ := g1.cells
 have f3 := blk_frozen g1.head 3
 have hl := blk_lt g1.head
 have HW : Hid (∀ b, Std G w (w2.setCell ⟨q, 3, none⟩ (.bool b)) q p (q :: mb :: Us) ⟨{ t.s with d := d' }, b⟩) := LH (fun b => (g1.setW b).std g2 ((g3.mono (fun y hy => .inl (by simp [hy]))).setCell (p := ⟨q, 3, none⟩) (.inl (by simp)) _))
 have HI : Hid (r = (ze, ⟨{ t.s with d := d' }, t.whole || (ze == 0)⟩)) := HG
 have c3' : w2.cell? ⟨q, 3, none⟩ = some (.bool t.whole) := c3
 clear hd2 hsid g1 g2 g3 CS HG c3
 generalize t.whole = b at *
 cases b with
 | true =>
  go_wp2
  go_ret
  rw [HI.out]
  exact ⟨rfl, HW.out true⟩
 | false =>
  by_cases hz : ze = 0
  ·subst hz
   go_wp2
   go_ret
   rw [HI.out]
   exact ⟨rfl, HW.out true⟩
  ·have q0 : (ze == 0) = false := by simp [hz]
   rw [q0] at HI
   go_wp2
   go_ret
   rw [HI.out]
   exact ⟨rfl, HW.out false⟩
def lastOf (c : Int) (l : List Id) : Id × Bool := l.foldl (fun r x => if x.c = c then (x, true) else r) (⟨0, 0, 0, 0⟩, false)
def Sto.latest (t : Sto) (c : Int) : Id × Bool := lastOf c t.ids
theorem id_row {w : World} {base g cap : Nat} {l : List Id} (h : w.ownsRow base 38 4 (.slice (some ⟨g, 0, none⟩) l.length cap) l.length (l.flatMap idE)) (j : Nat) (hj : j < l.length) (x : Id) (hx : l[j]? = some x) :
  w.cell? ⟨g, j * 4, none⟩ = some (.int .i64 x.c) /\ w.cell? ⟨g, j * 4 + 1, none⟩ = some (.int .i64 x.l) /\ w.cell? ⟨g, j * 4 + 2, none⟩ = some (.int .i64 x.n) /\ w.cell? ⟨g, j * 4 + 3, none⟩ = some (.int .i64 x.i) := by
 have key : ∀ k, k < 4 -> ∀ u, (idE x)[k]? = some u -> w.cell? ⟨g, j * 4 + k, none⟩ = some u := by
  intro k hk u hu
  have := h.cells (g := g) rfl (j * 4 + k) u (by
   have := flatMap_at idE (fun _ => rfl) l j k hj hk
   rw [show l[j]! = x by simp [List.getElem!_eq_getElem?_getD, hx]] at this
   rw [this]; exact hu)
  rw [add_none] at this
  simpa using this
 exact ⟨by simpa using key 0 (by omega) (.int .i64 x.c) rfl, key 1 (by omega) _ rfl, key 2 (by omega) _ rfl, key 3 (by omega) _ rfl⟩
end
section
open Go.RowKit Go.Sort
variable {G : List Nat}
end
theorem DS.wipe_live : ∀ (k a : Nat) (d : DS), d.Live -> a + 8 * k <= d.n + 7 -> (∀ i, d.now i = zeros 64) -> (d.wipe k a).1 = 0 /\ (d.wipe k a).2.Live /\ (d.wipe k a).2.n = d.n /\ (∀ i, (d.wipe k a).2.now i = zeros 64) /\ (d.wipe k a).2.since = []
 | 0, a, d, hd, hn, hz => by
  obtain ⟨h1, h2, h3, h4, h5⟩ := d.sync_live hd
  exact ⟨h1, h2, h3, fun i => by show (d.sync).2.now i = _; rw [h4, hz], h5⟩
 | k + 1, a, d, hd, hn, hz => by
  obtain ⟨h1, h2, h3, h4⟩ := DS.write_live hd a (zeros 64) (by omega) (by simp [zeros])
  obtain ⟨i1, i2, i3, i4, i5⟩ := DS.wipe_live k (a + 8) _ h2 (by rw [h3]; omega) (fun i => by
   rw [h4]; unfold upd
   split
   ·rfl
   ·exact hz i)
  unfold DS.wipe
  rw [if_neg (by rw [h1]; simp)]
  exact ⟨i1, i2, by rw [i3, h3], i4, i5⟩
theorem DS.sign_live {d : DS} (hd : d.Live) (n : UInt8) (hn : 1 <= d.n) : (d.sign n).1 = 0 /\ (d.sign n).2.Live /\ (d.sign n).2.n = d.n /\ (d.sign n).2.now = upd d.now 0 (n :: zeros 63) /\ (d.sign n).2.since = [] := by
 obtain ⟨h1, h2, h3, h4⟩ := DS.write_live hd 0 (n :: zeros 63) (by omega) (by simp [zeros])
 obtain ⟨g1, g2, g3, g4, g5⟩ := DS.sync_live h2
 unfold DS.sign
 rw [show ((0 : Nat) : Int) = 0 from rfl] at *
 rw [if_neg (by rw [h1]; simp)]
 exact ⟨g1, g2, by rw [g3, h3], by rw [g4, h4], g5⟩
theorem rowsFrom_zero {d : DS} {first : Nat} (h : ∀ i, 1 <= i -> d.now i = zeros 64) (hf : 1 <= first) : ∀ m k, rowsFrom d first m k = some (List.replicate m noRow)
 | 0, _ => rfl
 | m + 1, k => by
  unfold rowsFrom
  rw [h _ (by omega)]
  have : headOf (zeros 64) = some noRow := by rfl
  rw [this]
  dsimp only
  rw [rowsFrom_zero h hf m (k + 1)]
  rfl
theorem format_new (n : Nat) (h9 : 9 <= n) : ∃ d, (DS.new n).format = ((0, some ⟨⟨d, 1, List.replicate ((n - 1) / 8) noRow⟩, false⟩), d) /\ d.Live /\ d.n = n /\ d.since = [] /\ (∀ i, 1 <= i -> d.now i = zeros 64) /\ d.ops <= n /\ d.now 0 = 1 :: zeros 63 := by
 have hl : (DS.new n).Live := ⟨rfl, by show (-1 : Int) < 0; omega⟩
 obtain ⟨a1, a2, a3, a4, a5⟩ := DS.wipe_live ((n - 1) / 8) 1 (DS.new n) hl (by show _ <= n + 7; omega) (fun i => rfl)
 have a3' : ((DS.new n).wipe ((n - 1) / 8) 1).2.n = n := a3
 obtain ⟨w1, w2, w3⟩ := DS.wipe_ok ((n - 1) / 8) 1 (DS.new n)
 obtain ⟨b1, b2, b3, b4, b5⟩ := DS.sign_live a2 1 (by rw [a3']; omega)
 obtain ⟨s1, s2, s3⟩ := ((DS.new n).wipe ((n - 1) / 8) 1).2.sign_ok 1
 have hw0 : (DS.new n).ops = 0 := rfl
 obtain ⟨d, hd⟩ : ∃ d, d = (((DS.new n).wipe ((n - 1) / 8) 1).2.sign 1).2 := ⟨_, rfl⟩
 have hfm : (DS.new n).format = if ((DS.new n).wipe ((n - 1) / 8) 1).1 ≠ 0 then ((((DS.new n).wipe ((n - 1) / 8) 1).1, none), ((DS.new n).wipe ((n - 1) / 8) 1).2) else if (((DS.new n).wipe ((n - 1) / 8) 1).2.sign 1).1 ≠ 0 then (((((DS.new n).wipe ((n - 1) / 8) 1).2.sign 1).1, none), (((DS.new n).wipe ((n - 1) / 8) 1).2.sign 1).2) else ((((DS.new n).wipe ((n - 1) / 8) 1).2.sign 1).2.stOpen, (((DS.new n).wipe ((n - 1) / 8) 1).2.sign 1).2) := by
  unfold DS.format
  rw [if_neg (by show ¬ n < 9; omega)]
  rfl
 rw [hfm, if_neg (by rw [a1]; simp), if_neg (by rw [b1]; simp), <- hd]
 rw [<- hd] at b2 b3 b4 b5 s2
 have hn : d.n = n := by rw [b3, a3']
 have h0 : d.now 0 = 1 :: zeros 63 := by rw [b4]; unfold upd; rw [if_pos rfl]
 have h1 : ∀ i, 1 <= i -> d.now i = zeros 64 := fun i hi => by rw [b4]; unfold upd; rw [if_neg (by omega), a4]
 refine ⟨d, ?_, b2, hn, b5, h1, by omega, h0⟩
 have hsl : d.slots 1 = (0, some ⟨d, 1, List.replicate ((n - 1) / 8) noRow⟩) := by
  unfold DS.slots
  rw [if_neg (by omega), if_neg (by rw [b2.1]; simp; omega), show (1 : Int).toNat = 1 from rfl, rowsFrom_zero h1 (by omega), hn]
 have hop : d.stOpen = (0, some ⟨⟨d, 1, List.replicate ((n - 1) / 8) noRow⟩, false⟩) := by
  unfold DS.stOpen
  rw [if_neg (by omega), if_neg (by rw [b2.1]; simp), h0]
  rw [if_neg (by
   rintro (⟨h, _⟩ | h)
   ·exact h rfl
   ·rw [show (1 :: zeros 63).drop 1 = zeros 63 from rfl, allZ_zeros] at h; cases h), hsl]
  dsimp only
  rw [if_pos (stKeys_iff.2 (fun r hr hu => by
   obtain rfl := List.eq_of_mem_replicate hr
   simp [noRow] at hu))]
  rfl
 rw [hop]
abbrev Frag := Id -> Option (List UInt8)
def setF (F : Frag) (x : Id) (o : Option (List UInt8)) : Frag := fun y => if y = x then o else F y
theorem setF_self (F : Frag) (x : Id) (o : Option (List UInt8)) : setF F x o x = o := if_pos rfl
theorem setF_other (F : Frag) {x y : Id} (o : Option (List UInt8)) (h : y ≠ x) : setF F x o y = F y := if_neg h
structure Kept (t : Sto) (F : Frag) : Prop where
 told : ∃ u v, Told t.s u v /\ ∀ x, mayId x = true -> (F x = none /\ t.at x = []) ∨ ∃ i b, F x = some b /\ t.at x = [i] /\ v i = b
 out : ∀ x, mayId x = false -> F x = none
 keys : keysOk t.s.rows
 since : t.s.d.since = []
 first : t.s.first = 1
theorem SS.put_ok (s : SS) (i : Int) (key b : List UInt8) : (s.put i key b).2.d.ops <= s.d.ops + 20 /\ (s.put i key b).2.d.since.length <= s.d.since.length + 20 /\ (s.put i key b).2.d.n = s.d.n /\ (s.put i key b).2.first = s.first /\ (s.put i key b).2.rows.length = s.rows.length := by
 unfold SS.put
 split
 ·exact ⟨Nat.le_add_right _ _, Nat.le_add_right _ _, rfl, rfl, rfl⟩
 ·split
  ·exact ⟨Nat.le_add_right _ _, Nat.le_add_right _ _, rfl, rfl, rfl⟩
  ·rename_i h1 h2
   obtain ⟨a1, a2, a3⟩ := s.d.lays_ok (s.pos i + 1) b
   obtain ⟨b1, b2, b3⟩ := (s.d.lays (s.pos i + 1) b).2.lays_ok (s.pos i) (headBytes b.length key)
   have hn1 : nsec b.length <= 7 := by unfold nsec; omega
   have hn2 : nsec (headBytes b.length key).length <= 1 := by rw [headBytes_len _ _ (by omega) (by omega)]; unfold nsec; omega
   split
   ·exact ⟨Nat.le_add_right _ _, Nat.le_add_right _ _, rfl, rfl, rfl⟩
   ·split
    ·exact ⟨by dsimp only; omega, by dsimp only; omega, a1, rfl, rfl⟩
    ·split
     ·exact ⟨by dsimp only; omega, by dsimp only; omega, by dsimp only; rw [b1, a1], rfl, rfl⟩
     ·exact ⟨by dsimp only; omega, by dsimp only; omega, by dsimp only; rw [b1, a1], rfl, by dsimp only; rw [List.length_set]⟩
theorem Sto.put_ok (t : Sto) (x : Id) (b : List UInt8) : (t.put x b).2.s.d.ops <= t.s.d.ops + 20 /\ (t.put x b).2.s.d.since.length <= t.s.d.since.length + 20 /\ (t.put x b).2.s.d.n = t.s.d.n /\ (t.put x b).2.s.rows.length = t.s.rows.length /\ (t.put x b).2.whole = t.whole := by
 have h0 : t.s.d.ops <= t.s.d.ops + 20 /\ t.s.d.since.length <= t.s.d.since.length + 20 /\ t.s.d.n = t.s.d.n /\ t.s.rows.length = t.s.rows.length /\ t.whole = t.whole := ⟨Nat.le_add_right _ _, Nat.le_add_right _ _, rfl, rfl, rfl⟩
 unfold Sto.put
 split
 ·exact h0
 ·split
  ·exact h0
  ·split
   ·split
    ·exact h0
    ·split
     ·exact h0
     ·exact h0
   ·split
    ·exact h0
    ·obtain ⟨a1, a2, a3, a4, a5⟩ := t.s.put_ok t.s.free (idKey x) b
     exact ⟨a1, a2, a3, a5, rfl⟩
theorem countP_put {l : List SRow} {i : Nat} (r : SRow) (hi : i < l.length) (f : SRow -> Bool) : (l.set i r).countP f + (if f (l.getD i noRow) then 1 else 0) = l.countP f + if f r then 1 else 0 := by
 induction l generalizing i with
 | nil => simp at hi
 | cons a l ih =>
  cases i with
  | zero =>
   simp only [List.set_cons_zero, List.countP_cons, List.getD_cons_zero]
   omega
  | succ i =>
   have := ih (i := i) (by simpa using hi)
   simp only [List.set_cons_succ, List.countP_cons, List.getD_cons_succ]
   omega
theorem Kept.del_bad {t : Sto} {x : Id} (hm : mayId x = false) : t.del x = (1, t) := by
 unfold Sto.del
 rw [if_pos hm]
def Lost2 (s : SS) (d2 : DS) (u : Nat -> Bool) (v : Nat -> List UInt8) (k : Nat) (r : SRow) (b : List UInt8) : Prop :=
 d2.dead = true /\ d2.n = s.d.n /\ ∀ ch, ToldR { s with d := d2.crash ch } u v ∨ ToldR { s with d := d2.crash ch, rows := s.rows.set k r } (fun j => if j = k then r.used else u j) (fun j => if j = k then b else v j)
theorem ToldR.put2 {s : SS} {u : Nat -> Bool} {v : Nat -> List UInt8} (h : ToldR s u v) (k : Nat) (hk : k < s.rows.length) (key b : List UInt8) (hu : u k = false) (hkey : key.length <= 40) (hb : b.length <= 448) :
  ((s.put (k : Int) key b).1 = 0 /\ ToldR (s.put (k : Int) key b).2 (fun j => if j = k then true else u j) (fun j => if j = k then b else v j) /\ (s.put (k : Int) key b).2.rows.length = s.rows.length /\ (s.put (k : Int) key b).2.first = s.first /\ (s.put (k : Int) key b).2.d.n = s.d.n) ∨
  ((s.put (k : Int) key b).1 = 14 /\ (s.put (k : Int) key b).2.rows = s.rows /\ (s.put (k : Int) key b).2.first = s.first /\ Lost2 s (s.put (k : Int) key b).2.d u v k ⟨true, b.length, key⟩ b) := by
 have hh : s.has (k : Int) := ⟨by omega, by omega⟩
 have hr : s.row (k : Int) = s.rows.getD k noRow := rfl
 have hp : s.pos (k : Int) = s.first + 8 * k := rfl
 have hns : nsec b.length <= 7 := by unfold nsec; omega
 have hroom := h.room
 have hput : s.put (k : Int) key b = if (s.d.lays (s.pos k + 1) b).1 ≠ 0 then ((s.d.lays (s.pos k + 1) b).1, { s with d := (s.d.lays (s.pos k + 1) b).2 }) else
  if ((s.d.lays (s.pos k + 1) b).2.lays (s.pos k) (headBytes b.length key)).1 ≠ 0 then (((s.d.lays (s.pos k + 1) b).2.lays (s.pos k) (headBytes b.length key)).1, { s with d := ((s.d.lays (s.pos k + 1) b).2.lays (s.pos k) (headBytes b.length key)).2 }) else
  (0, { s with d := ((s.d.lays (s.pos k + 1) b).2.lays (s.pos k) (headBytes b.length key)).2, rows := s.rows.set k ⟨true, b.length, key⟩ }) := by
  unfold SS.put
  rw [if_neg (by simpa using hh), if_neg (by omega), hr, h.used k hk, hu, if_neg (by simp)]
  rfl
 rw [hput]
 have hh1 : nsec (headBytes b.length key).length = 1 := by rw [headBytes_len _ _ hb hkey]; unfold nsec; omega
 rcases DS.lays_may (s.pos k + 1) b h.rest (by rw [hp]; omega) with ⟨a1, a2, a3, a4⟩ | ⟨a1, a2, a3, a4, a5⟩
 ·rw [if_neg (by rw [a1]; simp)]
  generalize (s.d.lays (s.pos k + 1) b).2 = d1 at *
  rw [hp] at a4
  have hfar1 : ∀ j i, j < s.rows.length -> j ≠ k -> i < 8 -> d1.now (s.first + 8 * j + i) = s.d.now (s.first + 8 * j + i) := fun j i _ hj hi => by
   rw [a4, if_neg (by omega)]
  have hhd1 : d1.now (s.first + 8 * k) = s.d.now (s.first + 8 * k) := by rw [a4, if_neg (by omega)]
  rcases DS.lays_may (s.pos k) (headBytes b.length key) a2 (by rw [hh1, a3, hp]; omega) with ⟨b1, b2, b3, b4⟩ | ⟨b1, b2, b3, b4, b5⟩
  ·left
   rw [if_neg (by rw [b1]; simp)]
   generalize (d1.lays (s.pos k) (headBytes b.length key)).2 = d2 at *
   rw [hp, hh1] at b4
   refine ⟨rfl, h.of_now d2 b2 (by rw [b3, a3]) k hk ⟨true, b.length, key⟩ ?_ (fun j i hj hjk hi => ?_) b (fun _ => ?_), by simp, rfl, by rw [<- a3, <- b3]⟩
   ·rw [b4, if_pos (by omega), Nat.sub_self]
    exact head_back _ _ hb hkey
   ·rw [b4, if_neg (by omega)]
    exact hfar1 j i hj hjk hi
   ·dsimp only
    rw [flat_congr _ _ (secAt b) (fun i hi => by rw [b4, if_neg (by omega), a4, if_pos (by omega)]; congr 1; omega)]
    exact flat_back b
  ·right
   rw [if_pos (by rw [b1]; simp)]
   generalize (d1.lays (s.pos k) (headBytes b.length key)).2 = d2 at *
   refine ⟨b1, rfl, rfl, b2, by rw [b3, a3], fun ch => ?_⟩
   rw [hh1] at b5
   have hall : ∀ x ∈ chosen ch d2.since 0, x = (s.first + 8 * k, secAt (headBytes b.length key) 0) := fun x hx => by
    obtain ⟨i, hi, rfl⟩ := b5 x (chosen_mem _ _ hx)
    obtain rfl : i = 0 := by omega
    rw [hp, Nat.add_zero]
   have hn2 : (d2.crash ch).n = s.d.n := by show d2.n = _; rw [b3, a3]
   have hl1 : ∀ i, d2.lasts i = d1.now i := fun i => by rw [b4]; exact a2.same i
   have hoth : ∀ i, i ≠ s.first + 8 * k -> (d2.crash ch).now i = d1.now i := fun i hi => by
    rw [crash_now, applied_far i _ _ (fun x hx => by rw [hall x hx]; exact fun e => hi e.symm), hl1]
   have hfar2 : ∀ j i, j < s.rows.length -> j ≠ k -> i < 8 -> (d2.crash ch).now (s.first + 8 * j + i) = s.d.now (s.first + 8 * j + i) := fun j i hj hjk hi => by
    rw [hoth _ (by omega)]
    exact hfar1 j i hj hjk hi
   rcases applied_same (s.first + 8 * k) (secAt (headBytes b.length key) 0) (chosen ch d2.since 0) d2.lasts hall with hA | hA
   ·refine .inl (h.again (d2.crash ch) (crash_rest _ _) hn2 k hk hu ?_ hfar2)
    rw [crash_now, hA, hl1, hhd1]
   ·refine .inr (h.of_now (d2.crash ch) (crash_rest _ _) hn2 k hk ⟨true, b.length, key⟩ ?_ hfar2 b (fun _ => ?_))
    ·rw [crash_now, hA]
     exact head_back _ _ hb hkey
    ·dsimp only
     rw [flat_congr _ _ (secAt b) (fun i hi => by rw [hoth _ (by omega), a4, if_pos (by omega)]; congr 1; omega)]
     exact flat_back b
 ·right
  rw [if_pos (by rw [a1]; simp)]
  generalize (s.d.lays (s.pos k + 1) b).2 = d1 at *
  refine ⟨a1, rfl, rfl, a2, a3, fun ch => .inl ?_⟩
  have hn2 : (d1.crash ch).n = s.d.n := a3
  have hoth : ∀ i, i < s.first + 8 * k + 1 ∨ s.first + 8 * k + 8 <= i -> (d1.crash ch).now i = s.d.now i := fun i hi => by
   rw [crash_now, applied_far i _ _ (fun x hx => by
    obtain ⟨t, ht, rfl⟩ := a5 x (chosen_mem _ _ hx)
    rw [hp]
    show s.first + 8 * k + 1 + t ≠ i
    omega), a4]
   exact h.rest.same i
  refine h.again (d1.crash ch) (crash_rest _ _) hn2 k hk hu (hoth _ (by omega)) (fun j i hj hjk hi => hoth _ (by omega))
theorem ToldR.clear2 {s : SS} {u : Nat -> Bool} {v : Nat -> List UInt8} (h : ToldR s u v) (k : Nat) (hk : k < s.rows.length) (hu : u k = true) :
  ((s.clear (k : Int)).1 = 0 /\ ToldR (s.clear (k : Int)).2 (fun j => if j = k then false else u j) v /\ (s.clear (k : Int)).2.rows.length = s.rows.length /\ (s.clear (k : Int)).2.first = s.first /\ (s.clear (k : Int)).2.d.n = s.d.n) ∨
  ((s.clear (k : Int)).1 = 14 /\ (s.clear (k : Int)).2.rows = s.rows /\ (s.clear (k : Int)).2.first = s.first /\ Lost2 s (s.clear (k : Int)).2.d u v k noRow (v k)) := by
 have hh : s.has (k : Int) := ⟨by omega, by omega⟩
 have hr : s.row (k : Int) = s.rows.getD k noRow := rfl
 have hp : s.pos (k : Int) = s.first + 8 * k := rfl
 have hroom := h.room
 have e2 : (fun j => if j = k then v k else v j) = v := by funext j; split <;> simp_all
 have hcl : s.clear (k : Int) = if (s.d.lays (s.pos k) (zeros 64)).1 ≠ 0 then ((s.d.lays (s.pos k) (zeros 64)).1, { s with d := (s.d.lays (s.pos k) (zeros 64)).2 }) else (0, { s with d := (s.d.lays (s.pos k) (zeros 64)).2, rows := s.rows.set k noRow }) := by
  unfold SS.clear
  rw [if_neg (by simpa using hh), hr, h.used k hk, hu, if_neg (by simp)]
  rfl
 rw [hcl]
 have hh1 : nsec (zeros 64).length = 1 := rfl
 rcases DS.lays_may (s.pos k) (zeros 64) h.rest (by rw [hh1, hp]; omega) with ⟨b1, b2, b3, b4⟩ | ⟨b1, b2, b3, b4, b5⟩
 ·left
  rw [if_neg (by rw [b1]; simp)]
  generalize (s.d.lays (s.pos k) (zeros 64)).2 = d2 at *
  rw [hp, hh1] at b4
  have h1 := h.of_now d2 b2 b3 k hk noRow (by rw [b4, if_pos (by omega), Nat.sub_self]; exact head_none) (fun j i hj hjk hi => by rw [b4, if_neg (by omega)]) (v k) (fun e => by cases e)
  rw [e2] at h1
  exact ⟨rfl, h1, by simp, rfl, b3⟩
 ·right
  rw [if_pos (by rw [b1]; simp)]
  generalize (s.d.lays (s.pos k) (zeros 64)).2 = d2 at *
  refine ⟨b1, rfl, rfl, b2, b3, fun ch => ?_⟩
  rw [hh1] at b5
  have hall : ∀ x ∈ chosen ch d2.since 0, x = (s.first + 8 * k, secAt (zeros 64) 0) := fun x hx => by
   obtain ⟨i, hi, rfl⟩ := b5 x (chosen_mem _ _ hx)
   obtain rfl : i = 0 := by omega
   rw [hp, Nat.add_zero]
  have hn2 : (d2.crash ch).n = s.d.n := b3
  have hl1 : ∀ i, d2.lasts i = s.d.now i := fun i => by rw [b4]; exact h.rest.same i
  have hoth : ∀ i, i ≠ s.first + 8 * k -> (d2.crash ch).now i = s.d.now i := fun i hi => by
   rw [crash_now, applied_far i _ _ (fun x hx => by rw [hall x hx]; exact fun e => hi e.symm), hl1]
  have hfar2 : ∀ j i, j < s.rows.length -> j ≠ k -> i < 8 -> (d2.crash ch).now (s.first + 8 * j + i) = s.d.now (s.first + 8 * j + i) := fun j i hj hjk hi => hoth _ (by omega)
  rcases applied_same (s.first + 8 * k) (secAt (zeros 64) 0) (chosen ch d2.since 0) d2.lasts hall with hA | hA
  ·refine .inl ?_
   have h1 := h.of_now (d2.crash ch) (crash_rest _ _) hn2 k hk (s.rows.getD k noRow) (by rw [crash_now, hA, hl1]; exact h.head k hk) hfar2 (v k) (fun _ => by
    have hsm := h.small k hk
    rw [flat_congr _ _ (fun i => s.d.now (s.first + 8 * k + 1 + i)) (fun i hi => hoth _ (by omega))]
    exact h.data k hk hu)
   rw [set_self _ _ hk, h.used k hk] at h1
   have e1 : (fun j => if j = k then u k else u j) = u := by funext j; split <;> simp_all
   rw [e1, e2] at h1
   exact h1
  ·refine .inr (h.of_now (d2.crash ch) (crash_rest _ _) hn2 k hk noRow ?_ hfar2 (v k) (fun e => by cases e))
   rw [crash_now, hA]
   exact head_none
structure DS.Zero (d : DS) (c : List UInt8) : Prop where
 now : d.now 0 = c
 lasts : d.lasts 0 = c
 since : ∀ x ∈ d.since, x.1 ≠ 0
theorem DS.Zero.write {d : DS} {c : List UInt8} (h : d.Zero c) (k : Nat) (hk : k ≠ 0) (b : List UInt8) : (d.write (k : Int) b).2.Zero c := by
 unfold DS.write
 split
 ·exact h
 ·split
  ·have hs : ∀ x ∈ d.since ++ [((k : Int).toNat, b)], x.1 ≠ 0 := fun x hx => by
    rcases List.mem_append.1 hx with hx | hx
    ·exact h.since x hx
    ·rw [List.mem_singleton.1 hx]; simpa using hk
   dsimp only
   unfold DS.op
   dsimp only
   by_cases hf : d.fuse = 0
   ·rw [if_pos hf]
    exact ⟨h.now, h.lasts, hs⟩
   ·rw [if_neg hf]
    refine ⟨?_, h.lasts, hs⟩
    show upd d.now (k : Int).toNat b 0 = c
    unfold upd
    rw [if_neg (by simp; omega)]
    exact h.now
  ·exact h
theorem DS.Zero.sync {d : DS} {c : List UInt8} (h : d.Zero c) : (d.sync).2.Zero c := by
 unfold DS.sync
 split
 ·exact h
 ·unfold DS.op
  by_cases hf : d.fuse = 0
  ·simp only [hf, if_true]
   exact ⟨h.now, h.lasts, h.since⟩
  ·simp only [hf, if_false, if_true]
   refine ⟨h.now, ?_, by simp⟩
   show applied d.since d.lasts 0 = c
   rw [applied_far 0 _ _ h.since]
   exact h.lasts
theorem DS.Zero.lay {c : List UInt8} (pos : Nat) (hp : pos ≠ 0) (b : List UInt8) : ∀ (k j : Nat) (d : DS), d.Zero c -> (d.lay pos b k j).2.Zero c
 | 0, j, d, h => h.sync
 | k + 1, j, d, h => by
  unfold DS.lay
  split
  ·exact h.write (pos + j) (by omega) _
  ·exact DS.Zero.lay pos hp b k (j + 1) _ (h.write (pos + j) (by omega) _)
theorem DS.Zero.lays {d : DS} {c : List UInt8} (h : d.Zero c) (pos : Nat) (hp : pos ≠ 0) (b : List UInt8) : (d.lays pos b).2.Zero c := DS.Zero.lay pos hp b _ _ d h
theorem DS.Zero.put {s : SS} {c : List UInt8} (h : s.d.Zero c) (hf : s.first ≠ 0) (i : Int) (key b : List UInt8) : (s.put i key b).2.d.Zero c := by
 have h1 : s.pos i ≠ 0 := by unfold SS.pos; omega
 have a := h.lays (s.pos i + 1) (by omega) b
 have a2 := a.lays (s.pos i) h1 (headBytes b.length key)
 unfold SS.put
 split
 ·exact h
 ·split
  ·exact h
  ·split
   ·exact h
   ·split
    ·exact a
    ·split
     ·exact a2
     ·exact a2
theorem DS.Zero.clear {s : SS} {c : List UInt8} (h : s.d.Zero c) (hf : s.first ≠ 0) (i : Int) : (s.clear i).2.d.Zero c := by
 have h1 : s.pos i ≠ 0 := by unfold SS.pos; omega
 have a := h.lays (s.pos i) h1 (zeros 64)
 unfold SS.clear
 split
 ·exact h
 ·split
  ·exact h
  ·split
   ·exact a
   ·exact a
theorem DS.Zero.crash {d : DS} {c : List UInt8} (h : d.Zero c) (ch : List UInt8) : (d.crash ch).Zero c := by
 have e : applied (chosen ch d.since 0) d.lasts 0 = c := by
  rw [applied_far 0 _ _ (fun x hx => h.since x (chosen_mem _ _ hx))]
  exact h.lasts
 exact ⟨e, e, by intro x hx; cases hx⟩
structure KeptR (t : Sto) (F : Frag) : Prop where
 told : ∃ u v, ToldR t.s u v /\ ∀ x, mayId x = true -> (F x = none /\ t.at x = []) ∨ ∃ i b, F x = some b /\ t.at x = [i] /\ v i = b
 out : ∀ x, mayId x = false -> F x = none
 keys : keysOk t.s.rows
 first : t.s.first = 1
 full : (t.s.d.n - 1) / 8 = t.s.rows.length /\ 9 <= t.s.d.n
 zero : t.s.d.Zero ((if t.whole then 2 else 1) :: zeros 63)
theorem KeptR.rest {t : Sto} {F : Frag} (h : KeptR t F) : t.s.d.Rest := by obtain ⟨u, v, h1, _⟩ := h.told; exact h1.rest
def Reopens (d : DS) (wh : Bool) (F : Frag) : Prop := ∃ t, d.stOpen = (0, some t) /\ KeptR t F /\ t.whole = wh /\ t.s.d = d
theorem reopens_of {t : Sto} {F : Frag} (h : KeptR t F) : Reopens t.s.d t.whole F := by
 refine ⟨t, ?_, h, rfl, rfl⟩
 obtain ⟨u, v, h1, _⟩ := h.told
 have hsl := h1.anew (by rw [h.first]; exact h.full.1) (by have := h.full.2; omega)
 rw [h.first] at hsl
 have hn := h.full.2
 unfold DS.stOpen
 rw [if_neg (by omega), if_neg (by rw [h1.rest.alive]; simp), h.zero.now]
 cases hw : t.whole with
 | true =>
  rw [if_neg (by
   rintro (⟨_, h2⟩ | h2)
   ·exact h2 rfl
   ·rw [show (((if true = true then (2 : UInt8) else 1) :: zeros 63)).drop 1 = zeros 63 from rfl, allZ_zeros] at h2; cases h2)]
  rw [show ((1 : Nat) : Int) = 1 from rfl] at hsl
  rw [hsl]
  dsimp only
  rw [if_pos (stKeys_iff.2 h.keys)]
  obtain ⟨ts, tw⟩ := t
  dsimp only at hw
  subst hw
  rfl
 | false =>
  rw [if_neg (by
   rintro (⟨h2, _⟩ | h2)
   ·exact h2 rfl
   ·rw [show (((if false = true then (2 : UInt8) else 1) :: zeros 63)).drop 1 = zeros 63 from rfl, allZ_zeros] at h2; cases h2)]
  rw [show ((1 : Nat) : Int) = 1 from rfl] at hsl
  rw [hsl]
  dsimp only
  rw [if_pos (stKeys_iff.2 h.keys)]
  obtain ⟨ts, tw⟩ := t
  dsimp only at hw
  subst hw
  rfl
theorem KeptR.at_none {t : Sto} {F : Frag} (h : KeptR t F) {x : Id} (hx : F x = none) : t.at x = [] := by
 by_cases hm : mayId x = true
 ·obtain ⟨u, v, _, h2⟩ := h.told
  rcases h2 x hm with ⟨_, h3⟩ | ⟨i, b, h3, _⟩
  ·exact h3
  ·rw [hx] at h3; cases h3
 ·exact Sto.at_not (by simpa using hm)
theorem KeptR.at_some {t : Sto} {F : Frag} (h : KeptR t F) {x : Id} {b : List UInt8} (hx : F x = some b) : mayId x = true /\ t.at x ≠ [] := by
 by_cases hm : mayId x = true
 ·obtain ⟨u, v, _, h2⟩ := h.told
  rcases h2 x hm with ⟨h3, _⟩ | ⟨i, b', h3, h4, _⟩
  ·rw [hx] at h3; cases h3
  ·exact ⟨hm, by rw [h4]; simp⟩
 ·rw [h.out x (by simpa using hm)] at hx; cases hx
theorem KeptR.get {t : Sto} {F : Frag} (h : KeptR t F) (x : Id) : t.get x = if mayId x = false then (([] : List UInt8), (1 : Int)) else match F x with | none => ([], 6) | some b => (b, 0) := by
 unfold Sto.get
 by_cases hm : mayId x = true
 ·rw [if_neg (by simp [hm]), if_neg (by simp [hm])]
  obtain ⟨u, v, h1, h2⟩ := h.told
  rcases h2 x hm with ⟨h3, h4⟩ | ⟨i, b, h3, h4, h5⟩
  ·rw [h3, h4]
  ·rw [h3, h4]
   dsimp only
   have hi : i ∈ upto t.s.rows t.s.rows.length (idKey x) := by rw [<- Sto.at_may hm, h4]; simp
   obtain ⟨a, b1, _⟩ := upto_mem.1 hi
   rw [h1.get i a, if_pos (by rw [<- h1.used i a]; exact b1), h5]
 ·rw [if_pos (by simpa using hm), if_pos (by simpa using hm)]
theorem KeptR.mem_ids {t : Sto} {F : Frag} (h : KeptR t F) (x : Id) : x ∈ t.ids ↔ (F x).isSome = true := by
 rw [Sto.mem_ids h.keys]
 cases hx : F x with
 | none => simp [h.at_none hx]
 | some b => simp [(h.at_some hx).2]
theorem KeptR.put_full {t : Sto} {F : Frag} (h : KeptR t F) {x : Id} (hm : mayId x = true) (hF : F x = none) {b : List UInt8} (hb : b.length <= 448) (hr : t.room = 0) : t.put x b = (5, t) := by
 have hfree : t.s.free < 0 := by
  unfold SS.free
  rcases rowFree_spec t.s.rows 0 with ⟨h1, _⟩ | ⟨n, h1, h2, h3, _⟩
  ·rw [h1]; omega
  ·unfold Sto.room at hr
   have := List.countP_eq_zero.1 hr _ (row_mem h1)
   rw [h3] at this; simp at this
 unfold Sto.put
 rw [if_neg (by simp [hm]), if_neg (by omega), h.at_none hF]
 dsimp only
 rw [if_pos hfree]
theorem KeptR.put_there {t : Sto} {F : Frag} (h : KeptR t F) {x : Id} {c : List UInt8} (hF : F x = some c) (b : List UInt8) (hb : b.length <= 448) : t.put x b = (if c = b then 0 else 7, t) := by
 obtain ⟨hm, hne⟩ := h.at_some hF
 have hg := h.get x
 rw [if_neg (by simp [hm]), hF] at hg
 unfold Sto.get at hg
 rw [if_neg (by simp [hm])] at hg
 unfold Sto.put
 rw [if_neg (by simp [hm]), if_neg (by omega)]
 cases hat : t.at x with
 | nil => exact absurd hat hne
 | cons i r =>
  rw [hat] at hg
  dsimp only at hg ⊢
  rw [hg, if_neg (by simp)]
  split <;> rfl
theorem KeptR.put_bad {t : Sto} {F : Frag} (h : KeptR t F) {x : Id} {b : List UInt8} (hm : mayId x = false ∨ 448 < b.length) : (t.put x b).1 ≠ 0 /\ (t.put x b).2 = t := by
 unfold Sto.put
 by_cases h1 : mayId x = false
 ·rw [if_pos h1]; exact ⟨by simp, rfl⟩
 ·rw [if_neg h1, if_pos (by rcases hm with h2 | h2; exact absurd h2 h1; exact h2)]
  exact ⟨by simp, rfl⟩
def DS.Fair (d : DS) : Prop := d.dead = false -> ∀ i, applied d.since d.lasts i = d.now i
theorem DS.Fair.write {d : DS} (h : d.Fair) (k : Int) (b : List UInt8) : (d.write k b).2.Fair := by
 unfold DS.write
 split
 ·exact h
 ·rename_i hd
  have h := h (by simpa using hd)
  split
  ·unfold DS.op
   by_cases hf : d.fuse = 0
   ·simp only [hf, if_true]
    intro hh; cases hh
   ·simp only [hf, if_false, if_true]
    intro _ i
    show applied (d.since ++ [(k.toNat, b)]) d.lasts i = upd d.now k.toNat b i
    rw [applied_snoc]
    unfold upd
    split
    ·rfl
    ·exact h i
  ·exact fun _ => h
theorem DS.Fair.sync {d : DS} (h : d.Fair) : (d.sync).2.Fair := by
 unfold DS.sync
 split
 ·exact h
 ·rename_i hd
  have h := h (by simpa using hd)
  unfold DS.op
  by_cases hf : d.fuse = 0
  ·simp only [hf, if_true]
   intro hh; cases hh
  ·simp only [hf, if_false, if_true]
   intro _ i
   exact h i
theorem DS.Fair.wipe : ∀ (k a : Nat) (d : DS), d.Fair -> (d.wipe k a).2.Fair
 | 0, a, d, h => h.sync
 | k + 1, a, d, h => by
  unfold DS.wipe
  split
  ·exact h.write _ _
  ·exact DS.Fair.wipe k (a + 8) _ (h.write _ _)
theorem DS.Fair.sign {d : DS} (h : d.Fair) (n : UInt8) : (d.sign n).2.Fair := by
 unfold DS.sign
 split
 ·exact h.write _ _
 ·exact (h.write _ _).sync
theorem format_fair {d : DS} (h : d.Fair) : d.format.2.Fair := by
 have h1 : d.fmt1.2.Fair := h.wipe _ _
 have h2 : d.fmt2.2.Fair := h1.sign 1
 unfold DS.format
 split
 ·exact h
 ·split
  ·exact h1
  ·split
   ·exact h2
   ·exact h2
theorem KeptR.new (n : Nat) (h9 : 9 <= n) : ∃ t d, (DS.new n).format = ((0, some t), d) /\ KeptR t (fun _ => none) /\ t.s.d = d /\ t.s.rows = List.replicate ((n - 1) / 8) noRow /\ d.n = n /\ d.ops <= n /\ t.whole = false /\ d.Live := by
 obtain ⟨d, h1, h2, h3, h4, h5, h6, h7⟩ := format_new n h9
 have hf : d.Fair := by
  have := format_fair (d := DS.new n) (fun _ _ => rfl)
  rw [h1] at this
  exact this
 have hl : ∀ i, d.lasts i = d.now i := fun i => by
  have := hf h2.1 i
  rw [h4] at this
  exact this
 refine ⟨_, d, h1, ⟨⟨fun _ => false, fun _ => [], ⟨⟨h2.1, h4, hl⟩, by show 1 + 8 * (List.replicate _ noRow).length <= d.n; rw [List.length_replicate]; omega, fun k hk => ?_, fun k hk => ?_, fun k hk hu => by cases hu⟩, fun x hx => .inl ⟨rfl, ?_⟩⟩, fun _ _ => rfl, fun r hr hu => ?_, rfl, ⟨?_, by show 9 <= d.n; omega⟩, ⟨h7, by show d.lasts 0 = _; rw [hl]; exact h7, by show ∀ x ∈ d.since, _; rw [h4]; simp⟩⟩, rfl, rfl, h3, h6, rfl, h2⟩
 ·rw [List.length_replicate] at hk
  show headOf (d.now (1 + 8 * k)) = _
  rw [h5 _ (by omega), List.getD_eq_getElem?_getD, List.getElem?_replicate, if_pos hk]
  rfl
 ·rw [List.length_replicate] at hk
  show ((List.replicate _ noRow).getD k noRow).used = false
  rw [List.getD_eq_getElem?_getD, List.getElem?_replicate, if_pos hk]
  rfl
 ·rw [Sto.at_may hx]
  cases hu : upto (List.replicate ((n - 1) / 8) noRow) (List.replicate ((n - 1) / 8) noRow).length (idKey x) with
  | nil => rfl
  | cons j r =>
   have hj : j ∈ upto (List.replicate ((n - 1) / 8) noRow) (List.replicate ((n - 1) / 8) noRow).length (idKey x) := by rw [hu]; simp
   obtain ⟨a, b, _⟩ := upto_mem.1 hj
   rw [List.length_replicate] at a
   rw [List.getD_eq_getElem?_getD, List.getElem?_replicate, if_pos a] at b
   simp [noRow] at b
 ·obtain rfl := List.eq_of_mem_replicate hr
  simp [noRow] at hu
 ·show (d.n - 1) / 8 = (List.replicate ((n - 1) / 8) noRow).length
  rw [List.length_replicate, h3]
section
variable {t : Sto} {F : Frag} {u : Nat -> Bool} {v : Nat -> List UInt8} {x : Id} {b : List UInt8} {i : Nat} {d2 : DS}
def Tells (t : Sto) (F : Frag) (u : Nat -> Bool) (v : Nat -> List UInt8) : Prop := ∀ x, mayId x = true -> (F x = none /\ t.at x = []) ∨ ∃ i b, F x = some b /\ t.at x = [i] /\ v i = b
theorem KeptR.same_row (h : KeptR t F) (ht : ToldR { t.s with d := d2 } u v) (ha : Tells t F u v) (hz : d2.Zero ((if t.whole then 2 else 1) :: zeros 63)) (hn : d2.n = t.s.d.n) : KeptR ⟨{ t.s with d := d2 }, t.whole⟩ F :=
 ⟨⟨u, v, ht, ha⟩, h.out, h.keys, h.first, ⟨by show (d2.n - 1) / 8 = _; rw [hn]; exact h.full.1, by show 9 <= d2.n; rw [hn]; exact h.full.2⟩, hz⟩
theorem KeptR.put_row (h : KeptR t F) (hm : mayId x = true) (hF : F x = none) (hil : i < t.s.rows.length) (hiu : (t.s.rows.getD i noRow).used = false)
  (ht : ToldR { t.s with d := d2, rows := t.s.rows.set i ⟨true, b.length, idKey x⟩ } (fun j => if j = i then true else u j) (fun j => if j = i then b else v j)) (ha : Tells t F u v) (hz : d2.Zero ((if t.whole then 2 else 1) :: zeros 63)) (hn : d2.n = t.s.d.n) :
  KeptR ⟨{ t.s with d := d2, rows := t.s.rows.set i ⟨true, b.length, idKey x⟩ }, t.whole⟩ (setF F x (some b)) := by
 have hat := h.at_none hF
 have hat2 : upto t.s.rows t.s.rows.length (idKey x) = [] := by rw [<- Sto.at_may hm]; exact hat
 have hat' : ∀ y, mayId y = true -> Sto.at ⟨{ t.s with d := d2, rows := t.s.rows.set i ⟨true, b.length, idKey x⟩ }, t.whole⟩ y = if y = x then [i] else t.at y := fun y hy => by
  rw [Sto.at_may hy, Sto.at_may hy]
  show upto (t.s.rows.set i ⟨true, b.length, idKey x⟩) (t.s.rows.set i ⟨true, b.length, idKey x⟩).length (idKey y) = _
  rw [upto_put hil hiu hat2]
  by_cases e : y = x
  ·subst e; rw [if_pos rfl, if_pos rfl]
  ·rw [if_neg e, if_neg (fun h => e (idKey_inj hy hm h))]
 refine ⟨⟨_, _, ht, fun y hy => ?_⟩, fun y hy => ?_, h.keys.set i (fun _ => (un_key hm).2), h.first, ⟨?_, by show 9 <= d2.n; rw [hn]; exact h.full.2⟩, hz⟩
 ·rw [hat' y hy]
  by_cases e : y = x
  ·subst e
   rw [setF_self, if_pos rfl]
   exact .inr ⟨i, b, rfl, rfl, by simp⟩
  ·rw [setF_other _ _ e, if_neg e]
   rcases ha y hy with h1 | ⟨j, c, h1, h2, h3⟩
   ·exact .inl h1
   ·refine .inr ⟨j, c, h1, h2, ?_⟩
    have hj : j ∈ upto t.s.rows t.s.rows.length (idKey y) := by rw [<- Sto.at_may hy, h2]; simp
    obtain ⟨_, hju, _⟩ := upto_mem.1 hj
    have : j ≠ i := fun e => by subst e; rw [hiu] at hju; cases hju
    simp only [this, if_false]
    exact h3
 ·have : y ≠ x := fun e => by subst e; rw [hm] at hy; cases hy
  rw [setF_other _ _ this]
  exact h.out y hy
 ·show (d2.n - 1) / 8 = (t.s.rows.set i ⟨true, b.length, idKey x⟩).length
  rw [List.length_set, hn]; exact h.full.1
theorem KeptR.clear_row (h : KeptR t F) (hm : mayId x = true) (hat : t.at x = [i])
  (ht : ToldR { t.s with d := d2, rows := t.s.rows.set i noRow } (fun j => if j = i then false else u j) v) (ha : Tells t F u v) (hz : d2.Zero ((if t.whole then 2 else 1) :: zeros 63)) (hn : d2.n = t.s.d.n) :
  KeptR ⟨{ t.s with d := d2, rows := t.s.rows.set i noRow }, t.whole⟩ (setF F x none) := by
 have hat2 : upto t.s.rows t.s.rows.length (idKey x) = [i] := by rw [<- Sto.at_may hm]; exact hat
 have hat' : ∀ y, mayId y = true -> Sto.at ⟨{ t.s with d := d2, rows := t.s.rows.set i noRow }, t.whole⟩ y = if y = x then [] else t.at y := fun y hy => by
  rw [Sto.at_may hy, Sto.at_may hy]
  show upto (t.s.rows.set i noRow) (t.s.rows.set i noRow).length (idKey y) = _
  rw [upto_clear hat2]
  by_cases e : y = x
  ·subst e; rw [if_pos rfl, if_pos rfl]
  ·rw [if_neg e, if_neg (fun h => e (idKey_inj hy hm h))]
 refine ⟨⟨_, _, ht, fun y hy => ?_⟩, fun y hy => ?_, h.keys.set i (fun h => by simp [noRow] at h), h.first, ⟨?_, by show 9 <= d2.n; rw [hn]; exact h.full.2⟩, hz⟩
 ·rw [hat' y hy]
  by_cases e : y = x
  ·subst e
   rw [setF_self, if_pos rfl]
   exact .inl ⟨rfl, rfl⟩
  ·rw [setF_other _ _ e, if_neg e]
   exact ha y hy
 ·have : y ≠ x := fun e => by subst e; rw [hm] at hy; cases hy
  rw [setF_other _ _ this]
  exact h.out y hy
 ·show (d2.n - 1) / 8 = (t.s.rows.set i noRow).length
  rw [List.length_set, hn]; exact h.full.1
end
theorem SS.eta3 (s z : SS) (rows : List SRow) (h1 : z.first = s.first) (h2 : z.rows = rows) : z = { s with d := z.d, rows := rows } := by
 obtain ⟨d, f, r⟩ := z
 dsimp only at h1 h2
 subst h1; subst h2
 rfl
theorem KeptR.put_may {t : Sto} {F : Frag} (h : KeptR t F) {x : Id} (hm : mayId x = true) (hF : F x = none) {b : List UInt8} (hb : b.length <= 448) (hr : 0 < t.room) :
  ((t.put x b).1 = 0 /\ KeptR (t.put x b).2 (setF F x (some b)) /\ (t.put x b).2.room + 1 = t.room /\ (t.put x b).2.whole = t.whole) ∨
  ((t.put x b).1 = 14 /\ (t.put x b).2.s.d.dead = true /\ ∀ ch, Reopens ((t.put x b).2.s.d.crash ch) t.whole F ∨ Reopens ((t.put x b).2.s.d.crash ch) t.whole (setF F x (some b))) := by
 have hfree : ¬ t.s.free < 0 := by
  intro hf
  unfold SS.free at hf
  rcases rowFree_spec t.s.rows 0 with ⟨_, h2⟩ | ⟨n, h1, h2, h3, _⟩
  ·unfold Sto.room at hr
   obtain ⟨r, hr1, hr2⟩ := List.countP_pos_iff.1 hr
   rw [h2 r hr1] at hr2; simp at hr2
  ·rw [h2] at hf; omega
 obtain ⟨i, hfi, hil, hiu⟩ := SS.free_ok hfree
 have hat := h.at_none hF
 obtain ⟨u, v, htold, hall⟩ := h.told
 have hui : u i = false := by rw [<- htold.used i hil]; exact hiu
 have hput : t.put x b = ((t.s.put (i : Int) (idKey x) b).1, { t with s := (t.s.put (i : Int) (idKey x) b).2 }) := by
  unfold Sto.put
  rw [if_neg (by simp [hm]), if_neg (by omega), hat]
  dsimp only
  rw [if_neg hfree, hfi]
 have hz := h.zero.put (by rw [h.first]; simp) (i : Int) (idKey x) b
 rw [hput]
 dsimp only
 rcases htold.put2 i hil (idKey x) b hui (by rw [idKey_len]; omega) hb with ⟨p1, p2, p3, p4, p5⟩ | ⟨p1, p2, p3, p4, p5, p6⟩
 ·left
  obtain ⟨_, _, hrows⟩ := SS.put_done p1
  have hrows' : (t.s.put (i : Int) (idKey x) b).2.rows = t.s.rows.set i ⟨true, b.length, idKey x⟩ := by rw [hrows]; simp
  have e := SS.eta3 t.s _ _ p4 hrows'
  refine ⟨p1, ?_, ?_, rfl⟩
  ·rw [e] at p2
   show KeptR ⟨(t.s.put (i : Int) (idKey x) b).2, t.whole⟩ _
   rw [e]
   exact h.put_row hm hF hil hiu p2 hall hz p5
  ·show (t.s.put (i : Int) (idKey x) b).2.rows.countP (fun r => !r.used) + 1 = t.s.rows.countP (fun r => !r.used)
   rw [hrows']
   have := countP_put ⟨true, b.length, idKey x⟩ hil (fun r => !r.used)
   simp only [hiu, Bool.not_false, if_true, Bool.not_true, Bool.false_eq_true, if_false, Nat.add_zero] at this
   exact this
 ·right
  refine ⟨p1, p4, fun ch => ?_⟩
  have hzc := hz.crash ch
  have hnc : ((t.s.put (i : Int) (idKey x) b).2.d.crash ch).n = t.s.d.n := p5
  rcases p6 ch with h6 | h6
  ·exact .inl (reopens_of (h.same_row h6 hall hzc hnc))
  ·exact .inr (reopens_of (h.put_row hm hF hil hiu h6 hall hzc hnc))
theorem KeptR.del_may {t : Sto} {F : Frag} (h : KeptR t F) {x : Id} (hm : mayId x = true) :
  ((t.del x).1 = 0 /\ KeptR (t.del x).2 (setF F x none) /\ (t.del x).2.room = t.room + (if (F x).isSome then 1 else 0) /\ (F x = none -> (t.del x).2 = t) /\ (t.del x).2.whole = t.whole) ∨
  ((t.del x).1 = 14 /\ (t.del x).2.s.d.dead = true /\ (F x).isSome = true /\ ∀ ch, Reopens ((t.del x).2.s.d.crash ch) t.whole F ∨ Reopens ((t.del x).2.s.d.crash ch) t.whole (setF F x none)) := by
 obtain ⟨u, v, htold, hall⟩ := h.told
 unfold Sto.del
 rw [if_neg (by simp [hm])]
 rcases hall x hm with ⟨h1, h2⟩ | ⟨i, b, h1, h2, h3⟩
 ·left
  rw [h2, h1]
  have e : setF F x none = F := by
   funext y
   unfold setF
   split
   ·rename_i e; rw [e, h1]
   ·rfl
  rw [e]
  exact ⟨rfl, h, rfl, fun _ => rfl, rfl⟩
 ·have hi : i ∈ upto t.s.rows t.s.rows.length (idKey x) := by rw [<- Sto.at_may hm, h2]; simp
  obtain ⟨hil, hiu, hik⟩ := upto_mem.1 hi
  have hui : u i = true := by rw [<- htold.used i hil]; exact hiu
  have hz := h.zero.clear (by rw [h.first]; simp) (i : Int)
  have e2 : (fun j => if j = i then v i else v j) = v := by funext j; split <;> simp_all
  rcases htold.clear2 i hil hui with ⟨p1, p2, p3, p4, p5⟩ | ⟨p1, p2, p3, p4, p5, p6⟩
  ·left
   have hcl : t.s.clears [i] = (0, (t.s.clear (i : Int)).2) := by
    unfold SS.clears
    rw [if_neg (by rw [p1]; simp)]
    rfl
   rw [h2, hcl, h1]
   obtain ⟨_, _, hrows⟩ := SS.clear_done p1
   have hrows' : (t.s.clear (i : Int)).2.rows = t.s.rows.set i noRow := by rw [hrows]; simp
   have e := SS.eta3 t.s _ _ p4 hrows'
   refine ⟨rfl, ?_, ?_, (fun h => by cases h), rfl⟩
   ·rw [e] at p2
    show KeptR ⟨(t.s.clear (i : Int)).2, t.whole⟩ _
    rw [e]
    exact h.clear_row hm h2 p2 hall hz p5
   ·show (t.s.clear (i : Int)).2.rows.countP (fun r => !r.used) = t.s.rows.countP (fun r => !r.used) + _
    rw [hrows']
    have := countP_put noRow hil (fun r => !r.used)
    rw [hiu] at this
    simpa [noRow] using this
  ·right
   have hcl : t.s.clears [i] = (14, (t.s.clear (i : Int)).2) := by
    unfold SS.clears
    rw [if_pos (by rw [p1]; simp)]
    rw [<- p1]
   rw [h2, hcl, h1]
   refine ⟨rfl, p4, rfl, fun ch => ?_⟩
   have hzc := hz.crash ch
   have hnc : ((t.s.clear (i : Int)).2.d.crash ch).n = t.s.d.n := p5
   rcases p6 ch with h6 | h6
   ·exact .inl (reopens_of (h.same_row h6 hall hzc hnc))
   ·rw [e2] at h6
    exact .inr (reopens_of (h.clear_row hm h2 h6 hall hzc hnc))
theorem same_of (l m : List UInt8) (h : l.length = m.length) (hq : ∀ q, q < l.length -> l.getD q 0 = m.getD q 0) : l = m := by
 apply List.ext_getElem h
 intro i h1 h2
 have := hq i h1
 simpa [List.getD_eq_getElem?_getD, List.getElem?_eq_getElem h1, List.getElem?_eq_getElem h2] using this
theorem bv_neq (a b : UInt8) (h : a ≠ b) : (((a.toNat : Int) != (b.toNat : Int)) = true) := by
 rw [bne_iff_ne]
 intro e
 exact h (UInt8.toNat_inj.1 (by omega))
theorem same_any (u v : Value) (l m : List UInt8) (w : World) (hu : BytesAt w u l) (hv : BytesAt w v m) (hl : l.length <= 1000000000) (hm : m.length <= 1000000000) :
  Calls Tryz.prog 22 #[u, v] w fun e w' => e = .returned (.bool (decide (l = m))) /\ ∃ n, w' = w.drewN n := by
 obtain ⟨au, cu, rfl, hlu, _, hu⟩ := hu
 obtain ⟨av, cv, rfl, hlv, _, hv⟩ := hv
 obtain ⟨d, hd⟩ : ∃ d, d = decide (l = m) := ⟨_, rfl⟩
 rw [<- hd]
 have HD := LH hd
 clear hd
 have HU := LH hu
 have HV := LH hv
 clear hu hv
 by_cases hlen : l.length = m.length
 ·have hmz : ((l.length : Int) != (m.length : Int)) = false := by rw [hlen]; simp
  have HL := LH hlen
  have hml : m.length = l.length := hlen.symm
  rw [hml]
  clear hlen hml hmz
  go_enter Tryz.func22, Tryz.ntmps22
  go_wp2
  go_loopg [5] l.length (fun g' s5 wr => ∃ (j n : Nat), s5 = .int .i64 j /\ j <= l.length /\ l.length <= j + g' /\ Hid (∀ q, q < j -> l.getD q 0 = m.getD q 0) /\ wr = w.drewN n)
  case atStart => exact ⟨0, 0, rfl, by omega, by omega, fun q hq => absurd hq (by omega), rfl⟩
  case round =>
   obtain ⟨j, n, rfl, hj, hjg, HQ, rfl⟩ := hrel
   by_cases hlt : j < l.length
   ·rcases HU.out with ⟨h0, _⟩ | ⟨gu, ou, rfl, hcu⟩
    ·rw [h0] at hlt; simp at hlt
    rcases HV.out with ⟨h0, _⟩ | ⟨gv, ov, rfl, hcv⟩
    ·have := HL.out; rw [h0, List.length_nil] at this; omega
    obtain ⟨x, hx, c0⟩ : ∃ x, l.getD j 0 = x /\ w.cell? ⟨gu, ou + j, none⟩ = some (.int .u8 (x.toNat : Int)) := ⟨_, rfl, hcu j hlt⟩
    obtain ⟨y, hy, c1⟩ : ∃ y, m.getD j 0 = y /\ w.cell? ⟨gv, ov + j, none⟩ = some (.int .u8 (y.toNat : Int)) := ⟨_, rfl, hcv j (by rw [<- HL.out]; exact hlt)⟩
    have HX := LH hx
    have HY := LH hy
    have hjz : (j : Int) < (l.length : Int) := by omega
    have hjz0 : (0 : Int) <= (j : Int) := by omega
    have hjz1 : (j : Int).toNat = j := by omega
    clear hcu hcv hx hy
    by_cases hxy : x = y
    ·subst hxy
     go_wp2
     go_quiet (fail)
     go_wp2
     go_roundg (gk - 1)
     case measure => omega
     case rel =>
      refine ⟨j + 1, _, by go_num, by omega, by omega, ?_, rfl⟩
      intro q hq
      rcases Nat.lt_or_ge q j with h | h
      ·exact HQ.out q h
      ·obtain rfl : q = j := by omega
       rw [HX.out, HY.out]
    ·have hne := bv_neq x y hxy
     have hd : Hid (d = false) := LH (by
      rw [HD.out, decide_eq_false_iff_not]
      intro e
      have h1 := HX.out
      rw [e] at h1
      exact hxy (h1.symm.trans HY.out))
     clear hxy
     go_wp2
     go_quiet (fail)
     go_wp2
     go_ret
     exact ⟨ret_bool hd.out.symm, _, World.drewN_drewN ..⟩
   ·have hd : Hid (d = true) := LH (by
     rw [HD.out, decide_eq_true_iff]
     exact same_of l m HL.out (fun q hq => HQ.out q (by omega)))
    go_wp2
    go_ret
    exact ⟨ret_bool hd.out.symm, _, rfl⟩
 ·have hmz : ((l.length : Int) != (m.length : Int)) = true := by rw [bne_iff_ne]; omega
  have hd : Hid (d = false) := LH (by
   rw [HD.out, decide_eq_false_iff_not]
   intro e
   exact hlen (by rw [e]))
  clear hlen
  go_enter Tryz.func22, Tryz.ntmps22
  go_wp2
  go_ret
  exact ⟨ret_bool hd.out.symm, 0, rfl⟩
section
open Go.RowKit
theorem ret_id1 {fn : Func} {p : Tmp} (h : fn.results = #[.cell p 38]) (tmps : Array Value) {w : World} {b t : Nat} {x : Id} (hp : tmps.getD p undef = .pointer (some ⟨b, 0, none⟩)) (hb : w.heap[b]? = some (.cells (idC x) t (0, 0))) :
  (results fn tmps).run Tryz.prog w = .ok (idV x) w := by
 have hl := run_loadVar_row (P := Tryz.prog) w b t 38 (idC x) (0, 0) _ hb Tryz.underlying38 rfl (by rw [idSize]; rfl)
 have e : (results fn tmps).run Tryz.prog w = ((asAddr (tmps.getD p undef)).run Tryz.prog w).andThen fun a w₁ => (loadVar 38 a).run Tryz.prog w₁ := by
  simp only [results, h]
  simp [Sem.run_bind, Result.andThen]
 rw [e, hp]
 simp only [asAddr, Sem.run_pure, Result.andThen_ok, hl]
theorem lawid_any (c l n i : Int) (w : World) : Calls Tryz.prog 36 #[.int .i64 c, .int .i64 l, .int .i64 n, .int .i64 i] w fun e w' => e = .returned (.agg #[.int .i64 c, .int .i64 l, .int .i64 n, .int .i64 i]) /\ Chg [] w w' := by
 go_enter Tryz.func36, Tryz.ntmps36
 go_wp2_with fail
 have HW := LH (show (w.alloc (.cells (idC ⟨c, l, n, i⟩) 38)).heap[w.heap.size]? = some (.cells (idC ⟨c, l, n, i⟩) 38 (0, 0)) from heap_alloc_new w _)
 refine bodyPost_ret (ret_id1 rfl _ rfl HW.out) rfl ?_
 exact ⟨rfl, (Chg.refl [] w).alloc _⟩
def Kp (X : List Nat) (w w' : World) : Prop := ∀ k ∈ X, w'.heap[k]? = w.heap[k]?
def Own6 (X : List Nat) (w0 w : World) (q p : Nat) (t : Sto) : Prop := ∃ U, StAt [] w q p U t /\ (∀ x ∈ U, w0.heap.size <= x) /\ Chg [] w0 w /\ ∀ x ∈ X, x ∉ U /\ x < w.heap.size
variable {X : List Nat} {w0 w : World} {q p : Nat} {t : Sto}
theorem Own6.did {w' : World} {t' : Sto} {U : List Nat} (h2 : ∀ x ∈ U, w0.heap.size <= x) (h3 : Chg [] w0 w) (h4 : ∀ x ∈ X, x ∉ U /\ x < w.heap.size) (hd : Std [] w w' q p U t') : Own6 X w0 w' q p t' /\ Kp X w w' := by
 obtain ⟨U', d1, d2, d3⟩ := hd
 have hs := h3.size
 refine ⟨⟨U', d1, fun x hx => ?_, h3.trans d3 (fun x hx => .inr (h2 x hx)), fun x hx => ⟨fun hm => ?_, Nat.lt_of_lt_of_le (h4 x hx).2 d3.size⟩⟩, fun x hx => d3.block x (h4 x hx).2 (h4 x hx).1⟩
 ·rcases d2 x hx with h | h
  ·exact h2 x h
  ·omega
 ·rcases d2 x hm with h | h
  ·exact (h4 x hx).1 h
  ·have := (h4 x hx).2; omega
theorem own_disk (n : Nat) (w : World) (h2 : 2 <= n) (hm : n <= 4160) : Calls Tryz.prog 14 #[.int .i64 (n : Int)] w fun e w' => ∃ p S, e = .returned (.tuple #[.pointer (some ⟨p, 0, none⟩), .int .i64 0]) /\ DiskAt w' p S (DS.new n) /\ (∀ x ∈ S, w.heap.size <= x) /\ Chg [] w w' :=
 (dnew_any n w h2 hm).mono fun e w' ⟨p, S, h1, h3, h4, h5⟩ => ⟨p, S, h1, h3, h4, h5⟩
theorem own_format {S : List Nat} {w1 : World} {n : Nat} {t : Sto} {d : DS} (hd : DiskAt w1 p S (DS.new n)) (hS : ∀ x ∈ S, w0.heap.size <= x) (hc : Chg [] w0 w1) (hf : (DS.new n).format = ((0, some t), d)) : Calls Tryz.prog 37 #[.pointer (some ⟨p, 0, none⟩)] w1 fun e w' => ∃ q, e = .returned (.tuple #[.pointer (some ⟨q, 0, none⟩), .int .i64 0]) /\ Own6 [] w0 w' q p t := by
 have h := format_any p S (DS.new n) w1 hd (by show 0 <= _; omega) (by show 0 <= _; omega)
 rw [hf] at h
 refine h.mono ?_
 rintro e w' ⟨q, U, rfl, h1, h2, h3⟩
 have hs := hc.size
 refine ⟨q, rfl, U, h1, fun x hx => ?_, hc.trans h3 (fun x hx => .inr (hS x hx)), by simp⟩
 rcases h2 x hx with h | h
 ·exact hS x h
 ·omega
theorem one_byte6 (w : World) (a : UInt8) : BytesAt (w.alloc (.cells #[bv a] 5)) (.slice (some ⟨w.heap.size, 0, none⟩) 1 1) [a] :=
 (row_of_block (l := [a]) (heap_alloc_new w _) (by unfold maxLen; simp)).bytes
end
theorem okD_c : okD ⟨1, 0, 5, 2⟩ := by decide
section
open Go.RowKit Go.ChangeShapes Go.WideShapes
theorem fieldsI : ∃ f0 f1 : Field, Tryz.prog.underlying 38 = some (.struct #[f0, f1]) /\ f0.offset = 0 /\ f1.offset = 3 /\ f0.type = 36 /\ Tryz.prog.underlying f1.type = some (.int .i64) /\ Tryz.prog.cellsOf f1.type = 1 :=
 ⟨_, _, Tryz.underlying38, rfl, rfl, rfl, by kernel_rfl, by kernel_rfl⟩
theorem fieldsT : ∃ f0 f1 f2 : Field, Tryz.prog.underlying 36 = some (.struct #[f0, f1, f2]) /\ f0.offset = 0 /\ f1.offset = 1 /\ f2.offset = 2 /\ Tryz.prog.underlying f0.type = some (.int .i64) /\ Tryz.prog.underlying f1.type = some (.int .i64) /\ Tryz.prog.underlying f2.type = some (.int .i64) /\
  Tryz.prog.cellsOf f0.type = 1 /\ Tryz.prog.cellsOf f1.type = 1 /\ Tryz.prog.cellsOf f2.type = 1 :=
 ⟨_, _, _, Tryz.underlying36, rfl, rfl, rfl, by kernel_rfl, by kernel_rfl, by kernel_rfl, by kernel_rfl, by kernel_rfl, by kernel_rfl⟩
section
variable {H : Type} {enc : TypeId × Value -> H} {w : World} {base : Nat} {held : Bool} {spare : Nat -> Bool}
theorem open_idc {fuel : Nat} {v0 v1 v2 v3 : Value} {x : DataW H × List MemPlace} (h : DataW.trod enc Tryz.prog w base spare held fuel 38 [v0, v1, v2, v3] = some x) : ∃ y : Id, okD y /\ v0 = .int .i64 y.c /\ v1 = .int .i64 y.l /\ v2 = .int .i64 y.n /\ v3 = .int .i64 y.i := by
 obtain ⟨f0, f1, hs, o0, o1, t0, t1, c1⟩ := fieldsI
 obtain ⟨g0, g1, g2, hs2, p0, p1, p2, u0, u1, u2, d0, d1, d2⟩ := fieldsT
 obtain ⟨xs, k, hk, hxy, _, hxl, hf⟩ := DataW.trod_struct hs h
 match xs, hxl with
 | [y0, y1], _ =>
  have e0 := hf 0 f0 rfl
  have e1 := hf 1 f1 rfl
  rw [t0] at e0
  simp [o0, o1, c1, cells_stripe] at e0 e1
  obtain ⟨xs2, k2, hk2, hxy2, _, hxl2, hf2⟩ := DataW.trod_struct hs2 e0
  match xs2, hxl2 with
  | [z0, z1, z2], _ =>
   have r0 := hf2 0 g0 rfl
   have r1 := hf2 1 g1 rfl
   have r2 := hf2 2 g2 rfl
   simp [p0, p1, p2, d0, d1, d2] at r0 r1 r2
   obtain ⟨a0, q0, _, w0⟩ := DataW.trod_int u0 r0
   obtain ⟨a1, q1, _, w1⟩ := DataW.trod_int u1 r1
   obtain ⟨a2, q2, _, w2⟩ := DataW.trod_int u2 r2
   obtain ⟨a3, q3, _, w3⟩ := DataW.trod_int t1 e1
   simp at q0 q1 q2 q3
   refine ⟨⟨a0, a1, a2, a3⟩, ⟨?_, ?_, ?_, ?_⟩, q0, q1, q2, q3⟩
   ·first | exact w0 | exact w0.1
   ·first | exact w1 | exact w1.1
   ·first | exact w2 | exact w2.1
   ·first | exact w3 | exact w3.1
end
end
def mayStripe (c l n : Int) : Bool := withinB6 c 4 && withinB6 l 1048576 && withinB6 n 1073741824
theorem rmaystripe_any (c l n : Int) (w : World) : Calls Tryz.prog 160 #[.agg #[.int .i64 c, .int .i64 l, .int .i64 n]] w fun e w' => e = .returned (.bool (mayStripe c l n)) /\ Chg [] w w' := by
 unfold mayStripe withinB6
 go_enter Tryz.func160, Tryz.ntmps160
 go_wp2
 all_goals
  go_ret
  refine ⟨?_, (Chg.refl [] w).alloc _⟩
  first
   | (simp_all; done)
   | (simp; omega)
theorem rmayid_any (x : Id) (w : World) : Calls Tryz.prog 141 #[idV x] w fun e w' => e = .returned (.bool (mayId x)) /\ Chg [] w w' := by
 obtain ⟨c, l, n, i⟩ := x
 have he : mayId ⟨c, l, n, i⟩ = (mayStripe c l n && withinB6 i 15) := rfl
 rw [he]
 obtain ⟨w1, hw1⟩ : ∃ w1, w1 = w.alloc (.cells (idC ⟨c, l, n, i⟩) 38) := ⟨_, rfl⟩
 have hc1 : Chg [] w w1 := by rw [hw1]; exact (Chg.refl [] w).alloc _
 have hb1 : w1.heap[w.heap.size]? = some (.cells (idC ⟨c, l, n, i⟩) 38 (0, 0)) := by rw [hw1]; exact heap_alloc_new w _
 have CM := LH (rmaystripe_any c l n w1)
 obtain ⟨m0, m1, m2, m3⟩ := id_cells hb1
 have HB := LH hb1
 have HC1 := LH hc1
 have HW1 := LH hw1
 rw [hw1] at m0 m1 m2 m3
 generalize mayStripe c l n = b at *
 clear hw1 hb1 hc1 he
 unfold withinB6
 go_enter Tryz.func141, Tryz.ntmps141
 go_wp2_with fail
 rw [<- HW1.out]
 refine CM.out.mono ?_
 rintro e w2 ⟨rfl, hc2⟩
 obtain ⟨m0, m1, m2, m3⟩ := id_cells (hc2.keep HB.out (by simp))
 have HC2 := LH (HC1.out.trans hc2 (by simp))
 clear hc2
 cases b with
 | false =>
  go_wp2
  go_ret
  exact ⟨rfl, HC2.out⟩
 | true =>
  by_cases h0 : 0 <= i
  ·by_cases h1 : i <= 15
   ·have h2 : i < 16 := by omega
    go_wp2
    go_ret
    exact ⟨by first | (simp [h0, h1, h2]; done) | (simp [h0]; omega), HC2.out⟩
   ·have h2 : ¬ i < 16 := by omega
    go_wp2
    go_ret
    exact ⟨by first | (simp [h0, h1, h2]; done) | (simp [h0]; omega), HC2.out⟩
  ·have h2 : ¬ i ≥ 0 := by omega
   go_wp2
   go_ret
   exact ⟨by first | (simp [h0]; done) | (simp; omega), HC2.out⟩
structure RPenNew (w0 w : World) (b : Nat) (g : Option Nat) (l : List UInt8) : Prop where
 pen : PenAt 117 w b g l 0
 chg : Chg [] w0 w
 own : w0.heap.size <= b
 ownG : ∀ k, g = some k -> w0.heap.size <= k
theorem RPenNew.num {w0 w : World} {b : Nat} {g : Option Nat} {l : List UInt8} (h : RPenNew w0 w b g l) (x : Int) (n : Nat) (h1 : 1 <= n) (h7 : n <= 7) (hx0 : 0 <= x) (hx : x < ((256 ^ n : Nat) : Int)) (hl : l.length <= 1000) :
  Calls Tryz.prog 49 #[.pointer (some ⟨b, 0, none⟩), .int .i64 x, .int .i64 n] w fun e w' => e = .returned (.tuple #[]) /\ ∃ g', RPenNew w0 w' b g' (l ++ beBytes n x.toNat) := by
 refine (rpnum_any b g l 0 x n w h.pen (by omega) (by omega)).mono ?_
 rintro e w' ⟨rfl, g', k1, k2, k3⟩
 have e1 : penNum l 0 x n = (l ++ beBytes n x.toNat, 0) := by
  unfold penNum penAdd
  rw [if_neg (by simp), if_neg (by omega), if_neg (by simp), if_neg (by rw [beBytes_len]; omega)]
 rw [Int.toNat_natCast, e1] at k1
 refine ⟨rfl, g', k1, h.chg.trans k3 (fun x hx => .inr ?_), h.own, fun k hk => ?_⟩
 ·rcases List.mem_cons.1 hx with rfl | hx
  ·exact h.own
  ·exact h.ownG x (by simpa using hx)
 ·rcases k2 with rfl | ⟨k', rfl, h4⟩
  ·exact h.ownG k hk
  ·obtain rfl : k' = k := by simpa using hk
   exact Nat.le_trans h.chg.size h4
theorem RPenNew.fresh {w0 w : World} (hc : Chg [] w0 w) : RPenNew w0 (w.alloc (.cells #[.slice none 0 0, .int .i64 0] 117)) w.heap.size none [] :=
 ⟨⟨.slice none 0 0, heap_alloc_new w _, BRow.nil _, rfl, by simp, by simp⟩, hc.alloc _, hc.size, fun k hk => by cases hk⟩
theorem rkey_any (x : Id) (w : World) : Calls Tryz.prog 110 #[idV x] w (KeyPost x w) := by
 obtain ⟨w1, hw1⟩ : ∃ w1, w1 = w.alloc (.cells (idC x) 38) := ⟨_, rfl⟩
 have CM := LH (rmayid_any x w1)
 have hc1 : Chg [] w w1 := by rw [hw1]; exact (Chg.refl [] w).alloc _
 have hb1 : w1.heap[w.heap.size]? = some (.cells (idC x) 38 (0, 0)) := by rw [hw1]; exact heap_alloc_new w _
 have HB := LH hb1
 have HC1 := LH hc1
 have HW1 := LH hw1
 unfold KeyPost
 by_cases hm : mayId x = true
 ·rw [hm] at CM
  simp only [hm, if_true]
  obtain ⟨⟨a0, a1⟩, ⟨b0, b1⟩, ⟨c0, c1⟩, d0, d1⟩ := may_bounds hm
  obtain ⟨xc, xl, xn, xi⟩ := x
  dsimp only at *
  clear hm hw1 hb1 hc1
  go_enter Tryz.func110, Tryz.ntmps110
  go_wp2_with fail
  rw [<- HW1.out]
  refine CM.out.mono ?_
  rintro e w2 ⟨rfl, hc2⟩
  have HC2 := LH hc2
  clear hc2 CM
  have hp := RPenNew.fresh HC2.out
  obtain ⟨w3, hw3⟩ : ∃ w3, w3 = w2.alloc (.cells #[.slice none 0 0, .int .i64 0] 117) := ⟨_, rfl⟩
  rw [<- hw3] at hp
  have HW3 := LH hw3
  have hl2 : w.heap.size < w2.heap.size := Nat.lt_of_lt_of_le (blk_lt HB.out) HC2.out.size
  have hC3 : Chg [] w1 w3 := by rw [hw3]; exact HC2.out.alloc _
  have k0 := (id_cells (hC3.keep HB.out (by simp))).1
  rw [hw3] at k0
  have CN := LH (hp.num xc 1 (by omega) (by omega) a0 (by omega) (by simp))
  have HP := LH hp
  clear hw3 hp hC3
  go_wp2_with fail
  rw [<- HW3.out]
  refine CN.out.mono ?_
  rintro e w4 ⟨rfl, g4, hp4⟩
  obtain ⟨k0, k1, k2, k3⟩ := id_cells (hp4.chg.keep HB.out (by simp))
  have CN4 := LH (hp4.num xl 3 (by omega) (by omega) b0 (by omega) (by simp [beBytes_len]))
  clear hp4 CN
  go_wp2_with fail
  refine CN4.out.mono ?_
  rintro e w5 ⟨rfl, g5, hp5⟩
  obtain ⟨k0, k1, k2, k3⟩ := id_cells (hp5.chg.keep HB.out (by simp))
  have CN5 := LH (hp5.num xn 4 (by omega) (by omega) c0 (by omega) (by simp [beBytes_len]))
  clear hp5 CN4
  go_wp2_with fail
  refine CN5.out.mono ?_
  rintro e w6 ⟨rfl, g6, hp6⟩
  obtain ⟨k0, k1, k2, k3⟩ := id_cells (hp6.chg.keep HB.out (by simp))
  have CN6 := LH (hp6.num xi 1 (by omega) (by omega) d0 (by omega) (by simp [beBytes_len]))
  clear hp6 CN5
  go_wp2_with fail
  refine CN6.out.mono ?_
  rintro e w7 ⟨rfl, g7, hp7⟩
  have e9 : [] ++ beBytes 1 xc.toNat ++ beBytes 3 xl.toNat ++ beBytes 4 xn.toNat ++ beBytes 1 xi.toNat = idKey ⟨xc, xl, xn, xi⟩ := by simp [idKey]
  rw [e9] at hp7
  obtain ⟨v, hb, hr, hg, _, _⟩ := hp7.pen
  have p0 := blk_cell hb 0 _ rfl
  have hbl := blk_lt hb
  have HP7 := LH (And.intro hr (And.intro hg (And.intro hp7.chg hp7.ownG)))
  obtain ⟨av, cv, rfl⟩ := hr.slice
  clear hp7 CN6 hb hr hg
  go_wp2
  go_ret2
  refine ⟨HC1.out.trans HP7.out.2.2.1 (by simp), _, rfl, HP7.out.1, fun k hk => ?_⟩
  have := HP7.out.2.2.2 k (by rw [<- HP7.out.2.1]; exact hk)
  have := HC1.out.size
  omega
 ·have hm' : mayId x = false := by simpa using hm
  rw [hm'] at CM
  simp only [hm]
  obtain ⟨xc, xl, xn, xi⟩ := x
  clear hm hm' hw1 hb1 hc1
  go_enter Tryz.func110, Tryz.ntmps110
  go_wp2_with fail
  rw [<- HW1.out]
  refine CM.out.mono ?_
  rintro e w2 ⟨rfl, hc2⟩
  have HC2 := LH (HC1.out.trans hc2 (by simp))
  clear hc2 CM
  go_wp2
  go_ret2
  exact ⟨HC2.out, rfl⟩
section
variable {P : Program} {ops : Array Oper} {Q : Exit -> Act -> World -> Prop} {md : Region.Mode} {cs : List (Nat × (World -> Prop))}
def pathB (md : Region.Mode) (ops : Array Oper) : Nat -> List Nat -> Nat -> Bool
 | d, [], i => match ops[d]? with
  | none => false
  | some o => o.after.any fun e => Region.binds md e && e.on == i
 | d, x :: xs, i => (match ops[d]? with
  | none => false
  | some o => o.after.any fun e => Region.binds md e && e.on == x) && pathB md ops x xs i
theorem step_open {L : Array Bool} (hc : Closed md ops L) {d x : Nat} (hx : L.getD x true = false) (h : (match ops[d]? with
  | none => false
  | some o => o.after.any fun e => Region.binds md e && e.on == x) = true) : L.getD d true = false := by
 cases ho : ops[d]? with
 | none => rw [ho] at h; cases h
 | some o =>
  simp only [ho] at h
  obtain ⟨e, he, h1⟩ := Array.any_eq_true'.1 h
  simp only [Bool.and_eq_true, beq_iff_eq] at h1
  cases hd : L.getD d true with
  | false => rfl
  | true =>
   have h2 := hc d o ho hd e he h1.1
   obtain ⟨_, rfl⟩ := h1
   rw [Array.getD_eq_getD_getElem?] at hx h2
   cases hq : L[e.on]? with
   | none => rw [hq] at h2; cases h2
   | some b => rw [hq] at hx h2; simp at hx h2; rw [hx] at h2; cases h2
theorem path_open {L : Array Bool} (hc : Closed md ops L) {i : Nat} (hi : L.getD i true = false) : ∀ (xs : List Nat) (d : Nat), pathB md ops d xs i = true -> L.getD d true = false := by
 intro xs
 induction xs with
 | nil => intro d h; exact step_open hc hi h
 | cons x xs ih =>
  intro d h
  unfold pathB at h
  rw [Bool.and_eq_true] at h
  exact step_open hc (ih x h.2) h.1
theorem wpAnyL_loadP (k : Nat) (xs : List Nat) {i d : Nat} {C : World -> Prop} {oi : Oper} {v : Value} {fuel : Nat} {L : Array Bool} {a : Act} {w : World} (hk : cs[k]? = some (d, C)) (hi : ops[i]? = some oi)
  (hs : Region.noSelect ops = true) (hcl : closedB md ops L = true) (hf : Region.free md ops L i = true) (hr : (Region.ready md ops L).contains i = true) (hne : cs.all (fun c => c.1 != i) = true) (hanc : pathB md ops d xs i = true)
  (hQ : ∀ c a w, Q (.panic c) (a.put oi.dst v) w -> Q (.panic c) a w) (hy : YieldsIf P ops C oi v a) (hS : HoldC cs L w)
  (h : HoldC cs (L.setIfInBounds i true) w -> wpAnyL P md ops Q cs fuel (L.setIfInBounds i true) (a.put oi.dst v) w) : wpAnyL P md ops Q cs (fuel + 1) L a w :=
 wpAnyL_first hi (Region.noSelect_spec hs) hQ (fun L w h1 h2 h3 => h3 _ (List.mem_of_getElem? hk) (path_open h1 h2 _ _ hanc)) (fun c hc => by simpa using List.all_eq_true.1 hne c hc) fuel L a w (closed_of hcl) (Region.free_spec hi hf) (by simpa using hr) hy hS (h (hS.set _))
end
theorem range_getD (l : List SRow) : (List.range l.length).map (fun j => l.getD j noRow) = l := by
 apply List.ext_getElem (by simp)
 intro i h1 h2
 simp [List.getD_eq_getElem?_getD, List.getElem?_eq_getElem h2]
theorem used_len (l : List SRow) (P : Nat -> Bool) (hP : ∀ j, j < l.length -> P j = (l.getD j noRow).used) : ((List.range l.length).filter P).length + l.countP (fun r => !r.used) = l.length := by
 have h1 : ((List.range l.length).filter P).length = l.countP (fun r => r.used) := by
  rw [<- List.countP_eq_length_filter]
  conv => rhs; rw [<- range_getD l]
  rw [List.countP_map]
  refine List.countP_congr (fun j hj => ?_)
  rw [hP j (List.mem_range.1 hj)]
  rfl
 have h2 := List.length_eq_countP_add_countP (fun r : SRow => r.used) (l := l)
 rw [h1]
 have h3 : l.countP (fun r => decide ¬ r.used = true) = l.countP (fun r => !r.used) := List.countP_congr (fun r _ => by cases r.used <;> simp)
 omega
theorem SS.clears_ok : ∀ (l : List Nat) (s : SS), (s.clears l).2.d.ops <= s.d.ops + 2 * l.length /\ (s.clears l).2.d.since.length <= s.d.since.length + l.length
 | [], s => ⟨Nat.le_refl _, Nat.le_refl _⟩
 | i :: r, s => by
  obtain ⟨h1, h2, _⟩ := s.clear_ok (i : Int)
  obtain ⟨g1, g2⟩ := SS.clears_ok r (s.clear (i : Int)).2
  rw [clears_cons, List.length_cons]
  split
  ·exact ⟨by omega, by omega⟩
  ·exact ⟨by omega, by omega⟩
theorem Sto.at_len (t : Sto) (x : Id) : (t.at x).length <= t.s.rows.length := by
 unfold Sto.at
 split
 ·exact upto_len _ _ _
 ·simp
theorem Sto.del_ok (t : Sto) (x : Id) : (t.del x).2.s.d.ops <= t.s.d.ops + 2 * t.s.rows.length /\ (t.del x).2.s.d.since.length <= t.s.d.since.length + t.s.rows.length := by
 have hl := t.at_len x
 obtain ⟨h1, h2⟩ := SS.clears_ok (t.at x) t.s
 unfold Sto.del
 split
 ·exact ⟨by dsimp only; omega, by dsimp only; omega⟩
 ·exact ⟨by dsimp only; omega, by dsimp only; omega⟩
section
def lostOf (wh : Bool) (e : Int) : Int := if e = 6 /\ wh = false then 15 else e
def Sto.step (t : Sto) (r : Rq) : Rp × Sto :=
 if r.k = 1 then (errRp (t.put r.x r.b).1, (t.put r.x r.b).2)
 else if r.k = 2 then (⟨lostOf t.whole (t.get r.x).2, (t.get r.x).1, [], 0, false⟩, t)
 else if r.k = 3 then (errRp (t.del r.x).1, (t.del r.x).2)
 else if r.k = 4 then (⟨0, [], t.ids, 0, false⟩, t)
 else if r.k = 5 then (⟨0, [], [], (t.room : Int), t.whole⟩, t)
 else if r.k = 6 then (errRp t.setWhole.1, t.setWhole.2)
 else (errRp 1, t)
def Sto.run (t : Sto) (r : Rq) : (Rp × Int) × Sto :=
 if t.s.d.dead then ((noRp, 14), t) else if (t.step r).2.s.d.dead then ((noRp, 14), (t.step r).2) else (((t.step r).1, 0), (t.step r).2)
theorem step1 (t : Sto) (x : Id) (b : List UInt8) : t.step ⟨1, x, b⟩ = (errRp (t.put x b).1, (t.put x b).2) := rfl
theorem step2 (t : Sto) (x : Id) (b : List UInt8) : t.step ⟨2, x, b⟩ = (⟨lostOf t.whole (t.get x).2, (t.get x).1, [], 0, false⟩, t) := rfl
theorem step3 (t : Sto) (x : Id) (b : List UInt8) : t.step ⟨3, x, b⟩ = (errRp (t.del x).1, (t.del x).2) := rfl
theorem step4 (t : Sto) (x : Id) (b : List UInt8) : t.step ⟨4, x, b⟩ = (⟨0, [], t.ids, 0, false⟩, t) := rfl
theorem step5 (t : Sto) (x : Id) (b : List UInt8) : t.step ⟨5, x, b⟩ = (⟨0, [], [], (t.room : Int), t.whole⟩, t) := rfl
theorem step6 (t : Sto) (x : Id) (b : List UInt8) : t.step ⟨6, x, b⟩ = (errRp t.setWhole.1, t.setWhole.2) := rfl
theorem step0 (t : Sto) (r : Rq) (h : r.k < 1 ∨ 6 < r.k) : t.step r = (errRp 1, t) := by
 unfold Sto.step
 rw [if_neg (by omega), if_neg (by omega), if_neg (by omega), if_neg (by omega), if_neg (by omega), if_neg (by omega)]
theorem DS.Live.op {d : DS} (h : d.Live) : d.op.2.Live := by
 obtain ⟨h1, h2⟩ := h
 unfold DS.op
 rw [if_neg (by omega)]
 exact ⟨h1, by show (if 0 < d.fuse then d.fuse - 1 else d.fuse) < 0; rw [if_neg (by omega)]; exact h2⟩
theorem DS.Live.write {d : DS} (h : d.Live) (k : Int) (b : List UInt8) : (d.write k b).2.Live := by
 unfold DS.write
 split
 ·exact h
 ·split
  ·have h1 := DS.Live.op (d := { d with since := d.since ++ [(k.toNat, b)] }) h
   dsimp only
   split
   ·exact h1
   ·exact h1
  ·exact h
theorem DS.Live.sync {d : DS} (h : d.Live) : (d.sync).2.Live := by
 unfold DS.sync
 split
 ·exact h
 ·dsimp only
  split
  ·exact h.op
  ·exact h.op
theorem DS.Live.lay (pos : Nat) (b : List UInt8) : ∀ (k j : Nat) (d : DS), d.Live -> (d.lay pos b k j).2.Live
 | 0, j, d, h => h.sync
 | k + 1, j, d, h => by
  unfold DS.lay
  split
  ·exact h.write _ _
  ·exact DS.Live.lay pos b k (j + 1) _ (h.write _ _)
theorem DS.Live.lays {d : DS} (h : d.Live) (pos : Nat) (b : List UInt8) : (d.lays pos b).2.Live := DS.Live.lay _ _ _ _ _ h
theorem DS.Live.put {s : SS} (h : s.d.Live) (i : Int) (key b : List UInt8) : (s.put i key b).2.d.Live := by
 unfold SS.put
 split
 ·exact h
 ·split
  ·exact h
  ·split
   ·exact h
   ·split
    ·exact h.lays _ _
    ·split
     ·exact (h.lays _ _).lays _ _
     ·exact (h.lays _ _).lays _ _
theorem DS.Live.clear {s : SS} (h : s.d.Live) (i : Int) : (s.clear i).2.d.Live := by
 unfold SS.clear
 split
 ·exact h
 ·split
  ·exact h
  ·split
   ·exact h.lays _ _
   ·exact h.lays _ _
theorem DS.Live.clears : ∀ (l : List Nat) (s : SS), s.d.Live -> (s.clears l).2.d.Live
 | [], s, h => h
 | i :: r, s, h => by
  rw [clears_cons]
  split
  ·exact h.clear _
  ·exact DS.Live.clears r _ (h.clear _)
theorem live_put {t : Sto} (h : t.s.d.Live) (x : Id) (b : List UInt8) : (t.put x b).2.s.d.Live := by
 unfold Sto.put
 split
 ·exact h
 ·split
  ·exact h
  ·split
   ·split
    ·exact h
    ·split <;> exact h
   ·split
    ·exact h
    ·exact h.put _ _ _
theorem live_del {t : Sto} (h : t.s.d.Live) (x : Id) : (t.del x).2.s.d.Live := by
 unfold Sto.del
 split
 ·exact h
 ·exact DS.Live.clears _ _ h
theorem live_crash (d : DS) (ch : List UInt8) : (d.crash ch).Live := ⟨rfl, by show (-1 : Int) < 0; omega⟩
structure Keep (t : Sto) (F : Frag) : Prop where
 kept : KeptR t F
 live : t.s.d.Live
variable {t : Sto} {F : Frag}
theorem Keep.alive (h : Keep t F) : t.s.d.dead = false := h.live.1
theorem Keep.new (n : Nat) (h9 : 9 <= n) : ∃ t d, (DS.new n).format = ((0, some t), d) /\ Keep t (fun _ => none) /\ t.room = (n - 1) / 8 /\ t.s.d.n = n /\ t.s.d.ops <= n /\ t.whole = false := by
 obtain ⟨t, d, h1, h2, h3, h4, h5, h6, h7, h8⟩ := KeptR.new n h9
 refine ⟨t, d, h1, ⟨h2, by rw [h3]; exact h8⟩, ?_, by rw [h3]; exact h5, by rw [h3]; exact h6, h7⟩
 unfold Sto.room
 rw [h4]
 simp [List.countP_replicate, noRow]
theorem Keep.since (h : Keep t F) : t.s.d.since = [] := h.kept.rest.none
theorem KeptR.ids_len (h : KeptR t F) : t.ids.length + t.room = t.s.rows.length := by
 unfold Sto.ids firsts Sto.room
 rw [List.length_mergeSort, List.length_map]
 refine used_len t.s.rows _ (fun j hj => ?_)
 cases hu : (t.s.rows.getD j noRow).used with
 | false => unfold isFirst; rw [hu]; rfl
 | true =>
  refine mem_isFirst.2 ⟨hu, fun k hk hh => ?_⟩
  obtain ⟨hm, he⟩ := un_back (h.keys _ (row_mem hj) hu)
  obtain ⟨u, v, _, h2⟩ := h.told
  have hjm : j ∈ t.at (unId (t.s.rows.getD j noRow).key) := by rw [Sto.at_may hm]; exact upto_mem.2 ⟨hj, hu, he⟩
  have hkm : k ∈ t.at (unId (t.s.rows.getD j noRow).key) := by rw [Sto.at_may hm]; exact upto_mem.2 ⟨by omega, hh.1, by rw [hh.2]; exact he⟩
  rcases h2 _ hm with ⟨_, h4⟩ | ⟨i, b, _, h4, _⟩
  ·rw [h4] at hjm; cases hjm
  ·rw [h4, List.mem_singleton] at hjm hkm
   omega
theorem ids_same {t1 t2 : Sto} (h1 : KeptR t1 F) (h2 : KeptR t2 F) : t1.ids = t2.ids := by
 unfold Sto.ids
 refine sortedI_eq (firsts_nodup h1.keys) (firsts_nodup h2.keys) (fun x => ?_)
 have a := h1.mem_ids x
 have b := h2.mem_ids x
 unfold Sto.ids at a b
 rw [List.mem_mergeSort] at a b
 rw [a, b]
theorem KeptR.del_bad {x : Id} (hm : mayId x = false) : t.del x = (1, t) := Kept.del_bad hm
theorem Keep.put (h : Keep t F) (x : Id) (b : List UInt8) : ∃ F', Keep (t.put x b).2 F' /\ (t.put x b).2.whole = t.whole /\
  (((t.put x b).1 = 0 /\ F x = none /\ F' = setF F x (some b) /\ (t.put x b).2.room + 1 = t.room) ∨ (((t.put x b).1 = 0 -> F x = some b) /\ (t.put x b).2 = t /\ F' = F)) := by
 have hl := live_put h.live x b
 by_cases hb : mayId x = false ∨ 448 < b.length
 ·obtain ⟨h1, h2⟩ := h.kept.put_bad hb
  exact ⟨F, by rw [h2]; exact h, by rw [h2], .inr ⟨fun e => absurd e h1, h2, rfl⟩⟩
 ·have hm : mayId x = true := by cases hx : mayId x with | true => rfl | false => exact absurd (.inl hx) hb
  have hbl : b.length <= 448 := by omega
  cases hF : F x with
  | some c =>
   have h1 := h.kept.put_there hF b hbl
   rw [h1]
   refine ⟨F, h, rfl, .inr ⟨fun e => ?_, rfl, rfl⟩⟩
   by_cases hc : c = b
   ·rw [hc]
   ·rw [if_neg hc] at e; cases e
  | none =>
   by_cases hr : t.room = 0
   ·rw [h.kept.put_full hm hF hbl hr]
    exact ⟨F, h, rfl, .inr ⟨(fun e => by cases e), rfl, rfl⟩⟩
   ·rcases h.kept.put_may hm hF hbl (by omega) with ⟨h1, h2, h3, h4⟩ | ⟨_, h2, _⟩
    ·exact ⟨_, ⟨h2, hl⟩, h4, .inl ⟨h1, rfl, rfl, h3⟩⟩
    ·rw [hl.1] at h2; cases h2
theorem Keep.del (h : Keep t F) (x : Id) : ∃ F', Keep (t.del x).2 F' /\ (t.del x).2.whole = t.whole /\
  (((t.del x).1 = 0 /\ mayId x = true /\ F' = setF F x none /\ (t.del x).2.room = t.room + (if (F x).isSome then 1 else 0)) ∨ ((t.del x).1 = 1 /\ mayId x = false /\ (t.del x).2 = t /\ F' = F)) := by
 have hl := live_del h.live x
 cases hm : mayId x with
 | false =>
  rw [KeptR.del_bad hm]
  exact ⟨F, h, rfl, .inr ⟨rfl, rfl, rfl, rfl⟩⟩
 | true =>
  rcases h.kept.del_may hm with ⟨h1, h2, h3, h4, h5⟩ | ⟨_, h2, _⟩
  ·exact ⟨_, ⟨h2, hl⟩, h5, .inl ⟨h1, rfl, rfl, h3⟩⟩
  ·rw [hl.1] at h2; cases h2
theorem Keep.sets (h : Keep t F) : t.setWhole.1 = 0 /\ Keep t.setWhole.2 F /\ t.setWhole.2.whole = true /\ t.setWhole.2.room = t.room := by
 have hfair : t.s.d.Fair := fun _ i => by rw [h.since]; exact h.kept.rest.same i
 obtain ⟨h1, h2, h3, h4, h5⟩ := DS.sign_live h.live 2 (by have := h.kept.full.2; omega)
 have h6 := hfair.sign 2
 obtain ⟨d2, hd2⟩ : ∃ d2, d2 = (t.s.d.sign 2).2 := ⟨_, rfl⟩
 have hset : t.setWhole = (0, ⟨{ t.s with d := d2 }, true⟩) := by
  unfold Sto.setWhole
  rw [h1, <- hd2]
  simp
 rw [<- hd2] at h2 h3 h4 h5 h6
 rw [hset]
 have hsame : ∀ i, d2.lasts i = d2.now i := fun i => by
  have := h6 h2.1 i
  rw [h5] at this
  exact this
 have hnow : ∀ i, i ≠ 0 -> d2.now i = t.s.d.now i := fun i hi => by rw [h4]; unfold upd; rw [if_neg hi]
 obtain ⟨u, v, htold, hall⟩ := h.kept.told
 refine ⟨rfl, ⟨⟨⟨u, v, ⟨⟨h2.1, h5, hsame⟩, by show t.s.first + 8 * t.s.rows.length <= d2.n; rw [h3]; exact htold.room, fun k hk => ?_, htold.used, fun k hk hu => ?_⟩, hall⟩, h.kept.out, h.kept.keys, h.kept.first, ⟨by show (d2.n - 1) / 8 = _; rw [h3]; exact h.kept.full.1, by show 9 <= d2.n; rw [h3]; exact h.kept.full.2⟩, ⟨?_, ?_, by show ∀ x ∈ d2.since, _; rw [h5]; simp⟩⟩, h2⟩, rfl, rfl⟩
 ·have hf := h.kept.first
  show headOf (d2.now (t.s.first + 8 * k)) = _
  rw [hnow _ (by omega)]
  exact htold.head k hk
 ·rw [<- htold.data k hk hu]
  have hf := h.kept.first
  unfold SS.data SS.pos
  congr 2
  funext i
  exact hnow _ (by show t.s.first + 8 * (k : Int).toNat + 1 + i ≠ 0; omega)
 ·show d2.now 0 = _
  rw [h4]; rfl
 ·show d2.lasts 0 = _
  rw [hsame, h4]; rfl
theorem Keep.crash (h : Keep t F) (ch : List UInt8) : (t.s.d.crash ch).stOpen = (0, some ⟨{ t.s with d := t.s.d.crash ch }, t.whole⟩) /\ Keep ⟨{ t.s with d := t.s.d.crash ch }, t.whole⟩ F := by
 obtain ⟨u, v, htold, hall⟩ := h.kept.told
 have h2 : KeptR ⟨{ t.s with d := t.s.d.crash ch }, t.whole⟩ F := h.kept.same_row (htold.crash ch) hall (h.kept.zero.crash ch) rfl
 refine ⟨?_, h2, live_crash _ _⟩
 generalize hw : (⟨{ t.s with d := t.s.d.crash ch }, t.whole⟩ : Sto) = t2 at *
 have hd : t.s.d.crash ch = t2.s.d := by rw [<- hw]
 rw [hd]
 clear hw hd h htold hall
 obtain ⟨u, v, h1, _⟩ := h2.told
 have hsl := h1.anew (by rw [h2.first]; exact h2.full.1) (by have := h2.full.2; omega)
 rw [h2.first] at hsl
 have hn := h2.full.2
 unfold DS.stOpen
 rw [if_neg (by omega), if_neg (by rw [h1.rest.alive]; simp), h2.zero.now]
 cases hw : t2.whole with
 | true =>
  rw [if_neg (by
   rintro (⟨_, h2⟩ | h2)
   ·exact h2 rfl
   ·rw [show (((if true = true then (2 : UInt8) else 1) :: zeros 63)).drop 1 = zeros 63 from rfl, allZ_zeros] at h2; cases h2)]
  rw [show ((1 : Nat) : Int) = 1 from rfl] at hsl
  rw [hsl]
  dsimp only
  rw [if_pos (stKeys_iff.2 h2.keys)]
  obtain ⟨ts, tw⟩ := t2
  dsimp only at hw
  subst hw
  rfl
 | false =>
  rw [if_neg (by
   rintro (⟨h2, _⟩ | h2)
   ·exact h2 rfl
   ·rw [show (((if false = true then (2 : UInt8) else 1) :: zeros 63)).drop 1 = zeros 63 from rfl, allZ_zeros] at h2; cases h2)]
  rw [show ((1 : Nat) : Int) = 1 from rfl] at hsl
  rw [hsl]
  dsimp only
  rw [if_pos (stKeys_iff.2 h2.keys)]
  obtain ⟨ts, tw⟩ := t2
  dsimp only at hw
  subst hw
  rfl
theorem Keep.step (h : Keep t F) (r : Rq) : ∃ F', Keep (t.step r).2 F' := by
 by_cases h0 : r.k < 1 ∨ 6 < r.k
 ·rw [step0 t r h0]; exact ⟨F, h⟩
 ·obtain ⟨k, x, b⟩ := r
  dsimp only at h0
  obtain rfl | rfl | rfl | rfl | rfl | rfl : k = 1 ∨ k = 2 ∨ k = 3 ∨ k = 4 ∨ k = 5 ∨ k = 6 := by omega
  ·obtain ⟨F', h1, _⟩ := h.put x b; exact ⟨F', h1⟩
  ·exact ⟨F, h⟩
  ·obtain ⟨F', h1, _⟩ := h.del x; exact ⟨F', h1⟩
  ·exact ⟨F, h⟩
  ·exact ⟨F, h⟩
  ·exact ⟨F, h.sets.2.1⟩
theorem Keep.run (h : Keep t F) (r : Rq) : t.run r = (((t.step r).1, 0), (t.step r).2) := by
 obtain ⟨F', h1⟩ := h.step r
 unfold Sto.run
 rw [h.alive, h1.alive]
 rfl
theorem srv_n : ∀ (l : List Nat) (s : SS), (s.clears l).2.d.n = s.d.n
 | [], s => rfl
 | i :: r, s => by
  obtain ⟨_, _, h1⟩ := s.clear_ok (i : Int)
  rw [clears_cons]
  split
  ·exact h1
  ·rw [srv_n r, h1]
theorem srv_row1 (s : SS) (i : Int) : (s.clear i).2.rows.length = s.rows.length := by
 by_cases he : (s.clear i).1 = 0
 ·obtain ⟨_, _, h3⟩ := SS.clear_done he
  rw [h3, List.length_set]
 ·rw [SS.clear_not he]
theorem srv_rows : ∀ (l : List Nat) (s : SS), (s.clears l).2.rows.length = s.rows.length
 | [], s => rfl
 | i :: r, s => by
  rw [clears_cons]
  split
  ·exact srv_row1 s i
  ·rw [srv_rows r, srv_row1]
structure Far20 (t t' : Sto) : Prop where
 ops : t'.s.d.ops <= t.s.d.ops + 40
 since : t'.s.d.since.length <= t.s.d.since.length + 40
 n : t'.s.d.n = t.s.d.n
 rows : t'.s.rows.length = t.s.rows.length
theorem step_far (t : Sto) (r : Rq) (hr : t.s.rows.length <= 20) : Far20 t (t.step r).2 := by
 by_cases h0 : r.k < 1 ∨ 6 < r.k
 ·rw [step0 t r h0]; exact ⟨by dsimp only; omega, by dsimp only; omega, rfl, rfl⟩
 ·obtain ⟨k, x, b⟩ := r
  dsimp only at h0
  obtain rfl | rfl | rfl | rfl | rfl | rfl : k = 1 ∨ k = 2 ∨ k = 3 ∨ k = 4 ∨ k = 5 ∨ k = 6 := by omega
  ·obtain ⟨a, b', c, d, _⟩ := t.put_ok x b
   rw [step1]
   exact ⟨by dsimp only; omega, by dsimp only; omega, c, d⟩
  ·rw [step2]; exact ⟨by dsimp only; omega, by dsimp only; omega, rfl, rfl⟩
  ·obtain ⟨a, b'⟩ := t.del_ok x
   rw [step3]
   refine ⟨by dsimp only; omega, by dsimp only; omega, ?_, ?_⟩
   ·unfold Sto.del
    split
    ·rfl
    ·exact srv_n _ _
   ·unfold Sto.del
    split
    ·rfl
    ·exact srv_rows _ _
  ·rw [step4]; exact ⟨by dsimp only; omega, by dsimp only; omega, rfl, rfl⟩
  ·rw [step5]; exact ⟨by dsimp only; omega, by dsimp only; omega, rfl, rfl⟩
  ·obtain ⟨a, b', c⟩ := t.s.d.sign_ok 2
   rw [step6]
   exact ⟨by show (t.s.d.sign 2).2.ops <= _; omega, by show (t.s.d.sign 2).2.since.length <= _; omega, a, rfl⟩
variable {H : List Id} {k : Nat}
theorem Keep.gets (h : Keep t F) (x : Id) (b : List UInt8) : (t.step ⟨2, x, b⟩).1 = if mayId x = false then errRp 1 else match F x with | none => errRp (if t.whole then 6 else 15) | some c => ⟨0, c, [], 0, false⟩ := by
 rw [step2, h.kept.get x]
 by_cases hm : mayId x = false
 ·rw [if_pos hm, if_pos hm]
  rfl
 ·rw [if_neg hm, if_neg hm]
  cases F x with
  | none =>
   cases t.whole <;> rfl
  | some c =>
   rfl
end
def No8 (c : Value) : Prop := ∀ z : Int, c ≠ .int .u8 z
def NoU8 (w : World) (x : Nat) : Prop := ∀ cs t fr, w.heap[x]? = some (.cells cs t fr) -> ∀ (j : Nat) (c : Value), cs[j]? = some c -> No8 c
theorem NoU8.keep {w w' : World} {x : Nat} (h : NoU8 w x) (hb : w'.heap[x]? = w.heap[x]?) : NoU8 w' x := fun cs t fr hc => h cs t fr (hb.symm.trans hc)
theorem NoU8.mk {w : World} {x t : Nat} {cs : Array Value} {fr : Nat × Nat} (h : w.heap[x]? = some (.cells cs t fr)) (hc : ∀ (j : Nat) (c : Value), cs[j]? = some c -> No8 c) : NoU8 w x := fun cs' t' fr' h' => by
 rw [h] at h'
 cases h'
 exact hc
theorem NoU8.set {w : World} {x j : Nat} {u : Value} (h : NoU8 w x) (hx : x < w.heap.size) (hu : No8 u) : NoU8 (w.setCell ⟨x, j, none⟩ u) x := fun cs t fr hc k c hk => by
 have hx' := Array.getElem?_eq_getElem hx
 unfold World.setCell at hc
 rw [Array.getElem?_modify, if_pos rfl, hx'] at hc
 cases ho : w.heap[x] with
 | cells cs0 t0 fr0 =>
  rw [ho] at hc hx'
  simp at hc
  obtain ⟨rfl, rfl, rfl⟩ := hc
  rw [Array.getElem?_setIfInBounds] at hk
  by_cases hjk : j = k
  ·rw [if_pos hjk] at hk
   split at hk
   ·rw [<- Option.some.inj hk]; exact hu
   ·cases hk
  ·rw [if_neg hjk] at hk
   exact h cs0 _ _ hx' k c hk
 | _ => rw [ho] at hc; simp at hc
theorem NoU8.not_bytes {w : World} {x : Nat} (h : NoU8 w x) (v : Value) (l : List UInt8) (hb : BytesAt w v l) (hl : l ≠ []) : v.ownBlock ≠ some x := fun e => by
 obtain ⟨a, cap, rfl, h1, h2, h3⟩ := hb
 have hpos : 0 < l.length := by cases l; exact absurd rfl hl; simp
 rcases h3 with ⟨h3, _⟩ | ⟨g', o, rfl, hc⟩
 ·exact hl h3
 ·obtain rfl : g' = x := by simpa [Value.ownBlock] using e
  have h5 := hc 0 hpos
  rw [Nat.add_zero] at h5
  unfold World.cell? at h5
  cases hx : w.heap[g']? with
  | none => simp [hx] at h5
  | some o' =>
   cases o' with
   | cells cs t fr =>
    simp [hx] at h5
    exact h cs t fr hx o _ h5 _ rfl
   | _ => simp [hx] at h5
theorem no8_slice {a : Option Addr} {n c : Nat} : No8 (.slice a n c) := fun z => by simp
theorem no8_i64 {x : Int} : No8 (.int .i64 x) := fun z => by simp
theorem no8_bool {x : Bool} : No8 (.bool x) := fun z => by simp
theorem no8_ptr {a : Option Addr} : No8 (.pointer a) := fun z => by simp
theorem no8_list {l : List Value} (h : ∀ c ∈ l, No8 c) : ∀ (j : Nat) (c : Value), l.toArray[j]? = some c -> No8 c := fun j c hj => by
 rw [List.getElem?_toArray] at hj
 exact h c (List.mem_of_getElem? hj)
theorem BytesAt.no8 {w : World} {v : Value} {l : List UInt8} (h : BytesAt w v l) : No8 v := by
 obtain ⟨a, cap, rfl, _⟩ := h
 exact no8_slice
theorem zero_cells_no8 (z : Array Value) (n : Nat) (hz : ∀ (j : Nat) (c : Value), z[j]? = some c -> No8 c) (hz0 : 0 < z.size) : ∀ (j : Nat) (c : Value), (Builtin.zeroCells z n)[j]? = some c -> No8 c := fun j c hj => by
 unfold Builtin.zeroCells at hj
 rw [Array.getElem?_map] at hj
 obtain ⟨i, _, rfl⟩ := Option.map_eq_some_iff.1 hj
 have hlt : i % z.size < z.size := Nat.mod_lt _ hz0
 rw [getElem!_pos z _ hlt]
 exact hz _ _ (Array.getElem?_eq_getElem hlt)
theorem app_no8 {a b : Array Value} (ha : ∀ (j : Nat) (c : Value), a[j]? = some c -> No8 c) (hb : ∀ (j : Nat) (c : Value), b[j]? = some c -> No8 c) : ∀ (j : Nat) (c : Value), (a ++ b)[j]? = some c -> No8 c := fun j c hj => by
 rw [Array.getElem?_append] at hj
 split at hj
 ·exact ha _ _ hj
 ·exact hb _ _ hj
theorem run_append_no8 {P : Program} (w : World) (t ty e : TypeId) (i : TypeInfo) (z : Value) (size bytes : Nat) (ht : P.underlying t = some (.slice e)) (hi : P.info? e = some i) (hz : i.zero = some z)
  (hsize : i.size = size) (hby : i.bytes = bytes) (hzs : z.cells.size = size) (hsz : 0 < size) (hz8 : ∀ (j : Nat) (c : Value), z.cells[j]? = some c -> No8 c)
  (v : Value) (n : Nat) (xs : List Value) (hown : w.ownsRow 0 e size v n xs) (hx8 : ∀ c ∈ xs, No8 c) (hv8 : ∀ x, v.ownBlock = some x -> NoU8 w x)
  (ad : Addr) (c : Nat) (news : List Value) (hl : news.length = size) (hnews : ∀ j u, news[j]? = some u -> w.cell? (ad.add j) = some u) (h1 : ∀ u ∈ news, u.oneCell' = true) (hn8 : ∀ c ∈ news, No8 c)
  (h63 : n + 1 <= maxLen) (hbytes : (n + 1) * bytes <= 140737488355328) :
  ∃ g cap w', (Builtin.append_ #[t, t] ty #[v, .slice (some ad) 1 c]).run P w = .ok (.slice (some ⟨g, 0, none⟩) (n + 1) cap) w' /\
   w'.ownsRow 0 e size (.slice (some ⟨g, 0, none⟩) (n + 1) cap) (n + 1) (xs ++ news) /\ w.grownBy w' v.ownBlock /\ (v.ownBlock = some g ∨ g = w.heap.size) /\ g < w'.heap.size /\ NoU8 w' g := by
 subst hsize
 subst hby
 obtain ⟨v', w', hr, h2, h3, _, h5⟩ := run_append_own_at (P := P) w 0 t ty e i z i.size i.bytes ht hi hz rfl rfl hzs hsz v n xs hown ad 1 c news (by rw [hl, Nat.one_mul]) hnews h1 h63 hbytes (Nat.zero_le _)
 obtain ⟨g, cap, rfl, _, hlt⟩ := h2.form (by omega)
 have hat : v.ownBlock = some g ∨ g = w.heap.size := by
  rcases h5 with h5 | h5
  ·exact .inl (by rw [<- h5]; rfl)
  ·exact .inr (by simpa [Value.ownBlock] using h5)
 refine ⟨g, cap, w', hr, h2, h3, hat, hlt, ?_⟩
 have hsmall : n + 1 <= 9223372036854775807 := by simp only [maxLen] at h63; omega
 have hfit0 : Builtin.nextslicecap (n + 1) 0 * i.bytes <= 281474976710656 := by rw [nextslicecap_zero (by omega)]; omega
 have hall : ∀ k, (∀ (j : Nat) (c : Value), (xs.toArray ++ news.toArray ++ Builtin.zeroCells z.cells k)[j]? = some c -> No8 c) := fun k =>
  app_no8 (app_no8 (no8_list hx8) (no8_list hn8)) (zero_cells_no8 _ _ hz8 (by omega))
 rcases hown.2 with ⟨rfl, h0⟩ | ⟨g0, cap0, cur, rfl, _, hg0, hnc, hcm, hcs, htake⟩
 ·subst h0
  have hxs : xs = [] := List.eq_nil_of_length_eq_zero (by rw [hown.1, Nat.zero_mul])
  subst hxs
  have h := run_append_nil (P := P) (w := w) t ty e i z ht hi hz ad 1 c news (by rw [hl, Nat.one_mul]) hnews (by omega) (by omega) (by omega)
  rw [h] at hr
  simp only [Result.ok.injEq, Value.slice.injEq, Option.some.injEq, Addr.mk.injEq] at hr
  obtain ⟨⟨⟨rfl, -⟩, -⟩, rfl⟩ := hr
  exact NoU8.mk (heap_alloc_new w.drew _) (app_no8 (no8_list hn8) (zero_cells_no8 _ _ hz8 (by omega)))
 ·have hg8 := hv8 g0 rfl
  by_cases hroom : n + 1 <= cap0
  ·have hsz2 : (n + 1) * i.size <= cap0 * i.size := Nat.mul_le_mul_right _ hroom
   rw [Nat.add_mul, Nat.one_mul] at hsz2
   have h := run_append_room (P := P) (w := w) t ty e i ht hi g0 n cap0 cur hg0 ad 1 c news (by rw [hl, Nat.one_mul]) hnews h1 hroom (by rw [hl, hcs]; omega)
   rw [h] at hr
   simp only [Result.ok.injEq, Value.slice.injEq, Option.some.injEq, Addr.mk.injEq] at hr
   obtain ⟨⟨⟨rfl, -⟩, -⟩, rfl⟩ := hr
   refine NoU8.mk (setRow_heap w g0 cur _ e _ hg0) (no8_list (fun c hc => ?_))
   have hcur : ∀ c ∈ cur.toList, No8 c := fun c hc => by
    obtain ⟨j, hj⟩ := List.getElem?_of_mem hc
    exact hg8 cur e _ hg0 j c (by simpa using hj)
   rcases List.mem_append.1 hc with hc | hc
   ·rcases List.mem_append.1 hc with hc | hc
    ·exact hcur c (List.mem_of_mem_take hc)
    ·exact hn8 c hc
   ·exact hcur c (List.mem_of_mem_drop hc)
  ·have holds : ∀ j v, xs[j]? = some v -> w.cell? ((⟨g0, 0, none⟩ : Addr).add j) = some v := fun j v hj => hown.cells (g := g0) rfl j v hj
   have h := run_append_grow (P := P) (w := w) t ty e i z ht hi hz ⟨g0, 0, none⟩ n cap0 xs hown.1 holds ad 1 c news (by rw [hl, Nat.one_mul]) hnews (by omega) (by omega) (growslice_fits (by omega) hbytes)
   rw [h] at hr
   simp only [Result.ok.injEq, Value.slice.injEq, Option.some.injEq, Addr.mk.injEq] at hr
   obtain ⟨⟨⟨rfl, -⟩, -⟩, rfl⟩ := hr
   exact NoU8.mk (heap_alloc_new w.drew _) (hall _)
theorem wp_append_no8 {P : Program} {o : Oper} {a : Act} {w : World} {K : Act -> World -> Prop} {Q : Exit -> Act -> World -> Prop} (s x : Operand) (t : TypeId) (ho : o.op = .call { callee := .builtin .append, args := #[s, x], argTypes := #[t, t] })
  (e : TypeId) (i : TypeInfo) (z : Value) (size bytes : Nat) (ht : P.underlying t = some (.slice e)) (hi : P.info? e = some i) (hz : i.zero = some z)
  (hsize : i.size = size) (hby : i.bytes = bytes) (hzs : z.cells.size = size) (hsz : 0 < size) (hz8 : ∀ (j : Nat) (c : Value), z.cells[j]? = some c -> No8 c)
  (v : Value) (n : Nat) (xs : List Value) (hs : a.eval s = v) (hown : w.ownsRow 0 e size v n xs) (hx8 : ∀ c ∈ xs, No8 c) (hv8 : ∀ x, v.ownBlock = some x -> NoU8 w x)
  (ad : Addr) (c : Nat) (hx : a.eval x = .slice (some ad) 1 c) (news : List Value) (hl : news.length = size) (hnews : ∀ j u, news[j]? = some u -> w.cell? (ad.add j) = some u) (h1 : ∀ u ∈ news, u.oneCell' = true) (hn8 : ∀ c ∈ news, No8 c)
  (h63 : n + 1 <= maxLen) (hbytes : (n + 1) * bytes <= 140737488355328)
  (h : ∀ g cap w', w'.ownsRow 0 e size (.slice (some ⟨g, 0, none⟩) (n + 1) cap) (n + 1) (xs ++ news) -> w.grownBy w' v.ownBlock -> (v.ownBlock = some g ∨ g = w.heap.size) -> g < w'.heap.size -> NoU8 w' g -> K (a.put o.dst (.slice (some ⟨g, 0, none⟩) (n + 1) cap)) w') : o.wp P a w K Q := by
 obtain ⟨g, cap, w', hr, h2, h3, h4, h5, h6⟩ := run_append_no8 (P := P) w t o.type e i z size bytes ht hi hz hsize hby hzs hsz hz8 v n xs hown hx8 hv8 ad c news hl hnews h1 hn8 h63 hbytes
 unfold Oper.wp execOp
 simp only [ho, resolve, invoke, builtin, Sem.run_bind, Sem.run_pure, Result.andThen_ok, List.map_toArray, List.map_cons, List.map_nil, hs, hx, hr]
 exact h g cap w' h2 h3 h4 h5 h6
theorem wpList_append_no8 {P : Program} {ops : Array Oper} {rest : List Oper} {o : Oper} {a : Act} {w : World} {Q : Exit -> Act -> World -> Prop} (hgd : o.guard = none) (s x : Operand) (t : TypeId) (ho : o.op = .call { callee := .builtin .append, args := #[s, x], argTypes := #[t, t] })
  (e : TypeId) (i : TypeInfo) (z : Value) (size bytes : Nat) (ht : P.underlying t = some (.slice e)) (hi : P.info? e = some i) (hz : i.zero = some z)
  (hsize : i.size = size) (hby : i.bytes = bytes) (hzs : z.cells.size = size) (hsz : 0 < size) (hz8 : ∀ (j : Nat) (c : Value), z.cells[j]? = some c -> No8 c)
  (v : Value) (n : Nat) (xs : List Value) (hs : a.eval s = v) (hown : w.ownsRow 0 e size v n xs) (hx8 : ∀ c ∈ xs, No8 c) (hv8 : ∀ x, v.ownBlock = some x -> NoU8 w x)
  (ad : Addr) (c : Nat) (hx : a.eval x = .slice (some ad) 1 c) (news : List Value) (hl : news.length = size) (hnews : ∀ j u, news[j]? = some u -> w.cell? (ad.add j) = some u) (h1 : ∀ u ∈ news, u.oneCell' = true) (hn8 : ∀ c ∈ news, No8 c)
  (h63 : n + 1 <= maxLen) (hbytes : (n + 1) * bytes <= 140737488355328)
  (h : ∀ g cap w', w'.ownsRow 0 e size (.slice (some ⟨g, 0, none⟩) (n + 1) cap) (n + 1) (xs ++ news) -> w.grownBy w' v.ownBlock -> (v.ownBlock = some g ∨ g = w.heap.size) -> g < w'.heap.size -> NoU8 w' g -> wpList P ops Q rest (a.put o.dst (.slice (some ⟨g, 0, none⟩) (n + 1) cap)) w') : wpList P ops Q (o :: rest) a w :=
 wpList_plain hgd fun K hK => wp_append_no8 s x t ho e i z size bytes ht hi hz hsize hby hzs hsz hz8 v n xs hs hown hx8 hv8 ad c hx news hl hnews h1 hn8 h63 hbytes (fun g cap w' h1 h2 h3 h4 h5 => hK _ _ (h g cap w' h1 h2 h3 h4 h5))
def Stay (p : Prop) : Prop := p
theorem stay_of {p : Prop} (h : Stay p) : p := h
theorem news_one {w : World} {e : TypeId} {u : Value} {N : Nat} (hN : N = w.heap.size) : ∀ j x, [u][j]? = some x -> (w.alloc (.cells #[u] e)).cell? ((⟨N, 0, none⟩ : Addr).add j) = some x := fun j x hj => by
 subst hN
 cases j with
 | zero => simp at hj; subst hj; rw [add_none]; exact blk_cell (heap_alloc_new w _) 0 _ rfl
 | succ j => simp at hj
theorem one_z8 {z : Value} (h : z.cells = #[z]) (h8 : No8 z) : ∀ (j : Nat) (c : Value), z.cells[j]? = some c -> No8 c := fun j c hj => by
 rw [h] at hj
 cases j with
 | zero => simp at hj; subst hj; exact h8
 | succ j => simp at hj
theorem SlotsAt.keepT {w w' : World} {q p : Nat} {U T : List Nat} {s : SS} (h : SlotsAt w q p U s) (hc : Chg T w w') (ha : ∀ x ∈ U, x ∉ T) (hT : ∀ x ∈ T, ∀ v l, BytesAt w v l -> l ≠ [] -> v.ownBlock ≠ some x) : SlotsAt w' q p U s := by
 obtain ⟨S, rv, R, h⟩ := h
 refine ⟨S, rv, R, h.obj.keep hc (fun x hx => ha x (h.uB x hx)), h.disk.keep hc (fun x hx => ha x (h.uS x hx)), h.rows, h.sep, fun x hx => ?_, h.uS, h.uB, fun x hx => Nat.lt_of_lt_of_le (h.uL x hx) hc.size, h.ok⟩
 obtain ⟨h1, h2⟩ := h.keys x hx
 exact ⟨h1.chgW hc (fun hl k hk hm => hT k hm _ _ h1 hl hk), fun g hg => ⟨Nat.lt_of_lt_of_le (h2 g hg).1 hc.size, (h2 g hg).2⟩⟩
theorem StAt.regroup {G G' : List Nat} {w w' : World} {q p : Nat} {U T : List Nat} {t : Sto} (h : StAt G w q p U t) (hc : Chg T w w') (hT : ∀ x ∈ T, x ∈ G) (h8 : ∀ x ∈ T, NoU8 w x) (hU : ∀ x ∈ U, x ∉ G) (hG : ∀ x ∈ G', (x ∈ G ∨ w.heap.size <= x) /\ x < w'.heap.size) : StAt G' w' q p U t := by
 obtain ⟨sp, mb, Us, φ, N, h, rfl⟩ := h
 have hn : ∀ x ∈ q :: mb :: Us, x ∉ T := fun x hx hm => hU x hx (hT x hm)
 refine ⟨sp, mb, Us, φ, N, ⟨hc.keep h.head (hn q (by simp)), h.slots.keepT hc (fun x hx => hn x (by simp [hx])) (fun x hx v l hb hl => (h8 x hx).not_bytes v l hb hl), h.map.chg hc (hn mb (by simp)), h.apart, fun x hx => ?_, h.ok, fun k hk => ⟨(hG k hk).2, fun y v hy hv e => ?_⟩⟩, rfl⟩
 ·rcases h.vals x hx with h1 | ⟨h1, v, h2, h3, h4⟩
  ·exact .inl h1
  ·refine .inr ⟨h1, v, h2, h3.keep (fun g hg => hc.block g (h4 g hg).1 (fun hm => (h.far g (hT g hm)).2 x v hx h2 hg)), fun g hg => ⟨Nat.lt_of_lt_of_le (h4 g hg).1 hc.size, (h4 g hg).2⟩⟩
 ·rcases (hG k hk).1 with h1 | h1
  ·exact (h.far k h1).2 y v hy hv e
  ·rcases h.vals y hy with ⟨_, h2⟩ | ⟨_, v', h2, _, h4⟩
   ·rw [h2] at hv; cases hv
   ·rw [h2] at hv
    obtain rfl := Option.some.inj hv
    have := (h4 k e).1
    omega
theorem StAt.disk {G : List Nat} {w : World} {q p : Nat} {U : List Nat} {t : Sto} (h : StAt G w q p U t) : ∃ S, DiskAt w p S t.s.d := by
 obtain ⟨sp, mb, Us, φ, N, h, rfl⟩ := h
 obtain ⟨S, rv, R, H⟩ := h.slots
 exact ⟨S, H.disk⟩
theorem StAt.dead {G : List Nat} {w : World} {q p : Nat} {U : List Nat} {t : Sto} (h : StAt G w q p U t) : Calls Tryz.prog 38 #[.pointer (some ⟨p, 0, none⟩)] w fun e w' => e = .returned (.bool t.s.d.dead) /\ w = w' := by
 obtain ⟨S, hd⟩ := h.disk
 exact ddead_any p S t.s.d w hd
end Go.Proofs.YtdkhmfcfihbjeaaGreatDoor.W
