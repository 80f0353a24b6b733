/- Texts laid together. -/
import Derived.Test.YtdkhmfcfihbjeaaGreatDoorCL5
import Derived.Test.YtdkhmfcfihbjeaaGreatDoorCL1
import Derived.Shelf.SlSortCmp.NoneTotal
import Derived.Lib.Bytealg
import Derived.Ground.SlsfProg
import Derived.Shelf.Small.Utf8
import Derived.Shelf.Small.Bits
import Derived.Shelf.Strconv.Itoa0
import Derived.Test.YtdkhmfcfihbjeaaGreatDoorProg
import Derived.Sort.OwnSorted
import Derived.Test.YtdkhmfcfihbjeaaGreatDoorCL3
import Derived.DeepKeys
import Derived.Laws.StructEq
import Derived.Deep.Slices
import Derived.ChangeSlices
import Derived.Lib.SmallJoins
/- Package store: what deleting does, in memory. -/
namespace Go.Proofs.YtdkhmfcfihbjeaaGreatDoor.W
open Go.RowKit
set_option linter.unusedVariables false
set_option linter.unusedSimpArgs false
variable {G : List Nat}

/-- As IdsAt; a slice that is empty may stand there. -/
def IdsAt0 (w : World) (U : List Nat) (o : Option Value) (l : List Nat) : Prop := (l = [] ∧ o = none) ∨ ∃ v, o = some v ∧ IntsAt w v l ∧ ∀ g, v.ownBlock = some g → g < w.heap.size ∧ g ∉ U
theorem IdsAt0.keep {w w' : World} {U U' T : List Nat} {o : Option Value} {l : List Nat} (h : IdsAt0 w U o l) (hc : Chg T w w') (hT : ∀ x ∈ T, x ∈ U ∨ w.heap.size ≤ x) (hU : ∀ x ∈ U', x ∈ U ∨ w.heap.size ≤ x) : IdsAt0 w' U' o l := by
  rcases h with h | ⟨v, h2, h3, h4⟩
  · exact .inl h
  · refine .inr ⟨v, h2, h3.keep fun g hg => ?_, fun g hg => ⟨Nat.lt_of_lt_of_le (h4 g hg).1 hc.size, fun hm => ?_⟩⟩
    · obtain ⟨k1, k2⟩ := h4 g hg
      refine hc.block g k1 (fun hm => ?_)
      rcases hT g hm with h | h
      · exact k2 h
      · omega
    · obtain ⟨k1, k2⟩ := h4 g hg
      rcases hU g hm with h | h
      · exact k2 h
      · omega
/-- A store while an id is being deleted. -/
structure StMid (G : List Nat) (w : World) (q p sp mb : Nat) (Us : List Nat) (φ : Id → Option Value) (N : Nat) (t : Sto) (x : Id) : Prop where
  head : w.heap[q]? = some (.cells #[.pointer (some ⟨p, 0, none⟩), .pointer (some ⟨sp, 0, none⟩), .map (some mb), .bool t.whole] 98 (0, 0))
  slots : SlotsAt w sp p Us t.s
  map : MapF 38 klD okD w mb φ N
  apart : q ∉ Us ∧ mb ∉ Us
  vals : ∀ y, okD y → y ≠ x → IdsAt w (q :: mb :: Us) (φ y) (t.at y)
  val : IdsAt0 w (q :: mb :: Us) (φ x) (t.at x)
  ok : keysOk t.s.rows
  far : Far G w φ
theorem StOk.mid {w : World} {q p sp mb : Nat} {Us : List Nat} {φ : Id → Option Value} {N : Nat} {t : Sto} (h : StOk G w q p sp mb Us φ N t) {x : Id} (hx : okD x) : StMid G w q p sp mb Us φ N t x :=
  ⟨h.head, h.slots, h.map, h.apart, fun y hy _ => h.vals y hy, (h.vals x hx).imp id (fun ⟨_, h⟩ => h), h.ok, h.far⟩
variable {w w2 w3 : World} {q p sp mb : Nat} {Us : List Nat} {φ : Id → Option Value} {N N' : Nat} {t : Sto} {x : Id}
theorem StMid.full (h : StMid G w q p sp mb Us φ N t x) (hne : t.at x ≠ []) : StOk G w q p sp mb Us φ N t := by
  refine ⟨h.head, h.slots, h.map, h.apart, fun y hy => ?_, h.ok, h.far⟩
  by_cases e : y = x
  · subst e
    rcases h.val with ⟨h1, _⟩ | ⟨v, h2, h3⟩
    · exact absurd h1 hne
    · exact .inr ⟨hne, v, h2, h3⟩
  · exact h.vals y hy e
theorem StMid.keep0 (h : StMid G w q p sp mb Us φ N t x) (hc : Chg [] w w2) : StMid G w2 q p sp mb Us φ N t x :=
  ⟨hc.keep h.head (by simp), h.slots.keep0 hc, h.map.chg hc (by simp), h.apart, fun y hy hn => (h.vals y hy hn).keep hc (by simp) (fun y hy => .inl hy), h.val.keep hc (by simp) (fun y hy => .inl hy), h.ok, h.far.mono hc.size⟩
theorem StMid.cells (h : StMid G w q p sp mb Us φ N t x) :
    w.cell? ⟨q, 0, none⟩ = some (.pointer (some ⟨p, 0, none⟩)) ∧ w.cell? ⟨q, 1, none⟩ = some (.pointer (some ⟨sp, 0, none⟩)) ∧ w.cell? ⟨q, 2, none⟩ = some (.map (some mb)) ∧ w.cell? ⟨q, 3, none⟩ = some (.bool t.whole) :=
  ⟨blk_cell h.head 0 _ rfl, blk_cell h.head 1 _ rfl, blk_cell h.head 2 _ rfl, blk_cell h.head 3 _ rfl⟩
/-- What is found at the id. -/
structure MidLook (G : List Nat) (w : World) (U : List Nat) (v : Value) (l : List Nat) : Prop where
  ints : IntsAt w v l
  own : ∀ g, v.ownBlock = some g → g < w.heap.size ∧ g ∉ U
  far : ∀ k ∈ G, v.ownBlock ≠ some k
theorem StMid.look (h : StMid G w q p sp mb Us φ N t x) (hx : okD x) :
    ∃ v, (∀ n, (Instr.lookup 96 (.map (some mb)) (idV x) false).run Tryz.prog (w.drewN n) = .ok v (w.drewN n)) ∧ MidLook G w (q :: mb :: Us) v (t.at x) := by
  refine ⟨(φ x).getD (.slice none 0 0), fun n => ?_, ?_⟩
  · exact (h.map.chg ((Chg.refl [] w).drewN n) (by simp)).look keId Tryz.underlying96 zeroInts hx
  · rcases h.val with ⟨h1, h2⟩ | ⟨v, h2, h3, h4⟩
    · rw [h1, h2]
      exact ⟨⟨none, 0, rfl, Nat.le_refl _, by unfold maxLen; omega, fun h => absurd rfl h⟩, (fun g hg => by cases hg), fun k hk e => by cases e⟩
    · rw [h2]
      exact ⟨h3, h4, fun k hk => (h.far k hk).2 x v hx h2⟩
theorem MidLook.keep {U U' T : List Nat} {v : Value} {l : List Nat} (h : MidLook G w U v l) (hc : Chg T w w2) (hT : ∀ x ∈ T, x ∈ U ∨ w.heap.size ≤ x) (hU : ∀ x ∈ U', x ∈ U ∨ w.heap.size ≤ x) : MidLook G w2 U' v l := by
  refine ⟨h.ints.keep fun g hg => ?_, fun g hg => ⟨Nat.lt_of_lt_of_le (h.own g hg).1 hc.size, fun hm => ?_⟩, h.far⟩
  · obtain ⟨k1, k2⟩ := h.own g hg
    refine hc.block g k1 (fun hm => ?_)
    rcases hT g hm with h | h
    · exact k2 h
    · omega
  · obtain ⟨k1, k2⟩ := h.own g hg
    rcases hU g hm with h | h
    · exact k2 h
    · omega
theorem MidLook.first {U : List Nat} {v : Value} {i : Nat} {r : List Nat} (h : MidLook G w U v (i :: r)) : ∃ g o cap, v = .slice (some ⟨g, o, none⟩) (r.length + 1) cap ∧ r.length + 1 ≤ cap ∧ cap ≤ maxLen ∧ w.cell? ⟨g, o, none⟩ = some (.int .i64 (i : Int)) ∧ MidLook G w U (.slice (some ⟨g, if cap = 1 then o else o + 1, none⟩) r.length (cap - 1)) r := by
  obtain ⟨a, cap, rfl, h1, h2, h3⟩ := h.ints
  obtain ⟨g, o, rfl, h4⟩ := h3 (by simp)
  simp only [List.length_cons] at h1 h4
  refine ⟨g, o, cap, rfl, h1, h2, h4 0 (by omega), ⟨⟨_, cap - 1, rfl, by omega, by omega, fun hn => ?_⟩, fun k hk => h.own k hk, fun k hk => h.far k hk⟩⟩
  have hr := List.length_pos_iff.2 hn
  rw [if_neg (by omega)]
  exact ⟨g, o + 1, rfl, fun j hj => by
    have := h4 (j + 1) (by omega)
    rw [show o + 1 + j = o + (j + 1) by omega, this]; rfl⟩
/-- The slots go on: the rows as they were. -/
theorem StMid.slotsDid {s' : SS} (h : StMid G w q p sp mb Us φ N t x) (hs : Sid w w2 sp p Us s') (hr : s'.rows = t.s.rows) :
    ∃ Us', StMid G w2 q p sp mb Us' φ N { t with s := s' } x ∧ (∀ x ∈ Us', x ∈ Us ∨ w.heap.size ≤ x) ∧ Chg Us w w2 := by
  obtain ⟨U', h1, h2, h3⟩ := hs
  have hq := blk_lt h.head
  have hm := h.map.lt
  have hat : ∀ x, Sto.at { t with s := s' } x = t.at x := fun x => by unfold Sto.at; simp only [hr]
  have hU : ∀ y ∈ q :: mb :: U', y ∈ q :: mb :: Us ∨ w.heap.size ≤ y := fun y hy => by
    rcases List.mem_cons.1 hy with rfl | hy
    · exact .inl (by simp)
    · rcases List.mem_cons.1 hy with rfl | hy
      · exact .inl (by simp)
      · rcases h2 y hy with h4 | h4
        · exact .inl (by simp [h4])
        · exact .inr h4
  refine ⟨U', ⟨h3.keep h.head h.apart.1, h1, h.map.chg h3 h.apart.2, ⟨fun hx => ?_, fun hx => ?_⟩, fun y hy hn => ?_, ?_, by rw [show ({ t with s := s' } : Sto).s.rows = t.s.rows from hr]; exact h.ok, h.far.mono h3.size⟩, h2, h3⟩
  · rcases h2 q hx with h4 | h4
    · exact h.apart.1 h4
    · omega
  · rcases h2 mb hx with h4 | h4
    · exact h.apart.2 h4
    · omega
  · rw [hat]
    exact (h.vals y hy hn).keep h3 (fun y hy => .inl (by simp [hy])) hU
  · rw [hat]
    exact h.val.keep h3 (fun y hy => .inl (by simp [hy])) hU
/-- A slot was cleared, and the id's slots are one less. -/
theorem StMid.cleared {s' : SS} {i : Nat} {r : List Nat} {v' : Value} (h : StMid G w q p sp mb Us φ N t x) (hx : mayId x = true) (hat : t.at x = i :: r) (hs : Sid w w2 sp p Us s') (hrows : s'.rows = t.s.rows.set i noRow)
    (hc : Chg [mb] w2 w3) (hmap : MapF 38 klD okD w3 mb (updF φ x v') N') (hv : MidLook G w (q :: mb :: Us) v' r) :
    ∃ Us', StMid G w3 q p sp mb Us' (updF φ x v') N' { t with s := s' } x ∧ Sto.at { t with s := s' } x = r ∧ (∀ x ∈ Us', x ∈ Us ∨ w.heap.size ≤ x) ∧ Chg (mb :: Us) w w3 := by
  obtain ⟨U', h1, h2, h3⟩ := hs
  have hq := blk_lt h.head
  have hm := h.map.lt
  have hqm := ne_blk h.head h.map
  rw [Sto.at_may hx] at hat
  have hat' : ∀ y, Sto.at { t with s := s' } y = if y = x then r else t.at y := fun y => by
    by_cases hy : mayId y = true
    · rw [Sto.at_may hy, Sto.at_may hy]
      show upto s'.rows s'.rows.length (idKey y) = _
      rw [hrows, upto_clear hat]
      by_cases e : y = x
      · subst e; rw [if_pos rfl, if_pos rfl]
      · rw [if_neg e, if_neg (fun h => e (idKey_inj hy hx h))]
    · have hy' : mayId y = false := by simpa using hy
      rw [Sto.at_not hy', Sto.at_not hy', if_neg (fun e => by subst e; exact hy hx)]
  have hqU : q ∉ U' := fun hx => by
    rcases h2 q hx with h4 | h4
    · exact h.apart.1 h4
    · omega
  have hmU : mb ∉ U' := fun hx => by
    rcases h2 mb hx with h4 | h4
    · exact h.apart.2 h4
    · omega
  have hcc : Chg (mb :: Us) w w3 := (h3.mono (fun y hy => .inl (List.mem_cons_of_mem _ hy))).trans hc (fun y hy => .inl (by rw [List.mem_singleton.1 hy]; simp))
  have hU2 : ∀ y ∈ q :: mb :: U', y ∈ q :: mb :: Us ∨ w.heap.size ≤ y := fun y hy => by
    rcases List.mem_cons.1 hy with rfl | hy
    · exact .inl (by simp)
    · rcases List.mem_cons.1 hy with rfl | hy
      · exact .inl (by simp)
      · rcases h2 y hy with h4 | h4
        · exact .inl (by simp [h4])
        · exact .inr h4
  refine ⟨U', ⟨hcc.keep h.head (fun hy => ?_), h1.keepMap hc (h.map.chg h3 h.apart.2).obj hmU, hmap, ⟨hqU, hmU⟩, fun y hy hn => ?_, ?_, ?_, (h.far.mono hcc.size).upd x hv.far⟩, by rw [hat', if_pos rfl], h2, hcc⟩
  · rcases List.mem_cons.1 hy with h4 | h4
    · exact hqm h4
    · exact h.apart.1 h4
  · rw [hat' y, if_neg hn, updF_other _ _ hn]
    exact (h.vals y hy hn).keep hcc (fun z hz => .inl (List.mem_cons_of_mem _ hz)) hU2
  · rw [hat' x, if_pos rfl, updF_self]
    have hk := hv.keep hcc (fun z hz => .inl (List.mem_cons_of_mem _ hz)) hU2
    exact .inr ⟨v', rfl, hk.ints, hk.own⟩
  · show keysOk s'.rows
    rw [hrows]
    exact h.ok.set i (fun h => by simp [noRow] at h)
/-- The entry is gone. -/
theorem StMid.gone (h : StMid G w q p sp mb Us φ N t x) (hat : t.at x = []) (hc : Chg [mb] w w2) (hmap : MapF 38 klD okD w2 mb (delF φ x) N') : StOk G w2 q p sp mb Us (delF φ x) N' t := by
  have hqm := ne_blk h.head h.map
  refine ⟨hc.keep h.head (by simpa using hqm), h.slots.keepMap hc h.map.obj h.apart.2, hmap, h.apart, fun y hy => ?_, h.ok, (h.far.mono hc.size).del x⟩
  by_cases e : y = x
  · subst e
    rw [hat, delF_self]
    exact .inl ⟨rfl, rfl⟩
  · rw [delF_other _ e]
    exact (h.vals y hy e).keep hc (fun z hz => .inl (by rw [List.mem_singleton.1 hz]; simp)) (fun y hy => .inl hy)
theorem StMid.few (h : StMid G w q p sp mb Us φ N t x) : N < maxLen := by
  have h1 := h.map.card keId (x :: t.s.rows.map (fun r => unId r.key)) (fun y hy hs => by
    by_cases e : y = x
    · rw [e]; simp
    · rcases h.vals y hy e with ⟨_, h2⟩ | ⟨h1, _⟩
      · rw [h2] at hs; cases hs
      · obtain ⟨j, l, hjl⟩ := List.exists_cons_of_ne_nil h1
        by_cases hmy : mayId y = true
        · rw [Sto.at_may hmy] at hjl
          have hj : j ∈ upto t.s.rows t.s.rows.length (idKey y) := by rw [hjl]; simp
          obtain ⟨j1, j2, j3⟩ := upto_mem.1 hj
          refine List.mem_cons_of_mem _ (List.mem_map.2 ⟨t.s.rows.getD j noRow, ?_, by rw [j3, (un_key hmy).1]⟩)
          rw [List.getD_eq_getElem?_getD, List.getElem?_eq_getElem j1]
          exact List.getElem_mem _
        · rw [Sto.at_not (by simpa using hmy)] at hjl; cases hjl)
  obtain ⟨S0, rv0, R0, H0⟩ := h.slots
  have := H0.few
  rw [List.length_cons, List.length_map] at h1
  unfold maxLen
  omega
theorem SS.clear_ok (s : SS) (i : Int) : (s.clear i).2.d.ops ≤ s.d.ops + 2 ∧ (s.clear i).2.d.since.length ≤ s.d.since.length + 1 ∧ (s.clear i).2.d.n = s.d.n := by
  obtain ⟨h1, h2, h3⟩ := s.d.lays_ok (s.pos i) (zeros 64)
  have hn : nsec (zeros 64).length = 1 := by simp [nsec, zeros]
  rw [hn] at h2 h3
  unfold SS.clear
  split
  · exact ⟨Nat.le_add_right _ _, Nat.le_add_right _ _, rfl⟩
  · split
    · exact ⟨Nat.le_add_right _ _, Nat.le_add_right _ _, rfl⟩
    · split
      · exact ⟨by dsimp only; omega, h3, h1⟩
      · exact ⟨by dsimp only; omega, h3, h1⟩
end Go.Proofs.YtdkhmfcfihbjeaaGreatDoor.W

/- Package store: Delete. -/
namespace Go.Proofs.YtdkhmfcfihbjeaaGreatDoor.W
open Go.RowKit
set_option linter.unusedVariables false
set_option linter.unusedSimpArgs false
variable {G : List Nat}

theorem clears_cons (s : SS) (i : Nat) (r : List Nat) : s.clears (i :: r) = if (s.clear i).1 ≠ 0 then s.clear i else (s.clear i).2.clears r := rfl
set_option maxHeartbeats 8000000 in
set_option maxRecDepth 100000 in
theorem stdel_any (q p : Nat) (U : List Nat) (t : Sto) (x : Id) (w : World) (h : StAt G w q p U t) (hxo : okD x) (ho : t.s.d.ops ≤ 800000000) (hw : t.s.d.since.length ≤ 800000) :
    Calls Tryz.prog 123 #[.pointer (some ⟨q, 0, none⟩), idV x] w fun e w' => e = .returned (.int .i64 (t.del x).1) ∧ Std G w w' q p U (t.del x).2 := by
  obtain ⟨sp, mb, Us, φ, N, h, rfl⟩ := h
  obtain ⟨w1, hw1⟩ : ∃ w1, w1 = w.alloc (.cells (idC x) 38) := ⟨_, rfl⟩
  have hc1 : Chg [] w w1 := by rw [hw1]; exact (Chg.refl [] w).alloc _
  have hb1 : w1.heap[w.heap.size]? = some (.cells (idC x) 38 (0, 0)) := by rw [hw1]; exact heap_alloc_new w _
  have H1 := h.keep0 hc1
  obtain ⟨k0, _, _, _⟩ := H1.cells
  have CM := Lib.hid (stmade_any q p w1 k0)
  have CY := Lib.hid (mayid_any x w1)
  have HB := Lib.hid hb1
  have HC1 := Lib.hid hc1
  have HW1 := Lib.hid hw1
  have HH1 := Lib.hid H1
  have HX := Lib.hid hxo
  have HUL := Lib.hid h.slots.uL
  have hql := blk_lt h.head
  have hml := h.map.lt
  have HST : Hid (∀ w', Chg [] w1 w' → Std G w w' q p (q :: mb :: Us) t) := Lib.hid (fun w' hc => ⟨q :: mb :: Us, ⟨sp, mb, Us, φ, N, H1.keep0 hc, rfl⟩, fun y hy => .inl hy, (hc1.trans hc (by simp)).mono (by simp)⟩)
  clear hw1 hb1 hc1 h hxo H1
  by_cases hm : mayId x = true
  · have HG : Hid (t.del x = ((t.s.clears (t.at x)).1, { t with s := (t.s.clears (t.at x)).2 })) := Lib.hid (by unfold Sto.del; rw [if_neg (by simp [hm])])
    have HM := Lib.hid hm
    rw [hm] at CY
    generalize t.del x = r at *
    clear hm
    obtain ⟨xc, xl, xn, xi⟩ := x
    go_enter Tryz.func123, Tryz.ntmps123
    go_wp2_with fail
    rw [← HW1.out]
    refine CM.out.mono ?_
    rintro e w' ⟨rfl, hq⟩
    subst hq
    obtain ⟨m0, m1, m2, m3⟩ := id_cells HB.out
    go_wp2_with fail
    refine CY.out.mono ?_
    rintro e w2 ⟨rfl, hc2⟩
    have HB2 := Lib.hid (hc2.keep HB.out (by simp))
    have HM2 := Lib.hid ((HH1.out.keep0 hc2).mid HX.out)
    have HC2 := Lib.hid (HC1.out.trans hc2 (by simp))
    clear hc2 m0 m1 m2 m3 k0 CM CY HB
    obtain ⟨v, hlk, hlook⟩ := HM2.out.look HX.out
    obtain ⟨k0, k1, k2, _⟩ := HM2.out.cells
    obtain ⟨m0, m1, m2, m3⟩ := id_cells HB2.out
    obtain ⟨a, cap, hv, hl1, hl2, _⟩ := hlook.ints
    have HLK := Lib.hid hlook
    clear hlook
    have hvn : v = .slice a (t.at ⟨xc, xl, xn, xi⟩).length cap := hv
    rw [hvn] at HLK
    subst hv
    go_wp2_with fail
    go_quiet (fail)
    have hcn : Chg [] w2 (w2.drewN nq) := (Chg.refl [] w2).drewN nq
    have HMn := Lib.hid (HM2.out.keep0 hcn)
    have HLn := Lib.hid (HLK.out.keep hcn (by simp) (fun y hy => .inl hy))
    have HCn := Lib.hid (HC2.out.trans hcn (by simp))
    have HBn := Lib.hid (hcn.keep HB2.out (by simp))
    have hatl : (t.at ⟨xc, xl, xn, xi⟩).length ≤ 1000 := by
      rw [Sto.at_may HM.out]
      have h1 := upto_len t.s.rows t.s.rows.length (idKey ⟨xc, xl, xn, xi⟩)
      obtain ⟨S0, rv0, R0, H0⟩ := HM2.out.slots
      have := H0.few
      omega
    clear hlk k0 k1 k2 m0 m1 m2 m3 hcn hl1 hl2 HM2 HLK HB2
    generalize w2.drewN nq = w3 at *
    generalize hal : t.at ⟨xc, xl, xn, xi⟩ = l0 at *
    have HAL := Lib.hid hal
    clear hal
    go_wp2_with fail
    go_loopg [5] l0.length (fun g' s5 wr => ∃ (sk : SS) (l : List Nat) (Uk : List Nat) (φk : Id → Option Value) (Nk : Nat) (a : Option Addr) (cap : Nat), s5 = .slice a l.length cap ∧ l.length ≤ g' ∧ l.length ≤ l0.length ∧ Hid (StMid G wr q p sp mb Uk φk Nk ⟨sk, t.whole⟩ ⟨xc, xl, xn, xi⟩ ∧
      Sto.at ⟨sk, t.whole⟩ ⟨xc, xl, xn, xi⟩ = l ∧ MidLook G wr (q :: mb :: Uk) (.slice a l.length cap) l ∧ t.s.clears l0 = sk.clears l ∧ (∀ y ∈ Uk, y ∈ Us ∨ w.heap.size ≤ y) ∧ Chg (q :: mb :: Us) w wr ∧ wr.heap[w.heap.size]? = some (.cells (idC ⟨xc, xl, xn, xi⟩) 38 (0, 0)) ∧ (∀ y ∈ q :: mb :: Uk, y ≠ w.heap.size) ∧
      sk.d.ops + 2 * l.length ≤ t.s.d.ops + 2 * l0.length ∧ sk.d.since.length + l.length ≤ t.s.d.since.length + l0.length))
    case atStart =>
      refine ⟨t.s, l0, Us, φ, N, a, cap, rfl, Nat.le_refl _, Nat.le_refl _, Lib.hid ⟨HMn.out, HAL.out, HLn.out, rfl, fun y hy => .inl hy, HCn.out.mono (by simp), HBn.out, fun y hy => ?_, by omega, by omega⟩⟩
      rcases List.mem_cons.1 hy with rfl | hy
      · omega
      · rcases List.mem_cons.1 hy with rfl | hy
        · omega
        · have := HUL.out y hy; omega
    case round =>
      obtain ⟨sk, l, Uk, φk, Nk, a, cap, rfl, hlg, hll, HR⟩ := hrel
      obtain ⟨hmid, hat, hlook, hcl, hUk, hck, hbk, hne, hop, hsi⟩ := HR.out
      have HMK := Lib.hid hmid
      have HAT := Lib.hid hat
      have HLK := Lib.hid hlook
      have HCL := Lib.hid hcl
      have HUK := Lib.hid (And.intro hUk (And.intro hck hne))
      have HBK := Lib.hid hbk
      clear HR hmid hat hlook hcl hUk hck hbk hne
      cases l with
      | nil =>
        obtain ⟨k0, k1, k2, _⟩ := HMK.out.cells
        have mm := id_cells HBK.out
        have HR : Hid (r = (0, ⟨sk, t.whole⟩)) := Lib.hid (by rw [HG.out, HCL.out]; rfl)
        clear HG hlg hll
        go_wp2_with fail
        have HMD := Lib.hid (HMK.out.keep0 (Chg.drew (Chg.refl [] wr)))
        refine wp_region_L [(5, fun w' => w'.cell? ⟨q, 2, none⟩ = some (.map (some mb))), (5, fun w' => (w'.cell? ⟨w.heap.size, 0, none⟩ = some (.int .i64 xc) ∧ w'.cell? ⟨w.heap.size, 1, none⟩ = some (.int .i64 xl) ∧ w'.cell? ⟨w.heap.size, 2, none⟩ = some (.int .i64 xn) ∧ w'.cell? ⟨w.heap.size, 3, none⟩ = some (.int .i64 xi)))] (by kernel_rfl) ?_ (fun hHeld => ?_)
        · exact (HoldC.cons (k2) (HoldC.cons (mm) HoldC.nil))
        refine wpAnyL_take (i := 0) (oi := _) (v := ?_) rfl (by kernel_rfl) (by kernel_rfl) (by kernel_rfl) (by kernel_rfl) (by kernel_rfl) (fun _ _ _ h => h) (Or.inl ⟨by rfl, ?_⟩) (by assumption) (fun hNew => ?_)
        rotate_left
        · intro w _
          go_simp
          try with_reducible rfl
        clear hHeld
        have hHeld := hNew
        clear hNew
        try simp only [List.getElem_toArray, List.getElem_cons_succ, List.getElem_cons_zero, Act.put, List.setIfInBounds_toArray, List.set_cons_zero, List.set_cons_succ]
        refine wpAnyL_take (i := 1) (oi := _) (v := ?_) rfl (by kernel_rfl) (by kernel_rfl) (by kernel_rfl) (by kernel_rfl) (by kernel_rfl) (fun _ _ _ h => h) (Or.inl ⟨by rfl, ?_⟩) (by assumption) (fun hNew => ?_)
        rotate_left
        · intro w _
          go_simp
          try with_reducible rfl
        clear hHeld
        have hHeld := hNew
        clear hNew
        try simp only [List.getElem_toArray, List.getElem_cons_succ, List.getElem_cons_zero, Act.put, List.setIfInBounds_toArray, List.set_cons_zero, List.set_cons_succ]
        refine wpAnyL_take (i := 2) (oi := _) (v := ?_) rfl (by kernel_rfl) (by kernel_rfl) (by kernel_rfl) (by kernel_rfl) (by kernel_rfl) (fun _ _ _ h => h) (Or.inl ⟨by rfl, ?_⟩) (by assumption) (fun hNew => ?_)
        rotate_left
        · intro w _
          go_simp
          try with_reducible rfl
        clear hHeld
        have hHeld := hNew
        clear hNew
        try simp only [List.getElem_toArray, List.getElem_cons_succ, List.getElem_cons_zero, Act.put, List.setIfInBounds_toArray, List.set_cons_zero, List.set_cons_succ]
        refine wpAnyL_load 0 (i := 3) (oi := _) (v := ?_) rfl rfl (by kernel_rfl) (by kernel_rfl) (by kernel_rfl) (by kernel_rfl) (by kernel_rfl) (by kernel_rfl) (fun _ _ _ h => h) (Or.inl ⟨by rfl, ?_⟩) (by assumption) (fun hNew => ?_)
        rotate_left
        · intro w hSw
          (try dsimp only at hSw)
          go_simp
          try with_reducible rfl
        clear hHeld
        have hHeld := hNew
        clear hNew
        try simp only [List.getElem_toArray, List.getElem_cons_succ, List.getElem_cons_zero, Act.put, List.setIfInBounds_toArray, List.set_cons_zero, List.set_cons_succ]
        refine wpAnyL_load 1 (i := 4) (oi := _) (v := ?_) rfl rfl (by kernel_rfl) (by kernel_rfl) (by kernel_rfl) (by kernel_rfl) (by kernel_rfl) (by kernel_rfl) (fun _ _ _ h => h) (Or.inl ⟨by rfl, ?_⟩) (by assumption) (fun hNew => ?_)
        rotate_left
        · intro w hSw
          (try dsimp only at hSw)
          go_simp
          try with_reducible rfl
        clear hHeld
        have hHeld := hNew
        clear hNew
        try simp only [List.getElem_toArray, List.getElem_cons_succ, List.getElem_cons_zero, Act.put, List.setIfInBounds_toArray, List.set_cons_zero, List.set_cons_succ]
        refine wpAnyL_ready (rs := [5]) (by kernel_rfl) (by simp) ?_
        refine AllReadyL.cons (o := _) rfl (fun K hK => ?_) AllReadyL.nil
        try simp only [List.getElem_toArray, List.getElem_cons_succ, List.getElem_cons_zero]
        refine wp_del keId wr.drew (.tmp 51) (.tmp 52) 96 (by rfl) 132 Tryz.underlying96 mb Nk φk (by rfl) HMD.out.map ⟨xc, xl, xn, xi⟩ (by rfl) HX.out ?_
        intro w6 hm6 hc6 hs6
        have HF : Hid (Std G w w6 q p (q :: mb :: Us) ⟨sk, t.whole⟩) := Lib.hid (by
          have h1 := HMD.out.gone HAT.out hc6 hm6
          exact h1.std HUK.out.1 ((HUK.out.2.1.drew).trans hc6 (fun y hy => .inl (by rw [List.mem_singleton.1 hy]; simp))))
        clear hm6 hc6 hs6
        clear hHeld
        refine hK.out _ _ ?_ (fun hHeld => ?_)
        · exact (HoldC.past (by kernel_rfl) (HoldC.past (by kernel_rfl) HoldC.nil))
        clear hK K
        try simp only [List.getElem_toArray, List.getElem_cons_succ, List.getElem_cons_zero, Act.put, List.setIfInBounds_toArray, List.set_cons_zero, List.set_cons_succ]
        refine wpAnyL_done (by kernel_rfl) ?_ _
        clear hHeld
        go_wp2_with fail
        go_ret
        rw [HR.out]
        exact ⟨rfl, HF.out⟩
      | cons i rest =>
        obtain ⟨g, o, cap', hv, hl1, hl2, hc0, hmk⟩ := HLK.out.first
        obtain ⟨rfl, _, rfl⟩ := Value.slice.inj hv
        have HMK2 := Lib.hid hmk
        obtain ⟨k0, k1, k2, _⟩ := HMK.out.cells
        have hlen : ((i :: rest).length : Int) = (rest.length : Int) + 1 := by simp
        have hrl : rest.length + 1 ≤ l0.length := hll
        have hgk : rest.length + 1 ≤ gk := hlg
        have hbig : rest.length + 1 ≤ 9223372036854775807 := by omega
        have HMD := Lib.hid (HMK.out.keep0 (Chg.drew (Chg.refl [] wr)))
        have CC := Lib.hid (sclear_any sp p Uk sk (i : Int) wr.drew HMD.out.slots (by simp at hop; omega) (by simp at hsi; omega))
        have HCL2 : Hid (t.s.clears l0 = if (sk.clear (i : Int)).1 ≠ 0 then sk.clear (i : Int) else (sk.clear (i : Int)).2.clears rest) := Lib.hid (by rw [HCL.out, clears_cons])
        obtain ⟨z1, z2, z3⟩ := sk.clear_ok (i : Int)
        have hcn := @SS.clear_not sk (i : Int)
        have hcd := @SS.clear_done sk (i : Int)
        generalize sk.clear (i : Int) = z at *
        obtain ⟨ze, zs⟩ := z
        dsimp only at HCL2 z1 z2 z3 hcn hcd
        have HCN := Lib.hid (And.intro hcn hcd)
        unfold SidPost at CC
        clear hv hmk hlg hll hcn hcd HCL
        rw [show (i :: rest).length = rest.length + 1 from rfl]
        simp only [List.length_cons] at hop hsi
        go_wp2_with fail
        refine wp_region_L [(7, fun w' => w'.cell? ⟨q, 1, none⟩ = some (.pointer (some ⟨sp, 0, none⟩))), (7, fun w' => w'.cell? ⟨g, o, none⟩ = some (.int .i64 (i : Int)))] (by kernel_rfl) ?_ (fun hHeld => ?_)
        · exact (HoldC.cons (k1) (HoldC.cons (hc0) HoldC.nil))
        refine wpAnyL_take (i := 0) (oi := _) (v := ?_) rfl (by kernel_rfl) (by kernel_rfl) (by kernel_rfl) (by kernel_rfl) (by kernel_rfl) (fun _ _ _ h => h) (Or.inl ⟨by rfl, ?_⟩) (by assumption) (fun hNew => ?_)
        rotate_left
        · intro w _
          go_simp
          try with_reducible rfl
        clear hHeld
        have hHeld := hNew
        clear hNew
        try simp only [List.getElem_toArray, List.getElem_cons_succ, List.getElem_cons_zero, Act.put, List.setIfInBounds_toArray, List.set_cons_zero, List.set_cons_succ]
        refine wpAnyL_take (i := 1) (oi := _) (v := ?_) rfl (by kernel_rfl) (by kernel_rfl) (by kernel_rfl) (by kernel_rfl) (by kernel_rfl) (fun _ _ _ h => h) (Or.inl ⟨by rfl, ?_⟩) (by assumption) (fun hNew => ?_)
        rotate_left
        · intro w _
          go_simp
          try with_reducible rfl
        clear hHeld
        have hHeld := hNew
        clear hNew
        try simp only [List.getElem_toArray, List.getElem_cons_succ, List.getElem_cons_zero, Act.put, List.setIfInBounds_toArray, List.set_cons_zero, List.set_cons_succ]
        refine wpAnyL_take (i := 2) (oi := _) (v := ?_) rfl (by kernel_rfl) (by kernel_rfl) (by kernel_rfl) (by kernel_rfl) (by kernel_rfl) (fun _ _ _ h => h) (Or.inl ⟨by rfl, ?_⟩) (by assumption) (fun hNew => ?_)
        rotate_left
        · intro w _
          go_simp
          try with_reducible rfl
        clear hHeld
        have hHeld := hNew
        clear hNew
        try simp only [List.getElem_toArray, List.getElem_cons_succ, List.getElem_cons_zero, Act.put, List.setIfInBounds_toArray, List.set_cons_zero, List.set_cons_succ]
        refine wpAnyL_load 0 (i := 3) (oi := _) (v := ?_) rfl rfl (by kernel_rfl) (by kernel_rfl) (by kernel_rfl) (by kernel_rfl) (by kernel_rfl) (by kernel_rfl) (fun _ _ _ h => h) (Or.inl ⟨by rfl, ?_⟩) (by assumption) (fun hNew => ?_)
        rotate_left
        · intro w hSw
          (try dsimp only at hSw)
          go_simp
          try with_reducible rfl
        clear hHeld
        have hHeld := hNew
        clear hNew
        try simp only [List.getElem_toArray, List.getElem_cons_succ, List.getElem_cons_zero, Act.put, List.setIfInBounds_toArray, List.set_cons_zero, List.set_cons_succ]
        refine wpAnyL_take (i := 4) (oi := _) (v := ?_) rfl (by kernel_rfl) (by kernel_rfl) (by kernel_rfl) (by kernel_rfl) (by kernel_rfl) (fun _ _ _ h => h) (Or.inl ⟨by rfl, ?_⟩) (by assumption) (fun hNew => ?_)
        rotate_left
        · intro w _
          go_simp
          try with_reducible rfl
        clear hHeld
        have hHeld := hNew
        clear hNew
        try simp only [List.getElem_toArray, List.getElem_cons_succ, List.getElem_cons_zero, Act.put, List.setIfInBounds_toArray, List.set_cons_zero, List.set_cons_succ]
        refine wpAnyL_take (i := 5) (oi := _) (v := ?_) rfl (by kernel_rfl) (by kernel_rfl) (by kernel_rfl) (by kernel_rfl) (by kernel_rfl) (fun _ _ _ h => h) (Or.inl ⟨by rfl, ?_⟩) (by assumption) (fun hNew => ?_)
        rotate_left
        · intro w _
          go_simp
          try with_reducible rfl
        clear hHeld
        have hHeld := hNew
        clear hNew
        try simp only [List.getElem_toArray, List.getElem_cons_succ, List.getElem_cons_zero, Act.put, List.setIfInBounds_toArray, List.set_cons_zero, List.set_cons_succ]
        refine wpAnyL_load 1 (i := 6) (oi := _) (v := ?_) rfl rfl (by kernel_rfl) (by kernel_rfl) (by kernel_rfl) (by kernel_rfl) (by kernel_rfl) (by kernel_rfl) (fun _ _ _ h => h) (Or.inl ⟨by rfl, ?_⟩) (by assumption) (fun hNew => ?_)
        rotate_left
        · intro w hSw
          (try dsimp only at hSw)
          go_simp
          try with_reducible rfl
        clear hHeld
        have hHeld := hNew
        clear hNew
        try simp only [List.getElem_toArray, List.getElem_cons_succ, List.getElem_cons_zero, Act.put, List.setIfInBounds_toArray, List.set_cons_zero, List.set_cons_succ]
        refine wpAnyL_ready (rs := [7]) (by kernel_rfl) (by simp) ?_
        refine AllReadyL.cons (o := _) rfl (fun K hK => ?_) AllReadyL.nil
        try simp only [List.getElem_toArray, List.getElem_cons_succ, List.getElem_cons_zero]
        go_simp
        refine CC.out.mono ?_
        rintro e w5 ⟨rfl, hs5⟩
        have HS5 := Lib.hid hs5
        clear hs5 CC
        clear hHeld
        refine hK.out _ _ ?_ (fun hHeld => ?_)
        · exact (HoldC.past (by kernel_rfl) (HoldC.past (by kernel_rfl) HoldC.nil))
        clear hK K
        try simp only [List.getElem_toArray, List.getElem_cons_succ, List.getElem_cons_zero, Act.put, List.setIfInBounds_toArray, List.set_cons_zero, List.set_cons_succ]
        refine wpAnyL_ready (rs := [8]) (by kernel_rfl) (by simp) ?_
        refine AllReadyL.cons (o := _) rfl (fun K hK => ?_) AllReadyL.nil
        try simp only [List.getElem_toArray, List.getElem_cons_succ, List.getElem_cons_zero]
        go_simp
        clear hHeld
        refine hK.out _ _ ?_ (fun hHeld => ?_)
        · exact (HoldC.past (by kernel_rfl) (HoldC.past (by kernel_rfl) HoldC.nil))
        clear hK K
        try simp only [List.getElem_toArray, List.getElem_cons_succ, List.getElem_cons_zero, Act.put, List.setIfInBounds_toArray, List.set_cons_zero, List.set_cons_succ]
        refine wpAnyL_done (by kernel_rfl) ?_ _
        clear hHeld
        have hdw : Chg [] wr wr.drew := Chg.drew (Chg.refl [] wr)
        by_cases he : ze = 0
        · subst he
          rw [if_neg (by simp)] at HCL2
          obtain ⟨hhas, hus, hrows⟩ := HCN.out.2 rfl
          obtain ⟨U5, g1, g2, g3⟩ := HS5.out
          have hid5 : w5.heap[w.heap.size]? = some (.cells (idC ⟨xc, xl, xn, xi⟩) 38 (0, 0)) := g3.keep (hdw.keep HBK.out (by simp)) (fun hm => HUK.out.2.2 _ (by simp [hm]) rfl)
          have c5 := g3.cell (hdw.cell k2 (by simp)) HMD.out.apart.1
          have HM5 := Lib.hid (HMD.out.map.chg g3 HMD.out.apart.2)
          have mm5 := id_cells hid5
          have HI5 := Lib.hid hid5
          have hNN := HMD.out.few
          have HRW := Lib.hid hrows
          have HLK5 := Lib.hid (HMK2.out.keep hdw (by simp) (fun y hy => .inl hy))
          have hc1 : 1 ≤ cap := by omega
          clear hid5 g1 g2 g3 hhas hus hrows k0 k1 k2 hc0
          have h1r : (1 : Int) ≤ (rest.length : Int) + 1 := by omega
          have hcapC : cap = 1 ∨ ¬ cap = 1 := by omega
          rcases hcapC with hcap | hcap
          all_goals
            go_wp2_with fail
            refine wp_region_L [(7, fun w' => w'.cell? ⟨q, 2, none⟩ = some (.map (some mb))), (7, fun w' => (w'.cell? ⟨w.heap.size, 0, none⟩ = some (.int .i64 xc) ∧ w'.cell? ⟨w.heap.size, 1, none⟩ = some (.int .i64 xl) ∧ w'.cell? ⟨w.heap.size, 2, none⟩ = some (.int .i64 xn) ∧ w'.cell? ⟨w.heap.size, 3, none⟩ = some (.int .i64 xi)))] (by kernel_rfl) ?_ (fun hHeld => ?_)
            · exact (HoldC.cons (c5) (HoldC.cons (mm5) HoldC.nil))
            refine wpAnyL_take (i := 0) (oi := _) (v := ?_) rfl (by kernel_rfl) (by kernel_rfl) (by kernel_rfl) (by kernel_rfl) (by kernel_rfl) (fun _ _ _ h => h) (Or.inl ⟨by rfl, ?_⟩) (by assumption) (fun hNew => ?_)
            rotate_left
            · intro w _
              go_simp
              try with_reducible rfl
            clear hHeld
            have hHeld := hNew
            clear hNew
            try simp only [List.getElem_toArray, List.getElem_cons_succ, List.getElem_cons_zero, Act.put, List.setIfInBounds_toArray, List.set_cons_zero, List.set_cons_succ]
            refine wpAnyL_take (i := 1) (oi := _) (v := ?_) rfl (by kernel_rfl) (by kernel_rfl) (by kernel_rfl) (by kernel_rfl) (by kernel_rfl) (fun _ _ _ h => h) (Or.inl ⟨by rfl, ?_⟩) (by assumption) (fun hNew => ?_)
            rotate_left
            · intro w _
              go_simp
              try with_reducible rfl
            clear hHeld
            have hHeld := hNew
            clear hNew
            try simp only [List.getElem_toArray, List.getElem_cons_succ, List.getElem_cons_zero, Act.put, List.setIfInBounds_toArray, List.set_cons_zero, List.set_cons_succ]
            refine wpAnyL_take (i := 2) (oi := _) (v := ?_) rfl (by kernel_rfl) (by kernel_rfl) (by kernel_rfl) (by kernel_rfl) (by kernel_rfl) (fun _ _ _ h => h) (Or.inl ⟨by rfl, ?_⟩) (by assumption) (fun hNew => ?_)
            rotate_left
            · intro w _
              go_simp
              try with_reducible rfl
            clear hHeld
            have hHeld := hNew
            clear hNew
            try simp only [List.getElem_toArray, List.getElem_cons_succ, List.getElem_cons_zero, Act.put, List.setIfInBounds_toArray, List.set_cons_zero, List.set_cons_succ]
            refine wpAnyL_load 0 (i := 3) (oi := _) (v := ?_) rfl rfl (by kernel_rfl) (by kernel_rfl) (by kernel_rfl) (by kernel_rfl) (by kernel_rfl) (by kernel_rfl) (fun _ _ _ h => h) (Or.inl ⟨by rfl, ?_⟩) (by assumption) (fun hNew => ?_)
            rotate_left
            · intro w hSw
              (try dsimp only at hSw)
              go_simp
              try with_reducible rfl
            clear hHeld
            have hHeld := hNew
            clear hNew
            try simp only [List.getElem_toArray, List.getElem_cons_succ, List.getElem_cons_zero, Act.put, List.setIfInBounds_toArray, List.set_cons_zero, List.set_cons_succ]
            refine wpAnyL_load 1 (i := 4) (oi := _) (v := ?_) rfl rfl (by kernel_rfl) (by kernel_rfl) (by kernel_rfl) (by kernel_rfl) (by kernel_rfl) (by kernel_rfl) (fun _ _ _ h => h) (Or.inl ⟨by rfl, ?_⟩) (by assumption) (fun hNew => ?_)
            rotate_left
            · intro w hSw
              (try dsimp only at hSw)
              go_simp
              try with_reducible rfl
            clear hHeld
            have hHeld := hNew
            clear hNew
            try simp only [List.getElem_toArray, List.getElem_cons_succ, List.getElem_cons_zero, Act.put, List.setIfInBounds_toArray, List.set_cons_zero, List.set_cons_succ]
            refine wpAnyL_take (i := 5) (oi := _) (v := ?_) rfl (by kernel_rfl) (by kernel_rfl) (by kernel_rfl) (by kernel_rfl) (by kernel_rfl) (fun _ _ _ h => h) (Or.inl ⟨by rfl, ?_⟩) (by assumption) (fun hNew => ?_)
            rotate_left
            · intro w _
              go_simp
              try with_reducible rfl
            clear hHeld
            have hHeld := hNew
            clear hNew
            try simp only [List.getElem_toArray, List.getElem_cons_succ, List.getElem_cons_zero, Act.put, List.setIfInBounds_toArray, List.set_cons_zero, List.set_cons_succ]
            refine wpAnyL_take (i := 6) (oi := _) (v := ?_) rfl (by kernel_rfl) (by kernel_rfl) (by kernel_rfl) (by kernel_rfl) (by kernel_rfl) (fun _ _ _ h => h) (Or.inl ⟨by rfl, ?_⟩) (by assumption) (fun hNew => ?_)
            rotate_left
            · intro w _
              go_simp
              try with_reducible rfl
            clear hHeld
            have hHeld := hNew
            clear hNew
            try simp only [List.getElem_toArray, List.getElem_cons_succ, List.getElem_cons_zero, Act.put, List.setIfInBounds_toArray, List.set_cons_zero, List.set_cons_succ]
            refine wpAnyL_ready (rs := [7]) (by kernel_rfl) (by simp) ?_
            refine AllReadyL.cons (o := _) rfl (fun K hK => ?_) AllReadyL.nil
            try simp only [List.getElem_toArray, List.getElem_cons_succ, List.getElem_cons_zero]
            have HMW := Lib.hid (HM5.out.chg (Chg.drew (Chg.refl [] w5)) (by simp))
            refine wp_upd keId w5.drew (.tmp 44) (.tmp 45) (.tmp 47) 96 (by rfl) 132 Tryz.underlying96 mb Nk φk (by rfl) HMW.out hNN ⟨xc, xl, xn, xi⟩ (by rfl) HX.out (.slice (some ⟨g, if cap = 1 then o else o + 1, none⟩) rest.length (cap - 1)) (by first | (rw [if_neg hcap]; rfl) | (rw [if_pos hcap, hcap]; rfl)) ?_
            intro w6 hm6 hc6 hs6
            have hF := HMD.out.cleared HM.out HAT.out HS5.out HRW.out ((Chg.drew (Chg.refl [mb] w5)).trans hc6 (fun y hy => .inl hy)) hm6 HLK5.out
            have hid6 : w6.heap[w.heap.size]? = some (.cells (idC ⟨xc, xl, xn, xi⟩) 38 (0, 0)) := hc6.keep (show w5.drew.heap[w.heap.size]? = _ from HI5.out) (by simp; omega)
            have HI6 := Lib.hid hid6
            have HF := Lib.hid hF
            clear hF hm6 hc6 hs6 hid6
            clear hHeld
            refine hK.out _ _ ?_ (fun hHeld => ?_)
            · exact (HoldC.past (by kernel_rfl) (HoldC.past (by kernel_rfl) HoldC.nil))
            clear hK K
            try simp only [List.getElem_toArray, List.getElem_cons_succ, List.getElem_cons_zero, Act.put, List.setIfInBounds_toArray, List.set_cons_zero, List.set_cons_succ]
            refine wpAnyL_done (by kernel_rfl) ?_ _
            clear hHeld
            obtain ⟨U6, f1, f2, f3, f4⟩ := HF.out
            obtain ⟨v6, hlk6, hlook6⟩ := f1.look HX.out
            obtain ⟨k0, k1, k2, _⟩ := f1.cells
            obtain ⟨m0, m1, m2, m3⟩ := id_cells HI6.out
            rw [f2] at hlook6
            obtain ⟨a6, cap6, hv6, _, _, _⟩ := hlook6.ints
            subst hv6
            have HL6 := Lib.hid hlook6
            have HF1 := Lib.hid f1
            have HF2 := Lib.hid f2
            have HF3 := Lib.hid (And.intro f3 f4)
            clear f1 f2 f3 f4 hlook6
            go_wp2_with fail
            go_quiet (fail)
            have hcn : Chg [] w6 (w6.drewN nq) := (Chg.refl [] w6).drewN nq
            have hwr := HUK.out.2.1.size
            have HREL : Hid (StMid G (w6.drewN nq) q p sp mb U6 (updF φk ⟨xc, xl, xn, xi⟩ (.slice (some ⟨g, if cap = 1 then o else o + 1, none⟩) rest.length (cap - 1))) (if (φk ⟨xc, xl, xn, xi⟩).isSome = true then Nk else Nk + 1) ⟨zs, t.whole⟩ ⟨xc, xl, xn, xi⟩ ∧
                Sto.at ⟨zs, t.whole⟩ ⟨xc, xl, xn, xi⟩ = rest ∧ MidLook G (w6.drewN nq) (q :: mb :: U6) (.slice a6 rest.length cap6) rest ∧ t.s.clears l0 = zs.clears rest ∧ (∀ y ∈ U6, y ∈ Us ∨ w.heap.size ≤ y) ∧ Chg (q :: mb :: Us) w (w6.drewN nq) ∧ (w6.drewN nq).heap[w.heap.size]? = some (.cells (idC ⟨xc, xl, xn, xi⟩) 38 (0, 0)) ∧ (∀ y ∈ q :: mb :: U6, y ≠ w.heap.size) ∧
                zs.d.ops + 2 * rest.length ≤ t.s.d.ops + 2 * l0.length ∧ zs.d.since.length + rest.length ≤ t.s.d.since.length + l0.length) := Lib.hid (by
              have hid := blk_lt HBK.out
              refine ⟨HF1.out.keep0 hcn, HF2.out, HL6.out.keep hcn (by simp) (fun y hy => .inl hy), HCL2.out, fun y hy => ?_, ((HUK.out.2.1.drew).trans HF3.out.2 (fun y hy => ?_)).trans hcn (by simp), HI6.out, fun y hy => ?_, by omega, by omega⟩
              · rcases HF3.out.1 y hy with h | h
                · exact HUK.out.1 y h
                · have h' : wr.heap.size ≤ y := h
                  exact .inr (by omega)
              · rcases List.mem_cons.1 hy with rfl | hy
                · exact .inl (by simp)
                · rcases HUK.out.1 y hy with h | h
                  · exact .inl (by simp [h])
                  · exact .inr h
              · rcases List.mem_cons.1 hy with rfl | hy
                · omega
                · rcases List.mem_cons.1 hy with rfl | hy
                  · omega
                  · rcases HF3.out.1 y hy with h | h
                    · exact HUK.out.2.2 y (by simp [h])
                    · have h' : wr.heap.size ≤ y := h
                      omega)
            go_wp2_with fail
            go_roundg rest.length
            case measure => omega
            case rel => exact ⟨zs, rest, U6, _, _, a6, cap6, rfl, Nat.le_refl _, by omega, HREL⟩
        · have HR : Hid (r = (ze, ⟨zs, t.whole⟩)) := Lib.hid (by
            have h1 := HCL2.out
            rw [if_pos he] at h1
            rw [HG.out, h1])
          have HF : Hid (Std G w w5 q p (q :: mb :: Us) ⟨zs, t.whole⟩) := Lib.hid (by
            obtain ⟨U5, h1, h2, h3⟩ := HMD.out.slotsDid HS5.out (HCN.out.1 he)
            have hne : Sto.at ⟨zs, t.whole⟩ ⟨xc, xl, xn, xi⟩ ≠ [] := by
              have h4 := HAT.out
              unfold Sto.at at h4 ⊢
              rw [HCN.out.1 he]
              rw [h4]; simp
            have hd := hdw.size
            refine (h1.full hne).std (fun y hy => ?_) ((HUK.out.2.1.drew).trans h3 (fun y hy => ?_))
            · rcases h2 y hy with h | h
              · exact HUK.out.1 y h
              · have := HUK.out.2.1.size; exact .inr (by omega)
            · rcases HUK.out.1 y hy with h | h
              · exact .inl (by simp [h])
              · exact .inr h)
          have q0 : (ze != 0) = true := by simp [he]
          clear he HG HCL2
          go_wp2
          go_ret
          rw [HR.out]
          exact ⟨rfl, HF.out⟩
  · have hm' : mayId x = false := by simpa using hm
    have HG : Hid (t.del x = (1, t)) := Lib.hid (by unfold Sto.del; rw [if_pos hm'])
    rw [HG.out]
    rw [hm'] at CY
    clear hm hm'
    obtain ⟨xc, xl, xn, xi⟩ := x
    go_enter Tryz.func123, Tryz.ntmps123
    go_wp2_with fail
    rw [← HW1.out]
    refine CM.out.mono ?_
    rintro e w' ⟨rfl, hq⟩
    subst hq
    obtain ⟨m0, m1, m2, m3⟩ := id_cells HB.out
    go_wp2_with fail
    refine CY.out.mono ?_
    rintro e w2 ⟨rfl, hc2⟩
    have HC2 := Lib.hid hc2
    clear hc2
    go_wp2
    go_ret
    exact ⟨rfl, HST.out _ HC2.out⟩
end Go.Proofs.YtdkhmfcfihbjeaaGreatDoor.W

/- A row of elements of several cells, sorted by slices.SortFunc: what it owns behind it. -/
namespace Go.Proofs.YtdkhmfcfihbjeaaGreatDoor.W
open Go.RowKit Go.Sort Go.Lib
set_option linter.unusedVariables false
set_option linter.unusedSimpArgs false

theorem flatMap_len {α : Type} (enc : α → List Value) {k : Nat} (hk : ∀ x, (enc x).length = k) : ∀ l : List α, (l.flatMap enc).length = l.length * k
  | [] => by simp
  | x :: r => by rw [List.flatMap_cons, List.length_append, hk, flatMap_len enc hk r, List.length_cons, Nat.add_mul]; omega
theorem flatMap_at {α : Type} [Inhabited α] (enc : α → List Value) {k : Nat} (hk : ∀ x, (enc x).length = k) : ∀ (l : List α) (i j : Nat), i < l.length → j < k → (l.flatMap enc)[i * k + j]? = (enc l[i]!)[j]?
  | [], i, j, h, _ => by simp at h
  | x :: r, 0, j, h, hj => by
    rw [List.flatMap_cons, Nat.zero_mul, Nat.zero_add, List.getElem?_append_left (by rw [hk]; exact hj)]; rfl
  | x :: r, i + 1, j, h, hj => by
    rw [List.flatMap_cons, List.getElem?_append_right (by rw [hk, Nat.add_mul]; omega), hk, show (i + 1) * k + j - k = i * k + j by rw [Nat.add_mul]; omega]
    exact flatMap_at enc hk r i j (by simpa using h) hj
theorem flat_eq {α : Type} [Inhabited α] (enc : α → List Value) {k : Nat} (hk : ∀ x, (enc x).length = k) (l : List α) : (flatK enc k l.toArray).toList = l.flatMap enc := by
  apply List.ext_getElem?
  intro t
  by_cases ht : t < l.length * k
  · have k0 : 0 < k := by
      rcases Nat.eq_zero_or_pos k with h | h
      · subst h; simp at ht
      · exact h
    have hi : t / k < l.length := (Nat.div_lt_iff_lt_mul k0).2 ht
    have hj : t % k < k := Nat.mod_lt _ k0
    have e : t = t / k * k + t % k := by rw [Nat.mul_comm]; exact (Nat.div_add_mod t k).symm
    rw [Array.getElem?_toList, Array.getElem?_eq_getElem (by simpa using ht)]
    have h1 := get_flatK enc k l.toArray t (by simpa using ht)
    rw [getElem!_pos _ t (by simpa using ht)] at h1
    rw [h1]
    conv => rhs; rw [e]
    rw [flatMap_at enc hk l _ _ hi hj]
    have h2 : l.toArray[t / k]! = l[t / k]! := by simp
    rw [h2, getElem!_pos _ (t % k) (by rw [hk]; exact hj), List.getElem?_eq_getElem]
  · rw [List.getElem?_eq_none (by simp; omega), List.getElem?_eq_none (by rw [flatMap_len enc hk]; omega)]

theorem holds_row {α : Type} [Inhabited α] (enc : α → List Value) {k : Nat} (hk : ∀ x, (enc x).length = k) {w : World} {g : Nat} {cur : Array Value} {e : TypeId} {ss : List α} (hb : w.heap[g]? = some (.cells cur e (0, 0))) (ht : cur.toList.take (ss.length * k) = ss.flatMap enc) : HoldsK enc k w g 0 ss.toArray := by
  intro j hj
  have hj' : j < ss.length * k := by simpa using hj
  rw [Nat.zero_add]
  have h1 : (flatK enc k ss.toArray)[j]! = (ss.flatMap enc)[j]'(by rw [flatMap_len enc hk]; exact hj') := by
    rw [getElem!_pos _ j hj]
    have := flat_eq enc hk ss
    rw [← Array.getElem_toList]
    simp only [this]
  have h2 : cur[j]? = some ((ss.flatMap enc)[j]'(by rw [flatMap_len enc hk]; exact hj')) := by
    rw [← Array.getElem?_toList, ← List.getElem?_take_of_lt hj', ht, List.getElem?_eq_getElem]
  refine ⟨?_, blk_frozen hb j⟩
  rw [blk_cell hb j _ h2, h1]; rfl
theorem heap_sortedK {w : World} {g n : Nat} {os : Array Obj} {cur : Array Value} {e : TypeId} {fr : Nat × Nat} (d : Array Value) (hb : w.heap[g]? = some (.cells cur e fr)) :
    (grow (putRow id (Sort.ahead w n) g 0 d) os).heap[g]? = some (.cells (putCells id 0 d cur) e fr) := by
  have hg : g < w.heap.size := (Array.getElem?_eq_some_iff.1 hb).1
  rw [heap_grow_old _ _ (by simpa using hg)]
  simp [putRow, mapBlock, Sort.ahead, Array.getElem?_modify, hb, onCells]
theorem chg_sortedK {α : Type} [Inhabited α] (enc : α → List Value) (k : Nat) {w : World} {g n : Nat} {os : Array Obj} (d : Array α) : Chg [g] w (sortWorldK enc k w g 0 n d os) := by
  refine ⟨rfl, rfl, rfl, by simp [sortWorldK, putRowK], fun j hj hne => ?_⟩
  unfold sortWorldK putRowK
  rw [heap_grow_old _ _ (by simpa using hj)]
  have : g ≠ j := fun e => hne (by simp [e])
  simp [putRow, mapBlock, Sort.ahead, Array.getElem?_modify, this]
theorem take_putK (cur : Array Value) (F : Array Value) (h : F.size ≤ cur.size) : (putCells id 0 F cur).toList.take F.size = F.toList := by
  apply List.ext_getElem?
  intro j
  by_cases hj : j < F.size
  · rw [List.getElem?_take_of_lt hj, Array.getElem?_toList, Array.getElem?_toList]
    simp [putCells, hj, show j < cur.size by omega]
  · rw [List.getElem?_take_eq_none (by omega), List.getElem?_eq_none (by simp; omega)]
theorem ownsRow_sortedK {α : Type} [Inhabited α] (enc : α → List Value) {k : Nat} (hk : ∀ x, (enc x).length = k) {w : World} {base g cap n : Nat} {e : TypeId} {os : Array Obj} {cur : Array Value} {m : Nat} {ts : List α} (hl : ts.length = m) (hbase : base ≤ g) (hb : w.heap[g]? = some (.cells cur e (0, 0)))
    (h1 : m ≤ cap) (h2 : cap ≤ maxLen) (h3 : cur.size = cap * k) :
    (sortWorldK enc k w g 0 n ts.toArray os).ownsRow base e k (.slice (some ⟨g, 0, none⟩) m cap) m (ts.flatMap enc) := by
  refine ⟨by rw [flatMap_len enc hk, hl], .inr ⟨g, cap, _, rfl, hbase, heap_sortedK _ hb, h1, h2, by simp [putCells, h3], ?_⟩⟩
  have hs : (flatK enc k ts.toArray).size = m * k := by simp [hl]
  rw [← hs, take_putK _ _ (by rw [hs, h3]; exact Nat.mul_le_mul_right k h1), flat_eq enc hk]

/-! ### Bytes in their order -/
end Go.Proofs.YtdkhmfcfihbjeaaGreatDoor.W

/- Ids in their order: plainly. -/
namespace Go.Proofs.YtdkhmfcfihbjeaaGreatDoor.W
open Go.RowKit Go.Sort
set_option linter.unusedVariables false
set_option linter.unusedSimpArgs false

def cmpI (x y : Int) : Int := if x < y then -1 else if y < x then 1 else 0
def firstNZ : List Int → Int
  | [] => 0
  | x :: r => if x ≠ 0 then x else firstNZ r
def cmpId (x y : Id) : Int := firstNZ [cmpI x.c y.c, cmpI x.l y.l, cmpI x.n y.n, cmpI x.i y.i]
def idLt (a b : Id) : Prop := a.c < b.c ∨ (a.c = b.c ∧ (a.l < b.l ∨ (a.l = b.l ∧ (a.n < b.n ∨ (a.n = b.n ∧ a.i < b.i)))))
instance (a b : Id) : Decidable (idLt a b) := inferInstanceAs (Decidable (_ ∨ _))
theorem cmpI_spec (x y : Int) : (x < y ∧ cmpI x y = -1) ∨ (y < x ∧ cmpI x y = 1) ∨ (x = y ∧ cmpI x y = 0) := by
  unfold cmpI
  by_cases h : x < y
  · exact .inl ⟨h, if_pos h⟩
  · rw [if_neg h]
    by_cases h2 : y < x
    · exact .inr (.inl ⟨h2, if_pos h2⟩)
    · exact .inr (.inr ⟨by omega, if_neg h2⟩)
theorem cmpId_lt (a b : Id) : cmpId a b < 0 ↔ idLt a b := by
  unfold cmpId idLt firstNZ firstNZ firstNZ firstNZ firstNZ
  rcases cmpI_spec a.c b.c with ⟨h1, e1⟩ | ⟨h1, e1⟩ | ⟨h1, e1⟩ <;> rcases cmpI_spec a.l b.l with ⟨h2, e2⟩ | ⟨h2, e2⟩ | ⟨h2, e2⟩ <;> rcases cmpI_spec a.n b.n with ⟨h3, e3⟩ | ⟨h3, e3⟩ | ⟨h3, e3⟩ <;>
    rcases cmpI_spec a.i b.i with ⟨h4, e4⟩ | ⟨h4, e4⟩ | ⟨h4, e4⟩ <;> rw [e1, e2, e3, e4] <;> simp <;> omega
theorem ltI (x y : Id) : ltOf cmpId x y = decide (idLt x y) := by
  unfold ltOf
  rw [Bool.eq_iff_iff]; simp [cmpId_lt]
theorem idLt_irrefl (a : Id) : ¬ idLt a a := by unfold idLt; omega
theorem idLt_trans {a b c : Id} (h1 : idLt a b) (h2 : idLt b c) : idLt a c := by unfold idLt at *; omega
theorem idLt_or (a b : Id) : idLt a b ∨ a = b ∨ idLt b a := by
  obtain ⟨a1, a2, a3, a4⟩ := a
  obtain ⟨b1, b2, b3, b4⟩ := b
  unfold idLt
  simp only [Id.mk.injEq]
  omega
theorem swoI : SWO (ltOf cmpId) where
  irrefl x := by rw [ltI]; simp [idLt_irrefl]
  trans x y z h1 h2 := by
    rw [ltI, decide_eq_true_eq] at *
    exact idLt_trans h1 h2
  ntrans x y z h1 h2 := by
    rw [ltI, decide_eq_false_iff_not] at *
    unfold idLt at *
    omega
theorem totI (x y : Id) (h1 : ltOf cmpId x y = false) (h2 : ltOf cmpId y x = false) : x = y := by
  rw [ltI, decide_eq_false_iff_not] at *
  rcases idLt_or x y with h | h | h
  · exact absurd h h1
  · exact h
  · exact absurd h h2
abbrev leI (x y : Id) : Bool := !ltOf cmpId y x
theorem leI_iff (x y : Id) : leI x y = true ↔ idLt x y ∨ x = y := by
  unfold leI
  rw [ltI]
  simp only [Bool.not_eq_true', decide_eq_false_iff_not]
  rcases idLt_or x y with h | h | h
  · exact ⟨fun _ => .inl h, fun _ h2 => idLt_irrefl _ (idLt_trans h h2)⟩
  · subst h; exact ⟨fun _ => .inr rfl, fun _ => idLt_irrefl _⟩
  · exact ⟨fun h2 => absurd h h2, fun h2 => by
      rcases h2 with h2 | h2
      · exact absurd (idLt_trans h h2) (idLt_irrefl _)
      · subst h2; exact absurd h (idLt_irrefl _)⟩
theorem leI_trans (a b c : Id) (h1 : leI a b = true) (h2 : leI b c = true) : leI a c = true := by
  rw [leI_iff] at *
  rcases h1 with h1 | rfl
  · rcases h2 with h2 | rfl
    · exact .inl (idLt_trans h1 h2)
    · exact .inl h1
  · exact h2
theorem leI_total (a b : Id) : (leI a b || leI b a) = true := by
  rw [Bool.or_eq_true, leI_iff, leI_iff]
  rcases idLt_or a b with h | h | h
  · exact .inl (.inl h)
  · exact .inl (.inr h)
  · exact .inr (.inl h)
/-- Sorted rows of the same ids are one. -/
theorem sortedI_eq {l m : List Id} (hl : l.Nodup) (hm : m.Nodup) (h : ∀ x, x ∈ l ↔ x ∈ m) : l.mergeSort leI = m.mergeSort leI := by
  have hp : l.Perm m := (List.perm_ext_iff_of_nodup hl hm).2 h
  have hs : ∀ l : List Id, (l.mergeSort leI).Pairwise (fun x y => leI x y = true) := fun l => List.pairwise_mergeSort leI_trans leI_total l
  refine List.Perm.eq_of_pairwise (le := fun x y => leI x y = true) (fun a b _ _ h1 h2 => ?_) (hs _) (hs _) ((List.mergeSort_perm _ _).trans (hp.trans (List.mergeSort_perm _ _).symm))
  rw [leI_iff] at h1 h2
  rcases h1 with h1 | h1
  · rcases h2 with h2 | h2
    · exact absurd (idLt_trans h1 h2) (idLt_irrefl _)
    · exact h2.symm
  · exact h1

/-! ### The ids of a store -/
def isFirst (rows : List SRow) (j : Nat) : Bool := (rows.getD j noRow).used && (upto rows j (rows.getD j noRow).key).isEmpty
def firsts (rows : List SRow) : List Id := ((List.range rows.length).filter (isFirst rows)).map (fun j => unId (rows.getD j noRow).key)
def Sto.ids (t : Sto) : List Id := (firsts t.s.rows).mergeSort leI
theorem row_mem {rows : List SRow} {j : Nat} (h : j < rows.length) : rows.getD j noRow ∈ rows := by
  rw [List.getD_eq_getElem?_getD, List.getElem?_eq_getElem h]
  exact List.getElem_mem _
theorem mem_isFirst {rows : List SRow} {j : Nat} : isFirst rows j = true ↔ (rows.getD j noRow).used = true ∧ ∀ k, k < j → ¬ ((rows.getD k noRow).used = true ∧ (rows.getD k noRow).key = (rows.getD j noRow).key) := by
  unfold isFirst
  rw [Bool.and_eq_true, List.isEmpty_iff]
  constructor
  · rintro ⟨h1, h2⟩
    refine ⟨h1, fun k hk hh => ?_⟩
    have : k ∈ upto rows j (rows.getD j noRow).key := upto_mem.2 ⟨hk, hh.1, hh.2⟩
    rw [h2] at this
    cases this
  · rintro ⟨h1, h2⟩
    refine ⟨h1, ?_⟩
    cases hu : upto rows j (rows.getD j noRow).key with
    | nil => rfl
    | cons k r =>
      have : k ∈ upto rows j (rows.getD j noRow).key := by rw [hu]; simp
      obtain ⟨a, b, c⟩ := upto_mem.1 this
      exact absurd ⟨b, c⟩ (h2 k a)
theorem mem_firsts {t : Sto} (hk : keysOk t.s.rows) (x : Id) : x ∈ firsts t.s.rows ↔ t.at x ≠ [] := by
  unfold firsts
  rw [List.mem_map]
  constructor
  · rintro ⟨j, hj, rfl⟩
    obtain ⟨h1, h2⟩ := List.mem_filter.1 hj
    have hjl := List.mem_range.1 h1
    obtain ⟨hu, _⟩ := mem_isFirst.1 h2
    obtain ⟨hm, he⟩ := un_back (hk _ (row_mem hjl) hu)
    rw [Sto.at_may hm]
    intro h0
    have : j ∈ upto t.s.rows t.s.rows.length (idKey (unId (t.s.rows.getD j noRow).key)) := upto_mem.2 ⟨hjl, hu, he⟩
    rw [h0] at this
    cases this
  · intro h
    by_cases hm : mayId x = true
    · rw [Sto.at_may hm] at h
      cases hu : upto t.s.rows t.s.rows.length (idKey x) with
      | nil => exact absurd hu h
      | cons j r =>
        have hj : j ∈ upto t.s.rows t.s.rows.length (idKey x) := by rw [hu]; simp
        obtain ⟨a, b, c⟩ := upto_mem.1 hj
        refine ⟨j, List.mem_filter.2 ⟨List.mem_range.2 a, mem_isFirst.2 ⟨b, fun k hkj hh => ?_⟩⟩, by rw [c, (un_key hm).1]⟩
        rw [c] at hh
        have hk2 : k ∈ upto t.s.rows t.s.rows.length (idKey x) := upto_mem.2 ⟨by omega, hh.1, hh.2⟩
        have hpw : (upto t.s.rows t.s.rows.length (idKey x)).Pairwise (· < ·) := List.pairwise_lt_range.filter _
        rw [hu] at hpw hk2
        rcases List.mem_cons.1 hk2 with h3 | h3
        · omega
        · have := (List.pairwise_cons.1 hpw).1 k h3
          omega
    · rw [Sto.at_not (by simpa using hm)] at h
      exact absurd rfl h
theorem firsts_nodup {t : Sto} (hk : keysOk t.s.rows) : (firsts t.s.rows).Nodup := by
  unfold firsts List.Nodup
  rw [List.pairwise_map]
  refine List.Pairwise.imp_of_mem ?_ (List.pairwise_lt_range.filter (isFirst t.s.rows))
  intro a b ha hb hab e
  obtain ⟨ha1, ha2⟩ := List.mem_filter.1 ha
  obtain ⟨hb1, hb2⟩ := List.mem_filter.1 hb
  obtain ⟨hau, _⟩ := mem_isFirst.1 ha2
  obtain ⟨hbu, hb3⟩ := mem_isFirst.1 hb2
  have h1 := (un_back (hk _ (row_mem (List.mem_range.1 ha1)) hau)).2
  have h2 := (un_back (hk _ (row_mem (List.mem_range.1 hb1)) hbu)).2
  exact hb3 a hab ⟨hau, by rw [h1, h2, e]⟩
theorem Sto.mem_ids {t : Sto} (hk : keysOk t.s.rows) (x : Id) : x ∈ t.ids ↔ t.at x ≠ [] := by
  unfold Sto.ids
  rw [List.mem_mergeSort, mem_firsts hk]
theorem Sto.ids_len (t : Sto) : t.ids.length ≤ t.s.rows.length := by
  unfold Sto.ids firsts
  rw [List.length_mergeSort, List.length_map]
  have := List.length_filter_le (isFirst t.s.rows) (List.range t.s.rows.length)
  rwa [List.length_range] at this
end Go.Proofs.YtdkhmfcfihbjeaaGreatDoor.W

/-
  DERIVED: THE SHELF's CONTRACTS AT THIS DUMP, IN PLAIN WORDS (tools/lay-plain.mjs out of 'TryzShelf.lean', which tools/lay-shelf.mjs wrote): THE SAME DECLARATIONS UNDER THE SAME NAMES: 'import', 'namespace', 'open', 'def', 'theorem' AND NOTHING ELSE: no command of the shelf's: FOR A HAND-IN. Each laying: the table of numbers ('.._ren') and one theorem, a field a fact of the dump's own or the kernel's comparison; each contract: ONE APPLICATION.
-/
namespace Go.Proofs
open Go.Shelf
def Tryz.laysSortE_ren : Go.Shelf.Ren := ⟨fun | 6 => 149 | 15 => 165 | 14 => 164 | 28 => 177 | 29 => 178 | 20 => 169 | 21 => 170 | 22 => 171 | 23 => 172 | 24 => 173 | 25 => 174 | 26 => 175 | 27 => 176 | 46 => 179 | 47 => 180 | 48 => 181 | 49 => 182 | 50 => 183 | 57 => 184 | n => n, fun | 22 => 29 | 24 => 38 | 25 => 203 | 3 => 3 | 39 => 157 | 0 => 0 | 53 => 221 | 55 => 223 | 4 => 4 | 46 => 214 | 45 => 213 | 50 => 218 | 5 => 5 | 9 => 9 | 66 => 228 | 70 => 232 | 76 => 234 | 77 => 235 | n => n, fun | n => n⟩
theorem Tryz.laysSortE : Go.Proofs.SlLaysF0.n6 Tryz.prog Tryz.laysSortE_ren := {
  mixed := by kernel_rfl
  f6 := ⟨Tryz.f149.name, by decide, Tryz.func149.trans (congrArg some (by kernel_rfl))⟩
  f14 := ⟨Tryz.f164.name, by decide, Tryz.func164.trans (congrArg some (by kernel_rfl))⟩
  f15 := Tryz.func165.trans (congrArg some (by kernel_rfl))
  f20 := ⟨Tryz.f169.name, by decide, Tryz.func169.trans (congrArg some (by kernel_rfl))⟩
  f21 := ⟨Tryz.f170.name, by decide, Tryz.func170.trans (congrArg some (by kernel_rfl))⟩
  f22 := ⟨Tryz.f171.name, by decide, Tryz.func171.trans (congrArg some (by kernel_rfl))⟩
  f23 := ⟨Tryz.f172.name, by decide, Tryz.func172.trans (congrArg some (by kernel_rfl))⟩
  f24 := ⟨Tryz.f173.name, by decide, Tryz.func173.trans (congrArg some (by kernel_rfl))⟩
  f25 := ⟨Tryz.f174.name, by decide, Tryz.func174.trans (congrArg some (by kernel_rfl))⟩
  f26 := ⟨Tryz.f175.name, by decide, Tryz.func175.trans (congrArg some (by kernel_rfl))⟩
  f27 := ⟨Tryz.f176.name, by decide, Tryz.func176.trans (congrArg some (by kernel_rfl))⟩
  f28 := Tryz.func177.trans (congrArg some (by kernel_rfl))
  f29 := Tryz.func178.trans (congrArg some (by kernel_rfl))
  f46 := ⟨Tryz.f179.name, by decide, Tryz.func179.trans (congrArg some (by kernel_rfl))⟩
  f47 := Tryz.func180.trans (congrArg some (by kernel_rfl))
  f48 := Tryz.func181.trans (congrArg some (by kernel_rfl))
  f49 := ⟨Tryz.f182.name, by decide, Tryz.func182.trans (congrArg some (by kernel_rfl))⟩
  f50 := ⟨Tryz.f183.name, by decide, Tryz.func183.trans (congrArg some (by kernel_rfl))⟩
  f57 := ⟨Tryz.f184.name, by decide, Tryz.func184.trans (congrArg some (by kernel_rfl))⟩
  t0 := Tryz.underlying0
  a0 := Tryz.isAgg0
  z0 := Tryz.sizeOf0
  v0 := Tryz.zeroValue0
  t3 := Tryz.underlying3
  a3 := Tryz.isAgg3
  z3 := Tryz.sizeOf3
  v3 := Tryz.zeroValue3
  t4 := Tryz.underlying4
  a4 := Tryz.isAgg4
  z4 := Tryz.sizeOf4
  v4 := Tryz.zeroValue4
  t5 := Tryz.underlying5
  a5 := Tryz.isAgg5
  z5 := Tryz.sizeOf5
  v5 := Tryz.zeroValue5
  t9 := Tryz.underlying9
  a9 := Tryz.isAgg9
  z9 := Tryz.sizeOf9
  v9 := Tryz.zeroValue9
  t22 := Tryz.underlying29
  a22 := Tryz.isAgg29
  z22 := Tryz.sizeOf29
  v22 := Tryz.zeroValue29
  t25 := Tryz.underlying203
  a25 := Tryz.isAgg203
  z25 := Tryz.sizeOf203
  v25 := Tryz.zeroValue203
  t39 := Tryz.underlying157
  a39 := Tryz.isAgg157
  z39 := Tryz.sizeOf157
  v39 := Tryz.zeroValue157
  t45 := Tryz.underlying213
  a45 := Tryz.isAgg213
  z45 := Tryz.sizeOf213
  v45 := Tryz.zeroValue213
  t46 := Tryz.underlying214
  a46 := Tryz.isAgg214
  z46 := Tryz.sizeOf214
  v46 := Tryz.zeroValue214
  t50 := Tryz.underlying218
  a50 := Tryz.isAgg218
  z50 := Tryz.sizeOf218
  v50 := Tryz.zeroValue218
  t53 := Tryz.underlying221
  a53 := Tryz.isAgg221
  z53 := Tryz.sizeOf221
  v53 := Tryz.zeroValue221
  t55 := Tryz.underlying223
  a55 := Tryz.isAgg223
  z55 := Tryz.sizeOf223
  v55 := Tryz.zeroValue223
  t66 := Tryz.underlying228
  a66 := Tryz.isAgg228
  z66 := Tryz.sizeOf228
  v66 := Tryz.zeroValue228
  t70 := Tryz.underlying232
  a70 := Tryz.isAgg232
  z70 := Tryz.sizeOf232
  v70 := Tryz.zeroValue232
  t76 := Tryz.underlying234
  a76 := Tryz.isAgg234
  z76 := Tryz.sizeOf234
  v76 := Tryz.zeroValue234
  t77 := Tryz.underlying235
  a77 := Tryz.isAgg235
  z77 := Tryz.sizeOf235
  v77 := Tryz.zeroValue235 }
end Go.Proofs

/- Package store: the order that List sorts by. -/
namespace Go.Proofs.YtdkhmfcfihbjeaaGreatDoor.W
open Go.RowKit Go.Sort
set_option linter.unusedVariables false
set_option linter.unusedSimpArgs false

theorem isnan_any (x : Int) (w : World) : Calls Tryz.prog 166 #[.int .i64 x] w fun e w' => e = .returned (.bool false) ∧ w = w' := by
  go_enter Tryz.func166, Tryz.ntmps166
  go_wp2
  go_ret
  exact ⟨by simp, rfl⟩
set_option maxHeartbeats 2000000 in
theorem ccmp_any (x y : Int) (w : World) : Calls Tryz.prog 152 #[.int .i64 x, .int .i64 y] w fun e w' => e = .returned (.int .i64 (cmpI x y)) ∧ w = w' := by
  unfold cmpI
  by_cases h : x < y
  · rw [if_pos h]
    go_enter Tryz.func152, Tryz.ntmps152
    go_wp2_with (go_at_call 166; refine (isnan_any _ _).mono ?_; rintro e w' ⟨rfl, hq⟩; subst hq)
    go_ret
    exact ⟨rfl, rfl⟩
  · rw [if_neg h]
    by_cases h2 : y < x
    · rw [if_pos h2]
      go_enter Tryz.func152, Tryz.ntmps152
      go_wp2_with (go_at_call 166; refine (isnan_any _ _).mono ?_; rintro e w' ⟨rfl, hq⟩; subst hq)
      go_ret
      exact ⟨rfl, rfl⟩
    · rw [if_neg h2]
      go_enter Tryz.func152, Tryz.ntmps152
      go_wp2_with (go_at_call 166; refine (isnan_any _ _).mono ?_; rintro e w' ⟨rfl, hq⟩; subst hq)
      go_ret
      exact ⟨rfl, rfl⟩
theorem firstNZ_zero : ∀ (l : List Int), (∀ x ∈ l, x = 0) → firstNZ l = 0
  | [], _ => rfl
  | x :: r, h => by
    unfold firstNZ
    rw [if_neg (by simpa using h x (by simp))]
    exact firstNZ_zero r (fun y hy => h y (List.mem_cons_of_mem _ hy))
theorem firstNZ_at : ∀ (l : List Int) (j : Nat), (∀ k, k < j → l.getD k 0 = 0) → l.getD j 0 ≠ 0 → firstNZ l = l.getD j 0
  | [], j, _, h => by simp at h
  | x :: r, 0, _, h => by
    unfold firstNZ
    simp at h ⊢
    intro h0
    exact absurd h0 h
  | x :: r, j + 1, h0, h => by
    have hx := h0 0 (by omega)
    simp at hx
    unfold firstNZ
    rw [if_neg (by simp [hx])]
    simp only [List.getD_cons_succ] at h ⊢
    exact firstNZ_at r j (fun k hk => by have := h0 (k + 1) (by omega); simpa using this) h
set_option maxHeartbeats 2000000 in
set_option maxRecDepth 100000 in
theorem cor_any (l : List Int) (hl : l.length = 4) (g : Nat) (w : World) (hc : ∀ j, j < 4 → w.cell? ⟨g, j, none⟩ = some (.int .i64 (l.getD j 0))) : Calls Tryz.prog 151 #[.slice (some ⟨g, 0, none⟩) 4 4] w fun e w' => e = .returned (.int .i64 (firstNZ l)) ∧ w = w' := by
  have HC := Lib.hid hc
  clear hc
  go_enter Tryz.func151, Tryz.ntmps151
  go_wp2_with fail
  go_loopg [8] 4 (fun g' s8 wr => ∃ j : Nat, s8 = .int .i64 (j : Int) ∧ j ≤ 4 ∧ 4 ≤ j + g' ∧ Hid (wr = w ∧ ∀ k, k < j → l.getD k 0 = 0))
  case atStart => exact ⟨0, rfl, by omega, by omega, Lib.hid ⟨rfl, fun k hk => by omega⟩⟩
  case round =>
    obtain ⟨j, rfl, hj, hjg, HJ⟩ := hrel
    obtain ⟨rfl, hz⟩ := HJ.out
    have HZ := Lib.hid hz
    clear hz HJ
    by_cases hlt : j < 4
    · have c0 := HC.out j hlt
      have hjz : (j : Int) < 4 := by omega
      have HV : Hid (l.getD j 0 ≠ 0 → firstNZ l = l.getD j 0) := Lib.hid (fun h => firstNZ_at l j HZ.out h)
      have HN : Hid (l.getD j 0 = 0 → ∀ k, k < j + 1 → l.getD k 0 = 0) := Lib.hid (fun h k hk => by
        rcases Nat.lt_or_ge k j with h1 | h1
        · exact HZ.out k h1
        · obtain rfl : k = j := by omega
          exact h)
      generalize l.getD j 0 = v at *
      by_cases hv : v = 0
      · subst hv
        go_wp2_with fail
        go_roundg (gk - 1)
        case measure => omega
        case rel => exact ⟨j + 1, by go_num, by omega, by omega, Lib.hid ⟨rfl, HN.out (by simp)⟩⟩
      · have q0 : (v != 0) = true := by simp [hv]
        have HW := Lib.hid (HV.out hv)
        clear hv
        go_wp2_with fail
        go_ret
        rw [HW.out]
        exact ⟨rfl, rfl⟩
    · have hj4 : j = 4 := by omega
      subst hj4
      have HW : Hid (firstNZ l = 0) := Lib.hid (firstNZ_zero l (fun x hx => by
        obtain ⟨k, hk, rfl⟩ := List.getElem_of_mem hx
        have := HZ.out k (by omega)
        rwa [List.getD_eq_getElem?_getD, List.getElem?_eq_getElem hk] at this))
      go_wp2
      go_ret
      rw [HW.out]
      exact ⟨rfl, rfl⟩
end Go.Proofs.YtdkhmfcfihbjeaaGreatDoor.W

/- Package store: the order that List sorts by; the sort. -/
namespace Go.Proofs.YtdkhmfcfihbjeaaGreatDoor.W
open Go.RowKit Go.Sort
set_option linter.unusedVariables false
set_option linter.unusedSimpArgs false

set_option maxHeartbeats 4000000 in
set_option maxRecDepth 100000 in
theorem closureI (x y : Id) (W : World) : Calls Tryz.prog 150 #[idV x, idV y] W fun e w' => e = .returned (.int .i64 (cmpId x y)) ∧ ∃ q os', w' = Go.Sort.grow (W.drewN q) os' := by
  obtain ⟨xc, xl, xn, xi⟩ := x
  obtain ⟨yc, yl, yn, yi⟩ := y
  obtain ⟨w1, hw1⟩ : ∃ w1, w1 = (W.alloc (.cells (idC ⟨xc, xl, xn, xi⟩) 38)).alloc (.cells (idC ⟨yc, yl, yn, yi⟩) 38) := ⟨_, rfl⟩
  have hx1 : w1.heap[W.heap.size]? = some (.cells (idC ⟨xc, xl, xn, xi⟩) 38 (0, 0)) := by rw [hw1]; exact blk_alloc (heap_alloc_new W _)
  have hy1 : w1.heap[W.heap.size + 1]? = some (.cells (idC ⟨yc, yl, yn, yi⟩) 38 (0, 0)) := by
    rw [hw1]
    have := heap_alloc_new (W.alloc (.cells (idC ⟨xc, xl, xn, xi⟩) 38)) (.cells (idC ⟨yc, yl, yn, yi⟩) 38)
    simpa using this
  obtain ⟨a0, a1, a2, a3⟩ := id_cells hx1
  obtain ⟨b0, b1, b2, b3⟩ := id_cells hy1
  have HW1 := Lib.hid hw1
  have C1 := Lib.hid (fun w => ccmp_any xc yc w)
  have C2 := Lib.hid (fun w => ccmp_any xl yl w)
  have C3 := Lib.hid (fun w => ccmp_any xn yn w)
  have C4 := Lib.hid (fun w => ccmp_any xi yi w)
  have HF : Hid (cmpId ⟨xc, xl, xn, xi⟩ ⟨yc, yl, yn, yi⟩ = firstNZ [cmpI xc yc, cmpI xl yl, cmpI xn yn, cmpI xi yi]) := Lib.hid rfl
  generalize cmpId ⟨xc, xl, xn, xi⟩ ⟨yc, yl, yn, yi⟩ = r at *
  generalize cmpI xc yc = v1 at *
  generalize cmpI xl yl = v2 at *
  generalize cmpI xn yn = v3 at *
  generalize cmpI xi yi = v4 at *
  clear hw1 hx1 hy1
  go_enter Tryz.func150, Tryz.ntmps150
  go_wp2_with fail
  rw [← HW1.out]
  refine wp_region_L [(6, fun w' => (w'.cell? ⟨W.heap.size, 0, none⟩ = some (.int .i64 xc) ∧ w'.cell? ⟨W.heap.size + 1, 0, none⟩ = some (.int .i64 yc))), (13, fun w' => (w'.cell? ⟨W.heap.size, 1, none⟩ = some (.int .i64 xl) ∧ w'.cell? ⟨W.heap.size + 1, 1, none⟩ = some (.int .i64 yl))), (20, fun w' => (w'.cell? ⟨W.heap.size, 2, none⟩ = some (.int .i64 xn) ∧ w'.cell? ⟨W.heap.size + 1, 2, none⟩ = some (.int .i64 yn))), (25, fun w' => (w'.cell? ⟨W.heap.size, 3, none⟩ = some (.int .i64 xi) ∧ w'.cell? ⟨W.heap.size + 1, 3, none⟩ = some (.int .i64 yi)))] (by kernel_rfl) ?_ (fun hHeld => ?_)
  · exact (HoldC.cons (⟨a0, b0⟩) (HoldC.cons (⟨a1, b1⟩) (HoldC.cons (⟨a2, b2⟩) (HoldC.cons (⟨a3, b3⟩) HoldC.nil))))
  refine wpAnyL_take (i := 0) (oi := _) (v := ?_) rfl (by kernel_rfl) (by kernel_rfl) (by kernel_rfl) (by kernel_rfl) (by kernel_rfl) (fun _ _ _ h => h) (Or.inl ⟨by rfl, ?_⟩) (by assumption) (fun hNew => ?_)
  rotate_left
  · intro w _
    go_simp
    try with_reducible rfl
  clear hHeld
  have hHeld := hNew
  clear hNew
  try simp only [List.getElem_toArray, List.getElem_cons_succ, List.getElem_cons_zero, Act.put, List.setIfInBounds_toArray, List.set_cons_zero, List.set_cons_succ]
  refine wpAnyL_take (i := 1) (oi := _) (v := ?_) rfl (by kernel_rfl) (by kernel_rfl) (by kernel_rfl) (by kernel_rfl) (by kernel_rfl) (fun _ _ _ h => h) (Or.inl ⟨by rfl, ?_⟩) (by assumption) (fun hNew => ?_)
  rotate_left
  · intro w _
    go_simp
    try with_reducible rfl
  clear hHeld
  have hHeld := hNew
  clear hNew
  try simp only [List.getElem_toArray, List.getElem_cons_succ, List.getElem_cons_zero, Act.put, List.setIfInBounds_toArray, List.set_cons_zero, List.set_cons_succ]
  refine wpAnyL_load 0 (i := 2) (oi := _) (v := ?_) rfl rfl (by kernel_rfl) (by kernel_rfl) (by kernel_rfl) (by kernel_rfl) (by kernel_rfl) (by kernel_rfl) (fun _ _ _ h => h) (Or.inl ⟨by rfl, ?_⟩) (by assumption) (fun hNew => ?_)
  rotate_left
  · intro w hSw
    (try dsimp only at hSw)
    go_simp
    try with_reducible rfl
  clear hHeld
  have hHeld := hNew
  clear hNew
  try simp only [List.getElem_toArray, List.getElem_cons_succ, List.getElem_cons_zero, Act.put, List.setIfInBounds_toArray, List.set_cons_zero, List.set_cons_succ]
  refine wpAnyL_take (i := 3) (oi := _) (v := ?_) rfl (by kernel_rfl) (by kernel_rfl) (by kernel_rfl) (by kernel_rfl) (by kernel_rfl) (fun _ _ _ h => h) (Or.inl ⟨by rfl, ?_⟩) (by assumption) (fun hNew => ?_)
  rotate_left
  · intro w _
    go_simp
    try with_reducible rfl
  clear hHeld
  have hHeld := hNew
  clear hNew
  try simp only [List.getElem_toArray, List.getElem_cons_succ, List.getElem_cons_zero, Act.put, List.setIfInBounds_toArray, List.set_cons_zero, List.set_cons_succ]
  refine wpAnyL_take (i := 4) (oi := _) (v := ?_) rfl (by kernel_rfl) (by kernel_rfl) (by kernel_rfl) (by kernel_rfl) (by kernel_rfl) (fun _ _ _ h => h) (Or.inl ⟨by rfl, ?_⟩) (by assumption) (fun hNew => ?_)
  rotate_left
  · intro w _
    go_simp
    try with_reducible rfl
  clear hHeld
  have hHeld := hNew
  clear hNew
  try simp only [List.getElem_toArray, List.getElem_cons_succ, List.getElem_cons_zero, Act.put, List.setIfInBounds_toArray, List.set_cons_zero, List.set_cons_succ]
  refine wpAnyL_load 0 (i := 5) (oi := _) (v := ?_) rfl rfl (by kernel_rfl) (by kernel_rfl) (by kernel_rfl) (by kernel_rfl) (by kernel_rfl) (by kernel_rfl) (fun _ _ _ h => h) (Or.inl ⟨by rfl, ?_⟩) (by assumption) (fun hNew => ?_)
  rotate_left
  · intro w hSw
    (try dsimp only at hSw)
    go_simp
    try with_reducible rfl
  clear hHeld
  have hHeld := hNew
  clear hNew
  try simp only [List.getElem_toArray, List.getElem_cons_succ, List.getElem_cons_zero, Act.put, List.setIfInBounds_toArray, List.set_cons_zero, List.set_cons_succ]
  refine wpAnyL_take (i := 7) (oi := _) (v := ?_) rfl (by kernel_rfl) (by kernel_rfl) (by kernel_rfl) (by kernel_rfl) (by kernel_rfl) (fun _ _ _ h => h) (Or.inl ⟨by rfl, ?_⟩) (by assumption) (fun hNew => ?_)
  rotate_left
  · intro w _
    go_simp
    try with_reducible rfl
  clear hHeld
  have hHeld := hNew
  clear hNew
  try simp only [List.getElem_toArray, List.getElem_cons_succ, List.getElem_cons_zero, Act.put, List.setIfInBounds_toArray, List.set_cons_zero, List.set_cons_succ]
  refine wpAnyL_take (i := 8) (oi := _) (v := ?_) rfl (by kernel_rfl) (by kernel_rfl) (by kernel_rfl) (by kernel_rfl) (by kernel_rfl) (fun _ _ _ h => h) (Or.inl ⟨by rfl, ?_⟩) (by assumption) (fun hNew => ?_)
  rotate_left
  · intro w _
    go_simp
    try with_reducible rfl
  clear hHeld
  have hHeld := hNew
  clear hNew
  try simp only [List.getElem_toArray, List.getElem_cons_succ, List.getElem_cons_zero, Act.put, List.setIfInBounds_toArray, List.set_cons_zero, List.set_cons_succ]
  refine wpAnyL_load 1 (i := 9) (oi := _) (v := ?_) rfl rfl (by kernel_rfl) (by kernel_rfl) (by kernel_rfl) (by kernel_rfl) (by kernel_rfl) (by kernel_rfl) (fun _ _ _ h => h) (Or.inl ⟨by rfl, ?_⟩) (by assumption) (fun hNew => ?_)
  rotate_left
  · intro w hSw
    (try dsimp only at hSw)
    go_simp
    try with_reducible rfl
  clear hHeld
  have hHeld := hNew
  clear hNew
  try simp only [List.getElem_toArray, List.getElem_cons_succ, List.getElem_cons_zero, Act.put, List.setIfInBounds_toArray, List.set_cons_zero, List.set_cons_succ]
  refine wpAnyL_take (i := 10) (oi := _) (v := ?_) rfl (by kernel_rfl) (by kernel_rfl) (by kernel_rfl) (by kernel_rfl) (by kernel_rfl) (fun _ _ _ h => h) (Or.inl ⟨by rfl, ?_⟩) (by assumption) (fun hNew => ?_)
  rotate_left
  · intro w _
    go_simp
    try with_reducible rfl
  clear hHeld
  have hHeld := hNew
  clear hNew
  try simp only [List.getElem_toArray, List.getElem_cons_succ, List.getElem_cons_zero, Act.put, List.setIfInBounds_toArray, List.set_cons_zero, List.set_cons_succ]
  refine wpAnyL_take (i := 11) (oi := _) (v := ?_) rfl (by kernel_rfl) (by kernel_rfl) (by kernel_rfl) (by kernel_rfl) (by kernel_rfl) (fun _ _ _ h => h) (Or.inl ⟨by rfl, ?_⟩) (by assumption) (fun hNew => ?_)
  rotate_left
  · intro w _
    go_simp
    try with_reducible rfl
  clear hHeld
  have hHeld := hNew
  clear hNew
  try simp only [List.getElem_toArray, List.getElem_cons_succ, List.getElem_cons_zero, Act.put, List.setIfInBounds_toArray, List.set_cons_zero, List.set_cons_succ]
  refine wpAnyL_load 1 (i := 12) (oi := _) (v := ?_) rfl rfl (by kernel_rfl) (by kernel_rfl) (by kernel_rfl) (by kernel_rfl) (by kernel_rfl) (by kernel_rfl) (fun _ _ _ h => h) (Or.inl ⟨by rfl, ?_⟩) (by assumption) (fun hNew => ?_)
  rotate_left
  · intro w hSw
    (try dsimp only at hSw)
    go_simp
    try with_reducible rfl
  clear hHeld
  have hHeld := hNew
  clear hNew
  try simp only [List.getElem_toArray, List.getElem_cons_succ, List.getElem_cons_zero, Act.put, List.setIfInBounds_toArray, List.set_cons_zero, List.set_cons_succ]
  refine wpAnyL_take (i := 14) (oi := _) (v := ?_) rfl (by kernel_rfl) (by kernel_rfl) (by kernel_rfl) (by kernel_rfl) (by kernel_rfl) (fun _ _ _ h => h) (Or.inl ⟨by rfl, ?_⟩) (by assumption) (fun hNew => ?_)
  rotate_left
  · intro w _
    go_simp
    try with_reducible rfl
  clear hHeld
  have hHeld := hNew
  clear hNew
  try simp only [List.getElem_toArray, List.getElem_cons_succ, List.getElem_cons_zero, Act.put, List.setIfInBounds_toArray, List.set_cons_zero, List.set_cons_succ]
  refine wpAnyL_take (i := 15) (oi := _) (v := ?_) rfl (by kernel_rfl) (by kernel_rfl) (by kernel_rfl) (by kernel_rfl) (by kernel_rfl) (fun _ _ _ h => h) (Or.inl ⟨by rfl, ?_⟩) (by assumption) (fun hNew => ?_)
  rotate_left
  · intro w _
    go_simp
    try with_reducible rfl
  clear hHeld
  have hHeld := hNew
  clear hNew
  try simp only [List.getElem_toArray, List.getElem_cons_succ, List.getElem_cons_zero, Act.put, List.setIfInBounds_toArray, List.set_cons_zero, List.set_cons_succ]
  refine wpAnyL_load 2 (i := 16) (oi := _) (v := ?_) rfl rfl (by kernel_rfl) (by kernel_rfl) (by kernel_rfl) (by kernel_rfl) (by kernel_rfl) (by kernel_rfl) (fun _ _ _ h => h) (Or.inl ⟨by rfl, ?_⟩) (by assumption) (fun hNew => ?_)
  rotate_left
  · intro w hSw
    (try dsimp only at hSw)
    go_simp
    try with_reducible rfl
  clear hHeld
  have hHeld := hNew
  clear hNew
  try simp only [List.getElem_toArray, List.getElem_cons_succ, List.getElem_cons_zero, Act.put, List.setIfInBounds_toArray, List.set_cons_zero, List.set_cons_succ]
  refine wpAnyL_take (i := 17) (oi := _) (v := ?_) rfl (by kernel_rfl) (by kernel_rfl) (by kernel_rfl) (by kernel_rfl) (by kernel_rfl) (fun _ _ _ h => h) (Or.inl ⟨by rfl, ?_⟩) (by assumption) (fun hNew => ?_)
  rotate_left
  · intro w _
    go_simp
    try with_reducible rfl
  clear hHeld
  have hHeld := hNew
  clear hNew
  try simp only [List.getElem_toArray, List.getElem_cons_succ, List.getElem_cons_zero, Act.put, List.setIfInBounds_toArray, List.set_cons_zero, List.set_cons_succ]
  refine wpAnyL_take (i := 18) (oi := _) (v := ?_) rfl (by kernel_rfl) (by kernel_rfl) (by kernel_rfl) (by kernel_rfl) (by kernel_rfl) (fun _ _ _ h => h) (Or.inl ⟨by rfl, ?_⟩) (by assumption) (fun hNew => ?_)
  rotate_left
  · intro w _
    go_simp
    try with_reducible rfl
  clear hHeld
  have hHeld := hNew
  clear hNew
  try simp only [List.getElem_toArray, List.getElem_cons_succ, List.getElem_cons_zero, Act.put, List.setIfInBounds_toArray, List.set_cons_zero, List.set_cons_succ]
  refine wpAnyL_load 2 (i := 19) (oi := _) (v := ?_) rfl rfl (by kernel_rfl) (by kernel_rfl) (by kernel_rfl) (by kernel_rfl) (by kernel_rfl) (by kernel_rfl) (fun _ _ _ h => h) (Or.inl ⟨by rfl, ?_⟩) (by assumption) (fun hNew => ?_)
  rotate_left
  · intro w hSw
    (try dsimp only at hSw)
    go_simp
    try with_reducible rfl
  clear hHeld
  have hHeld := hNew
  clear hNew
  try simp only [List.getElem_toArray, List.getElem_cons_succ, List.getElem_cons_zero, Act.put, List.setIfInBounds_toArray, List.set_cons_zero, List.set_cons_succ]
  refine wpAnyL_take (i := 21) (oi := _) (v := ?_) rfl (by kernel_rfl) (by kernel_rfl) (by kernel_rfl) (by kernel_rfl) (by kernel_rfl) (fun _ _ _ h => h) (Or.inl ⟨by rfl, ?_⟩) (by assumption) (fun hNew => ?_)
  rotate_left
  · intro w _
    go_simp
    try with_reducible rfl
  clear hHeld
  have hHeld := hNew
  clear hNew
  try simp only [List.getElem_toArray, List.getElem_cons_succ, List.getElem_cons_zero, Act.put, List.setIfInBounds_toArray, List.set_cons_zero, List.set_cons_succ]
  refine wpAnyL_load 3 (i := 22) (oi := _) (v := ?_) rfl rfl (by kernel_rfl) (by kernel_rfl) (by kernel_rfl) (by kernel_rfl) (by kernel_rfl) (by kernel_rfl) (fun _ _ _ h => h) (Or.inl ⟨by rfl, ?_⟩) (by assumption) (fun hNew => ?_)
  rotate_left
  · intro w hSw
    (try dsimp only at hSw)
    go_simp
    try with_reducible rfl
  clear hHeld
  have hHeld := hNew
  clear hNew
  try simp only [List.getElem_toArray, List.getElem_cons_succ, List.getElem_cons_zero, Act.put, List.setIfInBounds_toArray, List.set_cons_zero, List.set_cons_succ]
  refine wpAnyL_take (i := 23) (oi := _) (v := ?_) rfl (by kernel_rfl) (by kernel_rfl) (by kernel_rfl) (by kernel_rfl) (by kernel_rfl) (fun _ _ _ h => h) (Or.inl ⟨by rfl, ?_⟩) (by assumption) (fun hNew => ?_)
  rotate_left
  · intro w _
    go_simp
    try with_reducible rfl
  clear hHeld
  have hHeld := hNew
  clear hNew
  try simp only [List.getElem_toArray, List.getElem_cons_succ, List.getElem_cons_zero, Act.put, List.setIfInBounds_toArray, List.set_cons_zero, List.set_cons_succ]
  refine wpAnyL_load 3 (i := 24) (oi := _) (v := ?_) rfl rfl (by kernel_rfl) (by kernel_rfl) (by kernel_rfl) (by kernel_rfl) (by kernel_rfl) (by kernel_rfl) (fun _ _ _ h => h) (Or.inl ⟨by rfl, ?_⟩) (by assumption) (fun hNew => ?_)
  rotate_left
  · intro w hSw
    (try dsimp only at hSw)
    go_simp
    try with_reducible rfl
  clear hHeld
  have hHeld := hNew
  clear hNew
  try simp only [List.getElem_toArray, List.getElem_cons_succ, List.getElem_cons_zero, Act.put, List.setIfInBounds_toArray, List.set_cons_zero, List.set_cons_succ]
  refine wpAnyL_ready (rs := [6]) (by kernel_rfl) (by simp) ?_
  refine AllReadyL.cons (o := _) rfl (fun K hK => ?_) AllReadyL.nil
  try simp only [List.getElem_toArray, List.getElem_cons_succ, List.getElem_cons_zero]
  go_simp
  refine (C1.out _).mono ?_
  rintro e w' ⟨rfl, hq⟩
  subst hq
  clear hHeld
  refine hK.out _ _ ?_ (fun hHeld => ?_)
  · exact (HoldC.past (by kernel_rfl) (HoldC.cons (⟨a1, b1⟩) (HoldC.cons (⟨a2, b2⟩) (HoldC.cons (⟨a3, b3⟩) HoldC.nil))))
  clear hK K
  try simp only [List.getElem_toArray, List.getElem_cons_succ, List.getElem_cons_zero, Act.put, List.setIfInBounds_toArray, List.set_cons_zero, List.set_cons_succ]
  refine wpAnyL_ready (rs := [13]) (by kernel_rfl) (by simp) ?_
  refine AllReadyL.cons (o := _) rfl (fun K hK => ?_) AllReadyL.nil
  try simp only [List.getElem_toArray, List.getElem_cons_succ, List.getElem_cons_zero]
  go_simp
  refine (C2.out _).mono ?_
  rintro e w' ⟨rfl, hq⟩
  subst hq
  clear hHeld
  refine hK.out _ _ ?_ (fun hHeld => ?_)
  · exact (HoldC.past (by kernel_rfl) (HoldC.past (by kernel_rfl) (HoldC.cons (⟨a2, b2⟩) (HoldC.cons (⟨a3, b3⟩) HoldC.nil))))
  clear hK K
  try simp only [List.getElem_toArray, List.getElem_cons_succ, List.getElem_cons_zero, Act.put, List.setIfInBounds_toArray, List.set_cons_zero, List.set_cons_succ]
  refine wpAnyL_ready (rs := [20]) (by kernel_rfl) (by simp) ?_
  refine AllReadyL.cons (o := _) rfl (fun K hK => ?_) AllReadyL.nil
  try simp only [List.getElem_toArray, List.getElem_cons_succ, List.getElem_cons_zero]
  go_simp
  refine (C3.out _).mono ?_
  rintro e w' ⟨rfl, hq⟩
  subst hq
  clear hHeld
  refine hK.out _ _ ?_ (fun hHeld => ?_)
  · exact (HoldC.past (by kernel_rfl) (HoldC.past (by kernel_rfl) (HoldC.past (by kernel_rfl) (HoldC.cons (⟨a3, b3⟩) HoldC.nil))))
  clear hK K
  try simp only [List.getElem_toArray, List.getElem_cons_succ, List.getElem_cons_zero, Act.put, List.setIfInBounds_toArray, List.set_cons_zero, List.set_cons_succ]
  refine wpAnyL_ready (rs := [25]) (by kernel_rfl) (by simp) ?_
  refine AllReadyL.cons (o := _) rfl (fun K hK => ?_) AllReadyL.nil
  try simp only [List.getElem_toArray, List.getElem_cons_succ, List.getElem_cons_zero]
  go_simp
  refine (C4.out _).mono ?_
  rintro e w' ⟨rfl, hq⟩
  subst hq
  clear hHeld
  refine hK.out _ _ ?_ (fun hHeld => ?_)
  · exact (HoldC.past (by kernel_rfl) (HoldC.past (by kernel_rfl) (HoldC.past (by kernel_rfl) (HoldC.past (by kernel_rfl) HoldC.nil))))
  clear hK K
  try simp only [List.getElem_toArray, List.getElem_cons_succ, List.getElem_cons_zero, Act.put, List.setIfInBounds_toArray, List.set_cons_zero, List.set_cons_succ]
  refine wpAnyL_ready (rs := [26]) (by kernel_rfl) (by simp) ?_
  refine AllReadyL.cons (o := _) rfl (fun K hK => ?_) AllReadyL.nil
  try simp only [List.getElem_toArray, List.getElem_cons_succ, List.getElem_cons_zero]
  go_simp
  have hbZ : (w1.alloc (.cells #[.int .i64 v1, .int .i64 v2, .int .i64 v3, .int .i64 v4] 3)).drew.heap[w1.heap.size]? = some (.cells #[.int .i64 v1, .int .i64 v2, .int .i64 v3, .int .i64 v4] 3 (0, 0)) := heap_alloc_new w1 _
  have CO := Lib.hid (cor_any [v1, v2, v3, v4] rfl w1.heap.size _ (fun j hj => by
    match j, hj with
    | 0, _ => exact blk_cell hbZ 0 _ rfl
    | 1, _ => exact blk_cell hbZ 1 _ rfl
    | 2, _ => exact blk_cell hbZ 2 _ rfl
    | 3, _ => exact blk_cell hbZ 3 _ rfl))
  clear hHeld
  refine hK.out _ _ ?_ (fun hHeld => ?_)
  · exact (HoldC.past (by kernel_rfl) (HoldC.past (by kernel_rfl) (HoldC.past (by kernel_rfl) (HoldC.past (by kernel_rfl) HoldC.nil))))
  clear hK K
  try simp only [List.getElem_toArray, List.getElem_cons_succ, List.getElem_cons_zero, Act.put, List.setIfInBounds_toArray, List.set_cons_zero, List.set_cons_succ]
  refine wpAnyL_ready (rs := [27]) (by kernel_rfl) (by simp) ?_
  refine AllReadyL.cons (o := _) rfl (fun K hK => ?_) AllReadyL.nil
  try simp only [List.getElem_toArray, List.getElem_cons_succ, List.getElem_cons_zero]
  go_simp
  refine CO.out.mono ?_
  rintro e w' ⟨rfl, hq⟩
  subst hq
  clear hHeld
  refine hK.out _ _ ?_ (fun hHeld => ?_)
  · exact (HoldC.past (by kernel_rfl) (HoldC.past (by kernel_rfl) (HoldC.past (by kernel_rfl) (HoldC.past (by kernel_rfl) HoldC.nil))))
  clear hK K
  try simp only [List.getElem_toArray, List.getElem_cons_succ, List.getElem_cons_zero, Act.put, List.setIfInBounds_toArray, List.set_cons_zero, List.set_cons_succ]
  refine wpAnyL_take (i := 28) (oi := _) (v := ?_) rfl (by kernel_rfl) (by kernel_rfl) (by kernel_rfl) (by kernel_rfl) (by kernel_rfl) (fun _ _ _ h => h) (Or.inl ⟨by rfl, ?_⟩) (by assumption) (fun hNew => ?_)
  rotate_left
  · intro w _
    go_simp
    try with_reducible rfl
  clear hHeld
  have hHeld := hNew
  clear hNew
  try simp only [List.getElem_toArray, List.getElem_cons_succ, List.getElem_cons_zero, Act.put, List.setIfInBounds_toArray, List.set_cons_zero, List.set_cons_succ]
  refine wpAnyL_done (by kernel_rfl) ?_ _
  clear hHeld
  go_wp2_with fail
  go_ret
  rw [HF.out]
  exact ⟨rfl, 1, _, by rw [HW1.out, Go.Sort.alloc_eq_grow, Go.Sort.alloc_eq_grow, Go.Sort.alloc_eq_grow, Go.Sort.grow_grow, Go.Sort.grow_grow]; rfl⟩

def idE (x : Id) : List Value := [.int .i64 x.c, .int .i64 x.l, .int .i64 x.n, .int .i64 x.i]
theorem idE_len (x : Id) : (idE x).length = 4 := rfl
theorem idE_one (x : Id) : ∀ v ∈ idE x, v.oneCell' = true := by
  intro v hv
  simp [idE] at hv
  rcases hv with rfl | rfl | rfl | rfl <;> rfl
theorem cmpLaysI (blk off size : Nat) (w : World) : CmpLays Tryz.prog 150 #[] idE 4 cmpId blk off size w :=
  fun _ _ _ _ x y => closureI x y _
/-- The sort, at a row of ids of the call's own. -/
theorem sortI_any {w : World} {base : Nat} {v : Value} {ss : List Id} (hown : w.ownsRow base 38 4 v ss.length (ss.flatMap idE)) (hl : ss.length ≤ 1000000) :
    Calls Tryz.prog 149 #[v, .func (.func 150) #[] #[]] w fun e w' => e = .returned (.tuple #[]) ∧ w'.ownsRow base 38 4 v ss.length ((ss.mergeSort leI).flatMap idE) ∧ ∀ S : List Nat, (∀ k, v.ownBlock = some k → k ∈ S) → Chg S w w' := by
  obtain ⟨hlen, hrow⟩ := hown
  rcases hrow with ⟨rfl, h0⟩ | ⟨gb, cap, cur, rfl, hbg, hgb, hnc, hcm, hcs, htake⟩
  · have hnil : ss = [] := List.eq_nil_of_length_eq_zero h0
    subst hnil
    have hS := AnyF.slices_SortFunc_none (P := Tryz.prog) (ρ := Tryz.laysSortE_ren) { Tryz.laysSortE with } none 0 (.func (.func 150) #[] #[]) w
    change Calls Tryz.prog 149 _ _ _ at hS
    refine hS.mono fun e w' ⟨h1, h2⟩ => ⟨h1, ?_, ?_⟩
    · rw [h2]; simpa using World.ownsRow_nil w base 38 4
    · rw [h2]; exact fun S _ => Chg.refl _ _
  · have hH := holds_row idE idE_len hgb htake
    have eg : ∀ args w, (callFunc 150 args).run Tryz.prog w = .ok (.enter 150 args) w := enters_of Tryz.func150 (by kernel_rfl) rfl
    have hS := AnyQ.slices_SortFunc_total Tryz.laysSortE 4 Tryz.isAgg38 Tryz.sizeOf38 idE idE_len idE_one cmpId swoI 150 #[] gb 0 cap ss.toArray w eg (cmpLaysI gb 0 _ w) hH (blk_lt hgb) (by simp; omega) totI
    change Calls Tryz.prog 149 _ _ _ at hS
    have hsz : ss.toArray.size = ss.length := by simp
    rw [hsz] at hS
    refine hS.mono fun e w' ⟨h1, n, os, h2⟩ => ⟨h1, ?_, fun S hS => ?_⟩
    · rw [h2]
      exact ownsRow_sortedK idE idE_len (by rw [List.length_mergeSort]) hbg hgb hnc hcm hcs
    · rw [h2]
      exact (chg_sortedK _ _ _).mono (fun x hx => .inl (by rw [List.mem_singleton.1 hx]; exact hS gb rfl))
end Go.Proofs.YtdkhmfcfihbjeaaGreatDoor.W

/- Package store: List. -/
namespace Go.Proofs.YtdkhmfcfihbjeaaGreatDoor.W
open Go.RowKit Go.Sort
set_option linter.unusedVariables false
set_option linter.unusedSimpArgs false
variable {G : List Nat}

theorem wpList_nxtD (w : World) {ops : Array Oper} {rest : List Oper} {o : Oper} {a : Act} {Q : Exit → Act → World → Prop} (hg : o.guard = none) (it : Operand) (hop : o.op = Op.next it false) (b r N : Nat) (φ : Id → Option Value) (left : Id → Bool) (cnt : Nat)
    (hit : a.eval it = .pointer (some ⟨r, 0, none⟩)) (h : Rng 38 klD okD w b r φ N left cnt)
    (hDone : cnt = 0 → (∀ x, okD x → left x = false) → wpList Tryz.prog ops Q rest (a.put o.dst (.tuple #[.bool false])) w)
    (hMore : ∀ (c l n i : Int) (v : Value) (w' : World) (cnt' : Nat), okD ⟨c, l, n, i⟩ → left ⟨c, l, n, i⟩ = true → φ ⟨c, l, n, i⟩ = some v → Rng 38 klD okD w' b r φ N (fun y => !decide (y = ⟨c, l, n, i⟩) && left y) cnt' → cnt' < cnt → Chg [r] w w' → w'.heap.size = w.heap.size →
      (Instr.entry (.pointer (some ⟨r, 0, none⟩))).run Tryz.prog w' = .ok (.tuple #[.agg #[.int .i64 c, .int .i64 l, .int .i64 n, .int .i64 i], v]) w' → wpList Tryz.prog ops Q rest (a.put o.dst (.tuple #[.bool true, .agg #[.int .i64 c, .int .i64 l, .int .i64 n, .int .i64 i], v])) w') :
    wpList Tryz.prog ops Q (o :: rest) a w :=
  wpList_nxt keId w hg it hop b r N φ left cnt hit h hDone fun x v w' cnt' h1 h2 h3 h4 h5 h6 h7 h8 => hMore x.c x.l x.n x.i v w' cnt' h1 h2 h3 (h4 _ fun y _ => ⟨fun e => by simp [e], fun e => by
    have e' : ¬ y = ⟨x.c, x.l, x.n, x.i⟩ := e
    simp [e']⟩) h5 h6 h7 h8
theorem elIds : El Tryz.prog 29 38 (.agg #[.int .i64 0, .int .i64 0, .int .i64 0, .int .i64 0]) 4 32 := El.mk Tryz.underlying29 (by kernel_rfl) rfl (by decide)
def ListPost (w : World) (l : List Id) (e : Ending) (w' : World) : Prop := ∃ v, e = .returned v ∧ w'.ownsRow w.heap.size 38 4 v l.length (l.flatMap idE) ∧ Chg [] w w'

set_option maxHeartbeats 8000000 in
set_option maxRecDepth 100000 in
theorem stlist_any (q p : Nat) (U : List Nat) (t : Sto) (w : World) (h : StAt G w q p U t) : Calls Tryz.prog 124 #[.pointer (some ⟨q, 0, none⟩)] w (ListPost w t.ids) := by
  obtain ⟨sp, mb, Us, φ, N, h, rfl⟩ := h
  obtain ⟨k0, _, k2, _⟩ := h.cells
  have CM := Lib.hid (stmade_any q p w k0)
  have HM := Lib.hid h.map
  have HI : Hid (∀ x, okD x → (x ∈ firsts t.s.rows ↔ (φ x).isSome = true)) := Lib.hid (fun x hx => by
    rw [mem_firsts h.ok]
    rcases h.vals x hx with ⟨h1, h2⟩ | ⟨h1, v, h2, _⟩
    · rw [h1, h2]; simp
    · rw [h2]; simp [h1])
  have HFM : Hid (∀ x ∈ firsts t.s.rows, okD x) := Lib.hid (fun x hx => by
    rw [mem_firsts h.ok] at hx
    by_cases hm : mayId x = true
    · exact may_okD hm
    · rw [Sto.at_not (by simpa using hm)] at hx
      exact absurd rfl hx)
  have HND := Lib.hid (firsts_nodup h.ok)
  have hNl : N ≤ 1000 := by
    have h1 := h.map.card keId (firsts t.s.rows) (fun y hy hs => (HI.out y hy).2 hs)
    have h2 := t.ids_len
    unfold Sto.ids at h2
    rw [List.length_mergeSort] at h2
    obtain ⟨S0, rv0, R0, H0⟩ := h.slots
    have := H0.few
    omega
  have HID : Hid (t.ids = (firsts t.s.rows).mergeSort leI) := Lib.hid rfl
  generalize t.ids = L at *
  generalize firsts t.s.rows = F at *
  have hml := h.map.lt
  clear h
  go_enter Tryz.func124, Tryz.ntmps124
  go_wp2_with fail
  refine CM.out.mono ?_
  rintro e w' ⟨rfl, hq⟩
  subst hq
  go_wp2_with (refine wpList_rng keId _ rfl _ _ rfl 132 Tryz.underlying96 mb N φ rfl HM.out ?_; intro w1 hr1 hc1 hs1; have HR1 := Lib.hid (And.intro hr1 (And.intro hc1 hs1)); clear hr1 hc1 hs1)
  go_frame
  go_loopg [3] N (fun gh v3 wr => ∃ (v : Value) (ss : List Id) (left : Id → Bool) (cnt : Nat), v = v3 ∧ cnt ≤ gh ∧ ss.length + cnt ≤ N ∧ wr.ownsRow w.heap.size 38 4 v ss.length (ss.flatMap idE) ∧ Hid (Rng 38 klD okD wr mb w.heap.size φ N left cnt) ∧
    Hid (ss.Nodup ∧ ∀ k, okD k → (k ∈ ss ↔ (φ k).isSome = true ∧ left k = false)) ∧ Hid (∀ k ∈ ss, okD k) ∧ Hid (Chg [] w wr))
  case atStart =>
    refine ⟨_, [], _, _, rfl, Nat.le_refl _, by simp, World.ownsRow_nil _ _ _ _, Lib.hid HR1.out.1, Lib.hid ⟨List.nodup_nil, fun k hk => ?_⟩, Lib.hid (by simp), Lib.hid HR1.out.2.1⟩
    constructor
    · intro h; cases h
    · rintro ⟨h1, h2⟩
      rw [h1] at h2; cases h2
  case round =>
    obtain ⟨v3, ss, left, cnt, rfl, hcg, hkc, hown, HR, HK, HO, HC⟩ := hrel
    have hrne : some w.heap.size ≠ v3.ownBlock := by
      obtain ⟨D, lf, hr, _⟩ := HR.out
      exact row_ne_iter hown hr
    have HOWN := Lib.hid hown
    clear hown
    go_wp2_with (refine wpList_nxtD _ rfl _ rfl mb w.heap.size N φ left cnt rfl HR.out ?_ ?_)
    · intro hc0 hl0
      have HALL : Hid (∀ k, k ∈ ss ↔ k ∈ F) := Lib.hid (fun k => by
        constructor
        · intro hk
          have hko := HO.out k hk
          exact (HI.out k hko).2 ((HK.out.2 k hko).1 hk).1
        · intro hk
          have hko := HFM.out k hk
          exact (HK.out.2 k hko).2 ⟨(HI.out k hko).1 hk, hl0 k hko⟩)
      have HS : Hid (ss.mergeSort leI = L) := Lib.hid (by rw [HID.out]; exact sortedI_eq HK.out.1 HND.out HALL.out)
      have HL : Hid (ss.length = L.length) := Lib.hid (by
        have := congrArg List.length HS.out
        rwa [List.length_mergeSort] at this)
      clear hc0 hl0
      go_wp2_with fail
      refine (sortI_any HOWN.out (by omega)).mono ?_
      rintro e w5 ⟨rfl, hrow, hch⟩
      have HF : Hid (w5.ownsRow w.heap.size 38 4 v3 L.length (L.flatMap idE) ∧ Chg [] w w5) := Lib.hid (by
        rw [HS.out, HL.out] at hrow
        refine ⟨hrow, ?_⟩
        cases hv : v3.ownBlock with
        | none => exact HC.out.trans (hch [] (by rw [hv]; simp)) (by simp)
        | some k =>
          have hlt := (World.ownsRow.lt HOWN.out k hv).1
          exact HC.out.trans (hch [k] (by rw [hv]; simp)) (by simp; omega))
      clear hrow hch
      go_wp2
      go_ret
      exact ⟨_, rfl, HF.out⟩
    · intro xc xl xn xi v w2 cnt2 hox hlx hvx hr2 hlt hc2 hs2 hen
      have HX : Hid ((φ ⟨xc, xl, xn, xi⟩).isSome = true ∧ (⟨xc, xl, xn, xi⟩ : Id) ∉ ss ∧ okD ⟨xc, xl, xn, xi⟩) := Lib.hid (by
        refine ⟨by rw [hvx]; rfl, fun hk => ?_, hox⟩
        have := ((HK.out.2 _ hox).1 hk).2
        rw [hlx] at this; cases this)
      have HW2 := Lib.hid (And.intro hr2 (And.intro hc2 hs2))
      have hown2 := row_keep HOWN.out (w' := w2) (fun gq hq => hc2.block gq (World.ownsRow.lt HOWN.out gq hq).2 (by
        simp
        rintro rfl
        exact hrne hq.symm))
      have hc2a : Chg [] w2 (w2.alloc (.cells #[.int .i64 xc, .int .i64 xl, .int .i64 xn, .int .i64 xi] 38)) := (Chg.refl [] w2).alloc _
      have hown3 := row_keep hown2 (w' := w2.alloc (.cells #[.int .i64 xc, .int .i64 xl, .int .i64 xn, .int .i64 xi] 38)) (fun gq hq => hc2a.block gq (World.ownsRow.lt hown2 gq hq).2 (by simp))
      have hbase : w.heap.size ≤ w2.heap.size := by
        have := HC.out.size
        rw [hs2]; omega
      clear hox hlx hvx hr2 hc2 hs2
      go_wp2_with (at_builtin; refine wpList_app1 rfl _ _ _ rfl w.heap.size elIds _ _ _ rfl hown3 1 #[.int .i64 xc, .int .i64 xl, .int .i64 xn, .int .i64 xi] (by rw [show (w2.alloc (.cells #[.int .i64 xc, .int .i64 xl, .int .i64 xn, .int .i64 xi] 38)).heap.size = w2.heap.size + 1 by simp]; rfl) rfl (by intro u hu; simp at hu; rcases hu with rfl | rfl | rfl | rfl <;> rfl) (by unfold maxLen; omega) (by omega) (by simp; omega) ?_; intro v4 w4 hown4 hg4)
      have HEND : Hid (Rng 38 klD okD w4 mb w.heap.size φ N (fun y => !decide (y = ⟨xc, xl, xn, xi⟩) && left y) cnt2 ∧ Chg [] w w4) := Lib.hid (by
        have hc24 : Chg (match v3.ownBlock with | some k => [k] | none => []) w2 w4 := by
          exact ((Chg.refl (match v3.ownBlock with | some k => [k] | none => []) w2).alloc _).grown hg4 (fun k hk => by
            have hk' : v3.ownBlock = some k := hk
            rw [hk']; exact .inl (by simp))
        have hrb : ∀ k, v3.ownBlock = some k → w.heap.size ≤ k ∧ k ≠ w.heap.size := fun k hk => ⟨(World.ownsRow.lt HOWN.out k hk).1, fun e => hrne (by rw [hk, e])⟩
        refine ⟨HW2.out.1.kept hc24 ?_ ?_, (HC.out.trans HW2.out.2.1 (fun z hz => ?_)).trans hc24 (fun z hz => ?_)⟩
        · cases hv : v3.ownBlock with
          | none => simp
          | some k => have := hrb k hv; simp; omega
        · cases hv : v3.ownBlock with
          | none => simp
          | some k => have := hrb k hv; simp; omega
        · simp at hz; right; omega
        · cases hv : v3.ownBlock with
          | none => rw [hv] at hz; simp at hz
          | some k => rw [hv] at hz; simp at hz; have := hrb k hv; right; omega)
      clear hg4
      go_roundg cnt2
      case measure => omega
      case rel =>
        refine ⟨_, ss ++ [⟨xc, xl, xn, xi⟩], _, cnt2, rfl, Nat.le_refl _, by simp; omega, by simpa [idE] using hown4, Lib.hid HEND.out.1, Lib.hid ⟨?_, fun k hk => ?_⟩, Lib.hid (fun k hk => ?_), Lib.hid HEND.out.2⟩
        · refine List.nodup_append.2 ⟨HK.out.1, by simp, fun a ha b hb => ?_⟩
          simp at hb
          rintro rfl
          subst hb
          exact HX.out.2.1 ha
        · rw [List.mem_append, HK.out.2 k hk]
          by_cases e : k = ⟨xc, xl, xn, xi⟩
          · subst e; simp [HX.out.1]
          · simp [e]
        · rcases List.mem_append.1 hk with hk | hk
          · exact HO.out k hk
          · simp at hk; subst hk; exact HX.out.2.2
end Go.Proofs.YtdkhmfcfihbjeaaGreatDoor.W

/- Package store: Room, Whole, SetWhole. -/
namespace Go.Proofs.YtdkhmfcfihbjeaaGreatDoor.W
open Go.RowKit Go.Sort
set_option linter.unusedVariables false
set_option linter.unusedSimpArgs false
variable {G : List Nat}

theorem count_take {α : Type} (f : α → Bool) (l : List α) (j : Nat) (h : j < l.length) : (l.take (j + 1)).countP f = (l.take j).countP f + if f l[j] then 1 else 0 := by
  rw [List.take_succ_eq_append_getElem h, List.countP_append]
  simp [List.countP_singleton]
set_option maxHeartbeats 4000000 in
set_option maxRecDepth 100000 in
theorem stroom_any (q p : Nat) (U : List Nat) (t : Sto) (w : World) (h : StAt G w q p U t) : Calls Tryz.prog 125 #[.pointer (some ⟨q, 0, none⟩)] w fun e w' => e = .returned (.int .i64 (t.room : Int)) ∧ w = w' := by
  obtain ⟨sp, mb, Us, φ, N, h, rfl⟩ := h
  obtain ⟨k0, k1, _, _⟩ := h.cells
  have CM := Lib.hid (stmade_any q p w k0)
  have CN := Lib.hid (scount_any sp p Us t.s w h.slots)
  have CU := Lib.hid (fun i => sused_any sp p Us t.s i w h.slots)
  have hfew : t.s.rows.length ≤ 1000 := by
    obtain ⟨S0, rv0, R0, H0⟩ := h.slots
    have := H0.few
    omega
  have HRM : Hid (t.room = t.s.rows.countP (fun r => !r.used)) := Lib.hid rfl
  generalize t.room = R at *
  clear h
  obtain ⟨m, hm⟩ : ∃ m, m = t.s.rows.length := ⟨_, rfl⟩
  rw [← hm] at CN hfew
  have HM := Lib.hid hm
  clear hm
  go_enter Tryz.func125, Tryz.ntmps125
  go_wp2_with (first | (go_at_call 42; refine CM.out.mono ?_; rintro e w' ⟨rfl, hq⟩; subst hq) | (go_at_call 92; refine CN.out.mono ?_; rintro e w' ⟨rfl, hq⟩; subst hq))
  go_loopg [3, 13] m (fun g' s3 s13 wr => ∃ (i n : Nat), s13 = .int .i64 (i : Int) ∧ s3 = .int .i64 (n : Int) ∧ i ≤ m ∧ m ≤ i + g' ∧ n ≤ i ∧ Hid (wr = w ∧ n = (t.s.rows.take i).countP (fun r => !r.used)))
  case atStart => exact ⟨0, 0, rfl, rfl, by omega, by omega, by omega, Lib.hid ⟨rfl, by simp⟩⟩
  case round =>
    obtain ⟨i, n, rfl, rfl, hi, hig, hni, HJ⟩ := hrel
    obtain ⟨rfl, hn⟩ := HJ.out
    have HN := Lib.hid hn
    clear hn HJ
    by_cases hlt : i < m
    · have CU1 := Lib.hid (CU.out (i : Int))
      have hl2 : i < t.s.rows.length := by rw [← HM.out]; exact hlt
      have hus : t.s.used (i : Int) = (t.s.rows[i]).used := by
        rw [SS.used_true ⟨by omega, by omega⟩]
        show (t.s.rows.getD i noRow).used = _
        rw [List.getD_eq_getElem?_getD, List.getElem?_eq_getElem hl2]; rfl
      have HC := Lib.hid (count_take (fun r => !r.used) t.s.rows i hl2)
      rw [hus] at CU1
      have hiz : (i : Int) < (m : Int) := by omega
      clear hus
      generalize (t.s.rows[i]).used = u at *
      cases u with
      | true =>
        go_wp2_with (go_at_call 93; refine CU1.out.mono ?_; rintro e w' ⟨rfl, hq⟩; subst hq)
        go_roundg (gk - 1)
        case measure => omega
        case rel => exact ⟨i + 1, n, by go_num, rfl, by omega, by omega, by omega, Lib.hid ⟨rfl, by rw [HC.out, ← HN.out]; simp⟩⟩
      | false =>
        go_wp2_with (go_at_call 93; refine CU1.out.mono ?_; rintro e w' ⟨rfl, hq⟩; subst hq)
        go_roundg (gk - 1)
        case measure => omega
        case rel => exact ⟨i + 1, n + 1, by go_num, by go_num, by omega, by omega, by omega, Lib.hid ⟨rfl, by rw [HC.out, ← HN.out]; simp⟩⟩
    · have him : i = m := by omega
      have hiz : ¬ (i : Int) < (m : Int) := by omega
      have HE : Hid (R = n) := Lib.hid (by rw [HRM.out, HN.out, him, HM.out, List.take_length])
      go_wp2
      go_ret
      rw [HE.out]
      exact ⟨rfl, rfl⟩
set_option maxHeartbeats 2000000 in
theorem stwhole_any (q p : Nat) (U : List Nat) (t : Sto) (w : World) (h : StAt G w q p U t) : Calls Tryz.prog 21 #[.pointer (some ⟨q, 0, none⟩)] w fun e w' => e = .returned (.bool t.whole) ∧ w = w' := by
  obtain ⟨sp, mb, Us, φ, N, h, rfl⟩ := h
  obtain ⟨k0, _, _, k3⟩ := h.cells
  have CM := Lib.hid (stmade_any q p w k0)
  generalize t.whole = b at *
  clear h
  go_enter Tryz.func21, Tryz.ntmps21
  go_wp2_with (go_at_call 42; refine CM.out.mono ?_; rintro e w' ⟨rfl, hq⟩; subst hq)
  go_ret
  exact ⟨rfl, rfl⟩
end Go.Proofs.YtdkhmfcfihbjeaaGreatDoor.W

/- Package store: SetWhole, Latest. -/
namespace Go.Proofs.YtdkhmfcfihbjeaaGreatDoor.W
open Go.RowKit Go.Sort
set_option linter.unusedVariables false
set_option linter.unusedSimpArgs false
variable {G : List Nat}

/-- Slots hear nothing of a block that holds no byte. -/
theorem SlotsAt.keepNB {w w' : World} {q p B : Nat} {U : List Nat} {s : SS} (h : SlotsAt w q p U s) (hc : Chg [B] w w') (hm : ∀ o c, w.cell? ⟨B, o, none⟩ ≠ some (bv c)) (hU : B ∉ U) : SlotsAt w' q p U s := by
  obtain ⟨S, rv, R, h⟩ := h
  have hne : ∀ x ∈ U, x ∉ [B] := fun x hx hmm => hU (by rw [← List.mem_singleton.1 hmm]; exact hx)
  refine ⟨S, rv, R, h.obj.keep hc (fun x hx => hne x (h.uB x hx)), h.disk.keep hc (fun x hx => hne x (h.uS x hx)), h.rows, h.sep, fun x hx => ?_, h.uS, h.uB, fun x hx => Nat.lt_of_lt_of_le (h.uL x hx) hc.size, h.ok⟩
  obtain ⟨h1, h2⟩ := h.keys x hx
  refine ⟨h1.chgW hc (fun hn k hk hmm => ?_), fun g hg => ⟨Nat.lt_of_lt_of_le (h2 g hg).1 hc.size, (h2 g hg).2⟩⟩
  obtain rfl := List.mem_singleton.1 hmm
  obtain ⟨a, cap, hv, _, _, h3⟩ := h1
  rw [hv] at hk
  rcases h3 with ⟨h3, _⟩ | ⟨g, o, rfl, hcell⟩
  · exact hn h3
  · obtain rfl : g = k := by simpa [Value.ownBlock] using hk
    exact hm _ _ (hcell 0 (List.length_pos_iff.2 hn))
theorem head_nb {w : World} {q p sp mb : Nat} {b : Bool} (h : w.heap[q]? = some (.cells #[.pointer (some ⟨p, 0, none⟩), .pointer (some ⟨sp, 0, none⟩), .map (some mb), .bool b] 98 (0, 0))) (o : Nat) (c : UInt8) : w.cell? ⟨q, o, none⟩ ≠ some (bv c) := by
  simp only [World.cell?, h]
  match o with
  | 0 => simp [bv]
  | 1 => simp [bv]
  | 2 => simp [bv]
  | 3 => simp [bv]
  | o + 4 => simp
theorem StOk.setW {w : World} {q p sp mb : Nat} {Us : List Nat} {φ : Id → Option Value} {N : Nat} {t : Sto} (h : StOk G w q p sp mb Us φ N t) (b : Bool) : StOk G (w.setCell ⟨q, 3, none⟩ (.bool b)) q p sp mb Us φ N ⟨t.s, b⟩ := by
  have hc : Chg [q] w (w.setCell ⟨q, 3, none⟩ (.bool b)) := (Chg.refl [q] w).setCell (p := ⟨q, 3, none⟩) (.inl (by simp)) _
  have hqm := ne_blk h.head h.map
  refine ⟨set_blk h.head, h.slots.keepNB hc (head_nb h.head) h.apart.1, h.map.chg hc (by simpa using Ne.symm hqm), h.apart, fun x hx => ?_, h.ok, h.far.mono hc.size⟩
  exact (h.vals x hx).keep hc (fun y hy => .inl (by rw [List.mem_singleton.1 hy]; simp)) (fun y hy => .inl hy)
set_option maxHeartbeats 4000000 in
set_option maxRecDepth 100000 in
theorem stsetw_any (q p : Nat) (U : List Nat) (t : Sto) (w : World) (h : StAt G w q p U t) (hn : 1 ≤ t.s.d.n) (ho : t.s.d.ops ≤ 900000000) (hw : t.s.d.since.length ≤ 900000) :
    Calls Tryz.prog 126 #[.pointer (some ⟨q, 0, none⟩)] w fun e w' => e = .returned (.int .i64 t.setWhole.1) ∧ Std G w w' q p U t.setWhole.2 := by
  obtain ⟨sp, mb, Us, φ, N, h, rfl⟩ := h
  obtain ⟨k0, _, _, k3⟩ := h.cells
  have CM := Lib.hid (stmade_any q p w k0)
  have HH := Lib.hid h
  obtain ⟨S, rv, R, hS⟩ := h.slots
  have CS := Lib.hid (sign_any p S t.s.d 2 w hS.disk hn ho hw)
  obtain ⟨sn, _, _⟩ := t.s.d.sign_ok 2
  have HS := Lib.hid hS
  have HG : Hid (t.setWhole = ((t.s.d.sign 2).1, ⟨{ t.s with d := (t.s.d.sign 2).2 }, t.whole || ((t.s.d.sign 2).1 == 0)⟩)) := Lib.hid rfl
  generalize t.setWhole = r at *
  generalize t.s.d.sign 2 = z at *
  obtain ⟨ze, d'⟩ := z
  dsimp only at CS HG sn
  rw [show bv 2 = .int .u8 2 from rfl] at CS
  have HSN := Lib.hid sn
  clear h hS sn
  go_enter Tryz.func126, Tryz.ntmps126
  go_wp2_with (go_at_call 42; refine CM.out.mono ?_; rintro e w' ⟨rfl, hq⟩; subst hq)
  refine CS.out.mono ?_
  rintro e w2 ⟨rfl, hd2⟩
  have hsid := SlotsAt.did HS.out hd2 HSN.out
  obtain ⟨Us2, g1, g2, g3⟩ := HH.out.slotsDid hsid rfl
  obtain ⟨c0, _, _, c3⟩ := g1.cells
  have f3 := blk_frozen g1.head 3
  have hl := blk_lt g1.head
  have HW : Hid (∀ b, Std G w (w2.setCell ⟨q, 3, none⟩ (.bool b)) q p (q :: mb :: Us) ⟨{ t.s with d := d' }, b⟩) := Lib.hid (fun b => (g1.setW b).std g2 ((g3.mono (fun y hy => .inl (by simp [hy]))).setCell (p := ⟨q, 3, none⟩) (.inl (by simp)) _))
  have HI : Hid (r = (ze, ⟨{ t.s with d := d' }, t.whole || (ze == 0)⟩)) := HG
  have c3' : w2.cell? ⟨q, 3, none⟩ = some (.bool t.whole) := c3
  clear hd2 hsid g1 g2 g3 CS HG c3
  generalize t.whole = b at *
  cases b with
  | true =>
    go_wp2
    go_ret
    rw [HI.out]
    exact ⟨rfl, HW.out true⟩
  | false =>
    by_cases hz : ze = 0
    · subst hz
      go_wp2
      go_ret
      rw [HI.out]
      exact ⟨rfl, HW.out true⟩
    · have q0 : (ze == 0) = false := by simp [hz]
      rw [q0] at HI
      go_wp2
      go_ret
      rw [HI.out]
      exact ⟨rfl, HW.out false⟩

theorem id_row {w : World} {base g cap : Nat} {l : List Id} (h : w.ownsRow base 38 4 (.slice (some ⟨g, 0, none⟩) l.length cap) l.length (l.flatMap idE)) (j : Nat) (hj : j < l.length) (x : Id) (hx : l[j]? = some x) :
    w.cell? ⟨g, j * 4, none⟩ = some (.int .i64 x.c) ∧ w.cell? ⟨g, j * 4 + 1, none⟩ = some (.int .i64 x.l) ∧ w.cell? ⟨g, j * 4 + 2, none⟩ = some (.int .i64 x.n) ∧ w.cell? ⟨g, j * 4 + 3, none⟩ = some (.int .i64 x.i) := by
  have key : ∀ k, k < 4 → ∀ u, (idE x)[k]? = some u → w.cell? ⟨g, j * 4 + k, none⟩ = some u := by
    intro k hk u hu
    have := h.cells (g := g) rfl (j * 4 + k) u (by
      have := flatMap_at idE (fun _ => rfl) l j k hj hk
      rw [show l[j]! = x by simp [List.getElem!_eq_getElem?_getD, hx]] at this
      rw [this]; exact hu)
    rw [add_none] at this
    simpa using this
  exact ⟨by simpa using key 0 (by omega) (.int .i64 x.c) rfl, key 1 (by omega) _ rfl, key 2 (by omega) _ rfl, key 3 (by omega) _ rfl⟩
end Go.Proofs.YtdkhmfcfihbjeaaGreatDoor.W

/- Package store: Latest. -/
namespace Go.Proofs.YtdkhmfcfihbjeaaGreatDoor.W
open Go.RowKit Go.Sort
set_option linter.unusedVariables false
set_option linter.unusedSimpArgs false
variable {G : List Nat}

end Go.Proofs.YtdkhmfcfihbjeaaGreatDoor.W

/- A store on a disk that lives, plainly. -/
namespace Go.Proofs.YtdkhmfcfihbjeaaGreatDoor.W
set_option linter.unusedVariables false
set_option linter.unusedSimpArgs false

/-! ### Formatting -/
theorem DS.wipe_live : ∀ (k a : Nat) (d : DS), d.Live → a + 8 * k ≤ d.n + 7 → (∀ i, d.now i = zeros 64) → (d.wipe k a).1 = 0 ∧ (d.wipe k a).2.Live ∧ (d.wipe k a).2.n = d.n ∧ (∀ i, (d.wipe k a).2.now i = zeros 64) ∧ (d.wipe k a).2.since = []
  | 0, a, d, hd, hn, hz => by
    obtain ⟨h1, h2, h3, h4, h5⟩ := d.sync_live hd
    exact ⟨h1, h2, h3, fun i => by show (d.sync).2.now i = _; rw [h4, hz], h5⟩
  | k + 1, a, d, hd, hn, hz => by
    obtain ⟨h1, h2, h3, h4⟩ := DS.write_live hd a (zeros 64) (by omega) (by simp [zeros])
    obtain ⟨i1, i2, i3, i4, i5⟩ := DS.wipe_live k (a + 8) _ h2 (by rw [h3]; omega) (fun i => by
      rw [h4]; unfold upd
      split
      · rfl
      · exact hz i)
    unfold DS.wipe
    rw [if_neg (by rw [h1]; simp)]
    exact ⟨i1, i2, by rw [i3, h3], i4, i5⟩
theorem DS.sign_live {d : DS} (hd : d.Live) (n : UInt8) (hn : 1 ≤ d.n) : (d.sign n).1 = 0 ∧ (d.sign n).2.Live ∧ (d.sign n).2.n = d.n ∧ (d.sign n).2.now = upd d.now 0 (n :: zeros 63) ∧ (d.sign n).2.since = [] := by
  obtain ⟨h1, h2, h3, h4⟩ := DS.write_live hd 0 (n :: zeros 63) (by omega) (by simp [zeros])
  obtain ⟨g1, g2, g3, g4, g5⟩ := DS.sync_live h2
  unfold DS.sign
  rw [show ((0 : Nat) : Int) = 0 from rfl] at *
  rw [if_neg (by rw [h1]; simp)]
  exact ⟨g1, g2, by rw [g3, h3], by rw [g4, h4], g5⟩
theorem rowsFrom_zero {d : DS} {first : Nat} (h : ∀ i, 1 ≤ i → d.now i = zeros 64) (hf : 1 ≤ first) : ∀ m k, rowsFrom d first m k = some (List.replicate m noRow)
  | 0, _ => rfl
  | m + 1, k => by
    unfold rowsFrom
    rw [h _ (by omega)]
    have : headOf (zeros 64) = some noRow := by rfl
    rw [this]
    dsimp only
    rw [rowsFrom_zero h hf m (k + 1)]
    rfl
/-- A new disk, formatted. -/
theorem format_new (n : Nat) (h9 : 9 ≤ n) : ∃ d, (DS.new n).format = ((0, some ⟨⟨d, 1, List.replicate ((n - 1) / 8) noRow⟩, false⟩), d) ∧ d.Live ∧ d.n = n ∧ d.since = [] ∧ (∀ i, 1 ≤ i → d.now i = zeros 64) ∧ d.ops ≤ n ∧ d.now 0 = 1 :: zeros 63 := by
  have hl : (DS.new n).Live := ⟨rfl, by show (-1 : Int) < 0; omega⟩
  obtain ⟨a1, a2, a3, a4, a5⟩ := DS.wipe_live ((n - 1) / 8) 1 (DS.new n) hl (by show _ ≤ n + 7; omega) (fun i => rfl)
  have a3' : ((DS.new n).wipe ((n - 1) / 8) 1).2.n = n := a3
  obtain ⟨w1, w2, w3⟩ := DS.wipe_ok ((n - 1) / 8) 1 (DS.new n)
  obtain ⟨b1, b2, b3, b4, b5⟩ := DS.sign_live a2 1 (by rw [a3']; omega)
  obtain ⟨s1, s2, s3⟩ := ((DS.new n).wipe ((n - 1) / 8) 1).2.sign_ok 1
  have hw0 : (DS.new n).ops = 0 := rfl
  obtain ⟨d, hd⟩ : ∃ d, d = (((DS.new n).wipe ((n - 1) / 8) 1).2.sign 1).2 := ⟨_, rfl⟩
  have hfm : (DS.new n).format = if ((DS.new n).wipe ((n - 1) / 8) 1).1 ≠ 0 then ((((DS.new n).wipe ((n - 1) / 8) 1).1, none), ((DS.new n).wipe ((n - 1) / 8) 1).2) else if (((DS.new n).wipe ((n - 1) / 8) 1).2.sign 1).1 ≠ 0 then (((((DS.new n).wipe ((n - 1) / 8) 1).2.sign 1).1, none), (((DS.new n).wipe ((n - 1) / 8) 1).2.sign 1).2) else ((((DS.new n).wipe ((n - 1) / 8) 1).2.sign 1).2.stOpen, (((DS.new n).wipe ((n - 1) / 8) 1).2.sign 1).2) := by
    unfold DS.format
    rw [if_neg (by show ¬ n < 9; omega)]
    rfl
  rw [hfm, if_neg (by rw [a1]; simp), if_neg (by rw [b1]; simp), ← hd]
  rw [← hd] at b2 b3 b4 b5 s2
  have hn : d.n = n := by rw [b3, a3']
  have h0 : d.now 0 = 1 :: zeros 63 := by rw [b4]; unfold upd; rw [if_pos rfl]
  have h1 : ∀ i, 1 ≤ i → d.now i = zeros 64 := fun i hi => by rw [b4]; unfold upd; rw [if_neg (by omega), a4]
  refine ⟨d, ?_, b2, hn, b5, h1, by omega, h0⟩
  have hsl : d.slots 1 = (0, some ⟨d, 1, List.replicate ((n - 1) / 8) noRow⟩) := by
    unfold DS.slots
    rw [if_neg (by omega), if_neg (by rw [b2.1]; simp; omega), show (1 : Int).toNat = 1 from rfl, rowsFrom_zero h1 (by omega), hn]
  have hop : d.stOpen = (0, some ⟨⟨d, 1, List.replicate ((n - 1) / 8) noRow⟩, false⟩) := by
    unfold DS.stOpen
    rw [if_neg (by omega), if_neg (by rw [b2.1]; simp), h0]
    rw [if_neg (by
      rintro (⟨h, _⟩ | h)
      · exact h rfl
      · rw [show (1 :: zeros 63).drop 1 = zeros 63 from rfl, allZ_zeros] at h; cases h), hsl]
    dsimp only
    rw [if_pos (stKeys_iff.2 (fun r hr hu => by
      obtain rfl := List.eq_of_mem_replicate hr
      simp [noRow] at hu))]
    rfl
  rw [hop]

/-! ### A store whose fragments are known -/
abbrev Frag := Id → Option (List UInt8)
def setF (F : Frag) (x : Id) (o : Option (List UInt8)) : Frag := fun y => if y = x then o else F y
theorem setF_self (F : Frag) (x : Id) (o : Option (List UInt8)) : setF F x o x = o := if_pos rfl
theorem setF_other (F : Frag) {x y : Id} (o : Option (List UInt8)) (h : y ≠ x) : setF F x o y = F y := if_neg h
structure Kept (t : Sto) (F : Frag) : Prop where
  told : ∃ u v, Told t.s u v ∧ ∀ x, mayId x = true → (F x = none ∧ t.at x = []) ∨ ∃ i b, F x = some b ∧ t.at x = [i] ∧ v i = b
  out : ∀ x, mayId x = false → F x = none
  keys : keysOk t.s.rows
  since : t.s.d.since = []
  first : t.s.first = 1
theorem Kept.live {t : Sto} {F : Frag} (h : Kept t F) : t.s.d.Live := by obtain ⟨u, v, h1, _⟩ := h.told; exact h1.live
theorem Kept.room {t : Sto} {F : Frag} (h : Kept t F) : t.s.first + 8 * t.s.rows.length ≤ t.s.d.n := by obtain ⟨u, v, h1, _⟩ := h.told; exact h1.room
theorem Kept.new (n : Nat) (h9 : 9 ≤ n) : ∃ t d, (DS.new n).format = ((0, some t), d) ∧ Kept t (fun _ => none) ∧ t.s.d = d ∧ t.s.rows = List.replicate ((n - 1) / 8) noRow ∧ d.n = n ∧ d.ops ≤ n ∧ t.whole = false := by
  obtain ⟨d, h1, h2, h3, h4, h5, h6, _⟩ := format_new n h9
  refine ⟨_, d, h1, ⟨⟨fun _ => false, fun _ => [], ⟨h2, by show 1 + 8 * (List.replicate _ noRow).length ≤ d.n; rw [List.length_replicate]; omega, fun k hk => ?_, fun k hk => ?_, fun k hk hu => by cases hu⟩, fun x hx => .inl ⟨rfl, ?_⟩⟩, fun _ _ => rfl, fun r hr hu => ?_, h4, rfl⟩, rfl, rfl, h3, h6, rfl⟩
  · rw [List.length_replicate] at hk
    show headOf (d.now (1 + 8 * k)) = _
    rw [h5 _ (by omega), List.getD_eq_getElem?_getD, List.getElem?_replicate, if_pos hk]
    rfl
  · rw [List.length_replicate] at hk
    show ((List.replicate _ noRow).getD k noRow).used = false
    rw [List.getD_eq_getElem?_getD, List.getElem?_replicate, if_pos hk]
    rfl
  · rw [Sto.at_may hx]
    cases hu : upto (List.replicate ((n - 1) / 8) noRow) (List.replicate ((n - 1) / 8) noRow).length (idKey x) with
    | nil => rfl
    | cons j r =>
      have hj : j ∈ upto (List.replicate ((n - 1) / 8) noRow) (List.replicate ((n - 1) / 8) noRow).length (idKey x) := by rw [hu]; simp
      obtain ⟨a, b, _⟩ := upto_mem.1 hj
      rw [List.length_replicate] at a
      rw [List.getD_eq_getElem?_getD, List.getElem?_replicate, if_pos a] at b
      simp [noRow] at b
  · obtain rfl := List.eq_of_mem_replicate hr
    simp [noRow] at hu
theorem Kept.at_none {t : Sto} {F : Frag} (h : Kept t F) {x : Id} (hx : F x = none) : t.at x = [] := by
  by_cases hm : mayId x = true
  · obtain ⟨u, v, _, h2⟩ := h.told
    rcases h2 x hm with ⟨_, h3⟩ | ⟨i, b, h3, _⟩
    · exact h3
    · rw [hx] at h3; cases h3
  · exact Sto.at_not (by simpa using hm)
theorem Kept.at_some {t : Sto} {F : Frag} (h : Kept t F) {x : Id} {b : List UInt8} (hx : F x = some b) : mayId x = true ∧ t.at x ≠ [] := by
  by_cases hm : mayId x = true
  · obtain ⟨u, v, _, h2⟩ := h.told
    rcases h2 x hm with ⟨h3, _⟩ | ⟨i, b', h3, h4, _⟩
    · rw [hx] at h3; cases h3
    · exact ⟨hm, by rw [h4]; simp⟩
  · rw [h.out x (by simpa using hm)] at hx; cases hx
/-- Get. -/
theorem Kept.get {t : Sto} {F : Frag} (h : Kept t F) (x : Id) : t.get x = if mayId x = false then (([] : List UInt8), (1 : Int)) else match F x with | none => ([], 6) | some b => (b, 0) := by
  unfold Sto.get
  by_cases hm : mayId x = true
  · rw [if_neg (by simp [hm]), if_neg (by simp [hm])]
    obtain ⟨u, v, h1, h2⟩ := h.told
    rcases h2 x hm with ⟨h3, h4⟩ | ⟨i, b, h3, h4, h5⟩
    · rw [h3, h4]
    · rw [h3, h4]
      dsimp only
      have hi : i ∈ upto t.s.rows t.s.rows.length (idKey x) := by rw [← Sto.at_may hm, h4]; simp
      obtain ⟨a, b1, _⟩ := upto_mem.1 hi
      rw [h1.get i a, if_pos (by rw [← h1.used i a]; exact b1), h5]
  · rw [if_pos (by simpa using hm), if_pos (by simpa using hm)]
theorem Kept.mem_ids {t : Sto} {F : Frag} (h : Kept t F) (x : Id) : x ∈ t.ids ↔ (F x).isSome = true := by
  rw [Sto.mem_ids h.keys]
  cases hx : F x with
  | none => simp [h.at_none hx]
  | some b => simp [(h.at_some hx).2]
theorem SS.put_ok (s : SS) (i : Int) (key b : List UInt8) : (s.put i key b).2.d.ops ≤ s.d.ops + 20 ∧ (s.put i key b).2.d.since.length ≤ s.d.since.length + 20 ∧ (s.put i key b).2.d.n = s.d.n ∧ (s.put i key b).2.first = s.first ∧ (s.put i key b).2.rows.length = s.rows.length := by
  unfold SS.put
  split
  · exact ⟨Nat.le_add_right _ _, Nat.le_add_right _ _, rfl, rfl, rfl⟩
  · split
    · exact ⟨Nat.le_add_right _ _, Nat.le_add_right _ _, rfl, rfl, rfl⟩
    · rename_i h1 h2
      obtain ⟨a1, a2, a3⟩ := s.d.lays_ok (s.pos i + 1) b
      obtain ⟨b1, b2, b3⟩ := (s.d.lays (s.pos i + 1) b).2.lays_ok (s.pos i) (headBytes b.length key)
      have hn1 : nsec b.length ≤ 7 := by unfold nsec; omega
      have hn2 : nsec (headBytes b.length key).length ≤ 1 := by rw [headBytes_len _ _ (by omega) (by omega)]; unfold nsec; omega
      split
      · exact ⟨Nat.le_add_right _ _, Nat.le_add_right _ _, rfl, rfl, rfl⟩
      · split
        · exact ⟨by dsimp only; omega, by dsimp only; omega, a1, rfl, rfl⟩
        · split
          · exact ⟨by dsimp only; omega, by dsimp only; omega, by dsimp only; rw [b1, a1], rfl, rfl⟩
          · exact ⟨by dsimp only; omega, by dsimp only; omega, by dsimp only; rw [b1, a1], rfl, by dsimp only; rw [List.length_set]⟩
theorem Sto.put_ok (t : Sto) (x : Id) (b : List UInt8) : (t.put x b).2.s.d.ops ≤ t.s.d.ops + 20 ∧ (t.put x b).2.s.d.since.length ≤ t.s.d.since.length + 20 ∧ (t.put x b).2.s.d.n = t.s.d.n ∧ (t.put x b).2.s.rows.length = t.s.rows.length ∧ (t.put x b).2.whole = t.whole := by
  have h0 : t.s.d.ops ≤ t.s.d.ops + 20 ∧ t.s.d.since.length ≤ t.s.d.since.length + 20 ∧ t.s.d.n = t.s.d.n ∧ t.s.rows.length = t.s.rows.length ∧ t.whole = t.whole := ⟨Nat.le_add_right _ _, Nat.le_add_right _ _, rfl, rfl, rfl⟩
  unfold Sto.put
  split
  · exact h0
  · split
    · exact h0
    · split
      · split
        · exact h0
        · split
          · exact h0
          · exact h0
      · split
        · exact h0
        · obtain ⟨a1, a2, a3, a4, a5⟩ := t.s.put_ok t.s.free (idKey x) b
          exact ⟨a1, a2, a3, a5, rfl⟩
theorem countP_put {l : List SRow} {i : Nat} (r : SRow) (hi : i < l.length) (f : SRow → Bool) : (l.set i r).countP f + (if f (l.getD i noRow) then 1 else 0) = l.countP f + if f r then 1 else 0 := by
  induction l generalizing i with
  | nil => simp at hi
  | cons a l ih =>
    cases i with
    | zero =>
      simp only [List.set_cons_zero, List.countP_cons, List.getD_cons_zero]
      omega
    | succ i =>
      have := ih (i := i) (by simpa using hi)
      simp only [List.set_cons_succ, List.countP_cons, List.getD_cons_succ]
      omega
/-- Put, where there is none and there is room. -/
theorem Kept.put_new {t : Sto} {F : Frag} (h : Kept t F) {x : Id} (hm : mayId x = true) (hF : F x = none) {b : List UInt8} (hb : b.length ≤ 448) (hr : 0 < t.room) : (t.put x b).1 = 0 ∧ Kept (t.put x b).2 (setF F x (some b)) ∧ (t.put x b).2.room + 1 = t.room := by
  have hfree : ¬ t.s.free < 0 := by
    intro hf
    unfold SS.free at hf
    rcases rowFree_spec t.s.rows 0 with ⟨_, h2⟩ | ⟨n, h1, h2, h3, _⟩
    · unfold Sto.room at hr
      obtain ⟨r, hr1, hr2⟩ := List.countP_pos_iff.1 hr
      rw [h2 r hr1] at hr2; simp at hr2
    · rw [h2] at hf; omega
  obtain ⟨i, hfi, hil, hiu⟩ := SS.free_ok hfree
  have hat := h.at_none hF
  obtain ⟨u, v, htold, hall⟩ := h.told
  have hui : u i = false := by rw [← htold.used i hil]; exact hiu
  obtain ⟨p1, p2, p3, p4, p5, p6⟩ := htold.put i hil (idKey x) b hui (by rw [idKey_len]; omega) hb
  have hput : t.put x b = ((t.s.put (i : Int) (idKey x) b).1, { t with s := (t.s.put (i : Int) (idKey x) b).2 }) := by
    unfold Sto.put
    rw [if_neg (by simp [hm]), if_neg (by omega), hat]
    dsimp only
    rw [if_neg hfree, hfi]
  obtain ⟨_, _, hrows⟩ := SS.put_done p1
  rw [hput]
  have hrows' : (t.s.put (i : Int) (idKey x) b).2.rows = t.s.rows.set i ⟨true, b.length, idKey x⟩ := by rw [hrows]; simp
  have hat2 : upto t.s.rows t.s.rows.length (idKey x) = [] := by rw [← Sto.at_may hm]; exact hat
  have hat' : ∀ y, mayId y = true → Sto.at { t with s := (t.s.put (i : Int) (idKey x) b).2 } y = if y = x then [i] else t.at y := fun y hy => by
    rw [Sto.at_may hy, Sto.at_may hy]
    show upto (t.s.put (i : Int) (idKey x) b).2.rows (t.s.put (i : Int) (idKey x) b).2.rows.length (idKey y) = _
    rw [hrows', upto_put hil hiu hat2]
    by_cases e : y = x
    · subst e; rw [if_pos rfl, if_pos rfl]
    · rw [if_neg e, if_neg (fun h => e (idKey_inj hy hm h))]
  refine ⟨p1, ⟨⟨_, _, p2, fun y hy => ?_⟩, fun y hy => ?_, ?_, p6, by show (t.s.put (i : Int) (idKey x) b).2.first = 1; rw [p4]; exact h.first⟩, ?_⟩
  · rw [hat' y hy]
    by_cases e : y = x
    · subst e
      rw [setF_self, if_pos rfl]
      exact .inr ⟨i, b, rfl, rfl, by simp⟩
    · rw [setF_other _ _ e, if_neg e]
      rcases hall y hy with h1 | ⟨j, c, h1, h2, h3⟩
      · exact .inl h1
      · refine .inr ⟨j, c, h1, h2, ?_⟩
        have hj : j ∈ upto t.s.rows t.s.rows.length (idKey y) := by rw [← Sto.at_may hy, h2]; simp
        obtain ⟨_, hju, _⟩ := upto_mem.1 hj
        have : j ≠ i := fun e => by subst e; rw [hiu] at hju; cases hju
        simp only [this, if_false]
        exact h3
  · have : y ≠ x := fun e => by subst e; rw [hm] at hy; cases hy
    rw [setF_other _ _ this]
    exact h.out y hy
  · show keysOk (t.s.put (i : Int) (idKey x) b).2.rows
    rw [hrows']
    exact h.keys.set i (fun _ => (un_key hm).2)
  · show (t.s.put (i : Int) (idKey x) b).2.rows.countP (fun r => !r.used) + 1 = t.s.rows.countP (fun r => !r.used)
    rw [hrows']
    have := countP_put ⟨true, b.length, idKey x⟩ hil (fun r => !r.used)
    simp only [hiu, Bool.not_false, if_true, Bool.not_true, Bool.false_eq_true, if_false, Nat.add_zero] at this
    exact this
/-- Put, where there is no room. -/
theorem Kept.put_full {t : Sto} {F : Frag} (h : Kept t F) {x : Id} (hm : mayId x = true) (hF : F x = none) {b : List UInt8} (hb : b.length ≤ 448) (hr : t.room = 0) : t.put x b = (5, t) := by
  have hfree : t.s.free < 0 := by
    unfold SS.free
    rcases rowFree_spec t.s.rows 0 with ⟨h1, _⟩ | ⟨n, h1, h2, h3, _⟩
    · rw [h1]; omega
    · unfold Sto.room at hr
      have := List.countP_eq_zero.1 hr _ (row_mem h1)
      rw [h3] at this; simp at this
  unfold Sto.put
  rw [if_neg (by simp [hm]), if_neg (by omega), h.at_none hF]
  dsimp only
  rw [if_pos hfree]
/-- Put, where there is one. -/
theorem Kept.put_there {t : Sto} {F : Frag} (h : Kept t F) {x : Id} {c : List UInt8} (hF : F x = some c) (b : List UInt8) (hb : b.length ≤ 448) : t.put x b = (if c = b then 0 else 7, t) := by
  obtain ⟨hm, hne⟩ := h.at_some hF
  have hg := h.get x
  rw [if_neg (by simp [hm]), hF] at hg
  unfold Sto.get at hg
  rw [if_neg (by simp [hm])] at hg
  unfold Sto.put
  rw [if_neg (by simp [hm]), if_neg (by omega)]
  cases hat : t.at x with
  | nil => exact absurd hat hne
  | cons i r =>
    rw [hat] at hg
    dsimp only at hg ⊢
    rw [hg, if_neg (by simp)]
    split <;> rfl
theorem Kept.put_bad {t : Sto} {F : Frag} (h : Kept t F) {x : Id} {b : List UInt8} (hm : mayId x = false ∨ 448 < b.length) : (t.put x b).1 ≠ 0 ∧ (t.put x b).2 = t := by
  unfold Sto.put
  by_cases h1 : mayId x = false
  · rw [if_pos h1]; exact ⟨by simp, rfl⟩
  · rw [if_neg h1, if_pos (by rcases hm with h2 | h2; exact absurd h2 h1; exact h2)]
    exact ⟨by simp, rfl⟩
/-- Delete. -/
theorem Kept.del {t : Sto} {F : Frag} (h : Kept t F) {x : Id} (hm : mayId x = true) : (t.del x).1 = 0 ∧ Kept (t.del x).2 (setF F x none) ∧ (t.del x).2.room = t.room + (if (F x).isSome then 1 else 0) ∧ (F x = none → (t.del x).2 = t) ∧ (t.del x).2.s.d.n = t.s.d.n ∧ (t.del x).2.s.rows.length = t.s.rows.length := by
  obtain ⟨u, v, htold, hall⟩ := h.told
  unfold Sto.del
  rw [if_neg (by simp [hm])]
  rcases hall x hm with ⟨h1, h2⟩ | ⟨i, b, h1, h2, h3⟩
  · rw [h2, h1]
    have e : setF F x none = F := by
      funext y
      unfold setF
      split
      · rename_i e; rw [e, h1]
      · rfl
    rw [e]
    exact ⟨rfl, h, rfl, fun _ => rfl, rfl, rfl⟩
  · have hi : i ∈ upto t.s.rows t.s.rows.length (idKey x) := by rw [← Sto.at_may hm, h2]; simp
    obtain ⟨hil, hiu, hik⟩ := upto_mem.1 hi
    have hui : u i = true := by rw [← htold.used i hil]; exact hiu
    obtain ⟨p1, p2, p3, p4, p5, p6⟩ := htold.clear i hil hui
    have hcl : t.s.clears [i] = (0, (t.s.clear (i : Int)).2) := by
      unfold SS.clears
      rw [if_neg (by rw [p1]; simp)]
      rfl
    rw [h2, hcl, h1]
    obtain ⟨_, _, hrows⟩ := SS.clear_done p1
    have hrows' : (t.s.clear (i : Int)).2.rows = t.s.rows.set i noRow := by rw [hrows]; simp
    have hat2 : upto t.s.rows t.s.rows.length (idKey x) = [i] := by rw [← Sto.at_may hm]; exact h2
    have hat' : ∀ y, mayId y = true → Sto.at { t with s := (t.s.clear (i : Int)).2 } y = if y = x then [] else t.at y := fun y hy => by
      rw [Sto.at_may hy, Sto.at_may hy]
      show upto (t.s.clear (i : Int)).2.rows (t.s.clear (i : Int)).2.rows.length (idKey y) = _
      rw [hrows', upto_clear hat2]
      by_cases e : y = x
      · subst e; rw [if_pos rfl, if_pos rfl]
      · rw [if_neg e, if_neg (fun h => e (idKey_inj hy hm h))]
    refine ⟨rfl, ⟨⟨_, _, p2, fun y hy => ?_⟩, fun y hy => ?_, ?_, p6, by show (t.s.clear (i : Int)).2.first = 1; rw [p4]; exact h.first⟩, ?_, (fun h => by cases h), p5, p3⟩
    · rw [hat' y hy]
      by_cases e : y = x
      · subst e
        rw [setF_self, if_pos rfl]
        exact .inl ⟨rfl, rfl⟩
      · rw [setF_other _ _ e, if_neg e]
        exact hall y hy
    · have : y ≠ x := fun e => by subst e; rw [hm] at hy; cases hy
      rw [setF_other _ _ this]
      exact h.out y hy
    · show keysOk (t.s.clear (i : Int)).2.rows
      rw [hrows']
      exact h.keys.set i (fun h => by simp [noRow] at h)
    · show (t.s.clear (i : Int)).2.rows.countP (fun r => !r.used) = t.s.rows.countP (fun r => !r.used) + _
      rw [hrows']
      have := countP_put noRow hil (fun r => !r.used)
      rw [hiu] at this
      simpa [noRow] using this
theorem Kept.del_bad {t : Sto} {x : Id} (hm : mayId x = false) : t.del x = (1, t) := by
  unfold Sto.del
  rw [if_pos hm]
end Go.Proofs.YtdkhmfcfihbjeaaGreatDoor.W

/- A store on a disk that may die, plainly: what Put and Delete leave, what is there behind a crash. -/
namespace Go.Proofs.YtdkhmfcfihbjeaaGreatDoor.W
set_option linter.unusedVariables false
set_option linter.unusedSimpArgs false

/-- What a crash leaves of slots: the rows as they were, or with one row set. -/
def Lost2 (s : SS) (d2 : DS) (u : Nat → Bool) (v : Nat → List UInt8) (k : Nat) (r : SRow) (b : List UInt8) : Prop :=
  d2.dead = true ∧ d2.n = s.d.n ∧ ∀ ch, ToldR { s with d := d2.crash ch } u v ∨ ToldR { s with d := d2.crash ch, rows := s.rows.set k r } (fun j => if j = k then r.used else u j) (fun j => if j = k then b else v j)
theorem ToldR.put2 {s : SS} {u : Nat → Bool} {v : Nat → List UInt8} (h : ToldR s u v) (k : Nat) (hk : k < s.rows.length) (key b : List UInt8) (hu : u k = false) (hkey : key.length ≤ 40) (hb : b.length ≤ 448) :
    ((s.put (k : Int) key b).1 = 0 ∧ ToldR (s.put (k : Int) key b).2 (fun j => if j = k then true else u j) (fun j => if j = k then b else v j) ∧ (s.put (k : Int) key b).2.rows.length = s.rows.length ∧ (s.put (k : Int) key b).2.first = s.first ∧ (s.put (k : Int) key b).2.d.n = s.d.n) ∨
    ((s.put (k : Int) key b).1 = 14 ∧ (s.put (k : Int) key b).2.rows = s.rows ∧ (s.put (k : Int) key b).2.first = s.first ∧ Lost2 s (s.put (k : Int) key b).2.d u v k ⟨true, b.length, key⟩ b) := by
  have hh : s.has (k : Int) := ⟨by omega, by omega⟩
  have hr : s.row (k : Int) = s.rows.getD k noRow := rfl
  have hp : s.pos (k : Int) = s.first + 8 * k := rfl
  have hns : nsec b.length ≤ 7 := by unfold nsec; omega
  have hroom := h.room
  have hput : s.put (k : Int) key b = if (s.d.lays (s.pos k + 1) b).1 ≠ 0 then ((s.d.lays (s.pos k + 1) b).1, { s with d := (s.d.lays (s.pos k + 1) b).2 }) else
    if ((s.d.lays (s.pos k + 1) b).2.lays (s.pos k) (headBytes b.length key)).1 ≠ 0 then (((s.d.lays (s.pos k + 1) b).2.lays (s.pos k) (headBytes b.length key)).1, { s with d := ((s.d.lays (s.pos k + 1) b).2.lays (s.pos k) (headBytes b.length key)).2 }) else
    (0, { s with d := ((s.d.lays (s.pos k + 1) b).2.lays (s.pos k) (headBytes b.length key)).2, rows := s.rows.set k ⟨true, b.length, key⟩ }) := by
    unfold SS.put
    rw [if_neg (by simpa using hh), if_neg (by omega), hr, h.used k hk, hu, if_neg (by simp)]
    rfl
  rw [hput]
  have hh1 : nsec (headBytes b.length key).length = 1 := by rw [headBytes_len _ _ hb hkey]; unfold nsec; omega
  rcases DS.lays_may (s.pos k + 1) b h.rest (by rw [hp]; omega) with ⟨a1, a2, a3, a4⟩ | ⟨a1, a2, a3, a4, a5⟩
  · rw [if_neg (by rw [a1]; simp)]
    generalize (s.d.lays (s.pos k + 1) b).2 = d1 at *
    rw [hp] at a4
    have hfar1 : ∀ j i, j < s.rows.length → j ≠ k → i < 8 → d1.now (s.first + 8 * j + i) = s.d.now (s.first + 8 * j + i) := fun j i _ hj hi => by
      rw [a4, if_neg (by omega)]
    have hhd1 : d1.now (s.first + 8 * k) = s.d.now (s.first + 8 * k) := by rw [a4, if_neg (by omega)]
    rcases DS.lays_may (s.pos k) (headBytes b.length key) a2 (by rw [hh1, a3, hp]; omega) with ⟨b1, b2, b3, b4⟩ | ⟨b1, b2, b3, b4, b5⟩
    · left
      rw [if_neg (by rw [b1]; simp)]
      generalize (d1.lays (s.pos k) (headBytes b.length key)).2 = d2 at *
      rw [hp, hh1] at b4
      refine ⟨rfl, h.of_now d2 b2 (by rw [b3, a3]) k hk ⟨true, b.length, key⟩ ?_ (fun j i hj hjk hi => ?_) b (fun _ => ?_), by simp, rfl, by rw [← a3, ← b3]⟩
      · rw [b4, if_pos (by omega), Nat.sub_self]
        exact head_back _ _ hb hkey
      · rw [b4, if_neg (by omega)]
        exact hfar1 j i hj hjk hi
      · dsimp only
        rw [flat_congr _ _ (secAt b) (fun i hi => by rw [b4, if_neg (by omega), a4, if_pos (by omega)]; congr 1; omega)]
        exact flat_back b
    · right
      rw [if_pos (by rw [b1]; simp)]
      generalize (d1.lays (s.pos k) (headBytes b.length key)).2 = d2 at *
      refine ⟨b1, rfl, rfl, b2, by rw [b3, a3], fun ch => ?_⟩
      rw [hh1] at b5
      have hall : ∀ x ∈ chosen ch d2.since 0, x = (s.first + 8 * k, secAt (headBytes b.length key) 0) := fun x hx => by
        obtain ⟨i, hi, rfl⟩ := b5 x (chosen_mem _ _ hx)
        obtain rfl : i = 0 := by omega
        rw [hp, Nat.add_zero]
      have hn2 : (d2.crash ch).n = s.d.n := by show d2.n = _; rw [b3, a3]
      have hl1 : ∀ i, d2.lasts i = d1.now i := fun i => by rw [b4]; exact a2.same i
      have hoth : ∀ i, i ≠ s.first + 8 * k → (d2.crash ch).now i = d1.now i := fun i hi => by
        rw [crash_now, applied_far i _ _ (fun x hx => by rw [hall x hx]; exact fun e => hi e.symm), hl1]
      have hfar2 : ∀ j i, j < s.rows.length → j ≠ k → i < 8 → (d2.crash ch).now (s.first + 8 * j + i) = s.d.now (s.first + 8 * j + i) := fun j i hj hjk hi => by
        rw [hoth _ (by omega)]
        exact hfar1 j i hj hjk hi
      rcases applied_same (s.first + 8 * k) (secAt (headBytes b.length key) 0) (chosen ch d2.since 0) d2.lasts hall with hA | hA
      · refine .inl (h.again (d2.crash ch) (crash_rest _ _) hn2 k hk hu ?_ hfar2)
        rw [crash_now, hA, hl1, hhd1]
      · refine .inr (h.of_now (d2.crash ch) (crash_rest _ _) hn2 k hk ⟨true, b.length, key⟩ ?_ hfar2 b (fun _ => ?_))
        · rw [crash_now, hA]
          exact head_back _ _ hb hkey
        · dsimp only
          rw [flat_congr _ _ (secAt b) (fun i hi => by rw [hoth _ (by omega), a4, if_pos (by omega)]; congr 1; omega)]
          exact flat_back b
  · right
    rw [if_pos (by rw [a1]; simp)]
    generalize (s.d.lays (s.pos k + 1) b).2 = d1 at *
    refine ⟨a1, rfl, rfl, a2, a3, fun ch => .inl ?_⟩
    have hn2 : (d1.crash ch).n = s.d.n := a3
    have hoth : ∀ i, i < s.first + 8 * k + 1 ∨ s.first + 8 * k + 8 ≤ i → (d1.crash ch).now i = s.d.now i := fun i hi => by
      rw [crash_now, applied_far i _ _ (fun x hx => by
        obtain ⟨t, ht, rfl⟩ := a5 x (chosen_mem _ _ hx)
        rw [hp]
        show s.first + 8 * k + 1 + t ≠ i
        omega), a4]
      exact h.rest.same i
    refine h.again (d1.crash ch) (crash_rest _ _) hn2 k hk hu (hoth _ (by omega)) (fun j i hj hjk hi => hoth _ (by omega))
theorem ToldR.clear2 {s : SS} {u : Nat → Bool} {v : Nat → List UInt8} (h : ToldR s u v) (k : Nat) (hk : k < s.rows.length) (hu : u k = true) :
    ((s.clear (k : Int)).1 = 0 ∧ ToldR (s.clear (k : Int)).2 (fun j => if j = k then false else u j) v ∧ (s.clear (k : Int)).2.rows.length = s.rows.length ∧ (s.clear (k : Int)).2.first = s.first ∧ (s.clear (k : Int)).2.d.n = s.d.n) ∨
    ((s.clear (k : Int)).1 = 14 ∧ (s.clear (k : Int)).2.rows = s.rows ∧ (s.clear (k : Int)).2.first = s.first ∧ Lost2 s (s.clear (k : Int)).2.d u v k noRow (v k)) := by
  have hh : s.has (k : Int) := ⟨by omega, by omega⟩
  have hr : s.row (k : Int) = s.rows.getD k noRow := rfl
  have hp : s.pos (k : Int) = s.first + 8 * k := rfl
  have hroom := h.room
  have e2 : (fun j => if j = k then v k else v j) = v := by funext j; split <;> simp_all
  have hcl : s.clear (k : Int) = if (s.d.lays (s.pos k) (zeros 64)).1 ≠ 0 then ((s.d.lays (s.pos k) (zeros 64)).1, { s with d := (s.d.lays (s.pos k) (zeros 64)).2 }) else (0, { s with d := (s.d.lays (s.pos k) (zeros 64)).2, rows := s.rows.set k noRow }) := by
    unfold SS.clear
    rw [if_neg (by simpa using hh), hr, h.used k hk, hu, if_neg (by simp)]
    rfl
  rw [hcl]
  have hh1 : nsec (zeros 64).length = 1 := rfl
  rcases DS.lays_may (s.pos k) (zeros 64) h.rest (by rw [hh1, hp]; omega) with ⟨b1, b2, b3, b4⟩ | ⟨b1, b2, b3, b4, b5⟩
  · left
    rw [if_neg (by rw [b1]; simp)]
    generalize (s.d.lays (s.pos k) (zeros 64)).2 = d2 at *
    rw [hp, hh1] at b4
    have h1 := h.of_now d2 b2 b3 k hk noRow (by rw [b4, if_pos (by omega), Nat.sub_self]; exact head_none) (fun j i hj hjk hi => by rw [b4, if_neg (by omega)]) (v k) (fun e => by cases e)
    rw [e2] at h1
    exact ⟨rfl, h1, by simp, rfl, b3⟩
  · right
    rw [if_pos (by rw [b1]; simp)]
    generalize (s.d.lays (s.pos k) (zeros 64)).2 = d2 at *
    refine ⟨b1, rfl, rfl, b2, b3, fun ch => ?_⟩
    rw [hh1] at b5
    have hall : ∀ x ∈ chosen ch d2.since 0, x = (s.first + 8 * k, secAt (zeros 64) 0) := fun x hx => by
      obtain ⟨i, hi, rfl⟩ := b5 x (chosen_mem _ _ hx)
      obtain rfl : i = 0 := by omega
      rw [hp, Nat.add_zero]
    have hn2 : (d2.crash ch).n = s.d.n := b3
    have hl1 : ∀ i, d2.lasts i = s.d.now i := fun i => by rw [b4]; exact h.rest.same i
    have hoth : ∀ i, i ≠ s.first + 8 * k → (d2.crash ch).now i = s.d.now i := fun i hi => by
      rw [crash_now, applied_far i _ _ (fun x hx => by rw [hall x hx]; exact fun e => hi e.symm), hl1]
    have hfar2 : ∀ j i, j < s.rows.length → j ≠ k → i < 8 → (d2.crash ch).now (s.first + 8 * j + i) = s.d.now (s.first + 8 * j + i) := fun j i hj hjk hi => hoth _ (by omega)
    rcases applied_same (s.first + 8 * k) (secAt (zeros 64) 0) (chosen ch d2.since 0) d2.lasts hall with hA | hA
    · refine .inl ?_
      have h1 := h.of_now (d2.crash ch) (crash_rest _ _) hn2 k hk (s.rows.getD k noRow) (by rw [crash_now, hA, hl1]; exact h.head k hk) hfar2 (v k) (fun _ => by
        have hsm := h.small k hk
        rw [flat_congr _ _ (fun i => s.d.now (s.first + 8 * k + 1 + i)) (fun i hi => hoth _ (by omega))]
        exact h.data k hk hu)
      rw [set_self _ _ hk, h.used k hk] at h1
      have e1 : (fun j => if j = k then u k else u j) = u := by funext j; split <;> simp_all
      rw [e1, e2] at h1
      exact h1
    · refine .inr (h.of_now (d2.crash ch) (crash_rest _ _) hn2 k hk noRow ?_ hfar2 (v k) (fun e => by cases e))
      rw [crash_now, hA]
      exact head_none

/-! ### Sector 0 -/
structure DS.Zero (d : DS) (c : List UInt8) : Prop where
  now : d.now 0 = c
  lasts : d.lasts 0 = c
  since : ∀ x ∈ d.since, x.1 ≠ 0
theorem DS.Zero.write {d : DS} {c : List UInt8} (h : d.Zero c) (k : Nat) (hk : k ≠ 0) (b : List UInt8) : (d.write (k : Int) b).2.Zero c := by
  unfold DS.write
  split
  · exact h
  · split
    · have hs : ∀ x ∈ d.since ++ [((k : Int).toNat, b)], x.1 ≠ 0 := fun x hx => by
        rcases List.mem_append.1 hx with hx | hx
        · exact h.since x hx
        · rw [List.mem_singleton.1 hx]; simpa using hk
      dsimp only
      unfold DS.op
      dsimp only
      by_cases hf : d.fuse = 0
      · rw [if_pos hf]
        exact ⟨h.now, h.lasts, hs⟩
      · rw [if_neg hf]
        refine ⟨?_, h.lasts, hs⟩
        show upd d.now (k : Int).toNat b 0 = c
        unfold upd
        rw [if_neg (by simp; omega)]
        exact h.now
    · exact h
theorem DS.Zero.sync {d : DS} {c : List UInt8} (h : d.Zero c) : (d.sync).2.Zero c := by
  unfold DS.sync
  split
  · exact h
  · unfold DS.op
    by_cases hf : d.fuse = 0
    · simp only [hf, if_true]
      exact ⟨h.now, h.lasts, h.since⟩
    · simp only [hf, if_false, if_true]
      refine ⟨h.now, ?_, by simp⟩
      show applied d.since d.lasts 0 = c
      rw [applied_far 0 _ _ h.since]
      exact h.lasts
theorem DS.Zero.lay {c : List UInt8} (pos : Nat) (hp : pos ≠ 0) (b : List UInt8) : ∀ (k j : Nat) (d : DS), d.Zero c → (d.lay pos b k j).2.Zero c
  | 0, j, d, h => h.sync
  | k + 1, j, d, h => by
    unfold DS.lay
    split
    · exact h.write (pos + j) (by omega) _
    · exact DS.Zero.lay pos hp b k (j + 1) _ (h.write (pos + j) (by omega) _)
theorem DS.Zero.lays {d : DS} {c : List UInt8} (h : d.Zero c) (pos : Nat) (hp : pos ≠ 0) (b : List UInt8) : (d.lays pos b).2.Zero c := DS.Zero.lay pos hp b _ _ d h
theorem DS.Zero.put {s : SS} {c : List UInt8} (h : s.d.Zero c) (hf : s.first ≠ 0) (i : Int) (key b : List UInt8) : (s.put i key b).2.d.Zero c := by
  have h1 : s.pos i ≠ 0 := by unfold SS.pos; omega
  have a := h.lays (s.pos i + 1) (by omega) b
  have a2 := a.lays (s.pos i) h1 (headBytes b.length key)
  unfold SS.put
  split
  · exact h
  · split
    · exact h
    · split
      · exact h
      · split
        · exact a
        · split
          · exact a2
          · exact a2
theorem DS.Zero.clear {s : SS} {c : List UInt8} (h : s.d.Zero c) (hf : s.first ≠ 0) (i : Int) : (s.clear i).2.d.Zero c := by
  have h1 : s.pos i ≠ 0 := by unfold SS.pos; omega
  have a := h.lays (s.pos i) h1 (zeros 64)
  unfold SS.clear
  split
  · exact h
  · split
    · exact h
    · split
      · exact a
      · exact a
theorem DS.Zero.crash {d : DS} {c : List UInt8} (h : d.Zero c) (ch : List UInt8) : (d.crash ch).Zero c := by
  have e : applied (chosen ch d.since 0) d.lasts 0 = c := by
    rw [applied_far 0 _ _ (fun x hx => h.since x (chosen_mem _ _ hx))]
    exact h.lasts
  exact ⟨e, e, by intro x hx; cases hx⟩

/-! ### A store at rest whose fragments are known -/
structure KeptR (t : Sto) (F : Frag) : Prop where
  told : ∃ u v, ToldR t.s u v ∧ ∀ x, mayId x = true → (F x = none ∧ t.at x = []) ∨ ∃ i b, F x = some b ∧ t.at x = [i] ∧ v i = b
  out : ∀ x, mayId x = false → F x = none
  keys : keysOk t.s.rows
  first : t.s.first = 1
  full : (t.s.d.n - 1) / 8 = t.s.rows.length ∧ 9 ≤ t.s.d.n
  zero : t.s.d.Zero ((if t.whole then 2 else 1) :: zeros 63)
theorem KeptR.rest {t : Sto} {F : Frag} (h : KeptR t F) : t.s.d.Rest := by obtain ⟨u, v, h1, _⟩ := h.told; exact h1.rest
/-- Opened it is a store of these fragments. -/
def Reopens (d : DS) (wh : Bool) (F : Frag) : Prop := ∃ t, d.stOpen = (0, some t) ∧ KeptR t F ∧ t.whole = wh ∧ t.s.d = d
theorem reopens_of {t : Sto} {F : Frag} (h : KeptR t F) : Reopens t.s.d t.whole F := by
  refine ⟨t, ?_, h, rfl, rfl⟩
  obtain ⟨u, v, h1, _⟩ := h.told
  have hsl := h1.anew (by rw [h.first]; exact h.full.1) (by have := h.full.2; omega)
  rw [h.first] at hsl
  have hn := h.full.2
  unfold DS.stOpen
  rw [if_neg (by omega), if_neg (by rw [h1.rest.alive]; simp), h.zero.now]
  cases hw : t.whole with
  | true =>
    rw [if_neg (by
      rintro (⟨_, h2⟩ | h2)
      · exact h2 rfl
      · rw [show (((if true = true then (2 : UInt8) else 1) :: zeros 63)).drop 1 = zeros 63 from rfl, allZ_zeros] at h2; cases h2)]
    rw [show ((1 : Nat) : Int) = 1 from rfl] at hsl
    rw [hsl]
    dsimp only
    rw [if_pos (stKeys_iff.2 h.keys)]
    obtain ⟨ts, tw⟩ := t
    dsimp only at hw
    subst hw
    rfl
  | false =>
    rw [if_neg (by
      rintro (⟨h2, _⟩ | h2)
      · exact h2 rfl
      · rw [show (((if false = true then (2 : UInt8) else 1) :: zeros 63)).drop 1 = zeros 63 from rfl, allZ_zeros] at h2; cases h2)]
    rw [show ((1 : Nat) : Int) = 1 from rfl] at hsl
    rw [hsl]
    dsimp only
    rw [if_pos (stKeys_iff.2 h.keys)]
    obtain ⟨ts, tw⟩ := t
    dsimp only at hw
    subst hw
    rfl
theorem KeptR.at_none {t : Sto} {F : Frag} (h : KeptR t F) {x : Id} (hx : F x = none) : t.at x = [] := by
  by_cases hm : mayId x = true
  · obtain ⟨u, v, _, h2⟩ := h.told
    rcases h2 x hm with ⟨_, h3⟩ | ⟨i, b, h3, _⟩
    · exact h3
    · rw [hx] at h3; cases h3
  · exact Sto.at_not (by simpa using hm)
theorem KeptR.at_some {t : Sto} {F : Frag} (h : KeptR t F) {x : Id} {b : List UInt8} (hx : F x = some b) : mayId x = true ∧ t.at x ≠ [] := by
  by_cases hm : mayId x = true
  · obtain ⟨u, v, _, h2⟩ := h.told
    rcases h2 x hm with ⟨h3, _⟩ | ⟨i, b', h3, h4, _⟩
    · rw [hx] at h3; cases h3
    · exact ⟨hm, by rw [h4]; simp⟩
  · rw [h.out x (by simpa using hm)] at hx; cases hx
/-- Get. -/
theorem KeptR.get {t : Sto} {F : Frag} (h : KeptR t F) (x : Id) : t.get x = if mayId x = false then (([] : List UInt8), (1 : Int)) else match F x with | none => ([], 6) | some b => (b, 0) := by
  unfold Sto.get
  by_cases hm : mayId x = true
  · rw [if_neg (by simp [hm]), if_neg (by simp [hm])]
    obtain ⟨u, v, h1, h2⟩ := h.told
    rcases h2 x hm with ⟨h3, h4⟩ | ⟨i, b, h3, h4, h5⟩
    · rw [h3, h4]
    · rw [h3, h4]
      dsimp only
      have hi : i ∈ upto t.s.rows t.s.rows.length (idKey x) := by rw [← Sto.at_may hm, h4]; simp
      obtain ⟨a, b1, _⟩ := upto_mem.1 hi
      rw [h1.get i a, if_pos (by rw [← h1.used i a]; exact b1), h5]
  · rw [if_pos (by simpa using hm), if_pos (by simpa using hm)]
theorem KeptR.mem_ids {t : Sto} {F : Frag} (h : KeptR t F) (x : Id) : x ∈ t.ids ↔ (F x).isSome = true := by
  rw [Sto.mem_ids h.keys]
  cases hx : F x with
  | none => simp [h.at_none hx]
  | some b => simp [(h.at_some hx).2]
/-- Put, where there is no room. -/
theorem KeptR.put_full {t : Sto} {F : Frag} (h : KeptR t F) {x : Id} (hm : mayId x = true) (hF : F x = none) {b : List UInt8} (hb : b.length ≤ 448) (hr : t.room = 0) : t.put x b = (5, t) := by
  have hfree : t.s.free < 0 := by
    unfold SS.free
    rcases rowFree_spec t.s.rows 0 with ⟨h1, _⟩ | ⟨n, h1, h2, h3, _⟩
    · rw [h1]; omega
    · unfold Sto.room at hr
      have := List.countP_eq_zero.1 hr _ (row_mem h1)
      rw [h3] at this; simp at this
  unfold Sto.put
  rw [if_neg (by simp [hm]), if_neg (by omega), h.at_none hF]
  dsimp only
  rw [if_pos hfree]
/-- Put, where there is one. -/
theorem KeptR.put_there {t : Sto} {F : Frag} (h : KeptR t F) {x : Id} {c : List UInt8} (hF : F x = some c) (b : List UInt8) (hb : b.length ≤ 448) : t.put x b = (if c = b then 0 else 7, t) := by
  obtain ⟨hm, hne⟩ := h.at_some hF
  have hg := h.get x
  rw [if_neg (by simp [hm]), hF] at hg
  unfold Sto.get at hg
  rw [if_neg (by simp [hm])] at hg
  unfold Sto.put
  rw [if_neg (by simp [hm]), if_neg (by omega)]
  cases hat : t.at x with
  | nil => exact absurd hat hne
  | cons i r =>
    rw [hat] at hg
    dsimp only at hg ⊢
    rw [hg, if_neg (by simp)]
    split <;> rfl
theorem KeptR.put_bad {t : Sto} {F : Frag} (h : KeptR t F) {x : Id} {b : List UInt8} (hm : mayId x = false ∨ 448 < b.length) : (t.put x b).1 ≠ 0 ∧ (t.put x b).2 = t := by
  unfold Sto.put
  by_cases h1 : mayId x = false
  · rw [if_pos h1]; exact ⟨by simp, rfl⟩
  · rw [if_neg h1, if_pos (by rcases hm with h2 | h2; exact absurd h2 h1; exact h2)]
    exact ⟨by simp, rfl⟩

end Go.Proofs.YtdkhmfcfihbjeaaGreatDoor.W

/- A store on a disk that may die, plainly: Put, Delete, a crash. -/
namespace Go.Proofs.YtdkhmfcfihbjeaaGreatDoor.W
set_option linter.unusedVariables false
set_option linter.unusedSimpArgs false

/-! ### What lasts, as long as it lives -/
def DS.Fair (d : DS) : Prop := d.dead = false → ∀ i, applied d.since d.lasts i = d.now i
theorem DS.Fair.write {d : DS} (h : d.Fair) (k : Int) (b : List UInt8) : (d.write k b).2.Fair := by
  unfold DS.write
  split
  · exact h
  · rename_i hd
    have h := h (by simpa using hd)
    split
    · unfold DS.op
      by_cases hf : d.fuse = 0
      · simp only [hf, if_true]
        intro hh; cases hh
      · simp only [hf, if_false, if_true]
        intro _ i
        show applied (d.since ++ [(k.toNat, b)]) d.lasts i = upd d.now k.toNat b i
        rw [applied_snoc]
        unfold upd
        split
        · rfl
        · exact h i
    · exact fun _ => h
theorem DS.Fair.sync {d : DS} (h : d.Fair) : (d.sync).2.Fair := by
  unfold DS.sync
  split
  · exact h
  · rename_i hd
    have h := h (by simpa using hd)
    unfold DS.op
    by_cases hf : d.fuse = 0
    · simp only [hf, if_true]
      intro hh; cases hh
    · simp only [hf, if_false, if_true]
      intro _ i
      exact h i
theorem DS.Fair.wipe : ∀ (k a : Nat) (d : DS), d.Fair → (d.wipe k a).2.Fair
  | 0, a, d, h => h.sync
  | k + 1, a, d, h => by
    unfold DS.wipe
    split
    · exact h.write _ _
    · exact DS.Fair.wipe k (a + 8) _ (h.write _ _)
theorem DS.Fair.sign {d : DS} (h : d.Fair) (n : UInt8) : (d.sign n).2.Fair := by
  unfold DS.sign
  split
  · exact h.write _ _
  · exact (h.write _ _).sync
theorem format_fair {d : DS} (h : d.Fair) : d.format.2.Fair := by
  have h1 : d.fmt1.2.Fair := h.wipe _ _
  have h2 : d.fmt2.2.Fair := h1.sign 1
  unfold DS.format
  split
  · exact h
  · split
    · exact h1
    · split
      · exact h2
      · exact h2
theorem KeptR.new (n : Nat) (h9 : 9 ≤ n) : ∃ t d, (DS.new n).format = ((0, some t), d) ∧ KeptR t (fun _ => none) ∧ t.s.d = d ∧ t.s.rows = List.replicate ((n - 1) / 8) noRow ∧ d.n = n ∧ d.ops ≤ n ∧ t.whole = false ∧ d.Live := by
  obtain ⟨d, h1, h2, h3, h4, h5, h6, h7⟩ := format_new n h9
  have hf : d.Fair := by
    have := format_fair (d := DS.new n) (fun _ _ => rfl)
    rw [h1] at this
    exact this
  have hl : ∀ i, d.lasts i = d.now i := fun i => by
    have := hf h2.1 i
    rw [h4] at this
    exact this
  refine ⟨_, d, h1, ⟨⟨fun _ => false, fun _ => [], ⟨⟨h2.1, h4, hl⟩, by show 1 + 8 * (List.replicate _ noRow).length ≤ d.n; rw [List.length_replicate]; omega, fun k hk => ?_, fun k hk => ?_, fun k hk hu => by cases hu⟩, fun x hx => .inl ⟨rfl, ?_⟩⟩, fun _ _ => rfl, fun r hr hu => ?_, rfl, ⟨?_, by show 9 ≤ d.n; omega⟩, ⟨h7, by show d.lasts 0 = _; rw [hl]; exact h7, by show ∀ x ∈ d.since, _; rw [h4]; simp⟩⟩, rfl, rfl, h3, h6, rfl, h2⟩
  · rw [List.length_replicate] at hk
    show headOf (d.now (1 + 8 * k)) = _
    rw [h5 _ (by omega), List.getD_eq_getElem?_getD, List.getElem?_replicate, if_pos hk]
    rfl
  · rw [List.length_replicate] at hk
    show ((List.replicate _ noRow).getD k noRow).used = false
    rw [List.getD_eq_getElem?_getD, List.getElem?_replicate, if_pos hk]
    rfl
  · rw [Sto.at_may hx]
    cases hu : upto (List.replicate ((n - 1) / 8) noRow) (List.replicate ((n - 1) / 8) noRow).length (idKey x) with
    | nil => rfl
    | cons j r =>
      have hj : j ∈ upto (List.replicate ((n - 1) / 8) noRow) (List.replicate ((n - 1) / 8) noRow).length (idKey x) := by rw [hu]; simp
      obtain ⟨a, b, _⟩ := upto_mem.1 hj
      rw [List.length_replicate] at a
      rw [List.getD_eq_getElem?_getD, List.getElem?_replicate, if_pos a] at b
      simp [noRow] at b
  · obtain rfl := List.eq_of_mem_replicate hr
    simp [noRow] at hu
  · show (d.n - 1) / 8 = (List.replicate ((n - 1) / 8) noRow).length
    rw [List.length_replicate, h3]

/-! ### One row is set -/
section
variable {t : Sto} {F : Frag} {u : Nat → Bool} {v : Nat → List UInt8} {x : Id} {b : List UInt8} {i : Nat} {d2 : DS}
/-- What a store's slots tell. -/
def Tells (t : Sto) (F : Frag) (u : Nat → Bool) (v : Nat → List UInt8) : Prop := ∀ x, mayId x = true → (F x = none ∧ t.at x = []) ∨ ∃ i b, F x = some b ∧ t.at x = [i] ∧ v i = b
theorem KeptR.same_row (h : KeptR t F) (ht : ToldR { t.s with d := d2 } u v) (ha : Tells t F u v) (hz : d2.Zero ((if t.whole then 2 else 1) :: zeros 63)) (hn : d2.n = t.s.d.n) : KeptR ⟨{ t.s with d := d2 }, t.whole⟩ F :=
  ⟨⟨u, v, ht, ha⟩, h.out, h.keys, h.first, ⟨by show (d2.n - 1) / 8 = _; rw [hn]; exact h.full.1, by show 9 ≤ d2.n; rw [hn]; exact h.full.2⟩, hz⟩
theorem KeptR.put_row (h : KeptR t F) (hm : mayId x = true) (hF : F x = none) (hil : i < t.s.rows.length) (hiu : (t.s.rows.getD i noRow).used = false)
    (ht : ToldR { t.s with d := d2, rows := t.s.rows.set i ⟨true, b.length, idKey x⟩ } (fun j => if j = i then true else u j) (fun j => if j = i then b else v j)) (ha : Tells t F u v) (hz : d2.Zero ((if t.whole then 2 else 1) :: zeros 63)) (hn : d2.n = t.s.d.n) :
    KeptR ⟨{ t.s with d := d2, rows := t.s.rows.set i ⟨true, b.length, idKey x⟩ }, t.whole⟩ (setF F x (some b)) := by
  have hat := h.at_none hF
  have hat2 : upto t.s.rows t.s.rows.length (idKey x) = [] := by rw [← Sto.at_may hm]; exact hat
  have hat' : ∀ y, mayId y = true → Sto.at ⟨{ t.s with d := d2, rows := t.s.rows.set i ⟨true, b.length, idKey x⟩ }, t.whole⟩ y = if y = x then [i] else t.at y := fun y hy => by
    rw [Sto.at_may hy, Sto.at_may hy]
    show upto (t.s.rows.set i ⟨true, b.length, idKey x⟩) (t.s.rows.set i ⟨true, b.length, idKey x⟩).length (idKey y) = _
    rw [upto_put hil hiu hat2]
    by_cases e : y = x
    · subst e; rw [if_pos rfl, if_pos rfl]
    · rw [if_neg e, if_neg (fun h => e (idKey_inj hy hm h))]
  refine ⟨⟨_, _, ht, fun y hy => ?_⟩, fun y hy => ?_, h.keys.set i (fun _ => (un_key hm).2), h.first, ⟨?_, by show 9 ≤ d2.n; rw [hn]; exact h.full.2⟩, hz⟩
  · rw [hat' y hy]
    by_cases e : y = x
    · subst e
      rw [setF_self, if_pos rfl]
      exact .inr ⟨i, b, rfl, rfl, by simp⟩
    · rw [setF_other _ _ e, if_neg e]
      rcases ha y hy with h1 | ⟨j, c, h1, h2, h3⟩
      · exact .inl h1
      · refine .inr ⟨j, c, h1, h2, ?_⟩
        have hj : j ∈ upto t.s.rows t.s.rows.length (idKey y) := by rw [← Sto.at_may hy, h2]; simp
        obtain ⟨_, hju, _⟩ := upto_mem.1 hj
        have : j ≠ i := fun e => by subst e; rw [hiu] at hju; cases hju
        simp only [this, if_false]
        exact h3
  · have : y ≠ x := fun e => by subst e; rw [hm] at hy; cases hy
    rw [setF_other _ _ this]
    exact h.out y hy
  · show (d2.n - 1) / 8 = (t.s.rows.set i ⟨true, b.length, idKey x⟩).length
    rw [List.length_set, hn]; exact h.full.1
theorem KeptR.clear_row (h : KeptR t F) (hm : mayId x = true) (hat : t.at x = [i])
    (ht : ToldR { t.s with d := d2, rows := t.s.rows.set i noRow } (fun j => if j = i then false else u j) v) (ha : Tells t F u v) (hz : d2.Zero ((if t.whole then 2 else 1) :: zeros 63)) (hn : d2.n = t.s.d.n) :
    KeptR ⟨{ t.s with d := d2, rows := t.s.rows.set i noRow }, t.whole⟩ (setF F x none) := by
  have hat2 : upto t.s.rows t.s.rows.length (idKey x) = [i] := by rw [← Sto.at_may hm]; exact hat
  have hat' : ∀ y, mayId y = true → Sto.at ⟨{ t.s with d := d2, rows := t.s.rows.set i noRow }, t.whole⟩ y = if y = x then [] else t.at y := fun y hy => by
    rw [Sto.at_may hy, Sto.at_may hy]
    show upto (t.s.rows.set i noRow) (t.s.rows.set i noRow).length (idKey y) = _
    rw [upto_clear hat2]
    by_cases e : y = x
    · subst e; rw [if_pos rfl, if_pos rfl]
    · rw [if_neg e, if_neg (fun h => e (idKey_inj hy hm h))]
  refine ⟨⟨_, _, ht, fun y hy => ?_⟩, fun y hy => ?_, h.keys.set i (fun h => by simp [noRow] at h), h.first, ⟨?_, by show 9 ≤ d2.n; rw [hn]; exact h.full.2⟩, hz⟩
  · rw [hat' y hy]
    by_cases e : y = x
    · subst e
      rw [setF_self, if_pos rfl]
      exact .inl ⟨rfl, rfl⟩
    · rw [setF_other _ _ e, if_neg e]
      exact ha y hy
  · have : y ≠ x := fun e => by subst e; rw [hm] at hy; cases hy
    rw [setF_other _ _ this]
    exact h.out y hy
  · show (d2.n - 1) / 8 = (t.s.rows.set i noRow).length
    rw [List.length_set, hn]; exact h.full.1
end
theorem SS.eta3 (s z : SS) (rows : List SRow) (h1 : z.first = s.first) (h2 : z.rows = rows) : z = { s with d := z.d, rows := rows } := by
  obtain ⟨d, f, r⟩ := z
  dsimp only at h1 h2
  subst h1; subst h2
  rfl
/-- Put, where there is none and there is room: it is done, or the disk dies. -/
theorem KeptR.put_may {t : Sto} {F : Frag} (h : KeptR t F) {x : Id} (hm : mayId x = true) (hF : F x = none) {b : List UInt8} (hb : b.length ≤ 448) (hr : 0 < t.room) :
    ((t.put x b).1 = 0 ∧ KeptR (t.put x b).2 (setF F x (some b)) ∧ (t.put x b).2.room + 1 = t.room ∧ (t.put x b).2.whole = t.whole) ∨
    ((t.put x b).1 = 14 ∧ (t.put x b).2.s.d.dead = true ∧ ∀ ch, Reopens ((t.put x b).2.s.d.crash ch) t.whole F ∨ Reopens ((t.put x b).2.s.d.crash ch) t.whole (setF F x (some b))) := by
  have hfree : ¬ t.s.free < 0 := by
    intro hf
    unfold SS.free at hf
    rcases rowFree_spec t.s.rows 0 with ⟨_, h2⟩ | ⟨n, h1, h2, h3, _⟩
    · unfold Sto.room at hr
      obtain ⟨r, hr1, hr2⟩ := List.countP_pos_iff.1 hr
      rw [h2 r hr1] at hr2; simp at hr2
    · rw [h2] at hf; omega
  obtain ⟨i, hfi, hil, hiu⟩ := SS.free_ok hfree
  have hat := h.at_none hF
  obtain ⟨u, v, htold, hall⟩ := h.told
  have hui : u i = false := by rw [← htold.used i hil]; exact hiu
  have hput : t.put x b = ((t.s.put (i : Int) (idKey x) b).1, { t with s := (t.s.put (i : Int) (idKey x) b).2 }) := by
    unfold Sto.put
    rw [if_neg (by simp [hm]), if_neg (by omega), hat]
    dsimp only
    rw [if_neg hfree, hfi]
  have hz := h.zero.put (by rw [h.first]; simp) (i : Int) (idKey x) b
  rw [hput]
  dsimp only
  rcases htold.put2 i hil (idKey x) b hui (by rw [idKey_len]; omega) hb with ⟨p1, p2, p3, p4, p5⟩ | ⟨p1, p2, p3, p4, p5, p6⟩
  · left
    obtain ⟨_, _, hrows⟩ := SS.put_done p1
    have hrows' : (t.s.put (i : Int) (idKey x) b).2.rows = t.s.rows.set i ⟨true, b.length, idKey x⟩ := by rw [hrows]; simp
    have e := SS.eta3 t.s _ _ p4 hrows'
    refine ⟨p1, ?_, ?_, rfl⟩
    · rw [e] at p2
      show KeptR ⟨(t.s.put (i : Int) (idKey x) b).2, t.whole⟩ _
      rw [e]
      exact h.put_row hm hF hil hiu p2 hall hz p5
    · show (t.s.put (i : Int) (idKey x) b).2.rows.countP (fun r => !r.used) + 1 = t.s.rows.countP (fun r => !r.used)
      rw [hrows']
      have := countP_put ⟨true, b.length, idKey x⟩ hil (fun r => !r.used)
      simp only [hiu, Bool.not_false, if_true, Bool.not_true, Bool.false_eq_true, if_false, Nat.add_zero] at this
      exact this
  · right
    refine ⟨p1, p4, fun ch => ?_⟩
    have hzc := hz.crash ch
    have hnc : ((t.s.put (i : Int) (idKey x) b).2.d.crash ch).n = t.s.d.n := p5
    rcases p6 ch with h6 | h6
    · exact .inl (reopens_of (h.same_row h6 hall hzc hnc))
    · exact .inr (reopens_of (h.put_row hm hF hil hiu h6 hall hzc hnc))
/-- Delete: it is done, or the disk dies. -/
theorem KeptR.del_may {t : Sto} {F : Frag} (h : KeptR t F) {x : Id} (hm : mayId x = true) :
    ((t.del x).1 = 0 ∧ KeptR (t.del x).2 (setF F x none) ∧ (t.del x).2.room = t.room + (if (F x).isSome then 1 else 0) ∧ (F x = none → (t.del x).2 = t) ∧ (t.del x).2.whole = t.whole) ∨
    ((t.del x).1 = 14 ∧ (t.del x).2.s.d.dead = true ∧ (F x).isSome = true ∧ ∀ ch, Reopens ((t.del x).2.s.d.crash ch) t.whole F ∨ Reopens ((t.del x).2.s.d.crash ch) t.whole (setF F x none)) := by
  obtain ⟨u, v, htold, hall⟩ := h.told
  unfold Sto.del
  rw [if_neg (by simp [hm])]
  rcases hall x hm with ⟨h1, h2⟩ | ⟨i, b, h1, h2, h3⟩
  · left
    rw [h2, h1]
    have e : setF F x none = F := by
      funext y
      unfold setF
      split
      · rename_i e; rw [e, h1]
      · rfl
    rw [e]
    exact ⟨rfl, h, rfl, fun _ => rfl, rfl⟩
  · have hi : i ∈ upto t.s.rows t.s.rows.length (idKey x) := by rw [← Sto.at_may hm, h2]; simp
    obtain ⟨hil, hiu, hik⟩ := upto_mem.1 hi
    have hui : u i = true := by rw [← htold.used i hil]; exact hiu
    have hz := h.zero.clear (by rw [h.first]; simp) (i : Int)
    have e2 : (fun j => if j = i then v i else v j) = v := by funext j; split <;> simp_all
    rcases htold.clear2 i hil hui with ⟨p1, p2, p3, p4, p5⟩ | ⟨p1, p2, p3, p4, p5, p6⟩
    · left
      have hcl : t.s.clears [i] = (0, (t.s.clear (i : Int)).2) := by
        unfold SS.clears
        rw [if_neg (by rw [p1]; simp)]
        rfl
      rw [h2, hcl, h1]
      obtain ⟨_, _, hrows⟩ := SS.clear_done p1
      have hrows' : (t.s.clear (i : Int)).2.rows = t.s.rows.set i noRow := by rw [hrows]; simp
      have e := SS.eta3 t.s _ _ p4 hrows'
      refine ⟨rfl, ?_, ?_, (fun h => by cases h), rfl⟩
      · rw [e] at p2
        show KeptR ⟨(t.s.clear (i : Int)).2, t.whole⟩ _
        rw [e]
        exact h.clear_row hm h2 p2 hall hz p5
      · show (t.s.clear (i : Int)).2.rows.countP (fun r => !r.used) = t.s.rows.countP (fun r => !r.used) + _
        rw [hrows']
        have := countP_put noRow hil (fun r => !r.used)
        rw [hiu] at this
        simpa [noRow] using this
    · right
      have hcl : t.s.clears [i] = (14, (t.s.clear (i : Int)).2) := by
        unfold SS.clears
        rw [if_pos (by rw [p1]; simp)]
        rw [← p1]
      rw [h2, hcl, h1]
      refine ⟨rfl, p4, rfl, fun ch => ?_⟩
      have hzc := hz.crash ch
      have hnc : ((t.s.clear (i : Int)).2.d.crash ch).n = t.s.d.n := p5
      rcases p6 ch with h6 | h6
      · exact .inl (reopens_of (h.same_row h6 hall hzc hnc))
      · rw [e2] at h6
        exact .inr (reopens_of (h.clear_row hm h2 h6 hall hzc hnc))
/-- At rest, a crash loses nothing. -/
theorem KeptR.crash {t : Sto} {F : Frag} (h : KeptR t F) (ch : List UInt8) : Reopens (t.s.d.crash ch) t.whole F := by
  obtain ⟨u, v, htold, hall⟩ := h.told
  exact reopens_of (h.same_row (htold.crash ch) hall (h.zero.crash ch) rfl)
theorem KeptR.fuse {t : Sto} {F : Frag} (h : KeptR t F) (n : Int) : KeptR ⟨{ t.s with d := t.s.d.setFuse n }, t.whole⟩ F := by
  obtain ⟨u, v, htold, hall⟩ := h.told
  exact h.same_row (htold.fuse n) hall ⟨h.zero.now, h.zero.lasts, h.zero.since⟩ rfl
end Go.Proofs.YtdkhmfcfihbjeaaGreatDoor.W

/- The reference's Same. -/
namespace Go.Proofs.YtdkhmfcfihbjeaaGreatDoor.W
open Go.RowKit
set_option linter.unusedVariables false
set_option linter.unusedSimpArgs false

theorem same_of (l m : List UInt8) (h : l.length = m.length) (hq : ∀ q, q < l.length → l.getD q 0 = m.getD q 0) : l = m := by
  apply List.ext_getElem h
  intro i h1 h2
  have := hq i h1
  simpa [List.getD_eq_getElem?_getD, List.getElem?_eq_getElem h1, List.getElem?_eq_getElem h2] using this
theorem bv_neq (a b : UInt8) (h : a ≠ b) : (((a.toNat : Int) != (b.toNat : Int)) = true) := by
  rw [bne_iff_ne]
  intro e
  exact h (UInt8.toNat_inj.1 (by omega))

set_option maxHeartbeats 4000000 in
set_option maxRecDepth 100000 in
/-- Same. -/
theorem same_any (u v : Value) (l m : List UInt8) (w : World) (hu : BytesAt w u l) (hv : BytesAt w v m) (hl : l.length ≤ 1000000000) (hm : m.length ≤ 1000000000) :
    Calls Tryz.prog 22 #[u, v] w fun e w' => e = .returned (.bool (decide (l = m))) ∧ ∃ n, w' = w.drewN n := by
  obtain ⟨au, cu, rfl, hlu, _, hu⟩ := hu
  obtain ⟨av, cv, rfl, hlv, _, hv⟩ := hv
  obtain ⟨d, hd⟩ : ∃ d, d = decide (l = m) := ⟨_, rfl⟩
  rw [← hd]
  have HD := Lib.hid hd
  clear hd
  have HU := Lib.hid hu
  have HV := Lib.hid hv
  clear hu hv
  by_cases hlen : l.length = m.length
  · have hmz : ((l.length : Int) != (m.length : Int)) = false := by rw [hlen]; simp
    have HL := Lib.hid hlen
    have hml : m.length = l.length := hlen.symm
    rw [hml]
    clear hlen hml hmz
    go_enter Tryz.func22, Tryz.ntmps22
    go_wp2
    go_loopg [5] l.length (fun g' s5 wr => ∃ (j n : Nat), s5 = .int .i64 j ∧ j ≤ l.length ∧ l.length ≤ j + g' ∧ Hid (∀ q, q < j → l.getD q 0 = m.getD q 0) ∧ wr = w.drewN n)
    case atStart => exact ⟨0, 0, rfl, by omega, by omega, fun q hq => absurd hq (by omega), rfl⟩
    case round =>
      obtain ⟨j, n, rfl, hj, hjg, HQ, rfl⟩ := hrel
      by_cases hlt : j < l.length
      · rcases HU.out with ⟨h0, _⟩ | ⟨gu, ou, rfl, hcu⟩
        · rw [h0] at hlt; simp at hlt
        rcases HV.out with ⟨h0, _⟩ | ⟨gv, ov, rfl, hcv⟩
        · have := HL.out; rw [h0, List.length_nil] at this; omega
        obtain ⟨x, hx, c0⟩ : ∃ x, l.getD j 0 = x ∧ w.cell? ⟨gu, ou + j, none⟩ = some (.int .u8 (x.toNat : Int)) := ⟨_, rfl, hcu j hlt⟩
        obtain ⟨y, hy, c1⟩ : ∃ y, m.getD j 0 = y ∧ w.cell? ⟨gv, ov + j, none⟩ = some (.int .u8 (y.toNat : Int)) := ⟨_, rfl, hcv j (by rw [← HL.out]; exact hlt)⟩
        have HX := Lib.hid hx
        have HY := Lib.hid hy
        have hjz : (j : Int) < (l.length : Int) := by omega
        have hjz0 : (0 : Int) ≤ (j : Int) := by omega
        have hjz1 : (j : Int).toNat = j := by omega
        clear hcu hcv hx hy
        by_cases hxy : x = y
        · subst hxy
          go_wp2
          go_quiet (fail)
          go_wp2
          go_roundg (gk - 1)
          case measure => omega
          case rel =>
            refine ⟨j + 1, _, by go_num, by omega, by omega, ?_, rfl⟩
            intro q hq
            rcases Nat.lt_or_ge q j with h | h
            · exact HQ.out q h
            · obtain rfl : q = j := by omega
              rw [HX.out, HY.out]
        · have hne := bv_neq x y hxy
          have hd : Hid (d = false) := Lib.hid (by
            rw [HD.out, decide_eq_false_iff_not]
            intro e
            have h1 := HX.out
            rw [e] at h1
            exact hxy (h1.symm.trans HY.out))
          clear hxy
          go_wp2
          go_quiet (fail)
          go_wp2
          go_ret
          exact ⟨ret_bool hd.out.symm, _, World.drewN_drewN ..⟩
      · have hd : Hid (d = true) := Lib.hid (by
          rw [HD.out, decide_eq_true_iff]
          exact same_of l m HL.out (fun q hq => HQ.out q (by omega)))
        go_wp2
        go_ret
        exact ⟨ret_bool hd.out.symm, _, rfl⟩
  · have hmz : ((l.length : Int) != (m.length : Int)) = true := by rw [bne_iff_ne]; omega
    have hd : Hid (d = false) := Lib.hid (by
      rw [HD.out, decide_eq_false_iff_not]
      intro e
      exact hlen (by rw [e]))
    clear hlen
    go_enter Tryz.func22, Tryz.ntmps22
    go_wp2
    go_ret
    exact ⟨ret_bool hd.out.symm, 0, rfl⟩
end Go.Proofs.YtdkhmfcfihbjeaaGreatDoor.W

/- The law's own: equality of ids, Id, a store of its own. -/
namespace Go.Proofs.YtdkhmfcfihbjeaaGreatDoor.W
open Go.RowKit
set_option linter.unusedVariables false
set_option linter.unusedSimpArgs false

theorem lits_id3 (m : Nat) (x : Id) : Tryz.prog.keyLits (m + 3) 38 (idC x).toList = litD (idC x).toList := by
  unfold Program.keyLits
  simp only [Tryz.underlying38, cells_id]
  rw [if_pos ⟨rfl, by kernel_rfl⟩]
  simp only [List.mapM_cons, List.mapM_nil, cells_intD, cells_stripe, List.drop_zero, List.drop_succ_cons, List.take_succ_cons, List.take_zero, lits_int, lits_stripe, litD]
  generalize litI (.int .i64 x.c) = a
  generalize litI (.int .i64 x.l) = b
  generalize litI (.int .i64 x.n) = c
  generalize litI (.int .i64 x.i) = d
  cases a <;> cases b <;> cases c <;> cases d <;> simp
theorem litD_ok {x : Id} (h : okD x) : litD (idC x).toList = some [.int .i64 x.c, .int .i64 x.l, .int .i64 x.n, .int .i64 x.i] := by
  obtain ⟨h1, h2, h3, h4⟩ := h
  simp [litD, litI_ok h1, litI_ok h2, litI_ok h3, litI_ok h4]
theorem eq_id (x y : Id) (hx : okD x) (hy : okD y) (w : World) : (binOp .eql 38 (idV x) (idV y)).run Tryz.prog w = .ok (.bool (decide (x = y))) w := by
  rw [run_eql_struct]
  obtain ⟨r, h1, h2⟩ := run_equalIn_deep (P := Tryz.prog) 9997 3 38 (by kernel_rfl) w 3 3 (idV x) (idV y) _ _
    (by simp [Value.formed, Tryz.underlying38, cells_id]) (by simp [Value.formed, Tryz.underlying38, cells_id])
    (by simpa [Value.cells] using (lits_id3 0 x).trans (litD_ok hx)) (by simpa [Value.cells] using (lits_id3 0 y).trans (litD_ok hy))
  have hr : r = decide (x = y) := by
    by_cases e : x = y
    · rw [decide_eq_true e]; exact h2.2 (by rw [e])
    · rw [decide_eq_false e]
      cases r with
      | false => rfl
      | true =>
        refine absurd ?_ e
        have := h2.1 rfl
        obtain ⟨a, b, c, d⟩ := x
        obtain ⟨a', b', c', d'⟩ := y
        simpa using this
  rw [← hr]
  have h3 : (Op.equalIn 10000 38 (idV x) (idV y)).run Tryz.prog w = .ok r w := h1
  rw [h3]
  rfl
theorem ret_id1 {fn : Func} {p : Tmp} (h : fn.results = #[.cell p 38]) (tmps : Array Value) {w : World} {b t : Nat} {x : Id} (hp : tmps.getD p undef = .pointer (some ⟨b, 0, none⟩)) (hb : w.heap[b]? = some (.cells (idC x) t (0, 0))) :
    (results fn tmps).run Tryz.prog w = .ok (idV x) w := by
  have hl := run_loadVar_row (P := Tryz.prog) w b t 38 (idC x) (0, 0) _ hb Tryz.underlying38 rfl (by rw [idSize]; rfl)
  have e : (results fn tmps).run Tryz.prog w = ((asAddr (tmps.getD p undef)).run Tryz.prog w).andThen fun a w₁ => (loadVar 38 a).run Tryz.prog w₁ := by
    simp only [results, h]
    simp [Sem.run_bind, Result.andThen]
  rw [e, hp]
  simp only [asAddr, Sem.run_pure, Result.andThen_ok, hl]
set_option maxHeartbeats 2000000 in
set_option maxRecDepth 100000 in
theorem lawid_any (c l n i : Int) (w : World) : Calls Tryz.prog 36 #[.int .i64 c, .int .i64 l, .int .i64 n, .int .i64 i] w fun e w' => e = .returned (.agg #[.int .i64 c, .int .i64 l, .int .i64 n, .int .i64 i]) ∧ Chg [] w w' := by
  go_enter Tryz.func36, Tryz.ntmps36
  go_wp2_with fail
  have HW := Lib.hid (show (w.alloc (.cells (idC ⟨c, l, n, i⟩) 38)).heap[w.heap.size]? = some (.cells (idC ⟨c, l, n, i⟩) 38 (0, 0)) from heap_alloc_new w _)
  refine bodyPost_ret (ret_id1 rfl _ rfl HW.out) rfl ?_
  exact ⟨rfl, (Chg.refl [] w).alloc _⟩

/-! ### A store of the law's own -/
def Kp (X : List Nat) (w w' : World) : Prop := ∀ k ∈ X, w'.heap[k]? = w.heap[k]?
theorem Kp.refl (X : List Nat) (w : World) : Kp X w w := fun _ _ => rfl
theorem Kp.trans {X : List Nat} {a b c : World} (h : Kp X a b) (k : Kp X b c) : Kp X a c := fun x hx => (k x hx).trans (h x hx)
theorem Kp.bytes {X : List Nat} {w w' : World} {v : Value} {l : List UInt8} (h : BytesAt w v l) (hk : Kp X w w') (hX : ∀ g, v.ownBlock = some g → g ∈ X) : BytesAt w' v l := h.keep fun g hg => hk g (hX g hg)
/-- All its blocks are new since w0, and none of them is in X. -/
def Own6 (X : List Nat) (w0 w : World) (q p : Nat) (t : Sto) : Prop := ∃ U, StAt [] w q p U t ∧ (∀ x ∈ U, w0.heap.size ≤ x) ∧ Chg [] w0 w ∧ ∀ x ∈ X, x ∉ U ∧ x < w.heap.size
variable {X : List Nat} {w0 w : World} {q p : Nat} {t : Sto}
theorem Own6.chg (h : Own6 X w0 w q p t) : Chg [] w0 w := by obtain ⟨U, h1, h2, h3, h4⟩ := h; exact h3
theorem Own6.keep0 {w' : World} (h : Own6 X w0 w q p t) (hc : Chg [] w w') : Own6 X w0 w' q p t := by
  obtain ⟨U, h1, h2, h3, h4⟩ := h
  exact ⟨U, h1.keep0 hc, h2, h3.trans hc (by simp), fun x hx => ⟨(h4 x hx).1, Nat.lt_of_lt_of_le (h4 x hx).2 hc.size⟩⟩
theorem Own6.add {Y : List Nat} {w' : World} (h : Own6 X w0 w q p t) (hc : Chg [] w w') (hY : ∀ k ∈ Y, k ∈ X ∨ w.heap.size ≤ k ∧ k < w'.heap.size) : Own6 Y w0 w' q p t := by
  obtain ⟨U, h1, h2, h3, h4⟩ := h
  refine ⟨U, h1.keep0 hc, h2, h3.trans hc (by simp), fun x hx => ?_⟩
  rcases hY x hx with h5 | ⟨h5, h6⟩
  · exact ⟨(h4 x h5).1, Nat.lt_of_lt_of_le (h4 x h5).2 hc.size⟩
  · exact ⟨fun hm => by have := h1.lim x hm; omega, h6⟩
theorem Own6.mono {Y : List Nat} (h : Own6 X w0 w q p t) (hY : ∀ x ∈ Y, x ∈ X) : Own6 Y w0 w q p t := by
  obtain ⟨U, h1, h2, h3, h4⟩ := h
  exact ⟨U, h1, h2, h3, fun x hx => h4 x (hY x hx)⟩
theorem Own6.did {w' : World} {t' : Sto} {U : List Nat} (h2 : ∀ x ∈ U, w0.heap.size ≤ x) (h3 : Chg [] w0 w) (h4 : ∀ x ∈ X, x ∉ U ∧ x < w.heap.size) (hd : Std [] w w' q p U t') : Own6 X w0 w' q p t' ∧ Kp X w w' := by
  obtain ⟨U', d1, d2, d3⟩ := hd
  have hs := h3.size
  refine ⟨⟨U', d1, fun x hx => ?_, h3.trans d3 (fun x hx => .inr (h2 x hx)), fun x hx => ⟨fun hm => ?_, Nat.lt_of_lt_of_le (h4 x hx).2 d3.size⟩⟩, fun x hx => d3.block x (h4 x hx).2 (h4 x hx).1⟩
  · rcases d2 x hx with h | h
    · exact h2 x h
    · omega
  · rcases d2 x hm with h | h
    · exact (h4 x hx).1 h
    · have := (h4 x hx).2; omega
/-- A new disk. -/
theorem own_disk (n : Nat) (w : World) (h2 : 2 ≤ n) (hm : n ≤ 4160) : Calls Tryz.prog 14 #[.int .i64 (n : Int)] w fun e w' => ∃ p S, e = .returned (.tuple #[.pointer (some ⟨p, 0, none⟩), .int .i64 0]) ∧ DiskAt w' p S (DS.new n) ∧ (∀ x ∈ S, w.heap.size ≤ x) ∧ Chg [] w w' :=
  (dnew_any n w h2 hm).mono fun e w' ⟨p, S, h1, h3, h4, h5⟩ => ⟨p, S, h1, h3, h4, h5⟩
/-- A new store. -/
theorem own_format {S : List Nat} {w1 : World} {n : Nat} {t : Sto} {d : DS} (hd : DiskAt w1 p S (DS.new n)) (hS : ∀ x ∈ S, w0.heap.size ≤ x) (hc : Chg [] w0 w1) (hf : (DS.new n).format = ((0, some t), d)) : Calls Tryz.prog 37 #[.pointer (some ⟨p, 0, none⟩)] w1 fun e w' => ∃ q, e = .returned (.tuple #[.pointer (some ⟨q, 0, none⟩), .int .i64 0]) ∧ Own6 [] w0 w' q p t := by
  have h := format_any p S (DS.new n) w1 hd (by show 0 ≤ _; omega) (by show 0 ≤ _; omega)
  rw [hf] at h
  refine h.mono ?_
  rintro e w' ⟨q, U, rfl, h1, h2, h3⟩
  have hs := hc.size
  refine ⟨q, rfl, U, h1, fun x hx => ?_, hc.trans h3 (fun x hx => .inr (hS x hx)), by simp⟩
  rcases h2 x hx with h | h
  · exact hS x h
  · omega
theorem one_byte6 (w : World) (a : UInt8) : BytesAt (w.alloc (.cells #[bv a] 5)) (.slice (some ⟨w.heap.size, 0, none⟩) 1 1) [a] :=
  (row_of_block (l := [a]) (heap_alloc_new w _) (by unfold maxLen; simp)).bytes
end Go.Proofs.YtdkhmfcfihbjeaaGreatDoor.W

/- The law's awake. -/
namespace Go.Proofs.YtdkhmfcfihbjeaaGreatDoor.W
open Go.RowKit
set_option linter.unusedVariables false
set_option linter.unusedSimpArgs false

theorem okD_c : okD ⟨1, 0, 5, 2⟩ := by decide

end Go.Proofs.YtdkhmfcfihbjeaaGreatDoor.W

/- Ids that came in: as an argument, in a slice. -/
namespace Go.Proofs.YtdkhmfcfihbjeaaGreatDoor.W
open Go.RowKit Go.ChangeShapes Go.WideShapes
set_option linter.unusedVariables false
set_option linter.unusedSimpArgs false

theorem fieldsI : ∃ f0 f1 : Field, Tryz.prog.underlying 38 = some (.struct #[f0, f1]) ∧ f0.offset = 0 ∧ f1.offset = 3 ∧ f0.type = 36 ∧ Tryz.prog.underlying f1.type = some (.int .i64) ∧ Tryz.prog.cellsOf f1.type = 1 :=
  ⟨_, _, Tryz.underlying38, rfl, rfl, rfl, by kernel_rfl, by kernel_rfl⟩
theorem fieldsT : ∃ f0 f1 f2 : Field, Tryz.prog.underlying 36 = some (.struct #[f0, f1, f2]) ∧ f0.offset = 0 ∧ f1.offset = 1 ∧ f2.offset = 2 ∧ Tryz.prog.underlying f0.type = some (.int .i64) ∧ Tryz.prog.underlying f1.type = some (.int .i64) ∧ Tryz.prog.underlying f2.type = some (.int .i64) ∧
    Tryz.prog.cellsOf f0.type = 1 ∧ Tryz.prog.cellsOf f1.type = 1 ∧ Tryz.prog.cellsOf f2.type = 1 :=
  ⟨_, _, _, Tryz.underlying36, rfl, rfl, rfl, by kernel_rfl, by kernel_rfl, by kernel_rfl, by kernel_rfl, by kernel_rfl, by kernel_rfl⟩
section
variable {H : Type} {enc : TypeId × Value → H} {w : World} {base : Nat} {held : Bool} {spare : Nat → Bool}
theorem open_idc {fuel : Nat} {v0 v1 v2 v3 : Value} {x : DataW H × List MemPlace} (h : DataW.trod enc Tryz.prog w base spare held fuel 38 [v0, v1, v2, v3] = some x) : ∃ y : Id, okD y ∧ v0 = .int .i64 y.c ∧ v1 = .int .i64 y.l ∧ v2 = .int .i64 y.n ∧ v3 = .int .i64 y.i := by
  obtain ⟨f0, f1, hs, o0, o1, t0, t1, c1⟩ := fieldsI
  obtain ⟨g0, g1, g2, hs2, p0, p1, p2, u0, u1, u2, d0, d1, d2⟩ := fieldsT
  obtain ⟨xs, k, hk, hxy, _, hxl, hf⟩ := DataW.trod_struct hs h
  match xs, hxl with
  | [y0, y1], _ =>
    have e0 := hf 0 f0 rfl
    have e1 := hf 1 f1 rfl
    rw [t0] at e0
    simp [o0, o1, c1, cells_stripe] at e0 e1
    obtain ⟨xs2, k2, hk2, hxy2, _, hxl2, hf2⟩ := DataW.trod_struct hs2 e0
    match xs2, hxl2 with
    | [z0, z1, z2], _ =>
      have r0 := hf2 0 g0 rfl
      have r1 := hf2 1 g1 rfl
      have r2 := hf2 2 g2 rfl
      simp [p0, p1, p2, d0, d1, d2] at r0 r1 r2
      obtain ⟨a0, q0, _, w0⟩ := DataW.trod_int u0 r0
      obtain ⟨a1, q1, _, w1⟩ := DataW.trod_int u1 r1
      obtain ⟨a2, q2, _, w2⟩ := DataW.trod_int u2 r2
      obtain ⟨a3, q3, _, w3⟩ := DataW.trod_int t1 e1
      simp at q0 q1 q2 q3
      refine ⟨⟨a0, a1, a2, a3⟩, ⟨?_, ?_, ?_, ?_⟩, q0, q1, q2, q3⟩
      · first | exact w0 | exact w0.1
      · first | exact w1 | exact w1.1
      · first | exact w2 | exact w2.1
      · first | exact w3 | exact w3.1

end
end Go.Proofs.YtdkhmfcfihbjeaaGreatDoor.W

/- The reference's Key, MayId. -/
namespace Go.Proofs.YtdkhmfcfihbjeaaGreatDoor.W
open Go.RowKit
set_option linter.unusedVariables false
set_option linter.unusedSimpArgs false

structure RPenNew (w0 w : World) (b : Nat) (g : Option Nat) (l : List UInt8) : Prop where
  pen : PenAt 117 w b g l 0
  chg : Chg [] w0 w
  own : w0.heap.size ≤ b
  ownG : ∀ k, g = some k → w0.heap.size ≤ k
theorem RPenNew.num {w0 w : World} {b : Nat} {g : Option Nat} {l : List UInt8} (h : RPenNew w0 w b g l) (x : Int) (n : Nat) (h1 : 1 ≤ n) (h7 : n ≤ 7) (hx0 : 0 ≤ x) (hx : x < ((256 ^ n : Nat) : Int)) (hl : l.length ≤ 1000) :
    Calls Tryz.prog 49 #[.pointer (some ⟨b, 0, none⟩), .int .i64 x, .int .i64 n] w fun e w' => e = .returned (.tuple #[]) ∧ ∃ g', RPenNew w0 w' b g' (l ++ beBytes n x.toNat) := by
  refine (rpnum_any b g l 0 x n w h.pen (by omega) (by omega)).mono ?_
  rintro e w' ⟨rfl, g', k1, k2, k3⟩
  have e1 : penNum l 0 x n = (l ++ beBytes n x.toNat, 0) := by
    unfold penNum penAdd
    rw [if_neg (by simp), if_neg (by omega), if_neg (by simp), if_neg (by rw [beBytes_len]; omega)]
  rw [Int.toNat_natCast, e1] at k1
  refine ⟨rfl, g', k1, h.chg.trans k3 (fun x hx => .inr ?_), h.own, fun k hk => ?_⟩
  · rcases List.mem_cons.1 hx with rfl | hx
    · exact h.own
    · exact h.ownG x (by simpa using hx)
  · rcases k2 with rfl | ⟨k', rfl, h4⟩
    · exact h.ownG k hk
    · obtain rfl : k' = k := by simpa using hk
      exact Nat.le_trans h.chg.size h4
theorem RPenNew.fresh {w0 w : World} (hc : Chg [] w0 w) : RPenNew w0 (w.alloc (.cells #[.slice none 0 0, .int .i64 0] 117)) w.heap.size none [] :=
  ⟨⟨.slice none 0 0, heap_alloc_new w _, BRow.nil _, rfl, by simp, by simp⟩, hc.alloc _, hc.size, fun k hk => by cases hk⟩
end Go.Proofs.YtdkhmfcfihbjeaaGreatDoor.W

/- Regions that draw their order: a load under a condition that ends far off: the way from it to its end is told. -/
namespace Go.Proofs.YtdkhmfcfihbjeaaGreatDoor.W
open Go.RowKit
set_option linter.unusedVariables false
set_option linter.unusedSimpArgs false

section
variable {P : Program} {ops : Array Oper} {Q : Exit → Act → World → Prop} {md : Region.Mode} {cs : List (Nat × (World → Prop))}

end
end Go.Proofs.YtdkhmfcfihbjeaaGreatDoor.W

/- What the store's laws share. -/
namespace Go.Proofs.YtdkhmfcfihbjeaaGreatDoor.W
end Go.Proofs.YtdkhmfcfihbjeaaGreatDoor.W

/- StoreFull, plainly. -/
namespace Go.Proofs.YtdkhmfcfihbjeaaGreatDoor.W
set_option linter.unusedVariables false
set_option linter.unusedSimpArgs false

theorem range_getD (l : List SRow) : (List.range l.length).map (fun j => l.getD j noRow) = l := by
  apply List.ext_getElem (by simp)
  intro i h1 h2
  simp [List.getD_eq_getElem?_getD, List.getElem?_eq_getElem h2]
theorem used_len (l : List SRow) (P : Nat → Bool) (hP : ∀ j, j < l.length → P j = (l.getD j noRow).used) : ((List.range l.length).filter P).length + l.countP (fun r => !r.used) = l.length := by
  have h1 : ((List.range l.length).filter P).length = l.countP (fun r => r.used) := by
    rw [← List.countP_eq_length_filter]
    conv => rhs; rw [← range_getD l]
    rw [List.countP_map]
    refine List.countP_congr (fun j hj => ?_)
    rw [hP j (List.mem_range.1 hj)]
    rfl
  have h2 := List.length_eq_countP_add_countP (fun r : SRow => r.used) (l := l)
  rw [h1]
  have h3 : l.countP (fun r => decide ¬ r.used = true) = l.countP (fun r => !r.used) := List.countP_congr (fun r _ => by cases r.used <;> simp)
  omega
/-- How many ids there are. -/
theorem Kept.ids_len {t : Sto} {F : Frag} (h : Kept t F) : t.ids.length + t.room = t.s.rows.length := by
  unfold Sto.ids firsts Sto.room
  rw [List.length_mergeSort, List.length_map]
  refine used_len t.s.rows _ (fun j hj => ?_)
  cases hu : (t.s.rows.getD j noRow).used with
  | false => unfold isFirst; rw [hu]; rfl
  | true =>
    refine mem_isFirst.2 ⟨hu, fun k hk hh => ?_⟩
    obtain ⟨hm, he⟩ := un_back (h.keys _ (row_mem hj) hu)
    obtain ⟨u, v, _, h2⟩ := h.told
    have hjm : j ∈ t.at (unId (t.s.rows.getD j noRow).key) := by rw [Sto.at_may hm]; exact upto_mem.2 ⟨hj, hu, he⟩
    have hkm : k ∈ t.at (unId (t.s.rows.getD j noRow).key) := by rw [Sto.at_may hm]; exact upto_mem.2 ⟨by omega, hh.1, by rw [hh.2]; exact he⟩
    rcases h2 _ hm with ⟨_, h4⟩ | ⟨i, b, _, h4, _⟩
    · rw [h4] at hjm; cases hjm
    · rw [h4, List.mem_singleton] at hjm hkm
      omega
theorem SS.clears_ok : ∀ (l : List Nat) (s : SS), (s.clears l).2.d.ops ≤ s.d.ops + 2 * l.length ∧ (s.clears l).2.d.since.length ≤ s.d.since.length + l.length
  | [], s => ⟨Nat.le_refl _, Nat.le_refl _⟩
  | i :: r, s => by
    obtain ⟨h1, h2, _⟩ := s.clear_ok (i : Int)
    obtain ⟨g1, g2⟩ := SS.clears_ok r (s.clear (i : Int)).2
    rw [clears_cons, List.length_cons]
    split
    · exact ⟨by omega, by omega⟩
    · exact ⟨by omega, by omega⟩
theorem Sto.at_len (t : Sto) (x : Id) : (t.at x).length ≤ t.s.rows.length := by
  unfold Sto.at
  split
  · exact upto_len _ _ _
  · simp
theorem Sto.del_ok (t : Sto) (x : Id) : (t.del x).2.s.d.ops ≤ t.s.d.ops + 2 * t.s.rows.length ∧ (t.del x).2.s.d.since.length ≤ t.s.d.since.length + t.s.rows.length := by
  have hl := t.at_len x
  obtain ⟨h1, h2⟩ := SS.clears_ok (t.at x) t.s
  unfold Sto.del
  split
  · exact ⟨by dsimp only; omega, by dsimp only; omega⟩
  · exact ⟨by dsimp only; omega, by dsimp only; omega⟩
def idn (j : Nat) : Id := ⟨1, 0, (j : Int), 0⟩
theorem may_idn {j : Nat} (h : j ≤ 1000) : mayId (idn j) = true := may_iff.2 (by unfold idn; dsimp only; omega)
def fillF (b : List UInt8) (i : Nat) : Frag := fun x => if x.c = 1 ∧ x.l = 0 ∧ x.i = 0 ∧ 0 ≤ x.n ∧ x.n < i then some b else none
structure FullAt (t : Sto) (b : List UInt8) (n i : Nat) : Prop where
  kept : Kept t (fillF b i)
  room : t.room + i = n
  rows : t.s.rows.length = n
  small : t.s.d.ops ≤ 200 + 20 * i ∧ t.s.d.since.length = 0
theorem fillF_self (b : List UInt8) (i : Nat) : fillF b i (idn i) = none := if_neg (by unfold idn; dsimp only; omega)
theorem fillF_next (b : List UInt8) (i : Nat) : setF (fillF b i) (idn i) (some b) = fillF b (i + 1) := by
  funext x
  unfold setF
  by_cases e : x = idn i
  · subst e
    rw [if_pos rfl]
    exact (if_pos (by unfold idn; dsimp only; omega)).symm
  · rw [if_neg e]
    unfold fillF
    by_cases h : x.c = 1 ∧ x.l = 0 ∧ x.i = 0 ∧ 0 ≤ x.n ∧ x.n < i
    · rw [if_pos h, if_pos (by omega)]
    · rw [if_neg h, if_neg (fun h2 => ?_)]
      have : x.n = (i : Int) := by omega
      obtain ⟨a, b', c, d⟩ := x
      refine e ?_
      unfold idn
      simp only [Id.mk.injEq]
      dsimp only at *
      omega
theorem FullAt.step {t : Sto} {b : List UInt8} {n i : Nat} (h : FullAt t b n i) (hi : i < n) (hn : n ≤ 100) (hb : b.length ≤ 448) : (t.put (idn i) b).1 = 0 ∧ FullAt (t.put (idn i) b).2 b n (i + 1) := by
  obtain ⟨o1, o2, _, o4, _⟩ := t.put_ok (idn i) b
  have hr := h.room
  have hs := h.small
  obtain ⟨p1, p2, p3⟩ := h.kept.put_new (may_idn (by omega)) (fillF_self b i) hb (by omega)
  rw [fillF_next] at p2
  exact ⟨p1, p2, by omega, by rw [o4, h.rows], by omega, by rw [p2.since]; rfl⟩
theorem FullAt.new (b : List UInt8) (n : Nat) (h1 : 1 ≤ n) (h2 : n ≤ 12) : ∃ t d, (DS.new (1 + 8 * n)).format = ((0, some t), d) ∧ FullAt t b n 0 := by
  obtain ⟨t, d, f1, f2, f3, f4, f5, f6, _⟩ := Kept.new (1 + 8 * n) (by omega)
  have hrow : (1 + 8 * n - 1) / 8 = n := by omega
  rw [hrow] at f4
  refine ⟨t, d, f1, ?_, ?_, by rw [f4, List.length_replicate], by rw [f3]; omega, by rw [f2.since]; rfl⟩
  · have : fillF b 0 = fun _ => none := by
      funext x
      exact if_neg (by omega)
    rw [this]; exact f2
  · unfold Sto.room
    rw [f4]
    have := List.countP_replicate (p := fun r : SRow => !r.used) (a := noRow) (n := n)
    simp [noRow] at this ⊢
    first | omega | exact this
/-- When it is full. -/
theorem FullAt.after {t : Sto} {b : List UInt8} {n k : Nat} (h : FullAt t b n n) (hk : k < n) (hn : n ≤ 100) (hb : b.length ≤ 448) : t.put (idn n) b = (5, t) ∧ (t.del (idn k)).1 = 0 ∧ (((t.del (idn k)).2).put (idn n) b).1 = 0 ∧ (((t.del (idn k)).2).put (idn n) b).2.room = 0 ∧ (((t.del (idn k)).2).put (idn n) b).2.ids.length = n ∧ (t.del (idn k)).2.s.d.since.length = 0 := by
  have hr := h.room
  have e1 := h.kept.put_full (may_idn (by omega)) (fillF_self b n) hb (by omega)
  obtain ⟨d1, d2, d3, _, d5, d6⟩ := h.kept.del (may_idn (j := k) (by omega))
  have hF : fillF b n (idn k) = some b := if_pos (by unfold idn; dsimp only; omega)
  rw [hF] at d3
  simp only [Option.isSome_some, if_true] at d3
  have hne : idn n ≠ idn k := fun e => by
    have := congrArg Id.n e
    unfold idn at this
    dsimp only at this
    omega
  obtain ⟨p1, p2, p3⟩ := d2.put_new (may_idn (j := n) (by omega)) (by rw [setF_other _ _ hne]; exact fillF_self b n) hb (by omega)
  have hl := p2.ids_len
  obtain ⟨_, _, _, o4, _⟩ := ((t.del (idn k)).2).put_ok (idn n) b
  have hrows := h.rows
  exact ⟨e1, d1, p1, by omega, by omega, by rw [d2.since]; rfl⟩
end Go.Proofs.YtdkhmfcfihbjeaaGreatDoor.W
