/- Texts laid together. -/
import Derived.Test.YtbkajnjboipbhaaGreatDoorBP
import Derived.Deep.Slices
import Derived.ChangeSlices
/- StoreFull, plainly. -/
namespace Go.Proofs.YtbkajnjboipbhaaGreatDoor.W
set_option linter.unusedVariables false
set_option linter.unusedSimpArgs false

theorem range_getD (l : List SRow) : (List.range l.length).map (fun j => l.getD j noRow) = l := by
  apply List.ext_getElem (by simp)
  intro i h1 h2
  simp [List.getD_eq_getElem?_getD, List.getElem?_eq_getElem h2]
theorem used_len (l : List SRow) (P : Nat → Bool) (hP : ∀ j, j < l.length → P j = (l.getD j noRow).used) : ((List.range l.length).filter P).length + l.countP (fun r => !r.used) = l.length := by
  have h1 : ((List.range l.length).filter P).length = l.countP (fun r => r.used) := by
    rw [← List.countP_eq_length_filter]
    conv => rhs; rw [← range_getD l]
    rw [List.countP_map]
    refine List.countP_congr (fun j hj => ?_)
    rw [hP j (List.mem_range.1 hj)]
    rfl
  have h2 := List.length_eq_countP_add_countP (fun r : SRow => r.used) (l := l)
  rw [h1]
  have h3 : l.countP (fun r => decide ¬ r.used = true) = l.countP (fun r => !r.used) := List.countP_congr (fun r _ => by cases r.used <;> simp)
  omega
/-- How many ids there are. -/
theorem Kept.ids_len {t : Sto} {F : Frag} (h : Kept t F) : t.ids.length + t.room = t.s.rows.length := by
  unfold Sto.ids firsts Sto.room
  rw [List.length_mergeSort, List.length_map]
  refine used_len t.s.rows _ (fun j hj => ?_)
  cases hu : (t.s.rows.getD j noRow).used with
  | false => unfold isFirst; rw [hu]; rfl
  | true =>
    refine mem_isFirst.2 ⟨hu, fun k hk hh => ?_⟩
    obtain ⟨hm, he⟩ := un_back (h.keys _ (row_mem hj) hu)
    obtain ⟨u, v, _, h2⟩ := h.told
    have hjm : j ∈ t.at (unId (t.s.rows.getD j noRow).key) := by rw [Sto.at_may hm]; exact upto_mem.2 ⟨hj, hu, he⟩
    have hkm : k ∈ t.at (unId (t.s.rows.getD j noRow).key) := by rw [Sto.at_may hm]; exact upto_mem.2 ⟨by omega, hh.1, by rw [hh.2]; exact he⟩
    rcases h2 _ hm with ⟨_, h4⟩ | ⟨i, b, _, h4, _⟩
    · rw [h4] at hjm; cases hjm
    · rw [h4, List.mem_singleton] at hjm hkm
      omega
theorem SS.clears_ok : ∀ (l : List Nat) (s : SS), (s.clears l).2.d.ops ≤ s.d.ops + 2 * l.length ∧ (s.clears l).2.d.since.length ≤ s.d.since.length + l.length
  | [], s => ⟨Nat.le_refl _, Nat.le_refl _⟩
  | i :: r, s => by
    obtain ⟨h1, h2, _⟩ := s.clear_ok (i : Int)
    obtain ⟨g1, g2⟩ := SS.clears_ok r (s.clear (i : Int)).2
    rw [clears_cons, List.length_cons]
    split
    · exact ⟨by omega, by omega⟩
    · exact ⟨by omega, by omega⟩
theorem Sto.at_len (t : Sto) (x : Id) : (t.at x).length ≤ t.s.rows.length := by
  unfold Sto.at
  split
  · exact upto_len _ _ _
  · simp
theorem Sto.del_ok (t : Sto) (x : Id) : (t.del x).2.s.d.ops ≤ t.s.d.ops + 2 * t.s.rows.length ∧ (t.del x).2.s.d.since.length ≤ t.s.d.since.length + t.s.rows.length := by
  have hl := t.at_len x
  obtain ⟨h1, h2⟩ := SS.clears_ok (t.at x) t.s
  unfold Sto.del
  split
  · exact ⟨by dsimp only; omega, by dsimp only; omega⟩
  · exact ⟨by dsimp only; omega, by dsimp only; omega⟩
def idn (j : Nat) : Id := ⟨1, 0, (j : Int), 0⟩
theorem may_idn {j : Nat} (h : j ≤ 1000) : mayId (idn j) = true := may_iff.2 (by unfold idn; dsimp only; omega)
def fillF (b : List UInt8) (i : Nat) : Frag := fun x => if x.c = 1 ∧ x.l = 0 ∧ x.i = 0 ∧ 0 ≤ x.n ∧ x.n < i then some b else none
structure FullAt (t : Sto) (b : List UInt8) (n i : Nat) : Prop where
  kept : Kept t (fillF b i)
  room : t.room + i = n
  rows : t.s.rows.length = n
  small : t.s.d.ops ≤ 200 + 20 * i ∧ t.s.d.since.length = 0
theorem fillF_self (b : List UInt8) (i : Nat) : fillF b i (idn i) = none := if_neg (by unfold idn; dsimp only; omega)
theorem fillF_next (b : List UInt8) (i : Nat) : setF (fillF b i) (idn i) (some b) = fillF b (i + 1) := by
  funext x
  unfold setF
  by_cases e : x = idn i
  · subst e
    rw [if_pos rfl]
    exact (if_pos (by unfold idn; dsimp only; omega)).symm
  · rw [if_neg e]
    unfold fillF
    by_cases h : x.c = 1 ∧ x.l = 0 ∧ x.i = 0 ∧ 0 ≤ x.n ∧ x.n < i
    · rw [if_pos h, if_pos (by omega)]
    · rw [if_neg h, if_neg (fun h2 => ?_)]
      have : x.n = (i : Int) := by omega
      obtain ⟨a, b', c, d⟩ := x
      refine e ?_
      unfold idn
      simp only [Id.mk.injEq]
      dsimp only at *
      omega
theorem FullAt.step {t : Sto} {b : List UInt8} {n i : Nat} (h : FullAt t b n i) (hi : i < n) (hn : n ≤ 100) (hb : b.length ≤ 448) : (t.put (idn i) b).1 = 0 ∧ FullAt (t.put (idn i) b).2 b n (i + 1) := by
  obtain ⟨o1, o2, _, o4, _⟩ := t.put_ok (idn i) b
  have hr := h.room
  have hs := h.small
  obtain ⟨p1, p2, p3⟩ := h.kept.put_new (may_idn (by omega)) (fillF_self b i) hb (by omega)
  rw [fillF_next] at p2
  exact ⟨p1, p2, by omega, by rw [o4, h.rows], by omega, by rw [p2.since]; rfl⟩
theorem FullAt.new (b : List UInt8) (n : Nat) (h1 : 1 ≤ n) (h2 : n ≤ 12) : ∃ t d, (DS.new (1 + 8 * n)).format = ((0, some t), d) ∧ FullAt t b n 0 := by
  obtain ⟨t, d, f1, f2, f3, f4, f5, f6, _⟩ := Kept.new (1 + 8 * n) (by omega)
  have hrow : (1 + 8 * n - 1) / 8 = n := by omega
  rw [hrow] at f4
  refine ⟨t, d, f1, ?_, ?_, by rw [f4, List.length_replicate], by rw [f3]; omega, by rw [f2.since]; rfl⟩
  · have : fillF b 0 = fun _ => none := by
      funext x
      exact if_neg (by omega)
    rw [this]; exact f2
  · unfold Sto.room
    rw [f4]
    have := List.countP_replicate (p := fun r : SRow => !r.used) (a := noRow) (n := n)
    simp [noRow] at this ⊢
    first | omega | exact this
/-- When it is full. -/
theorem FullAt.after {t : Sto} {b : List UInt8} {n k : Nat} (h : FullAt t b n n) (hk : k < n) (hn : n ≤ 100) (hb : b.length ≤ 448) : t.put (idn n) b = (5, t) ∧ (t.del (idn k)).1 = 0 ∧ (((t.del (idn k)).2).put (idn n) b).1 = 0 ∧ (((t.del (idn k)).2).put (idn n) b).2.room = 0 ∧ (((t.del (idn k)).2).put (idn n) b).2.ids.length = n ∧ (t.del (idn k)).2.s.d.since.length = 0 := by
  have hr := h.room
  have e1 := h.kept.put_full (may_idn (by omega)) (fillF_self b n) hb (by omega)
  obtain ⟨d1, d2, d3, _, d5, d6⟩ := h.kept.del (may_idn (j := k) (by omega))
  have hF : fillF b n (idn k) = some b := if_pos (by unfold idn; dsimp only; omega)
  rw [hF] at d3
  simp only [Option.isSome_some, if_true] at d3
  have hne : idn n ≠ idn k := fun e => by
    have := congrArg Id.n e
    unfold idn at this
    dsimp only at this
    omega
  obtain ⟨p1, p2, p3⟩ := d2.put_new (may_idn (j := n) (by omega)) (by rw [setF_other _ _ hne]; exact fillF_self b n) hb (by omega)
  have hl := p2.ids_len
  obtain ⟨_, _, _, o4, _⟩ := ((t.del (idn k)).2).put_ok (idn n) b
  have hrows := h.rows
  exact ⟨e1, d1, p1, by omega, by omega, by rw [d2.since]; rfl⟩
end Go.Proofs.YtbkajnjboipbhaaGreatDoor.W

/- StoreFull: the walk. -/
namespace Go.Proofs.YtbkajnjboipbhaaGreatDoor.W
open Go.RowKit
set_option linter.unusedVariables false
set_option linter.unusedSimpArgs false

theorem idn_ok (j : Nat) (h : j ≤ 1000) : okD (idn j) := may_okD (may_idn h)
set_option maxHeartbeats 16000000 in
set_option maxRecDepth 100000 in
theorem full_any (sl : Nat) (hsl : sl < 256) (a : Option Addr) (bl cap : Nat) (b : List UInt8) (w : World) (hb : BytesAt w (.slice a bl cap) b) (hbl : b.length = bl) (hbo : b ≠ [] → ∀ k, (Value.slice a bl cap).ownBlock = some k → k < w.heap.size) (hn : bl ≤ maxLen) :
    Calls Tryz.prog 6 #[.int .u8 (sl : Int), .slice a bl cap] w fun e w' => e = .returned (.bool true) ∧ Chg [] w w' := by
  have CW := Lib.hid (awake6_any w)
  have HB := Lib.hid hb
  have HBO := Lib.hid hbo
  have HBL := Lib.hid hbl
  have hnn : bl ≤ 9223372036854775807 := by unfold maxLen at hn; omega
  clear hb hbo hn
  by_cases h448 : 448 < bl
  · have hz : (448 : Int) < (bl : Int) := by omega
    clear hbl
    go_enter Tryz.func6, Tryz.ntmps6
    go_wp2_with fail
    refine CW.out.mono ?_
    rintro e w1 ⟨rfl, hc1⟩
    have HC1 := Lib.hid hc1
    clear hc1
    go_wp2
    go_ret
    exact ⟨rfl, HC1.out⟩
  · have hz : ¬ (448 : Int) < (bl : Int) := by omega
    obtain ⟨n, hnd⟩ : ∃ n, n = 1 + sl % 12 := ⟨_, rfl⟩
    have hn12 : 1 ≤ n ∧ n ≤ 12 := by omega
    obtain ⟨t0, d0, hfm, hfull⟩ := FullAt.new b n hn12.1 hn12.2
    have HFU := Lib.hid hfull
    have HFM := Lib.hid hfm
    have hrem : (1 : Int) + ((sl : Int) % 12) = (n : Int) := by omega
    have hb448 : b.length ≤ 448 := by omega
    clear hfm hfull hnd
    go_enter Tryz.func6, Tryz.ntmps6
    go_wp2_with fail
    refine CW.out.mono ?_
    rintro e w1 ⟨rfl, hc1⟩
    have CN := Lib.hid (own_disk (1 + 8 * n) w1 (by omega) (by omega))
    rw [show ((1 + 8 * n : Nat) : Int) = 1 + 8 * (n : Int) by push_cast; rfl] at CN
    have HC1 := Lib.hid hc1
    clear hc1 CW
    go_wp2_with fail
    refine CN.out.mono ?_
    rintro e w2 ⟨p, S, rfl, hd2, hS2, hc2⟩
    have CF := Lib.hid (own_format (w0 := w) hd2 (fun x hx => Nat.le_trans HC1.out.size (hS2 x hx)) (HC1.out.trans hc2 (by simp)) HFM.out)
    clear hd2 hS2 hc2 CN
    go_wp2_with fail
    refine CF.out.mono ?_
    rintro e w3 ⟨q, rfl, ho3⟩
    have HO3 := Lib.hid ho3
    have CR3 := Lib.hid (own_room ho3)
    rw [show t0.room = n by have := HFU.out.room; omega] at CR3
    clear ho3 CF
    go_wp2_with fail
    refine CR3.out.mono ?_
    rintro e w' ⟨rfl, hq⟩
    subst hq
    go_wp2_with fail
    go_loopg [10] n (fun g' s10 wr => ∃ (i : Nat) (t : Sto), s10 = .int .i64 (i : Int) ∧ i ≤ n ∧ n ≤ i + g' ∧ Hid (Own6 [] w wr q p t ∧ FullAt t b n i))
    case atStart => exact ⟨0, t0, rfl, by omega, by omega, Lib.hid ⟨HO3.out, HFU.out⟩⟩
    case round =>
      obtain ⟨i, t, rfl, hi, hig, HJ⟩ := hrel
      have HBr := Lib.hid (HB.out.chg HJ.out.1.chg (by simp))
      have hsm := HJ.out.2.small
      by_cases hlt : i < n
      · have hiz : (i : Int) < (n : Int) := by omega
        obtain ⟨p1, hstep⟩ := HJ.out.2.step hlt (by omega) hb448
        have CI := Lib.hid (lawid_any 1 0 (i : Int) 0 wr)
        have HST := Lib.hid hstep
        have HP1 := Lib.hid p1
        have hrs : ((t.put (idn i) b).2.room : Int) = (n : Int) - 1 - (i : Int) := by have := hstep.room; omega
        clear p1 hstep
        go_wp2_with fail
        refine CI.out.mono ?_
        rintro e w4 ⟨rfl, hc4⟩
        have CP := Lib.hid (own_put (HJ.out.1.keep0 hc4) (idn i) (idn_ok i (by omega)) (.slice a bl cap) b (HBr.out.chg hc4 (by simp)) (fun hne k hk => .inl (HBO.out hne k hk)) (by omega) (by omega) (by omega))
        rw [HP1.out] at CP
        clear hc4 CI
        go_wp2_with fail
        refine CP.out.mono ?_
        rintro e w5 ⟨rfl, ho5, _⟩
        have CR := Lib.hid (own_room ho5)
        rw [hrs] at CR
        have HO5 := Lib.hid ho5
        clear ho5 CP
        go_wp2_with fail
        refine CR.out.mono ?_
        rintro e w' ⟨rfl, hq⟩
        subst hq
        go_wp2_with fail
        go_roundg (gk - 1)
        case measure => omega
        case rel => exact ⟨i + 1, _, by go_num, by omega, by omega, Lib.hid ⟨HO5.out, HST.out⟩⟩
      · have hin : i = n := by omega
        subst hin
        have hiz : ¬ (i : Int) < (i : Int) := by omega
        obtain ⟨k, hkd⟩ : ∃ k, k = sl % i := ⟨_, rfl⟩
        have hki : k < i := by rw [hkd]; exact Nat.mod_lt _ (by omega)
        have hkz : (sl : Int) % (i : Int) = (k : Int) := by rw [hkd]; omega
        obtain ⟨e1, e2, e3, e4, e5, e6⟩ := HJ.out.2.after hki (by omega) hb448
        have HE := Lib.hid (And.intro e1 (And.intro e2 (And.intro e3 (And.intro e4 (And.intro e5 e6)))))
        clear e1 e2 e3 e4 e5 e6 hkd
        have CI := Lib.hid (lawid_any 1 0 (i : Int) 0 wr)
        go_wp2_with fail
        refine CI.out.mono ?_
        rintro e w4 ⟨rfl, hc4⟩
        have CP := Lib.hid (own_put (HJ.out.1.keep0 hc4) (idn i) (idn_ok i (by omega)) (.slice a bl cap) b (HBr.out.chg hc4 (by simp)) (fun hne k hk => .inl (HBO.out hne k hk)) (by omega) (by omega) (by omega))
        rw [HE.out.1] at CP
        clear hc4 CI
        go_wp2_with fail
        refine CP.out.mono ?_
        rintro e w5 ⟨rfl, ho5, _⟩
        have HO5 := Lib.hid ho5
        have CI := Lib.hid (lawid_any 1 0 (k : Int) 0 w5)
        clear ho5 CP
        go_wp2_with fail
        refine CI.out.mono ?_
        rintro e w6 ⟨rfl, hc6⟩
        have CD := Lib.hid (own_del (HO5.out.keep0 hc6) (idn k) (idn_ok k (by omega)) (by show t.s.d.ops ≤ _; omega) (by show t.s.d.since.length ≤ _; omega))
        obtain ⟨dok1, dok2⟩ := t.del_ok (idn k)
        have hrow := HJ.out.2.rows
        rw [HE.out.2.1] at CD
        clear hc6 CI
        go_wp2_with fail
        refine CD.out.mono ?_
        rintro e w7 ⟨rfl, ho7, _⟩
        have HO7 := Lib.hid ho7
        have CI := Lib.hid (lawid_any 1 0 (i : Int) 0 w7)
        clear ho7 CD
        go_wp2_with fail
        refine CI.out.mono ?_
        rintro e w8 ⟨rfl, hc8⟩
        have CP := Lib.hid (own_put (HO7.out.keep0 hc8) (idn i) (idn_ok i (by omega)) (.slice a bl cap) b (HB.out.chg (HO7.out.chg.trans hc8 (by simp)) (by simp)) (fun hne k hk => .inl (HBO.out hne k hk)) (by omega) (by omega) (by omega))
        rw [HE.out.2.2.1] at CP
        clear hc8 CI
        go_wp2_with fail
        refine CP.out.mono ?_
        rintro e w9 ⟨rfl, ho9, _⟩
        have CR := Lib.hid (own_room ho9)
        have CL := Lib.hid (own_list ho9)
        rw [HE.out.2.2.2.1] at CR
        rw [HE.out.2.2.2.2.1] at CL
        clear ho9 CP
        go_wp2_with fail
        refine CR.out.mono ?_
        rintro e w' ⟨rfl, hq⟩
        subst hq
        go_wp2_with fail
        refine CL.out.mono ?_
        rintro e w10 ⟨⟨v10, rfl, hr10⟩, ho10, _, _⟩
        have hform : ∃ b cap, v10 = .slice b i cap := by
          rcases hr10.2 with ⟨h1, h2⟩ | ⟨g, cap, cur, h1, _⟩
          · exact ⟨none, 0, by rw [h1, h2]⟩
          · exact ⟨_, cap, h1⟩
        obtain ⟨b10, c10, rfl⟩ := hform
        have HC10 := Lib.hid ho10.chg
        clear hr10 ho10 CL CR
        go_wp2_with fail
        go_ret
        exact ⟨rfl, HC10.out⟩
end Go.Proofs.YtbkajnjboipbhaaGreatDoor.W

/- Bytes that came in. -/
namespace Go.Proofs.YtbkajnjboipbhaaGreatDoor.W
open Go.RowKit Go.ChangeShapes Go.WideShapes
set_option linter.unusedVariables false
set_option linter.unusedSimpArgs false

/-- Bytes that came in. -/
def Came (w : World) (v : Value) (l : List UInt8) : Prop := BytesAt w v l ∧ (l ≠ [] → ∀ k, v.ownBlock = some k → k < w.heap.size)
theorem Came.chg {w w' : World} {v : Value} {l : List UInt8} (h : Came w v l) (hc : Chg [] w w') : Came w' v l := ⟨h.1.chg hc (by simp), fun hl k hk => Nat.lt_of_lt_of_le (h.2 hl k hk) hc.size⟩
theorem toU8 (z : Int) (h : (Lit.int .u8 z).wf = true) : .int .u8 z = bv (UInt8.ofNat z.toNat) := by
  simp [Lit.wf, IntKind.min, IntKind.max, IntKind.signed, IntKind.bits] at h
  unfold bv
  rw [UInt8.toNat_ofNat']
  congr 1
  omega

section
variable {H : Type} {enc : TypeId × Value → H} {w : World} {base : Nat} {held : Bool}
/-- A slice of bytes that came in. -/
theorem open_came {fuel : Nat} {cs : List Value} {x : DataW H × List MemPlace} (h : DataW.trod enc Tryz.prog w base (fun _ => true) held fuel 27 cs = some x) : ∃ v l, cs = [v] ∧ Came w v l ∧ l.length ≤ maxLen := by
  rcases open_ints Tryz.underlying27 Tryz.underlying5 (by kernel_rfl) h with ⟨rfl, _⟩ | ⟨a, len, cap, zs, rfl, _, hl, hm, hz, _, hcell, hwf⟩
  · exact ⟨_, [], rfl, ⟨BytesAt.nil _, by simp⟩, by unfold maxLen; simp⟩
  · replace hz : zs.length = cap := by simpa using hz
    have hlen : ((zs.take len).map (fun z => UInt8.ofNat z.toNat)).length = len := by rw [List.length_map, List.length_take]; omega
    have hg : ∀ i, i < len → ((zs.take len).map (fun z => UInt8.ofNat z.toNat)).getD i 0 = UInt8.ofNat (zs.getD i 0).toNat := by
      intro i hi
      rw [List.getD_eq_getElem?_getD, List.getElem?_map, List.getElem?_take, if_pos hi, List.getD_eq_getElem?_getD, List.getElem?_eq_getElem (by omega)]
      rfl
    have hw : ∀ i, i < zs.length → (Lit.int .u8 (zs.getD i 0)).wf = true := fun i hi => hwf _ (by
      rw [List.getD_eq_getElem?_getD, List.getElem?_eq_getElem hi]
      exact List.getElem_mem hi)
    refine ⟨_, (zs.take len).map (fun z => UInt8.ofNat z.toNat), rfl, ?_, by rw [hlen]; omega⟩
    by_cases hc0 : cap = 0
    · have h0 : len = 0 := by omega
      subst hc0; subst h0
      have hnil : (zs.take 0).map (fun z => UInt8.ofNat z.toNat) = [] := by simp
      rw [hnil]
      exact ⟨⟨some a, 0, rfl, Nat.le_refl _, by unfold maxLen; omega, .inl ⟨rfl, rfl⟩⟩, fun h => absurd rfl h⟩
    · obtain ⟨g, o, spot⟩ := a
      have hc := hcell 0 (by omega)
      have hspot : spot = none := by simpa [Addr.add] using World.cell?_spot hc
      subst hspot
      have hlt : g < w.heap.size := by
        have := World.block_lt_of_cell? w _ hc
        simpa [Addr.add] using this
      refine ⟨⟨some ⟨g, o, none⟩, cap, by rw [hlen], by omega, hm, .inr ⟨g, o, rfl, fun i hi => ?_⟩⟩, fun _ k hk => ?_⟩
      · rw [hlen] at hi
        have := hcell i (by omega)
        rw [add_none] at this
        rw [this, hg i hi, ← toU8 _ (hw i (by omega))]
      · obtain rfl : g = k := by simpa [Value.ownBlock] using hk
        exact hlt
end
theorem IsRow.came {w : World} {a : Option Addr} {len cap : Nat} {zs : List Int} (h : IsRow .u8 w a len cap zs) : ∃ l, l.length = len ∧ len ≤ maxLen ∧ Came w (.slice a len cap) l := by
  rcases h with ⟨rfl, rfl, rfl, rfl⟩ | ⟨x, rfl, h1, h2, h3, h4, h5⟩
  · exact ⟨[], rfl, by unfold maxLen; omega, BytesAt.nil w, by simp⟩
  · have hlen : ((zs.take len).map (fun z => UInt8.ofNat z.toNat)).length = len := by rw [List.length_map, List.length_take]; omega
    have hg : ∀ i, i < len → ((zs.take len).map (fun z => UInt8.ofNat z.toNat)).getD i 0 = UInt8.ofNat (zs.getD i 0).toNat := by
      intro i hi
      rw [List.getD_eq_getElem?_getD, List.getElem?_map, List.getElem?_take, if_pos hi, List.getD_eq_getElem?_getD, List.getElem?_eq_getElem (by omega)]
      rfl
    have hw : ∀ i, i < zs.length → (Lit.int .u8 (zs.getD i 0)).wf = true := fun i hi => h5 _ (by
      rw [List.getD_eq_getElem?_getD, List.getElem?_eq_getElem hi]
      exact List.getElem_mem hi)
    refine ⟨_, hlen, by omega, ?_⟩
    by_cases hl0 : len = 0
    · subst hl0
      have hnil : (zs.take 0).map (fun z => UInt8.ofNat z.toNat) = [] := by simp
      rw [hnil]
      by_cases hc0 : cap = 0
      · subst hc0
        exact ⟨⟨some x, 0, rfl, Nat.le_refl _, by unfold maxLen; omega, .inl ⟨rfl, rfl⟩⟩, by simp⟩
      · obtain ⟨g, o, spot⟩ := x
        have hc := h4 0 (by omega)
        have hspot : spot = none := by simpa [Addr.add] using World.cell?_spot hc
        subst hspot
        exact ⟨⟨some ⟨g, o, none⟩, cap, rfl, by simp, h2, .inr ⟨g, o, rfl, by simp⟩⟩, by simp⟩
    · obtain ⟨g, o, spot⟩ := x
      have hc := h4 0 (by omega)
      have hspot : spot = none := by simpa [Addr.add] using World.cell?_spot hc
      subst hspot
      have hlt : g < w.heap.size := by
        have := World.block_lt_of_cell? w _ hc
        simpa [Addr.add] using this
      refine ⟨⟨some ⟨g, o, none⟩, cap, by rw [hlen], by omega, h2, .inr ⟨g, o, rfl, fun i hi => ?_⟩⟩, fun _ k hk => ?_⟩
      · rw [hlen] at hi
        have := h4 i (by omega)
        rw [add_none] at this
        rw [this, hg i hi, ← toU8 _ (hw i (by omega))]
      · obtain rfl : g = k := by simpa [Value.ownBlock] using hk
        exact hlt
end Go.Proofs.YtbkajnjboipbhaaGreatDoor.W

/- StoreFull: what the row asks. -/
namespace Go.Proofs.YtbkajnjboipbhaaGreatDoor.storeFull
set_option linter.unusedVariables false
open Go.RowKit
theorem walk (z : Int) (a : Option Addr) (n cap : Nat) (zs : List Int) (X : World) (hz : (Lit.int .u8 z).wf = true) (h : IsRow .u8 X a n cap zs) :
    Calls Tryz.prog 6 #[.int .u8 z, .slice a n cap] X fun e w' => e = .returned (.bool true) ∧ Below X.heap.size X w' := by
  obtain ⟨b, hl, hm, hb⟩ := Go.Proofs.YtbkajnjboipbhaaGreatDoor.W.IsRow.came h
  simp [Lit.wf, IntKind.min, IntKind.max, IntKind.signed, IntKind.bits] at hz
  obtain ⟨sl, rfl⟩ := Int.eq_ofNat_of_zero_le hz.1
  exact (Go.Proofs.YtbkajnjboipbhaaGreatDoor.W.full_any sl (by omega) a n cap b X hb.1 hl hb.2 hm).mono fun e w' ⟨h1, h2⟩ => ⟨h1, h2.below (by simp)⟩
end Go.Proofs.YtbkajnjboipbhaaGreatDoor.storeFull
