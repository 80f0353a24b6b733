/- Texts laid together. -/
import Derived.Test.YtbkajnjboipbhaaGreatDoorBP
/- StoreOrder: ids that came in; Less; plainly. -/
namespace Go.Proofs.YtbkajnjboipbhaaGreatDoor.W
open Go.RowKit Go.ChangeShapes Go.WideShapes
set_option linter.unusedVariables false
set_option linter.unusedSimpArgs false

/-- Ids that came in. -/
def IdsIn (w : World) (a : Option Addr) (n : Nat) (f : Nat → Id) : Prop :=
  n = 0 ∨ ∃ g o, a = some ⟨g, o, none⟩ ∧ ∀ i, i < n → okD (f i) ∧ w.cell? ⟨g, o + i * 4, none⟩ = some (.int .i64 (f i).c) ∧ w.cell? ⟨g, o + i * 4 + 1, none⟩ = some (.int .i64 (f i).l) ∧ w.cell? ⟨g, o + i * 4 + 2, none⟩ = some (.int .i64 (f i).n) ∧ w.cell? ⟨g, o + i * 4 + 3, none⟩ = some (.int .i64 (f i).i)
theorem IdsIn.keep {w w' : World} {a : Option Addr} {n : Nat} {f : Nat → Id} (h : IdsIn w a n f) (hc : Chg [] w w') : IdsIn w' a n f := by
  rcases h with h | ⟨g, o, rfl, h⟩
  · exact .inl h
  · refine .inr ⟨g, o, rfl, fun i hi => ?_⟩
    obtain ⟨h1, h2, h3, h4, h5⟩ := h i hi
    exact ⟨h1, hc.cell h2 (by simp), hc.cell h3 (by simp), hc.cell h4 (by simp), hc.cell h5 (by simp)⟩
section
variable {H : Type} {enc : TypeId × Value → H} {w : World} {base : Nat} {held : Bool}
set_option maxRecDepth 100000 in
theorem open_ids {fuel : Nat} {cs : List Value} {x : DataW H × List MemPlace} (h : DataW.trod enc Tryz.prog w base (fun _ => true) held fuel 36 cs = some x) :
    (cs = [.slice none 0 0]) ∨ ∃ (a : Addr) (len cap : Nat) (f : Nat → Id), cs = [.slice (some a) len cap] ∧ len ≤ cap ∧ cap ≤ maxLen ∧ IdsIn w (some a) len f := by
  rcases Go.Deep.open_slice Tryz.underlying36 h with ⟨h0, _⟩ | ⟨a, len, cap, m, n, D, Pl, rfl, hb, hl, hm, hmm, hx, hel⟩
  · exact .inl h0
  · right
    have hlm : len ≤ m := by rw [hmm]; split <;> omega
    have each : ∀ i, i < len → ∃ r : Id, okD r ∧ w.cell? (a.add (i * 4)) = some (.int .i64 r.c) ∧ w.cell? (a.add (i * 4 + 1)) = some (.int .i64 r.l) ∧ w.cell? (a.add (i * 4 + 2)) = some (.int .i64 r.n) ∧ w.cell? (a.add (i * 4 + 3)) = some (.int .i64 r.i) := by
      intro i hi
      obtain ⟨cs', h1, h2⟩ := hel i (by omega)
      rw [cells_id] at h1
      obtain ⟨_, hlen, hcell⟩ := World.cells?_some h1
      match cs', hlen with
      | [v0, v1, v2, v3], _ =>
        obtain ⟨y, hy, rfl, rfl, rfl, rfl⟩ := open_idc h2
        have e0 := hcell 0 (by omega)
        have e1 := hcell 1 (by omega)
        have e2 := hcell 2 (by omega)
        have e3 := hcell 3 (by omega)
        rw [Go.Deep.add_add] at e0 e1 e2 e3
        exact ⟨y, hy, by simpa using e0, by simpa using e1, by simpa using e2, by simpa using e3⟩
    obtain ⟨f, hf⟩ := Go.Deep.choose_lt each
    refine ⟨a, len, cap, f, rfl, hl, hm, ?_⟩
    by_cases h0 : len = 0
    · exact .inl h0
    · right
      obtain ⟨g, o, spot⟩ := a
      have hc := (hf 0 (by omega)).2.1
      have hspot : spot = none := by simpa [Addr.add] using World.cell?_spot hc
      subst hspot
      refine ⟨g, o, rfl, fun i hi => ?_⟩
      obtain ⟨c0, c1, c2, c3, c4⟩ := hf i hi
      rw [add_none] at c1 c2 c3 c4
      exact ⟨c0, c1, by simpa [Nat.add_assoc] using c2, by simpa [Nat.add_assoc] using c3, by simpa [Nat.add_assoc] using c4⟩
end
theorem lt_cases (a b : Id) : decide (idLt a b) = if a.c ≠ b.c then decide (a.c < b.c) else if a.l ≠ b.l then decide (a.l < b.l) else if a.n ≠ b.n then decide (a.n < b.n) else decide (a.i < b.i) := by
  by_cases h1 : a.c = b.c
  · rw [if_neg (by simpa using h1)]
    by_cases h2 : a.l = b.l
    · rw [if_neg (by simpa using h2)]
      by_cases h3 : a.n = b.n
      · rw [if_neg (by simpa using h3)]
        rw [Bool.eq_iff_iff, decide_eq_true_eq, decide_eq_true_eq]; unfold idLt; exact ⟨fun h => by omega, fun h => by omega⟩
      · rw [if_pos h3, Bool.eq_iff_iff, decide_eq_true_eq, decide_eq_true_eq]; unfold idLt; exact ⟨fun h => by omega, fun h => by omega⟩
    · rw [if_pos h2, Bool.eq_iff_iff, decide_eq_true_eq, decide_eq_true_eq]; unfold idLt; exact ⟨fun h => by omega, fun h => by omega⟩
  · rw [if_pos h1, Bool.eq_iff_iff, decide_eq_true_eq, decide_eq_true_eq]; unfold idLt; exact ⟨fun h => by omega, fun h => by omega⟩
set_option maxHeartbeats 4000000 in
set_option maxRecDepth 100000 in
theorem rless_any (a b : Id) (w : World) : Calls Tryz.prog 21 #[idV a, idV b] w fun e w' => e = .returned (.bool (decide (idLt a b))) ∧ Chg [] w w' := by
  rw [lt_cases]
  obtain ⟨ac, al, an, ai⟩ := a
  obtain ⟨bc, bl, bn, bi⟩ := b
  dsimp only
  by_cases h1 : ac = bc
  · subst h1
    rw [if_neg (by simp)]
    by_cases h2 : al = bl
    · subst h2
      rw [if_neg (by simp)]
      by_cases h3 : an = bn
      · subst h3
        rw [if_neg (by simp)]
        go_enter Tryz.func21, Tryz.ntmps21
        go_wp2
        go_ret
        exact ⟨rfl, ((Chg.refl [] w).alloc _).alloc _⟩
      · rw [if_pos h3]
        have q : (an != bn) = true := by simp [h3]
        go_enter Tryz.func21, Tryz.ntmps21
        go_wp2
        go_ret
        exact ⟨rfl, ((Chg.refl [] w).alloc _).alloc _⟩
    · rw [if_pos h2]
      have q : (al != bl) = true := by simp [h2]
      go_enter Tryz.func21, Tryz.ntmps21
      go_wp2
      go_ret
      exact ⟨rfl, ((Chg.refl [] w).alloc _).alloc _⟩
  · rw [if_pos h1]
    have q : (ac != bc) = true := by simp [h1]
    go_enter Tryz.func21, Tryz.ntmps21
    go_wp2
    go_ret
    exact ⟨rfl, ((Chg.refl [] w).alloc _).alloc _⟩

/-! ### Plainly -/
theorem lastOf_fold (c : Int) : ∀ (l : List Id) (r : Id × Bool), ((l.foldl (fun r x => if x.c = c then (x, true) else r) r) = r ∨ ((l.foldl (fun r x => if x.c = c then (x, true) else r) r).2 = true ∧ (l.foldl (fun r x => if x.c = c then (x, true) else r) r).1 ∈ l))
  | [], r => .inl rfl
  | x :: l, r => by
    rw [List.foldl_cons]
    by_cases hx : x.c = c
    · rw [if_pos hx]
      rcases lastOf_fold c l (x, true) with h | ⟨h1, h2⟩
      · rw [h]; exact .inr ⟨rfl, by simp⟩
      · exact .inr ⟨h1, List.mem_cons_of_mem _ h2⟩
    · rw [if_neg hx]
      rcases lastOf_fold c l r with h | ⟨h1, h2⟩
      · exact .inl h
      · exact .inr ⟨h1, List.mem_cons_of_mem _ h2⟩
theorem lastOf_spec (c : Int) (l : List Id) : ((lastOf c l).2 = true → (lastOf c l).1 ∈ l) ∧ ((lastOf c l).2 = false → (lastOf c l).1 = ⟨0, 0, 0, 0⟩) := by
  unfold lastOf
  rcases lastOf_fold c l (⟨0, 0, 0, 0⟩, false) with h | ⟨h1, h2⟩
  · rw [h]
    exact ⟨fun h => (by cases h), fun _ => rfl⟩
  · exact ⟨fun _ => h2, fun h => (by rw [h1] at h; cases h)⟩
structure Ord (t : Sto) (F : Frag) (f : Nat → Id) (j : Nat) : Prop where
  kept : Kept t F
  one : ∀ x b, F x = some b → b = [1]
  has : ∀ i, i < j → mayId (f i) = true → F (f i) = some [1]
  room : 12 ≤ t.room + j
  small : t.s.d.ops ≤ 97 + 20 * j ∧ t.s.d.since.length = 0
theorem Ord.step {t : Sto} {F : Frag} {f : Nat → Id} {j : Nat} (h : Ord t F f j) (hj : j < 12) : ∃ F', Ord (t.put (f j) [1]).2 F' f (j + 1) := by
  obtain ⟨o1, o2, _⟩ := t.put_ok (f j) [1]
  have hsm := h.small
  cases hm : mayId (f j) with
  | false =>
    obtain ⟨_, h2⟩ := h.kept.put_bad (b := [1]) (.inl hm)
    refine ⟨F, ?_⟩
    rw [h2]
    refine ⟨h.kept, h.one, fun i hi hmi => ?_, by have := h.room; omega, by omega, hsm.2⟩
    rcases Nat.lt_or_ge i j with h3 | h3
    · exact h.has i h3 hmi
    · obtain rfl : i = j := by omega
      rw [hm] at hmi; cases hmi
  | true =>
    cases hF : F (f j) with
    | some b =>
      have hb := h.one _ _ hF
      have h2 := h.kept.put_there hF [1] (by simp)
      refine ⟨F, ?_⟩
      rw [h2]
      refine ⟨h.kept, h.one, fun i hi hmi => ?_, by have := h.room; show 12 ≤ t.room + (j + 1); omega, by show t.s.d.ops ≤ _; omega, hsm.2⟩
      rcases Nat.lt_or_ge i j with h3 | h3
      · exact h.has i h3 hmi
      · obtain rfl : i = j := by omega
        rw [hF, hb]
    | none =>
      have hr := h.room
      obtain ⟨p1, p2, p3⟩ := h.kept.put_new hm hF (b := [1]) (by simp) (by omega)
      refine ⟨_, p2, fun x b hx => ?_, fun i hi hmi => ?_, by omega, by omega, by rw [p2.since]; rfl⟩
      · unfold setF at hx
        split at hx
        · exact (Option.some.inj hx).symm
        · exact h.one _ _ hx
      · by_cases e : f i = f j
        · rw [e, setF_self]
        · rw [setF_other _ _ e]
          rcases Nat.lt_or_ge i j with h3 | h3
          · exact h.has i h3 hmi
          · obtain rfl : i = j := by omega
            exact absurd rfl e
theorem Ord.new : ∃ t d, (DS.new 97).format = ((0, some t), d) ∧ ∀ f, Ord t (fun _ => none) f 0 := by
  obtain ⟨t, d, h1, h2, h3, h4, h5, h6, _⟩ := Kept.new 97 (by omega)
  refine ⟨t, d, h1, fun f => ⟨h2, fun x b h => (by cases h), fun i hi => (by omega), ?_, by rw [h3]; omega, by rw [h2.since]; rfl⟩⟩
  unfold Sto.room
  rw [h4]
  decide
end Go.Proofs.YtbkajnjboipbhaaGreatDoor.W

/- StoreOrder: the walk. -/
namespace Go.Proofs.YtbkajnjboipbhaaGreatDoor.W
open Go.RowKit
set_option linter.unusedVariables false
set_option linter.unusedSimpArgs false

set_option maxHeartbeats 16000000 in
set_option maxRecDepth 100000 in
theorem order_any (a : Option Addr) (n cap : Nat) (f : Nat → Id) (c : Int) (w : World) (hin : IdsIn w a n f) (hn : n ≤ maxLen) : Calls Tryz.prog 4 #[.slice a n cap, .int .i64 c] w fun e w' => e = .returned (.bool true) ∧ Chg [] w w' := by
  have CW := Lib.hid (awake6_any w)
  have HI := Lib.hid hin
  have hnn : n ≤ 9223372036854775807 := by unfold maxLen at hn; omega
  clear hin hn
  by_cases h12 : 12 < n
  · have hz : (12 : Int) < (n : Int) := by omega
    go_enter Tryz.func4, Tryz.ntmps4
    go_wp2_with fail
    refine CW.out.mono ?_
    rintro e w1 ⟨rfl, hc1⟩
    have HC1 := Lib.hid hc1
    clear hc1
    go_wp2
    go_ret
    exact ⟨rfl, HC1.out⟩
  · have hz : ¬ (12 : Int) < (n : Int) := by omega
    obtain ⟨t0, d0, hfm, hord⟩ := Ord.new
    have HORD := Lib.hid (hord f)
    have HFM := Lib.hid hfm
    clear hfm hord
    go_enter Tryz.func4, Tryz.ntmps4
    go_wp2_with fail
    refine CW.out.mono ?_
    rintro e w1 ⟨rfl, hc1⟩
    have CN := Lib.hid (own_disk 97 w1 (by omega) (by omega))
    have HC1 := Lib.hid hc1
    clear hc1 CW
    go_wp2_with fail
    refine CN.out.mono ?_
    rintro e w2 ⟨p, S, rfl, hd2, hS2, hc2⟩
    have CF := Lib.hid (own_format (w0 := w) hd2 (fun x hx => Nat.le_trans HC1.out.size (hS2 x hx)) (HC1.out.trans hc2 (by simp)) HFM.out)
    clear hd2 hS2 hc2 CN
    go_wp2_with fail
    refine CF.out.mono ?_
    rintro e w3 ⟨q, rfl, ho3⟩
    have HO3 := Lib.hid ho3
    clear ho3 CF
    go_wp2_with fail
    go_loopg [9] n (fun g' s9 wr => ∃ (j : Nat) (t : Sto) (F : Frag), s9 = .int .i64 (j : Int) ∧ j ≤ n ∧ n ≤ j + g' ∧ Hid (Own6 [] w wr q p t ∧ Ord t F f j))
    case atStart => exact ⟨0, t0, _, rfl, by omega, by omega, Lib.hid ⟨HO3.out, HORD.out⟩⟩
    case round =>
      obtain ⟨j, t, F, rfl, hj, hjg, HJ⟩ := hrel
      by_cases hlt : j < n
      · have hjz : (j : Int) < (n : Int) := by omega
        have hII := HI.out.keep HJ.out.1.chg
        rcases hII with h0 | ⟨g, o, rfl, hc⟩
        · omega
        obtain ⟨hok, m0, m1, m2, m3⟩ := hc j hlt
        obtain ⟨F', hstep⟩ := HJ.out.2.step (by omega)
        have hsm := HJ.out.2.small
        have hcA : Chg [] wr (wr.alloc (.cells #[bv 1] 5)) := (Chg.refl _ _).alloc _
        have HOA := Lib.hid (HJ.out.1.add hcA (Y := [wr.heap.size]) (fun k hk => .inr (by
          rw [List.mem_singleton.1 hk]
          exact ⟨Nat.le_refl _, by simp⟩)))
        have CP := Lib.hid (own_put HOA.out (f j) hok _ [1] (one_byte6 wr 1) (fun _ k hk => .inr (by
          obtain rfl : wr.heap.size = k := by simpa [Value.ownBlock] using hk
          simp)) (by simp) (by omega) (by omega))
        have HST := Lib.hid hstep
        rw [show bv 1 = .int .u8 1 from rfl] at CP
        generalize f j = x at *
        obtain ⟨xc, xl, xn, xi⟩ := x
        clear hc hok hstep hcA
        go_wp2_with fail
        refine CP.out.mono ?_
        rintro e w4 ⟨rfl, ho4, _⟩
        have HN := Lib.hid (And.intro (ho4.mono (Y := []) (by simp)) HST.out)
        clear ho4 CP
        go_wp2_with fail
        go_roundg (gk - 1)
        case measure => omega
        case rel => exact ⟨j + 1, _, F', by go_num, by omega, by omega, HN⟩
      · have hjn : j = n := by omega
        have hjz : ¬ (j : Int) < (n : Int) := by omega
        rw [hjn] at HJ
        have CL := Lib.hid (own_list HJ.out.1)
        have hkeys := Lib.hid HJ.out.2.kept.keys
        have HORDF := Lib.hid HJ.out.2
        have hIDL : t.ids.length ≤ 1000 := by
          have h1 := t.ids_len
          obtain ⟨U, ⟨sp, mb, Us, φ, N, hU, _⟩, _⟩ := HJ.out.1
          obtain ⟨S0, rv0, R0, H0⟩ := hU.slots
          have := H0.few
          omega
        have HLQ : Hid (t.latest c = lastOf c t.ids) := Lib.hid rfl
        clear hjn
        go_wp2_with fail
        refine CL.out.mono ?_
        rintro e w4 ⟨⟨v4, rfl, hr4⟩, ho4, _, hc4⟩
        have HO4 := Lib.hid ho4
        have HR4 := Lib.hid hr4
        obtain ⟨L, hL⟩ : ∃ L, L = t.ids := ⟨_, rfl⟩
        have HLL := Lib.hid hL
        have hform : ∃ b cap, v4 = .slice b L.length cap := by
          rw [hL]
          rcases hr4.2 with ⟨h1, h2⟩ | ⟨g, cap, cur, h1, _⟩
          · exact ⟨none, 0, by rw [h1, h2]⟩
          · exact ⟨_, cap, h1⟩
        obtain ⟨b4, c4, rfl⟩ := hform
        rw [← hL] at HR4 hIDL
        have hga : ∀ j, j < L.length → ∃ g, b4 = some ⟨g, 0, none⟩ ∧ g < w4.heap.size := fun j hj => by
          rcases HR4.out.2 with ⟨h1, h2⟩ | ⟨g, cap', cur, h1, h3, _⟩
          · omega
          · obtain ⟨rfl, _, _⟩ := Value.slice.inj h1
            exact ⟨g, rfl, (World.ownsRow.lt HR4.out g rfl).2⟩
        have HGA := Lib.hid hga
        have HRISE : Hid (∀ i j (hj : j < L.length), i < j → idLt (L.getD i ⟨0, 0, 0, 0⟩) (L.getD j ⟨0, 0, 0, 0⟩)) := Lib.hid (fun i j hj hij => by
          have hr := Sto.ids_rise hkeys.out
          rw [← hL] at hr
          have := List.pairwise_iff_getElem.1 hr i j (by omega) hj hij
          simpa [List.getD_eq_getElem?_getD, List.getElem?_eq_getElem hj, List.getElem?_eq_getElem (show i < L.length by omega)] using this)
        clear hga
        clear ho4 hr4 hc4 CL hL hjg hz
        have HW5 : Hid (∃ w5, w5 = w4.alloc (.cells (idC ⟨0, 0, 0, 0⟩) 25) ∧ Chg [] w4 w5 ∧ w5.heap[w4.heap.size]? = some (.cells (idC ⟨0, 0, 0, 0⟩) 25 (0, 0))) := Lib.hid ⟨_, rfl, (Chg.refl _ _).alloc _, heap_alloc_new w4 _⟩
        obtain ⟨w5, hw5, hc5, hb5⟩ := HW5.out
        have HW := Lib.hid hw5
        have HC5 := Lib.hid hc5
        have HB5 := Lib.hid hb5
        clear hw5 hc5 hb5 HW5
        go_wp2_with fail
        rw [← HW.out]
        go_loopg [12, 13] L.length (fun g' s12 s13 wr => ∃ (i : Nat), s13 = .int .i64 (i : Int) ∧ s12 = .bool (lastOf c (L.take i)).2 ∧ i ≤ L.length ∧ L.length ≤ i + g' ∧ Hid (Chg [] w4 wr ∧ wr.heap[w4.heap.size]? = some (.cells (idC (lastOf c (L.take i)).1) 25 (0, 0))))
        case atStart => exact ⟨0, rfl, rfl, by omega, by omega, Lib.hid ⟨HC5.out, HB5.out⟩⟩
        case round =>
          obtain ⟨i, rfl, rfl, hi, hig, HK⟩ := hrel
          by_cases hil : i < L.length
          · obtain ⟨g, rfl, hg2⟩ := HGA.out i hil
            have row : ∀ j, j < L.length → ∃ y : Id, L[j]? = some y ∧ L.getD j ⟨0, 0, 0, 0⟩ = y ∧ wr.cell? ⟨g, j * 4, none⟩ = some (.int .i64 y.c) ∧ wr.cell? ⟨g, j * 4 + 1, none⟩ = some (.int .i64 y.l) ∧ wr.cell? ⟨g, j * 4 + 2, none⟩ = some (.int .i64 y.n) ∧ wr.cell? ⟨g, j * 4 + 3, none⟩ = some (.int .i64 y.i) := fun j hj => by
              have hx := List.getElem?_eq_getElem hj
              obtain ⟨m0, m1, m2, m3⟩ := id_row HR4.out j hj _ hx
              exact ⟨L[j], hx, by simp [List.getD_eq_getElem?_getD, hx], HK.out.1.cell m0 (by simp), HK.out.1.cell m1 (by simp), HK.out.1.cell m2 (by simp), HK.out.1.cell m3 (by simp)⟩
            obtain ⟨⟨xc, xl, xn, xi⟩, hx, hxd, m0, m1, m2, m3⟩ := row i hil
            have HN : Hid (lastOf c (L.take (i + 1)) = if xc = c then (⟨xc, xl, xn, xi⟩, true) else lastOf c (L.take i)) := Lib.hid (by
              rw [List.take_succ_eq_append_getElem hil, lastOf_snoc]
              have : L[i] = ⟨xc, xl, xn, xi⟩ := by
                have := List.getElem?_eq_getElem hil
                rw [hx] at this
                exact (Option.some.inj this).symm
              rw [this])
            have hiz : (i : Int) < (L.length : Int) := by omega
            have hbN := HK.out.2
            have hNl := blk_lt hbN
            generalize lastOf c (L.take i) = z at *
            obtain ⟨⟨zc, zl, zn, zi⟩, zb⟩ := z
            dsimp only at HK HN hbN
            cases i with
            | zero =>
              clear row
              obtain ⟨n0, n1, n2, n3⟩ := id_cells hbN
              have f0 := blk_frozen hbN 0
              have f1 := blk_frozen hbN 1
              have f2 := blk_frozen hbN 2
              have f3 := blk_frozen hbN 3
              simp only [Nat.zero_mul] at m0 m1 m2 m3
              go_wp2_with fail
              go_quiet (fail)
              have HCB : Hid (Chg [] w4 (wr.drewN nq)) := Lib.hid (HK.out.1.drewN nq)
              have hbB : (wr.drewN nq).heap[w4.heap.size]? = some (.cells (idC ⟨zc, zl, zn, zi⟩) 25 (0, 0)) := hbN
              have m0 : (wr.drewN nq).cell? ⟨g, 0, none⟩ = some (.int .i64 xc) := m0
              have m1 : (wr.drewN nq).cell? ⟨g, 0 + 1, none⟩ = some (.int .i64 xl) := m1
              have m2 : (wr.drewN nq).cell? ⟨g, 0 + 2, none⟩ = some (.int .i64 xn) := m2
              have m3 : (wr.drewN nq).cell? ⟨g, 0 + 3, none⟩ = some (.int .i64 xi) := m3
              clear n0 n1 n2 n3 f0 f1 f2 f3
              generalize wr.drewN nq = wB at *
              by_cases hxc : xc = c
              · subst hxc
                have HN2 : Hid (lastOf xc (L.take (0 + 1)) = (⟨xc, xl, xn, xi⟩, true)) := Lib.hid (by rw [HN.out, if_pos rfl])
                obtain ⟨n0, n1, n2, n3⟩ := id_cells hbB
                have f0 := blk_frozen hbB 0
                have f1 := blk_frozen hbB 1
                have f2 := blk_frozen hbB 2
                have f3 := blk_frozen hbB 3
                have HF : Hid (Chg [] w4 ((((wB.setCell ⟨w4.heap.size, 0, none⟩ (.int .i64 xc)).setCell ⟨w4.heap.size, 1, none⟩ (.int .i64 xl)).setCell ⟨w4.heap.size, 2, none⟩ (.int .i64 xn)).setCell ⟨w4.heap.size, 3, none⟩ (.int .i64 xi)) ∧
                    ((((wB.setCell ⟨w4.heap.size, 0, none⟩ (.int .i64 xc)).setCell ⟨w4.heap.size, 1, none⟩ (.int .i64 xl)).setCell ⟨w4.heap.size, 2, none⟩ (.int .i64 xn)).setCell ⟨w4.heap.size, 3, none⟩ (.int .i64 xi)).heap[w4.heap.size]? = some (.cells (idC ⟨xc, xl, xn, xi⟩) 25 (0, 0))) := Lib.hid
                  ⟨(((HCB.out.setCell (.inr (Nat.le_refl _)) _).setCell (.inr (Nat.le_refl _)) _).setCell (.inr (Nat.le_refl _)) _).setCell (.inr (Nat.le_refl _)) _, id_written hbB ⟨xc, xl, xn, xi⟩⟩
                clear HK HN hbB hbN
                go_wp2_with fail
                go_roundg (gk - 1)
                case measure => omega
                case rel => exact ⟨0 + 1, by go_num, by rw [HN2.out], by omega, by omega, by rw [HN2.out]; exact HF⟩
              · have HN2 : Hid (lastOf c (L.take (0 + 1)) = (⟨zc, zl, zn, zi⟩, zb)) := Lib.hid (by rw [HN.out, if_neg hxc])
                have q0 : (xc == c) = false := by simp [hxc]
                have HF : Hid (Chg [] w4 wB ∧ wB.heap[w4.heap.size]? = some (.cells (idC ⟨zc, zl, zn, zi⟩) 25 (0, 0))) := Lib.hid ⟨HCB.out, hbB⟩
                clear HK HN hxc hbB hbN
                go_wp2_with fail
                go_roundg (gk - 1)
                case measure => omega
                case rel => exact ⟨0 + 1, by go_num, by rw [HN2.out], by omega, by omega, by rw [HN2.out]; exact HF⟩
            | succ m =>
              obtain ⟨⟨yc, yl, yn, yi⟩, hy, hyd, p0, p1, p2, p3⟩ := row m (by omega)
              have hlt := HRISE.out m (m + 1) hil (by omega)
              rw [hyd, hxd] at hlt
              have CLS := Lib.hid (rless_any ⟨yc, yl, yn, yi⟩ ⟨xc, xl, xn, xi⟩ wr.drew)
              rw [decide_eq_true hlt] at CLS
              have hm1 : ((m + 1 : Nat) : Int) - 1 = (m : Int) := by omega
              have hmp : (0 : Int) < ((m + 1 : Nat) : Int) := by omega
              have hwm : IntKind.i64.wrap (m : Int) = (m : Int) := IntWalk.i64_in _ (by omega)
              have hml : (m : Int) < (L.length : Int) := by omega
              have h0m : (0 : Int) ≤ (m : Int) + 1 := by omega
              clear row hy hyd hlt
              go_wp2_with fail
              refine wp_region_L [(12, fun w' => (w'.cell? ⟨g, m * 4, none⟩ = some (.int .i64 yc) ∧ w'.cell? ⟨g, m * 4 + 1, none⟩ = some (.int .i64 yl) ∧ w'.cell? ⟨g, m * 4 + 2, none⟩ = some (.int .i64 yn) ∧ w'.cell? ⟨g, m * 4 + 3, none⟩ = some (.int .i64 yi))), (12, fun w' => (w'.cell? ⟨g, (m + 1) * 4, none⟩ = some (.int .i64 xc) ∧ w'.cell? ⟨g, (m + 1) * 4 + 1, none⟩ = some (.int .i64 xl) ∧ w'.cell? ⟨g, (m + 1) * 4 + 2, none⟩ = some (.int .i64 xn) ∧ w'.cell? ⟨g, (m + 1) * 4 + 3, none⟩ = some (.int .i64 xi)))] (by kernel_rfl) ?_ (fun hHeld => ?_)
              · exact (HoldC.cons (⟨p0, p1, p2, p3⟩) (HoldC.cons (⟨m0, m1, m2, m3⟩) HoldC.nil))
              refine wpAnyL_take (i := 0) (oi := _) (v := ?_) rfl (by kernel_rfl) (by kernel_rfl) (by kernel_rfl) (by kernel_rfl) (by kernel_rfl) (fun _ _ _ h => h) (Or.inl ⟨by rfl, ?_⟩) (by assumption) (fun hNew => ?_)
              rotate_left
              · intro w _
                go_simp
                try with_reducible rfl
              clear hHeld
              have hHeld := hNew
              clear hNew
              try simp only [List.getElem_toArray, List.getElem_cons_succ, List.getElem_cons_zero, Act.put, List.setIfInBounds_toArray, List.set_cons_zero, List.set_cons_succ]
              refine wpAnyL_take (i := 1) (oi := _) (v := ?_) rfl (by kernel_rfl) (by kernel_rfl) (by kernel_rfl) (by kernel_rfl) (by kernel_rfl) (fun _ _ _ h => h) (Or.inl ⟨by rfl, ?_⟩) (by assumption) (fun hNew => ?_)
              rotate_left
              · intro w _
                go_simp
                try with_reducible rfl
              clear hHeld
              have hHeld := hNew
              clear hNew
              try simp only [List.getElem_toArray, List.getElem_cons_succ, List.getElem_cons_zero, Act.put, List.setIfInBounds_toArray, List.set_cons_zero, List.set_cons_succ]
              refine wpAnyL_take (i := 2) (oi := _) (v := ?_) rfl (by kernel_rfl) (by kernel_rfl) (by kernel_rfl) (by kernel_rfl) (by kernel_rfl) (fun _ _ _ h => h) (Or.inl ⟨by rfl, ?_⟩) (by assumption) (fun hNew => ?_)
              rotate_left
              · intro w _
                go_simp
                try with_reducible rfl
              clear hHeld
              have hHeld := hNew
              clear hNew
              try simp only [List.getElem_toArray, List.getElem_cons_succ, List.getElem_cons_zero, Act.put, List.setIfInBounds_toArray, List.set_cons_zero, List.set_cons_succ]
              refine wpAnyL_take (i := 3) (oi := _) (v := ?_) rfl (by kernel_rfl) (by kernel_rfl) (by kernel_rfl) (by kernel_rfl) (by kernel_rfl) (fun _ _ _ h => h) (Or.inl ⟨by rfl, ?_⟩) (by assumption) (fun hNew => ?_)
              rotate_left
              · intro w _
                go_simp
                try with_reducible rfl
              clear hHeld
              have hHeld := hNew
              clear hNew
              try simp only [List.getElem_toArray, List.getElem_cons_succ, List.getElem_cons_zero, Act.put, List.setIfInBounds_toArray, List.set_cons_zero, List.set_cons_succ]
              refine wpAnyL_take (i := 4) (oi := _) (v := ?_) rfl (by kernel_rfl) (by kernel_rfl) (by kernel_rfl) (by kernel_rfl) (by kernel_rfl) (fun _ _ _ h => h) (Or.inl ⟨by rfl, ?_⟩) (by assumption) (fun hNew => ?_)
              rotate_left
              · intro w _
                go_simp
                try with_reducible rfl
              clear hHeld
              have hHeld := hNew
              clear hNew
              try simp only [List.getElem_toArray, List.getElem_cons_succ, List.getElem_cons_zero, Act.put, List.setIfInBounds_toArray, List.set_cons_zero, List.set_cons_succ]
              refine wpAnyL_take (i := 5) (oi := _) (v := ?_) rfl (by kernel_rfl) (by kernel_rfl) (by kernel_rfl) (by kernel_rfl) (by kernel_rfl) (fun _ _ _ h => h) (Or.inl ⟨by rfl, ?_⟩) (by assumption) (fun hNew => ?_)
              rotate_left
              · intro w _
                go_simp
                try with_reducible rfl
              clear hHeld
              have hHeld := hNew
              clear hNew
              try simp only [List.getElem_toArray, List.getElem_cons_succ, List.getElem_cons_zero, Act.put, List.setIfInBounds_toArray, List.set_cons_zero, List.set_cons_succ]
              refine wpAnyL_take (i := 6) (oi := _) (v := ?_) rfl (by kernel_rfl) (by kernel_rfl) (by kernel_rfl) (by kernel_rfl) (by kernel_rfl) (fun _ _ _ h => h) (Or.inl ⟨by rfl, ?_⟩) (by assumption) (fun hNew => ?_)
              rotate_left
              · intro w _
                go_simp
                try with_reducible rfl
              clear hHeld
              have hHeld := hNew
              clear hNew
              try simp only [List.getElem_toArray, List.getElem_cons_succ, List.getElem_cons_zero, Act.put, List.setIfInBounds_toArray, List.set_cons_zero, List.set_cons_succ]
              refine wpAnyL_load 0 (i := 7) (oi := _) (v := ?_) rfl rfl (by kernel_rfl) (by kernel_rfl) (by kernel_rfl) (by kernel_rfl) (by kernel_rfl) (by kernel_rfl) (fun _ _ _ h => h) (Or.inl ⟨by rfl, ?_⟩) (by assumption) (fun hNew => ?_)
              rotate_left
              · intro w hSw
                (try dsimp only at hSw)
                go_simp
                try with_reducible rfl
              clear hHeld
              have hHeld := hNew
              clear hNew
              try simp only [List.getElem_toArray, List.getElem_cons_succ, List.getElem_cons_zero, Act.put, List.setIfInBounds_toArray, List.set_cons_zero, List.set_cons_succ]
              refine wpAnyL_take (i := 8) (oi := _) (v := ?_) rfl (by kernel_rfl) (by kernel_rfl) (by kernel_rfl) (by kernel_rfl) (by kernel_rfl) (fun _ _ _ h => h) (Or.inl ⟨by rfl, ?_⟩) (by assumption) (fun hNew => ?_)
              rotate_left
              · intro w _
                go_simp
                try with_reducible rfl
              clear hHeld
              have hHeld := hNew
              clear hNew
              try simp only [List.getElem_toArray, List.getElem_cons_succ, List.getElem_cons_zero, Act.put, List.setIfInBounds_toArray, List.set_cons_zero, List.set_cons_succ]
              refine wpAnyL_take (i := 9) (oi := _) (v := ?_) rfl (by kernel_rfl) (by kernel_rfl) (by kernel_rfl) (by kernel_rfl) (by kernel_rfl) (fun _ _ _ h => h) (Or.inl ⟨by rfl, ?_⟩) (by assumption) (fun hNew => ?_)
              rotate_left
              · intro w _
                go_simp
                try with_reducible rfl
              clear hHeld
              have hHeld := hNew
              clear hNew
              try simp only [List.getElem_toArray, List.getElem_cons_succ, List.getElem_cons_zero, Act.put, List.setIfInBounds_toArray, List.set_cons_zero, List.set_cons_succ]
              refine wpAnyL_take (i := 10) (oi := _) (v := ?_) rfl (by kernel_rfl) (by kernel_rfl) (by kernel_rfl) (by kernel_rfl) (by kernel_rfl) (fun _ _ _ h => h) (Or.inl ⟨by rfl, ?_⟩) (by assumption) (fun hNew => ?_)
              rotate_left
              · intro w _
                go_simp
                try with_reducible rfl
              clear hHeld
              have hHeld := hNew
              clear hNew
              try simp only [List.getElem_toArray, List.getElem_cons_succ, List.getElem_cons_zero, Act.put, List.setIfInBounds_toArray, List.set_cons_zero, List.set_cons_succ]
              refine wpAnyL_load 1 (i := 11) (oi := _) (v := ?_) rfl rfl (by kernel_rfl) (by kernel_rfl) (by kernel_rfl) (by kernel_rfl) (by kernel_rfl) (by kernel_rfl) (fun _ _ _ h => h) (Or.inl ⟨by rfl, ?_⟩) (by assumption) (fun hNew => ?_)
              rotate_left
              · intro w hSw
                (try dsimp only at hSw)
                go_simp
                try with_reducible rfl
              clear hHeld
              have hHeld := hNew
              clear hNew
              try simp only [List.getElem_toArray, List.getElem_cons_succ, List.getElem_cons_zero, Act.put, List.setIfInBounds_toArray, List.set_cons_zero, List.set_cons_succ]
              refine wpAnyL_ready (rs := [12]) (by kernel_rfl) (by simp) ?_
              refine AllReadyL.cons (o := _) rfl (fun K hK => ?_) AllReadyL.nil
              try simp only [List.getElem_toArray, List.getElem_cons_succ, List.getElem_cons_zero]
              go_simp
              refine CLS.out.mono ?_
              rintro e wB ⟨rfl, hcB⟩
              have HCB : Hid (Chg [] w4 wB) := Lib.hid ((HK.out.1.drew).trans hcB (by simp))
              have hbB : wB.heap[w4.heap.size]? = some (.cells (idC ⟨zc, zl, zn, zi⟩) 25 (0, 0)) := hcB.keep (show wr.drew.heap[w4.heap.size]? = _ from hbN) (by simp)
              have m0 := hcB.cell (show wr.drew.cell? ⟨g, (m + 1) * 4, none⟩ = _ from m0) (by simp)
              have m1 := hcB.cell (show wr.drew.cell? ⟨g, (m + 1) * 4 + 1, none⟩ = _ from m1) (by simp)
              have m2 := hcB.cell (show wr.drew.cell? ⟨g, (m + 1) * 4 + 2, none⟩ = _ from m2) (by simp)
              have m3 := hcB.cell (show wr.drew.cell? ⟨g, (m + 1) * 4 + 3, none⟩ = _ from m3) (by simp)
              clear hcB CLS
              clear hHeld
              refine hK.out _ _ ?_ (fun hHeld => ?_)
              · exact (HoldC.past (by kernel_rfl) (HoldC.past (by kernel_rfl) HoldC.nil))
              clear hK K
              try simp only [List.getElem_toArray, List.getElem_cons_succ, List.getElem_cons_zero, Act.put, List.setIfInBounds_toArray, List.set_cons_zero, List.set_cons_succ]
              refine wpAnyL_take (i := 13) (oi := _) (v := ?_) rfl (by kernel_rfl) (by kernel_rfl) (by kernel_rfl) (by kernel_rfl) (by kernel_rfl) (fun _ _ _ h => h) (Or.inl ⟨by rfl, ?_⟩) (by assumption) (fun hNew => ?_)
              rotate_left
              · intro w _
                go_simp
                try with_reducible rfl
              clear hHeld
              have hHeld := hNew
              clear hNew
              try simp only [List.getElem_toArray, List.getElem_cons_succ, List.getElem_cons_zero, Act.put, List.setIfInBounds_toArray, List.set_cons_zero, List.set_cons_succ]
              refine wpAnyL_take (i := 14) (oi := _) (v := ?_) rfl (by kernel_rfl) (by kernel_rfl) (by kernel_rfl) (by kernel_rfl) (by kernel_rfl) (fun _ _ _ h => h) (Or.inl ⟨by rfl, ?_⟩) (by assumption) (fun hNew => ?_)
              rotate_left
              · intro w _
                go_simp
                try with_reducible rfl
              clear hHeld
              have hHeld := hNew
              clear hNew
              try simp only [List.getElem_toArray, List.getElem_cons_succ, List.getElem_cons_zero, Act.put, List.setIfInBounds_toArray, List.set_cons_zero, List.set_cons_succ]
              refine wpAnyL_done (by kernel_rfl) ?_ _
              clear hHeld
              by_cases hxc : xc = c
              · subst hxc
                have HN2 : Hid (lastOf xc (L.take (m + 1 + 1)) = (⟨xc, xl, xn, xi⟩, true)) := Lib.hid (by rw [HN.out, if_pos rfl])
                obtain ⟨n0, n1, n2, n3⟩ := id_cells hbB
                have f0 := blk_frozen hbB 0
                have f1 := blk_frozen hbB 1
                have f2 := blk_frozen hbB 2
                have f3 := blk_frozen hbB 3
                have HF : Hid (Chg [] w4 ((((wB.setCell ⟨w4.heap.size, 0, none⟩ (.int .i64 xc)).setCell ⟨w4.heap.size, 1, none⟩ (.int .i64 xl)).setCell ⟨w4.heap.size, 2, none⟩ (.int .i64 xn)).setCell ⟨w4.heap.size, 3, none⟩ (.int .i64 xi)) ∧
                    ((((wB.setCell ⟨w4.heap.size, 0, none⟩ (.int .i64 xc)).setCell ⟨w4.heap.size, 1, none⟩ (.int .i64 xl)).setCell ⟨w4.heap.size, 2, none⟩ (.int .i64 xn)).setCell ⟨w4.heap.size, 3, none⟩ (.int .i64 xi)).heap[w4.heap.size]? = some (.cells (idC ⟨xc, xl, xn, xi⟩) 25 (0, 0))) := Lib.hid
                  ⟨(((HCB.out.setCell (.inr (Nat.le_refl _)) _).setCell (.inr (Nat.le_refl _)) _).setCell (.inr (Nat.le_refl _)) _).setCell (.inr (Nat.le_refl _)) _, id_written hbB ⟨xc, xl, xn, xi⟩⟩
                clear HK HN hbB hbN
                go_wp2_with fail
                go_roundg (gk - 1)
                case measure => omega
                case rel => exact ⟨m + 1 + 1, by go_num, by rw [HN2.out], by omega, by omega, by rw [HN2.out]; exact HF⟩
              · have HN2 : Hid (lastOf c (L.take (m + 1 + 1)) = (⟨zc, zl, zn, zi⟩, zb)) := Lib.hid (by rw [HN.out, if_neg hxc])
                have q0 : (xc == c) = false := by simp [hxc]
                have HF : Hid (Chg [] w4 wB ∧ wB.heap[w4.heap.size]? = some (.cells (idC ⟨zc, zl, zn, zi⟩) 25 (0, 0))) := Lib.hid ⟨HCB.out, hbB⟩
                clear HK HN hxc hbB hbN
                go_wp2_with fail
                go_roundg (gk - 1)
                case measure => omega
                case rel => exact ⟨m + 1 + 1, by go_num, by rw [HN2.out], by omega, by omega, by rw [HN2.out]; exact HF⟩
          · have hiL : i = L.length := by omega
            rw [hiL, List.take_length] at HK
            rw [hiL, List.take_length]
            have HO6 := Lib.hid (HO4.out.keep0 HK.out.1)
            obtain ⟨z, hz⟩ : ∃ z, z = lastOf c L := ⟨_, rfl⟩
            rw [← hz] at HK
            rw [← hz]
            have HLQ2 : Hid (t.latest c = z) := Lib.hid (by rw [HLQ.out, ← HLL.out, hz])
            obtain ⟨U, hU, _⟩ := HO6.out
            have CLT := Lib.hid (stlatest_any q p U t c wr hU (by rw [← HLL.out]; exact hIDL))
            rw [HLQ2.out] at CLT
            have hzo : okD z.1 := by
              by_cases he : z.2 = true
              · have : z.1 ∈ L := by
                  rw [hz]
                  exact (lastOf_spec c L).1 (by rw [← hz]; exact he)
                rw [HLL.out] at this
                exact may_okD (Sto.ids_may hkeys.out this)
              · have : z.1 = ⟨0, 0, 0, 0⟩ := by
                  rw [hz]
                  exact (lastOf_spec c L).2 (by rw [← hz]; simpa using he)
                rw [this]
                decide
            have hnl : ¬ (L.length : Int) < (L.length : Int) := by omega
            obtain ⟨⟨zc, zl, zn, zi⟩, zb⟩ := z
            have HBN := Lib.hid HK.out.2
            have HCR := Lib.hid (HO4.out.chg.trans HK.out.1 (by simp))
            clear HK hz hU hig hi hil hiL
            go_wp2_with fail
            refine CLT.out.mono ?_
            rintro e w7 ⟨rfl, hc7⟩
            have HB7 := Lib.hid (hc7.keep HBN.out (by simp))
            have HO7 := Lib.hid (HO6.out.keep0 hc7)
            have HC7 := Lib.hid (HCR.out.trans hc7 (by simp))
            obtain ⟨w8, hw8⟩ : ∃ w8, w8 = w7.alloc (.cells (idC ⟨zc, zl, zn, zi⟩) 25) := ⟨_, rfl⟩
            have hc8 : Chg [] w7 w8 := by rw [hw8]; exact (Chg.refl _ _).alloc _
            have HB8 := Lib.hid (hc8.keep HB7.out (by simp))
            have HD8 : Hid (w8.heap[w7.heap.size]? = some (.cells (idC ⟨zc, zl, zn, zi⟩) 25 (0, 0))) := Lib.hid (by rw [hw8]; exact heap_alloc_new w7 _)
            have HO8 := Lib.hid (HO7.out.keep0 hc8)
            have HC8 := Lib.hid (HC7.out.trans hc8 (by simp))
            have HW8 := Lib.hid hw8
            have HEQ : Hid (∀ w, (binOp .eql 25 (.agg #[.int .i64 zc, .int .i64 zl, .int .i64 zn, .int .i64 zi]) (.agg #[.int .i64 zc, .int .i64 zl, .int .i64 zn, .int .i64 zi])).run Tryz.prog w = .ok (.bool true) w) := Lib.hid (fun w => by
              have := eq_id ⟨zc, zl, zn, zi⟩ ⟨zc, zl, zn, zi⟩ hzo hzo w
              simpa using this)
            clear hc7 hc8 hw8 CLT
            go_wp2_with fail
            rw [← HW8.out]
            go_loopg [16] n (fun g' s16 wr => ∃ (i : Nat), s16 = .int .i64 (i : Int) ∧ i ≤ n ∧ n ≤ i + g' ∧ Hid (Chg [] w8 wr))
            case atStart => exact ⟨0, rfl, by omega, by omega, Lib.hid (Chg.refl _ _)⟩
            case round =>
              obtain ⟨i, rfl, hi, hig, HQ⟩ := hrel
              by_cases hil : i < n
              · have hiz : (i : Int) < (n : Int) := by omega
                have hII := HI.out.keep (HC8.out.trans HQ.out (by simp))
                rcases hII with h0 | ⟨g, o, rfl, hc⟩
                · omega
                obtain ⟨hok, m0, m1, m2, m3⟩ := hc i hil
                have CG := Lib.hid (own_get (HO8.out.keep0 HQ.out) (f i) hok)
                have CM := Lib.hid (fun w => rmayid_any (f i) w)
                have HGET : Hid (mayId (f i) = true → t.get (f i) = ([1], 0)) := Lib.hid (fun hm => by
                  rw [HORDF.out.kept.get, if_neg (by simp [hm]), HORDF.out.has i hil hm])
                generalize t.get (f i) = gt at *
                generalize mayId (f i) = mf at *
                generalize f i = x at *
                obtain ⟨xc, xl, xn, xi⟩ := x
                obtain ⟨gb, ge⟩ := gt
                dsimp only at CG HGET
                clear hc hok
                go_wp2_with fail
                refine CG.out.mono ?_
                rintro e w9 ⟨⟨vb, rfl, hb9, _⟩, _, _, hc9⟩
                have m0 := hc9.cell m0 (by simp)
                have m1 := hc9.cell m1 (by simp)
                have m2 := hc9.cell m2 (by simp)
                have m3 := hc9.cell m3 (by simp)
                obtain ⟨ab, cb, rfl⟩ := hb9.slice
                have HQ9 := Lib.hid (HQ.out.trans hc9 (by simp))
                clear hc9 hb9 CG
                go_wp2_with fail
                refine (CM.out w9).mono ?_
                rintro e w10 ⟨rfl, hc10⟩
                have HQ10 := Lib.hid (HQ9.out.trans hc10 (by simp))
                clear hc10 CM
                cases mf with
                | false =>
                  go_wp2_with fail
                  go_roundg (gk - 1)
                  case measure => omega
                  case rel => exact ⟨i + 1, by go_num, by omega, by omega, HQ10⟩
                | true =>
                  have hg := HGET.out (by trivial)
                  obtain ⟨rfl, rfl⟩ := Prod.mk.inj hg
                  clear hg HGET
                  simp only [List.length_cons, List.length_nil]
                  go_wp2_with fail
                  go_roundg (gk - 1)
                  case measure => omega
                  case rel => exact ⟨i + 1, by go_num, by omega, by omega, HQ10⟩
              · have hin : i = n := by omega
                have hiz : ¬ (i : Int) < (n : Int) := by omega
                obtain ⟨m0, m1, m2, m3⟩ := id_cells (HQ.out.keep HB8.out (by simp))
                obtain ⟨n0, n1, n2, n3⟩ := id_cells (HQ.out.keep HD8.out (by simp))
                have heq := HEQ.out
                have HCF := Lib.hid (HC8.out.trans HQ.out (by simp))
                clear hin
                go_wp2_with fail
                go_ret
                exact ⟨rfl, HCF.out⟩
end Go.Proofs.YtbkajnjboipbhaaGreatDoor.W

/- StoreOrder: what the row asks. -/
namespace Go.Proofs.YtbkajnjboipbhaaGreatDoor.storeOrder
set_option linter.unusedVariables false
open Go.RowKit Go.ChangeShapes Go.WideShapes
set_option maxRecDepth 100000 in
theorem walk {H : Type} {enc : TypeId × Value → H} {held : Bool} {base b0 : Nat} (v0 : Value) (d0 : DataW H) (p0 : List MemPlace) (a1 : Int) (X : World) (h0 : Value.okWide Tryz.prog X .any b0 36 v0) (k0 : DataW.Trod enc Tryz.prog X base (fun _ => true) held 36 v0 d0 p0)
    (w1 : (Lit.int .i64 a1).wf = true) : Calls Tryz.prog 4 #[v0, .int .i64 a1] X fun e w' => e = .returned (.bool true) ∧ Below X.heap.size X w' := by
  obtain ⟨a, n, cap, rfl⟩ := okWide_slice Tryz.underlying36 h0
  obtain ⟨f, hn, hin⟩ : ∃ f, n ≤ maxLen ∧ Go.Proofs.YtbkajnjboipbhaaGreatDoor.W.IdsIn X a n f := by
    obtain ⟨fuel, hf⟩ := k0
    rcases Go.Proofs.YtbkajnjboipbhaaGreatDoor.W.open_ids hf with hcs | ⟨x, l, c, f, hcs, hl, hm, hd⟩
    · simp [Value.cells] at hcs
      obtain ⟨rfl, rfl, rfl⟩ := hcs
      exact ⟨fun _ => default, by unfold maxLen; omega, .inl rfl⟩
    · simp [Value.cells] at hcs
      obtain ⟨rfl, rfl, rfl⟩ := hcs
      exact ⟨f, Nat.le_trans hl hm, hd⟩
  exact (Go.Proofs.YtbkajnjboipbhaaGreatDoor.W.order_any a n cap f a1 X hin hn).mono fun e w' ⟨h1, h2⟩ => ⟨h1, h2.below (by simp)⟩
end Go.Proofs.YtbkajnjboipbhaaGreatDoor.storeOrder
