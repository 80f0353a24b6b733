/- The reference's Move. -/
import Derived.Test.YtaiihklfeoeoeaaRT3
namespace Go.Proofs.Ytaiihklfeoeoeaa.W
open Go.RowKit
open Go.Proofs.Ytaiihklfeoeoeaa.NM
set_option linter.unusedVariables false
set_option linter.unusedSimpArgs false

theorem thEs_cons (y : Th) (r : PT) : thEs (y :: r) = thE y ++ thEs r := rfl
theorem thEs_set {T : PT} {i : Nat} {x : Th} (hx : T[i]? = some x) (q : Nat) (la : List UInt8) : ((thEs T).set (i * 4 + 1) (.int .i64 (q : Int))).set (i * 4 + 2) (.string ⟨la.toArray⟩) = thEs (T.set i { x with dir := q, name := la }) := by
  induction T generalizing i with
  | nil => simp at hx
  | cons y r ih =>
    match i with
    | 0 =>
      obtain rfl : y = x := by simpa using hx
      simp [thEs_cons, thE]
    | i + 1 =>
      have hx' : r[i]? = some x := by simpa using hx
      rw [thEs_cons, List.set_append_right _ _ (by rw [thE_len]; omega), List.set_append_right _ _ (by rw [thE_len]; omega), thE_len]
      rw [show (i + 1) * 4 + 1 - 4 = i * 4 + 1 by omega, show (i + 1) * 4 + 2 - 4 = i * 4 + 2 by omega, ih hx', List.set_cons_succ, thEs_cons]
theorem ren_at {T : PT} (h : T.Pairwise (fun x y => x.ino < y.ino)) {i : Nat} {x : Th} (hx : T[i]? = some x) (q : Nat) (la : List UInt8) : tRename T x.ino q la = T.set i { x with dir := q, name := la } := by
  unfold tRename
  induction T generalizing i with
  | nil => simp at hx
  | cons y r ih =>
    have h' := List.pairwise_cons.1 h
    match i with
    | 0 =>
      obtain rfl : y = x := by simpa using hx
      rw [List.map_cons, if_pos rfl, List.set_cons_zero]
      congr 1
      conv => rhs; rw [← List.map_id r]
      refine List.map_congr_left fun z hz => ?_
      have := h'.1 z hz
      rw [if_neg (by omega)]; rfl
    | i + 1 =>
      have hx' : r[i]? = some x := by simpa using hx
      have := h'.1 x (List.mem_of_getElem? hx')
      rw [List.map_cons, if_neg (by omega), List.set_cons_succ, ih h'.2 hx']
def RMovePost (w : World) (b : Nat) (v : Value) (base : Nat) (r : Int × PT) (e : Ending) (w' : World) : Prop := e = .returned (.int .i64 r.1) ∧ RDid w w' b v base r.2
/-- What stands in memory while a thing is given another name. -/
theorem move_rows {wo w7 : World} {b base g7 c7 i q : Nat} {v : Value} {T : PT} {x : Th} {la : List UInt8} (h : RTOk wo b v base T) (hx : T[i]? = some x) (hc : Chg [] wo w7) (ho : w7.ownsRow wo.heap.size 99 4 (.slice (some ⟨g7, 0, none⟩) T.length c7) T.length (thEs T)) (hb0 : base ≤ wo.heap.size)
    (hok : TOk (tRename T x.ino q la)) :
    (w7.cell? ⟨g7, i * 4 + 1, none⟩ = some (.int .i64 (x.dir : Int)) ∧ w7.frozen? ⟨g7, i * 4 + 1, none⟩ = false ∧ w7.cell? ⟨g7, i * 4 + 2, none⟩ = some (.string ⟨x.name.toArray⟩) ∧ w7.frozen? ⟨g7, i * 4 + 2, none⟩ = false ∧ g7 < w7.heap.size ∧ w7.cell? ⟨b, 0, none⟩ = some v ∧ w7.frozen? ⟨b, 0, none⟩ = false ∧ b < w7.heap.size ∧ b ≠ g7) ∧
    Hid (RDid wo (((w7.setCell ⟨g7, i * 4 + 1, none⟩ (.int .i64 (q : Int))).setCell ⟨g7, i * 4 + 2, none⟩ (.string ⟨la.toArray⟩)).setCell ⟨b, 0, none⟩ (.slice (some ⟨g7, 0, none⟩) T.length c7)) b v base (tRename T x.ino q la)) := by
  obtain ⟨gl, gb⟩ : g7 < w7.heap.size ∧ wo.heap.size ≤ g7 := ⟨(World.ownsRow.lt ho g7 rfl).2, (World.ownsRow.lt ho g7 rfl).1⟩
  have hb7 := hc.keep h.head (by simp)
  have hil := (List.getElem?_eq_some_iff.1 hx).1
  have key : ∀ j, j < 4 → ∀ u, (thE x)[j]? = some u → w7.cell? ⟨g7, i * 4 + j, none⟩ = some u := by
    intro j hj u hu
    have := World.ownsRow.cells ho (g := g7) rfl (i * 4 + j) u (by rw [thEs_at hx hj]; exact hu)
    rw [add_none] at this
    simpa using this
  have hfz : ∀ j, w7.frozen? ⟨g7, j, none⟩ = false := fun j => by
    rcases ho.2 with ⟨h1, _⟩ | ⟨g, cap, cur, h1, _, hg, _⟩
    · cases h1
    · simp only [Value.slice.injEq, Option.some.injEq, Addr.mk.injEq, and_true, true_and] at h1
      obtain ⟨rfl, _⟩ := h1
      exact blk_frozen hg j
  refine ⟨⟨key 1 (by omega) _ rfl, hfz _, key 2 (by omega) _ rfl, hfz _, gl, blk_cell hb7 0 _ rfl, blk_frozen hb7 0, blk_lt hb7, by have := h.lt; omega⟩, Lib.hid ?_⟩
  obtain ⟨o1, g1⟩ := World.ownsRow.stored ho (i * 4 + 1) (.int .i64 (q : Int)) 
  obtain ⟨o2, g2⟩ := World.ownsRow.stored o1 (i * 4 + 2) (.string ⟨la.toArray⟩)
  rw [thEs_set hx q la] at o2
  refine RDid.put h (((hc.setCell (.inr gb) _)).setCell (.inr gb) _) ?_ hb0 hok
  rw [ren_at h.ok.rise hx]
  have : (T.set i { x with dir := q, name := la }).length = T.length := by simp
  rw [this]
  exact o2
theorem rmove_ready {wo w1 w7 : World} {b base i q : Nat} {v v7 : Value} {T : PT} {x : Th} {la : List UInt8} (h : RTOk wo b v base T) (hx : T[i]? = some x) (hc : Chg [] wo w1) (ho : w7.ownsRow wo.heap.size 99 4 v7 ([] ++ T).length (thEs ([] ++ T)))
    (hg : w1.grownBy w7 (some wo.heap.size)) (hb0 : base ≤ wo.heap.size) (hok : TOk (tRename T x.ino q la)) : ∃ g7 c7, v7 = .slice (some ⟨g7, 0, none⟩) T.length c7 ∧ Hid (Chg [] wo w7) ∧
    ((w7.cell? ⟨g7, i * 4 + 1, none⟩ = some (.int .i64 (x.dir : Int)) ∧ w7.frozen? ⟨g7, i * 4 + 1, none⟩ = false ∧ w7.cell? ⟨g7, i * 4 + 2, none⟩ = some (.string ⟨x.name.toArray⟩) ∧ w7.frozen? ⟨g7, i * 4 + 2, none⟩ = false ∧ g7 < w7.heap.size ∧ w7.cell? ⟨b, 0, none⟩ = some v ∧ w7.frozen? ⟨b, 0, none⟩ = false ∧ b < w7.heap.size ∧ b ≠ g7) ∧
    Hid (RDid wo (((w7.setCell ⟨g7, i * 4 + 1, none⟩ (.int .i64 (q : Int))).setCell ⟨g7, i * 4 + 2, none⟩ (.string ⟨la.toArray⟩)).setCell ⟨b, 0, none⟩ (.slice (some ⟨g7, 0, none⟩) T.length c7)) b v base (tRename T x.ino q la))) := by
  rw [List.nil_append] at ho
  have hil := (List.getElem?_eq_some_iff.1 hx).1
  obtain ⟨a, c, rfl, _, hr⟩ := throw_own ho
  obtain ⟨g7, rfl⟩ : ∃ g, a = some ⟨g, 0, none⟩ := by
    rcases hr with h0 | ⟨g, h1, _⟩
    · rw [h0] at hil; simp at hil
    · exact ⟨g, h1⟩
  have hc7 : Chg [] wo w7 := hc.grown hg (fun k hk => by cases hk; exact .inr (Nat.le_refl _))
  exact ⟨g7, c, rfl, Lib.hid hc7, move_rows h hx hc7 ho hb0 hok⟩
theorem within_root {a b : List UInt8} {l : List (List UInt8)} (ha : splitB a = some l) (hb : splitB b = some []) : withinB a b = true := by
  unfold withinB; rw [ha, hb]; rfl
theorem look_split {T : PT} {p : List UInt8} (h : (tLook T p).2.2 = 0) : ∃ l, splitB p = some l := by
  unfold tLook at h
  cases hs : splitB p with
  | none => rw [hs] at h; cases h
  | some l => exact ⟨l, rfl⟩

set_option maxHeartbeats 8000000 in
set_option maxRecDepth 100000 in
theorem rmove_any (b base : Nat) (v : Value) (T : PT) (s s2 : ByteArray) (w : World) (h : RTOk w b v base T) (hs : s.size ≤ 1000) (hs2 : s2.size ≤ 1000) (hb0 : base ≤ w.heap.size) :
    Calls Try.prog 36 #[.pointer (some ⟨b, 0, none⟩), .string s, .string s2] w (RMovePost w b v base (tMove T s.data.toList s2.data.toList)) := by
  have H := Lib.hid h
  have hok := Lib.hid h.ok
  have hTl := tok_len' h.ok
  have hbl := h.lt
  obtain ⟨Z, hZ⟩ : ∃ Z, tMove T s.data.toList s2.data.toList = Z := ⟨_, rfl⟩
  have HX : Hid (Z = if (tLook T s.data.toList).2.2 ≠ 0 then ((tLook T s.data.toList).2.2, T) else if (tLook T s.data.toList).1 = 1 then (8, T) else
    if splitB s2.data.toList = none then (12, T) else if (withinB s2.data.toList s.data.toList || withinB s.data.toList s2.data.toList) = true then (1, T) else
    if (tPlace T s2.data.toList).2.2 ≠ 0 then ((tPlace T s2.data.toList).2.2, T) else
    if tKid T (tPlace T s2.data.toList).1 (tPlace T s2.data.toList).2.1 ≠ 0 then (7, T) else
    (0, tRename T (tLook T s.data.toList).1 (tPlace T s2.data.toList).1 (tPlace T s2.data.toList).2.1)) := Lib.hid (by rw [← hZ]; rfl)
  rw [hZ]
  clear hZ
  have HP := Lib.hid (rlook_any b base v T s w h hs)
  have HO : Hid ((tLook T s.data.toList).2.2 = 0 → tHas T (tLook T s.data.toList).1 = true ∧ ∃ l, splitB s.data.toList = some l) := Lib.hid (fun h => ⟨(look_okL h).1, look_split h⟩)
  have HS2 := Lib.hid hs2
  have HS := Lib.hid hs
  clear h hs hs2
  generalize tLook T s.data.toList = r at *
  obtain ⟨n, isd, er⟩ := r
  simp only at HX HO
  go_enter Try.func36, Try.ntmps36
  go_wp2_with fail
  refine HP.out.mono ?_
  rintro e w1 ⟨rfl, hb1⟩
  have HB := Lib.hid hb1
  clear hb1 HP
  by_cases h0 : er = 0
  · subst h0
    obtain ⟨o1, o2⟩ := HO.out rfl
    have HA := Lib.hid o1
    have HSP := Lib.hid o2
    have hns := has_small hok.out o1
    have HX1 : Hid (Z = if n = 1 then (8, T) else
      if splitB s2.data.toList = none then (12, T) else if (withinB s2.data.toList s.data.toList || withinB s.data.toList s2.data.toList) = true then (1, T) else
      if (tPlace T s2.data.toList).2.2 ≠ 0 then ((tPlace T s2.data.toList).2.2, T) else
      if tKid T (tPlace T s2.data.toList).1 (tPlace T s2.data.toList).2.1 ≠ 0 then (7, T) else
      (0, tRename T n (tPlace T s2.data.toList).1 (tPlace T s2.data.toList).2.1)) := Lib.hid (by rw [HX.out, if_neg (by simp)])
    clear o1 o2 HX HO
    by_cases hn1 : n = 1
    · have HE : Hid (Z = (8, T)) := Lib.hid (by rw [HX1.out, if_pos hn1])
      subst hn1
      go_wp2
      go_ret
      rw [HE.out]
      exact ⟨rfl, RDid.same H.out HB.out⟩
    · have hz1 : ((n : Int) == 1) = false := by simp; omega
      have HN1 := Lib.hid hn1
      have HX2 : Hid (Z = if splitB s2.data.toList = none then (12, T) else if (withinB s2.data.toList s.data.toList || withinB s.data.toList s2.data.toList) = true then (1, T) else
        if (tPlace T s2.data.toList).2.2 ≠ 0 then ((tPlace T s2.data.toList).2.2, T) else
        if tKid T (tPlace T s2.data.toList).1 (tPlace T s2.data.toList).2.1 ≠ 0 then (7, T) else
        (0, tRename T n (tPlace T s2.data.toList).1 (tPlace T s2.data.toList).2.1)) := Lib.hid (by rw [HX1.out, if_neg hn1])
      clear HX1 hn1
      cases hsp : splitB s2.data.toList with
      | none =>
        have HE : Hid (Z = (12, T)) := Lib.hid (by rw [HX2.out, if_pos hsp])
        have HSP2 := Lib.hid hsp
        clear hsp
        go_wp2_with fail
        refine (rsplit_any s2 w1 HS2.out).mono ?_
        rintro e w2 ⟨hb, h2⟩
        rw [HSP2.out] at h2
        subst h2
        have HB2 := Lib.hid (chg_tr HB.out (chg_below hb))
        clear hb
        go_wp2
        go_ret
        rw [HE.out]
        exact ⟨rfl, RDid.same H.out HB2.out⟩
      | some l2 =>
        have HX3 : Hid (Z = if (withinB s2.data.toList s.data.toList || withinB s.data.toList s2.data.toList) = true then (1, T) else
          if (tPlace T s2.data.toList).2.2 ≠ 0 then ((tPlace T s2.data.toList).2.2, T) else
          if tKid T (tPlace T s2.data.toList).1 (tPlace T s2.data.toList).2.1 ≠ 0 then (7, T) else
          (0, tRename T n (tPlace T s2.data.toList).1 (tPlace T s2.data.toList).2.1)) := Lib.hid (by rw [HX2.out, if_neg (by rw [hsp]; simp)])
        have HRT : Hid (withinB s.data.toList s2.data.toList = false → splitB s2.data.toList ≠ some []) := Lib.hid (fun h e => by
          obtain ⟨l, hl⟩ := HSP.out
          rw [within_root hl e] at h; cases h)
        have HW1 : Hid (∀ w, Calls Try.prog 23 #[.string s2, .string s] w (fun e w' => e = .returned (.bool (withinB s2.data.toList s.data.toList)) ∧ Chg [] w w')) := Lib.hid (fun w => (rwithin_any s2 s w HS2.out HS.out).mono fun e w' ⟨h1, h2⟩ => ⟨h1, chg_below h2⟩)
        have HW2 : Hid (∀ w, Calls Try.prog 23 #[.string s, .string s2] w (fun e w' => e = .returned (.bool (withinB s.data.toList s2.data.toList)) ∧ Chg [] w w')) := Lib.hid (fun w => (rwithin_any s s2 w HS.out HS2.out).mono fun e w' ⟨h1, h2⟩ => ⟨h1, chg_below h2⟩)
        have HSPL : Hid (∀ w, Calls Try.prog 40 #[.string s2] w (fun e w' => (∃ v, e = .returned (.tuple #[v, .int .i64 0])) ∧ Chg [] w w')) := Lib.hid (fun w => (rsplit_any s2 w HS2.out).mono fun e w' ⟨hb, h2⟩ => by
          rw [hsp] at h2
          obtain ⟨v, h2, _⟩ := h2
          exact ⟨⟨v, h2⟩, chg_below hb⟩)
        clear hsp HX2
        go_wp2_with fail
        refine (HSPL.out w1).mono ?_
        rintro e w2 ⟨⟨v2, rfl⟩, hb⟩
        have HB2 := Lib.hid (chg_tr HB.out hb)
        clear hb
        generalize withinB s2.data.toList s.data.toList = b1 at *
        generalize withinB s.data.toList s2.data.toList = b2 at *
        cases b1 with
        | true =>
          have HE : Hid (Z = (1, T)) := Lib.hid (by rw [HX3.out, if_pos (by simp)])
          go_wp2_with fail
          refine (HW1.out w2).mono ?_
          rintro e w3 ⟨rfl, hb⟩
          have HB3 := Lib.hid (chg_tr HB2.out hb)
          clear hb
          go_wp2
          go_ret
          rw [HE.out]
          exact ⟨rfl, RDid.same H.out HB3.out⟩
        | false =>
          go_wp2_with fail
          refine (HW1.out w2).mono ?_
          rintro e w3 ⟨rfl, hb⟩
          have HB3 := Lib.hid (chg_tr HB2.out hb)
          clear hb
          go_wp2_with fail
          refine (HW2.out w3).mono ?_
          rintro e w4 ⟨rfl, hb⟩
          have HB4 := Lib.hid (chg_tr HB3.out hb)
          clear hb
          cases b2 with
          | true =>
            have HE : Hid (Z = (1, T)) := Lib.hid (by rw [HX3.out, if_pos (by simp)])
            go_wp2
            go_ret
            rw [HE.out]
            exact ⟨rfl, RDid.same H.out HB4.out⟩
          | false =>
            have HNR := Lib.hid (HRT.out rfl)
            have H4 := Lib.hid (H.out.keep0 HB4.out)
            have HX4 : Hid (Z = if (tPlace T s2.data.toList).2.2 ≠ 0 then ((tPlace T s2.data.toList).2.2, T) else
              if tKid T (tPlace T s2.data.toList).1 (tPlace T s2.data.toList).2.1 ≠ 0 then (7, T) else
              (0, tRename T n (tPlace T s2.data.toList).1 (tPlace T s2.data.toList).2.1)) := Lib.hid (by rw [HX3.out, if_neg (by simp)])
            have HPL := Lib.hid (rplace_any b base v T s2 w4 H4.out HS2.out HNR.out)
            have HPO : Hid ((tPlace T s2.data.toList).2.2 = 0 → tIsDir T (tPlace T s2.data.toList).1 = true ∧ mayB (tPlace T s2.data.toList).2.1 = true ∧ tHas T (tPlace T s2.data.toList).1 = true) := Lib.hid place_ok
            clear HX3 HRT HNR HSPL HW1 HW2
            generalize tPlace T s2.data.toList = r at *
            obtain ⟨a, la, er⟩ := r
            simp only at HX4 HPO
            go_wp2_with fail
            refine HPL.out.mono ?_
            rintro e w5 ⟨rfl, hb⟩
            have HB5 := Lib.hid (chg_tr HB4.out hb)
            clear hb HPL
            by_cases h0 : er = 0
            · subst h0
              obtain ⟨o1, o2, o3⟩ := HPO.out rfl
              have HD := Lib.hid o1
              have HM := Lib.hid o2
              have has := has_small hok.out o3
              have HX5 : Hid (Z = if tKid T a la ≠ 0 then (7, T) else (0, tRename T n a la)) := Lib.hid (by rw [HX4.out, if_neg (by simp)])
              clear o1 o2 o3 HX4 HPO
              have H5 := Lib.hid (H.out.keep0 HB5.out)
              have CK := rkid_any b base v T a la w5 H5.out
              rw [kdI_nat] at CK
              have HCK := Lib.hid CK
              clear CK
              go_wp2_with fail
              refine HCK.out.mono ?_
              rintro e w6 ⟨rfl, rfl⟩
              by_cases hk0 : tKid T a la = 0
              · have HE : Hid (Z = (0, tRename T n a la)) := Lib.hid (by rw [HX5.out, if_neg (by simp [hk0])])
                have HTK : Hid (TOk (tRename T n a la)) := Lib.hid (hok.out.ren HD.out ((kid_zero hok.out).1 hk0) HM.out)
                rw [hk0]
                clear hk0 HX5 HCK
                have HF := Lib.hid (rfind_any b base _ T n w5 H5.out)
                obtain ⟨i, x, hi, hix, hig⟩ : ∃ (i : Nat) (x : Th), fiI T n = i ∧ T[i]? = some x ∧ tGet T n = some x := by
                  rcases fiI_cases T n with ⟨h2, h3⟩ | h2
                  · have := HA.out
                    unfold tHas at this
                    rw [h3] at this
                    simp at this
                    exact absurd this HN1.out
                  · exact h2
                have hil := (List.getElem?_eq_some_iff.1 hix).1
                rw [hi] at HF
                have hxn := (get_some hig).2
                have HIX := Lib.hid hix
                subst hxn
                clear hi hix hig
                obtain ⟨A, cap, hv, hcap, hrow⟩ := throw_own H5.out.rows
                subst hv
                have t0 : w5.cell? ⟨b, 0, none⟩ = some (.slice A T.length cap) := blk_cell H5.out.head 0 _ rfl
                obtain ⟨g, rfl, hg⟩ : ∃ g, A = some ⟨g, 0, none⟩ ∧ g < w5.heap.size := by
                  rcases hrow with h0 | ⟨g, h1, h2, h3⟩
                  · rw [h0] at hil; simp at hil
                  · exact ⟨g, h1, h2⟩
                have hbase5 : base ≤ w5.heap.size := Nat.le_trans hb0 HB5.out.size
                have hbl5 := H5.out.lt
                have HSRC : Hid (SrcTh (w5.alloc (.cells #[] 99)) (.slice (some ⟨g, 0, none⟩) T.length cap) T) := Lib.hid (by
                  have := (row_take H5.out.rows T.length (Nat.le_refl _) cap).keep ((Chg.refl [] w5).alloc (.cells #[] 99))
                  rwa [List.take_length] at this)
                have HO0 := Lib.hid (empty_row w5 w5.heap.size (Nat.le_refl _))
                have HC0 : Hid (Chg [] w5 (w5.alloc (.cells #[] 99))) := Lib.hid ((Chg.refl [] w5).alloc _)
                have hilz : (i : Int) < (T.length : Int) := by omega
                clear hrow
                go_wp2_with fail
                refine HF.out.mono ?_
                rintro e w6 ⟨rfl, rfl⟩
                go_wp2_with (at_builtin; refine wpList_appTh rfl _ _ rfl w5.heap.size _ [] rfl HO0.out _ T rfl HSRC.out (by simp; omega) HC0.out.size ?_; intro v7 w7 ho7 hg7 hat7
                             obtain ⟨g7, c7, rfl, HC7, HRW⟩ := rmove_ready H5.out HIX.out HC0.out ho7 hg7 hbase5 HTK.out
                             obtain ⟨⟨m1, m2, m3, m4, m5, m6, m7, m8, m9⟩, HP⟩ := HRW
                             clear ho7 hg7 hat7)
                go_ret
                rw [HE.out]
                obtain ⟨v', r1, r2, r3⟩ := HP.out
                refine ⟨rfl, v', r1, ?_, (HB5.out.mono (by simp)).trans r3 (by simp)⟩
                rcases r2 with r2 | r2
                · exact .inl r2
                · exact .inr (fun g hg => Nat.le_trans HB5.out.size (r2 g hg))
              · have HE : Hid (Z = (7, T)) := Lib.hid (by rw [HX5.out, if_pos hk0])
                generalize tKid T a la = c at *
                have hc0 : ((c : Int) != 0) = true := by simp; omega
                clear hk0
                go_wp2
                go_ret
                rw [HE.out]
                exact ⟨rfl, RDid.same H.out HB5.out⟩
            · have HE : Hid (Z = (er, T)) := Lib.hid (by rw [HX4.out, if_pos h0])
              have he0 : (er != 0) = true := by simpa using h0
              clear h0 HX4 HPO
              go_wp2
              go_ret
              rw [HE.out]
              exact ⟨rfl, RDid.same H.out HB5.out⟩
  · have HE : Hid (Z = (er, T)) := Lib.hid (by rw [HX.out, if_pos h0])
    have he0 : (er != 0) = true := by simpa using h0
    clear h0 HX HO
    go_wp2
    go_ret
    rw [HE.out]
    exact ⟨rfl, RDid.same H.out HB.out⟩
end Go.Proofs.Ytaiihklfeoeoeaa.W
