/- Package tree: Make. -/
import Derived.Test.YtaiihklfeoeoeaaT3
namespace Go.Proofs.Ytaiihklfeoeoeaa.W
open Go.RowKit
open Go.Proofs.Ytaiihklfeoeoeaa.NM
set_option linter.unusedVariables false
set_option linter.unusedSimpArgs false

def MakePost (w : World) (t : Nat) (S : List Nat) (r : (Nat × Int) × PT) (e : Ending) (w' : World) : Prop := e = .returned (.tuple #[.int .i64 (r.1.1 : Int), .int .i64 r.1.2]) ∧ TDid w w' t S r.2
theorem place_ok {T : PT} {p : List UInt8} (h : (tPlace T p).2.2 = 0) : tIsDir T (tPlace T p).1 = true ∧ mayB (tPlace T p).2.1 = true ∧ tHas T (tPlace T p).1 = true := by
  unfold tPlace at h ⊢
  cases hs : splitB p with
  | none => rw [hs] at h; cases h
  | some l =>
    rw [hs] at h
    simp only at h ⊢
    by_cases h0 : l = []
    · rw [if_pos h0] at h; cases h
    · rw [if_neg h0] at h ⊢
      by_cases h1 : (tWalk T l.dropLast 1).2 ≠ 0
      · rw [if_pos h1] at h; exact absurd h h1
      · rw [if_neg h1] at h ⊢
        by_cases h2 : tIsDir T (tWalk T l.dropLast 1).1 = false
        · rw [if_pos h2] at h; cases h
        · rw [if_neg h2]
          have h3 : tIsDir T (tWalk T l.dropLast 1).1 = true := by simpa using h2
          refine ⟨h3, ?_, dir_has h3⟩
          refine (split_some hs).1 _ ?_
          show l.getLastD [] ∈ l
          rw [List.getLastD_eq_getLast?, List.getLast?_eq_some_getLast h0]
          exact List.getLast_mem h0
theorem root_str (s : ByteArray) : (s.toList == [47]) = decide (s.data.toList = [47]) := by
  rw [toList_data, Bool.eq_iff_iff]; simp

theorem kids_le (T : PT) (a : Nat) : nKids T a ≤ T.length := List.length_filter_le _ _
theorem φT_none {T : PT} {f : Nat → Nat} {k : Nat} (h2 : 2 ≤ k) (hno : ∀ x ∈ T, x.ino ≠ k) : φT T f (k : Int) = none := by
  unfold φT
  rw [if_neg]
  rintro ⟨_, hh⟩
  rcases has_iff.1 hh with h3 | ⟨x, hx, h3⟩
  · omega
  · exact hno x hx (by omega)
/-- What 'put' asks, where a thing is new. -/
theorem put_ready {w1 w2 : World} {t : Nat} {S : List Nat} {T : PT} {bm : Nat} {f g : Nat → Nat} (HT : TreeOk w1 t S T bm f g) (hc : Chg [] w1 w2) {a k px : Nat} {la : List UInt8} {dd : Bool} {mm : Option Nat} (ha : tIsDir T a = true) (hla : la.length ≤ 12) (hno : ∀ x ∈ T, x.ino ≠ k) (h2 : 2 ≤ k) (h128 : k ≤ 128)
    (hT : T.length ≤ 126) (hx : w2.heap[px]? = some (.cells (thCells ⟨k, a, la, dd⟩ mm) 69 (0, 0))) :
    Calls Try.prog 27 #[.pointer (some ⟨t, 0, none⟩), .int .i64 (a : Int), .int .i64 (k : Int), .pointer (some ⟨px, 0, none⟩)] w2 fun e w' => e = .returned (.tuple #[]) ∧ PutsTh w2 bm (g a) (φT T f) (T.length + 1) (φK T a) (nKids T a) (k : Int) px la w' := by
  have hne : a ≠ k := fun e => by
    subst e
    rcases has_iff.1 (dir_has ha) with h3 | ⟨x, hx', h3⟩
    · omega
    · exact hno x hx' h3
  have has := has_small HT.ok (dir_has ha)
  have hkl := kids_le T a
  have d3 := (HT.cells (dir_has ha)).2.2.2
  rw [if_pos ha] at d3
  refine tput_any t bm a k px (f a) (g a) (φT T f) (T.length + 1) (φK T a) (nKids T a) la w2 (hc.keep HT.head (by simp)) (HT.things.chg hc (by simp)) (by unfold maxLen; omega) (okI_small (by omega)) (okI_small (by omega)) ?_ (hc.cell d3 (by simp)) (blk_cell hx 1 _ rfl) ((HT.ins a ha).chg hc (by simp)) (by unfold maxLen; omega) (by unfold okS maxLen; omega) (HT.gm a ha)
  rw [updF_other _ _ (by omega), φT_has (dir_has ha)]
/-- A new thing is put in. -/
theorem put_done {w w1 w2 w3 : World} {t : Nat} {S : List Nat} {T : PT} {bm : Nat} {f g : Nat → Nat} (HT : TreeOk w1 t S T bm f g) (HB : Chg [] w w1) (hc : Chg [] w1 w2) {y : Th} (hy : ∀ x ∈ T, x.ino ≠ y.ino) (hok : TOk (tIns y T)) (hd : tIsDir T y.dir = true) (hk : tKidOf T y.dir y.name = none)
    {px gx : Nat} (hpx : w1.heap.size ≤ px) (hgx : w1.heap.size ≤ gx) (hgl : gx < w2.heap.size)
    (hb : w2.heap[px]? = some (.cells (thCells y (if y.isDir then some gx else none)) 69 (0, 0))) (hn : y.isDir = true → MapF 9 klS okS w2 gx (fun _ => none) 0)
    (hp : PutsTh w2 bm (g y.dir) (φT T f) (T.length + 1) (φK T y.dir) (nKids T y.dir) (y.ino : Int) px y.name w3) : TDid w w3 t S (tIns y T) := by
  obtain ⟨p1, p2, p3, p4⟩ := hp
  have h2 := (hok.nums y ((mem_ins T y).2 (.inl rfl))).1
  rw [φT_none h2 hy] at p1
  have e2 : φK T y.dir y.name = none := by unfold φK; rw [hk]; rfl
  rw [e2] at p2
  have l1 := HT.things.lt
  have l2 := (HT.ins _ hd).lt
  have hc13 : Chg [bm, g y.dir] w1 w3 := (hc.mono (by simp)).trans p3 (fun x hx => .inl hx)
  have hgr := HT.grow hy hok hd hk (w' := w3) (px := px) (gx := gx) hpx hgx (by rw [p4]; exact blk_lt hb) (by rw [p4]; exact hgl) p1 p2 (p3.keep hb (by simp; omega)) (fun hdir => (hn hdir).chg p3 (by simp; omega)) hc13
  refine ⟨_, hgr, fun x hx => ?_, (HB.mono (by simp)).trans hc13 (fun x hx => ?_)⟩
  · have := HB.size
    rcases List.mem_append.1 hx with hx | hx
    · exact .inl hx
    · simp at hx
      right; omega
  · simp at hx
    rcases hx with rfl | rfl
    · exact .inl HT.mem.2.1
    · exact .inl (HT.mem.2.2.2 _ hd)

set_option maxHeartbeats 8000000 in
set_option maxRecDepth 100000 in
theorem tmake_any (t : Nat) (S : List Nat) (T : PT) (s : ByteArray) (d : Bool) (w : World) (h : TreeAt w t S T) (hs : s.size ≤ maxLen) :
    Calls Try.prog 9 #[.pointer (some ⟨t, 0, none⟩), .string s, .bool d] w (MakePost w t S (tMake T s.data.toList d)) := by
  have hmm := @run_makeMap Try.prog
  have H := Lib.hid h
  have HS := Lib.hid hs
  have hok := Lib.hid h.ok
  clear h hs
  obtain ⟨Z, hZ⟩ : ∃ Z, tMake T s.data.toList d = Z := ⟨_, rfl⟩
  have HZ := Lib.hid hZ
  rw [hZ]
  clear hZ
  by_cases hr : s.data.toList = [47]
  · have HE : Hid (Z = ((0, 7), T)) := Lib.hid (by rw [← HZ.out]; unfold tMake; rw [if_pos hr])
    have hb : (s.toList == [47]) = true := by rw [root_str, decide_eq_true hr]
    clear hr
    go_enter Try.func9, Try.ntmps9
    go_wp2_with fail
    refine (tmade_any t S T w H.out).mono ?_
    rintro e w' ⟨rfl, rfl⟩
    go_wp2
    go_ret2
    rw [HE.out]
    exact ⟨rfl, TDid.same H.out (Chg.refl _ _)⟩
  · have hb : (s.toList == [47]) = false := by rw [root_str, decide_eq_false hr]
    have HX : Hid (Z = if (tPlace T s.data.toList).2.2 ≠ 0 then ((0, (tPlace T s.data.toList).2.2), T) else
        if tKid T (tPlace T s.data.toList).1 (tPlace T s.data.toList).2.1 ≠ 0 then ((0, 7), T) else if 128 ≤ T.length + 1 then ((0, 5), T) else
        ((tLeast 2 T, 0), tIns ⟨tLeast 2 T, (tPlace T s.data.toList).1, (tPlace T s.data.toList).2.1, d⟩ T)) := Lib.hid (by rw [← HZ.out]; unfold tMake; rw [if_neg hr])
    clear hr HZ
    have HP := Lib.hid (tplace_any t S T s w H.out HS.out)
    have HO : Hid ((tPlace T s.data.toList).2.2 = 0 → tIsDir T (tPlace T s.data.toList).1 = true ∧ mayB (tPlace T s.data.toList).2.1 = true ∧ tHas T (tPlace T s.data.toList).1 = true) := Lib.hid place_ok
    generalize tPlace T s.data.toList = r at *
    obtain ⟨a, la, er⟩ := r
    simp only at HX HO
    by_cases h0 : er = 0
    · subst h0
      obtain ⟨o1, o2, o3⟩ := HO.out rfl
      have HD := Lib.hid o1
      have HA := Lib.hid o3
      have hla := may_len o2
      have HM := Lib.hid o2
      have has := has_small hok.out o3
      have HX2 : Hid (Z = if tKid T a la ≠ 0 then ((0, 7), T) else if 128 ≤ T.length + 1 then ((0, 5), T) else ((tLeast 2 T, 0), tIns ⟨tLeast 2 T, a, la, d⟩ T)) := Lib.hid (by rw [HX.out, if_neg (by simp)])
      clear o1 o2 o3 HX HO
      go_enter Try.func9, Try.ntmps9
      go_wp2_with fail
      refine (tmade_any t S T w H.out).mono ?_
      rintro e w' ⟨rfl, rfl⟩
      go_wp2_with fail
      refine HP.out.mono ?_
      rintro e w1 ⟨rfl, hb1⟩
      have HB := Lib.hid hb1
      obtain ⟨bm, f, g, HT⟩ := H.out.keep0 hb1
      have c0 := blk_cell HT.head 0 _ rfl
      have hlk := HT.at HA.out
      obtain ⟨d0, d1, d2, d3⟩ := HT.cells HA.out
      rw [HD.out] at d3
      have d3' : w1.cell? ⟨f a, 3, none⟩ = some (.map (some (g a))) := d3
      have hkd := HT.kid HD.out la (by unfold maxLen; omega)
      have hln := HT.things.len Try.underlying61
      have HTT := Lib.hid HT
      clear d0 d1 d2 d3 hb1 HT
      cases hk : tKidOf T a la with
      | some x =>
        have HE : Hid (Z = ((0, 7), T)) := Lib.hid (by
          rw [HX2.out, if_pos]
          intro h0
          rw [(kid_zero hok.out).1 h0] at hk; cases hk)
        rw [hk] at hkd
        clear hk
        generalize tKid T a la = c at *
        go_wp2
        go_ret2
        rw [HE.out]
        exact ⟨rfl, TDid.same H.out HB.out⟩
      | none =>
        have hk0 : tKid T a la = 0 := (kid_zero hok.out).2 hk
        have HX3 : Hid (Z = if 128 ≤ T.length + 1 then ((0, 5), T) else ((tLeast 2 T, 0), tIns ⟨tLeast 2 T, a, la, d⟩ T)) := Lib.hid (by rw [HX2.out, if_neg (by simp [hk0])])
        have HK := Lib.hid hk
        rw [hk, hk0] at hkd
        clear hk hk0 HX2
        by_cases hfull : 128 ≤ T.length + 1
        · have HE : Hid (Z = ((0, 5), T)) := Lib.hid (by rw [HX3.out, if_pos hfull])
          have hdec : decide (((T.length + 1 : Nat) : Int) ≥ 128) = true := decide_eq_true (by omega)
          clear hfull
          generalize T.length + 1 = n at *
          go_wp2
          go_ret2
          rw [HE.out]
          exact ⟨rfl, TDid.same H.out HB.out⟩
        · have HE : Hid (Z = ((tLeast 2 T, 0), tIns ⟨tLeast 2 T, a, la, d⟩ T)) := Lib.hid (by rw [HX3.out, if_neg hfull])
          have hdec : decide (((T.length + 1 : Nat) : Int) ≥ 128) = false := decide_eq_false (by omega)
          have hle := least_le T 2
          have hge := least_ge T 2
          have hTl : T.length ≤ 126 := by omega
          have HN := Lib.hid hTl
          have HL : Hid (∀ k, 2 ≤ k → k < tLeast 2 T → tHas T k = true) := Lib.hid (fun k h1 h2 => has_iff.2 (.inr (least_taken T 2 k h1 h2)))
          have HF : Hid (∀ x ∈ T, x.ino ≠ tLeast 2 T) := Lib.hid (least_free T 2 hok.out.rise (fun x hx => (hok.out.nums x hx).1))
          have hm128 : tLeast 2 T ≤ 128 := by omega
          clear hfull HX3
          obtain ⟨m, hm⟩ : ∃ m, tLeast 2 T = m := ⟨_, rfl⟩
          rw [hm] at HE HL HF hge hm128
          clear hm hle hTl
          obtain ⟨nn, hnn⟩ : ∃ nn, T.length + 1 = nn := ⟨_, rfl⟩
          rw [hnn] at hln hdec
          have HNN := Lib.hid hnn
          clear hnn
          go_wp2
          go_loop [13] (fun v13 => ∃ k : Nat, v13 = .int .i64 k ∧ 2 ≤ k ∧ k ≤ m) (fun v13 => m - (intOf v13).toNat)
          case atStart => exact ⟨2, rfl, by omega, by omega⟩
          case round =>
            obtain ⟨k, rfl, hk2, hkm⟩ := hrel
            by_cases hlt : k < m
            · have hl2 := HTT.out.at (HL.out k hk2 hlt)
              go_wp2
              go_round
              case rel => exact ⟨k + 1, by go_num, by omega, by omega⟩
              case measure => simp [intOf]; omega
            · obtain rfl : k = m := by omega
              have hno : (Instr.lookup 61 (.map (some bm)) (.int .i64 (k : Int)) false).run Try.prog w1 = .ok (.pointer none) w1 := by
                have h1 := HTT.out.things.look keInt Try.underlying61 zeroPT (x := (k : Int)) (okI_small (by omega))
                rw [φT_none hk2 HF.out] at h1
                exact h1
              have HOK : Hid (TOk (tIns ⟨k, a, la, d⟩ T)) := Lib.hid (hok.out.ins HF.out ⟨hk2, hm128⟩ HD.out HK.out HM.out)
              clear hlt
              have hla12 := hla.2
              have HLA := Lib.hid hla12
              cases d with
              | false =>
                go_wp2_with fail
                have hc2 : Chg [] w1 (w1.alloc (.cells #[.int .i64 (a : Int), .string ⟨la.toArray⟩, .bool false, .map none] 69)) := (Chg.refl _ _).alloc _
                have hx2 : (w1.alloc (.cells #[.int .i64 (a : Int), .string ⟨la.toArray⟩, .bool false, .map none] 69)).heap[w1.heap.size]? = some (.cells (thCells ⟨k, a, la, false⟩ none) 69 (0, 0)) := (MapKept.heap_alloc _ _).1
                have hsz : w1.heap.size < (w1.alloc (.cells #[.int .i64 (a : Int), .string ⟨la.toArray⟩, .bool false, .map none] 69)).heap.size := blk_lt hx2
                have HH := Lib.hid (And.intro hc2 (And.intro hx2 hsz))
                clear hc2 hx2 hsz
                refine (put_ready HTT.out HH.out.1 HD.out HLA.out HF.out hk2 hm128 HN.out HH.out.2.1).mono ?_
                rintro e w3 ⟨rfl, hp⟩
                have HFIN : Hid (TDid w w3 t S (tIns ⟨k, a, la, false⟩ T)) := Lib.hid (put_done HTT.out HB.out HH.out.1 HF.out HOK.out HD.out HK.out (Nat.le_refl _) (Nat.le_refl _) HH.out.2.2 HH.out.2.1 (fun h => by cases h) hp)
                clear hp
                go_wp2
                go_ret2
                rw [HE.out]
                exact ⟨rfl, HFIN.out⟩
              | true =>
                go_wp2_with fail
                obtain ⟨w2, hw2⟩ : ∃ w2, w1.alloc (.cells #[.int .i64 (a : Int), .string ⟨la.toArray⟩, .bool false, .map none] 69) = w2 := ⟨_, rfl⟩
                have hs2 : w2.heap.size = w1.heap.size + 1 := by rw [← hw2]; simp
                have hc2 : Chg [] w1 w2 := by rw [← hw2]; exact (Chg.refl _ _).alloc _
                rw [hw2]
                have HS2 := Lib.hid hs2
                have HC2 := Lib.hid hc2
                clear hw2 hs2 hc2
                refine (tdirectory_any _ _ w2).mono ?_
                rintro e w3 ⟨rfl, hw3⟩
                have hs3 : w3.heap.size = w2.heap.size + 2 := by rw [hw3]; simp
                have hc3 : Chg [] w1 w3 := by rw [hw3]; exact (HC2.out.alloc _).alloc _
                have hx3 : w3.heap[w2.heap.size + 1]? = some (.cells (thCells ⟨k, a, la, true⟩ (some w2.heap.size)) 69 (0, 0)) := by
                  rw [hw3]
                  have h := (MapKept.heap_alloc (w2.alloc (.map #[] 0)) (.cells #[.int .i64 (a : Int), .string ⟨la.toArray⟩, .bool true, .map (some w2.heap.size)] 69)).1
                  have e2 : (w2.alloc (.map #[] 0)).heap.size = w2.heap.size + 1 := by simp
                  rw [e2] at h
                  exact h
                have hg3 : MapF 9 klS okS w3 w2.heap.size (fun _ => none) 0 := by
                  rw [hw3]
                  exact (MapF.made w2).chg ((Chg.refl [] _).alloc _) (by simp)
                have HH := Lib.hid (And.intro hc3 (And.intro hx3 (And.intro hg3 hs3)))
                clear hc3 hx3 hg3 hs3 hw3
                go_wp2_with fail
                refine (put_ready HTT.out HH.out.1 HD.out HLA.out HF.out hk2 hm128 HN.out HH.out.2.1).mono ?_
                rintro e w4 ⟨rfl, hp⟩
                have HFIN : Hid (TDid w w4 t S (tIns ⟨k, a, la, true⟩ T)) := Lib.hid (put_done HTT.out HB.out HH.out.1 HF.out HOK.out HD.out HK.out (by have := HS2.out; omega) (by have := HS2.out; omega) (by have := HH.out.2.2.2; omega) HH.out.2.1 (fun _ => HH.out.2.2.1) hp)
                clear hp
                go_wp2
                go_ret2
                rw [HE.out]
                exact ⟨rfl, HFIN.out⟩
    · have HE : Hid (Z = ((0, er), T)) := Lib.hid (by rw [HX.out, if_pos h0])
      have hb0 : (er != 0) = true := by simpa using h0
      clear h0 HX HO
      go_enter Try.func9, Try.ntmps9
      go_wp2_with fail
      refine (tmade_any t S T w H.out).mono ?_
      rintro e w' ⟨rfl, rfl⟩
      go_wp2_with fail
      refine HP.out.mono ?_
      rintro e w1 ⟨rfl, hb1⟩
      have HB := Lib.hid hb1
      clear hb1
      go_wp2
      go_ret2
      rw [HE.out]
      exact ⟨rfl, TDid.same H.out HB.out⟩
end Go.Proofs.Ytaiihklfeoeoeaa.W
