/- Texts laid together. -/
import Derived.Test.YtaophafailmhjaaBP2
import Derived.Test.YtaophafailmhjaaBP1
import Derived.Defers
import Derived.Recover
import Derived.RegionTactic
import Derived.ChangeAlike
import Derived.Laws.BitsLemmas
import Derived.Laws.BitsAllLaws
import Derived.IntWalk
import Derived.Shelf.Abstract
import Derived.Laws.CopyOwn
import Derived.Laws.MakeOwn
import Derived.Deep.DeepCutAuto
import Derived.Deep.RegionHeld
import Derived.Deep.QuietTactic
import Derived.BigQuiet
/- Package tree: Make. -/
namespace Go.Proofs.Ytaophafailmhjaa.W
open Go.RowKit
open Go.Proofs.Ytaophafailmhjaa.NM
set_option linter.unusedVariables false
set_option linter.unusedSimpArgs false

def MakePost (w : World) (t : Nat) (S : List Nat) (r : (Nat × Int) × PT) (e : Ending) (w' : World) : Prop := e = .returned (.tuple #[.int .i64 (r.1.1 : Int), .int .i64 r.1.2]) ∧ TDid w w' t S r.2
theorem place_ok {T : PT} {p : List UInt8} (h : (tPlace T p).2.2 = 0) : tIsDir T (tPlace T p).1 = true ∧ mayB (tPlace T p).2.1 = true ∧ tHas T (tPlace T p).1 = true := by
  unfold tPlace at h ⊢
  cases hs : splitB p with
  | none => rw [hs] at h; cases h
  | some l =>
    rw [hs] at h
    simp only at h ⊢
    by_cases h0 : l = []
    · rw [if_pos h0] at h; cases h
    · rw [if_neg h0] at h ⊢
      by_cases h1 : (tWalk T l.dropLast 1).2 ≠ 0
      · rw [if_pos h1] at h; exact absurd h h1
      · rw [if_neg h1] at h ⊢
        by_cases h2 : tIsDir T (tWalk T l.dropLast 1).1 = false
        · rw [if_pos h2] at h; cases h
        · rw [if_neg h2]
          have h3 : tIsDir T (tWalk T l.dropLast 1).1 = true := by simpa using h2
          refine ⟨h3, ?_, dir_has h3⟩
          refine (split_some hs).1 _ ?_
          show l.getLastD [] ∈ l
          rw [List.getLastD_eq_getLast?, List.getLast?_eq_some_getLast h0]
          exact List.getLast_mem h0
theorem root_str (s : ByteArray) : (s.toList == [47]) = decide (s.data.toList = [47]) := by
  rw [toList_data, Bool.eq_iff_iff]; simp

theorem kids_le (T : PT) (a : Nat) : nKids T a ≤ T.length := List.length_filter_le _ _
theorem φT_none {T : PT} {f : Nat → Nat} {k : Nat} (h2 : 2 ≤ k) (hno : ∀ x ∈ T, x.ino ≠ k) : φT T f (k : Int) = none := by
  unfold φT
  rw [if_neg]
  rintro ⟨_, hh⟩
  rcases has_iff.1 hh with h3 | ⟨x, hx, h3⟩
  · omega
  · exact hno x hx (by omega)
/-- What 'put' asks, where a thing is new. -/
theorem put_ready {w1 w2 : World} {t : Nat} {S : List Nat} {T : PT} {bm : Nat} {f g : Nat → Nat} (HT : TreeOk w1 t S T bm f g) (hc : Chg [] w1 w2) {a k px : Nat} {la : List UInt8} {dd : Bool} {mm : Option Nat} (ha : tIsDir T a = true) (hla : la.length ≤ 12) (hno : ∀ x ∈ T, x.ino ≠ k) (h2 : 2 ≤ k) (h128 : k ≤ 128)
    (hT : T.length ≤ 126) (hx : w2.heap[px]? = some (.cells (thCells ⟨k, a, la, dd⟩ mm) 79 (0, 0))) :
    Calls Try.prog 55 #[.pointer (some ⟨t, 0, none⟩), .int .i64 (a : Int), .int .i64 (k : Int), .pointer (some ⟨px, 0, none⟩)] w2 fun e w' => e = .returned (.tuple #[]) ∧ PutsTh w2 bm (g a) (φT T f) (T.length + 1) (φK T a) (nKids T a) (k : Int) px la w' := by
  have hne : a ≠ k := fun e => by
    subst e
    rcases has_iff.1 (dir_has ha) with h3 | ⟨x, hx', h3⟩
    · omega
    · exact hno x hx' h3
  have has := has_small HT.ok (dir_has ha)
  have hkl := kids_le T a
  have d3 := (HT.cells (dir_has ha)).2.2.2
  rw [if_pos ha] at d3
  refine tput_any t bm a k px (f a) (g a) (φT T f) (T.length + 1) (φK T a) (nKids T a) la w2 (hc.keep HT.head (by simp)) (HT.things.chg hc (by simp)) (by unfold maxLen; omega) (okI_small (by omega)) (okI_small (by omega)) ?_ (hc.cell d3 (by simp)) (blk_cell hx 1 _ rfl) ((HT.ins a ha).chg hc (by simp)) (by unfold maxLen; omega) (by unfold okS maxLen; omega) (HT.gm a ha)
  rw [updF_other _ _ (by omega), φT_has (dir_has ha)]
/-- A new thing is put in. -/
theorem put_done {w w1 w2 w3 : World} {t : Nat} {S : List Nat} {T : PT} {bm : Nat} {f g : Nat → Nat} (HT : TreeOk w1 t S T bm f g) (HB : Chg [] w w1) (hc : Chg [] w1 w2) {y : Th} (hy : ∀ x ∈ T, x.ino ≠ y.ino) (hok : TOk (tIns y T)) (hd : tIsDir T y.dir = true) (hk : tKidOf T y.dir y.name = none)
    {px gx : Nat} (hpx : w1.heap.size ≤ px) (hgx : w1.heap.size ≤ gx) (hgl : gx < w2.heap.size)
    (hb : w2.heap[px]? = some (.cells (thCells y (if y.isDir then some gx else none)) 79 (0, 0))) (hn : y.isDir = true → MapF 9 klS okS w2 gx (fun _ => none) 0)
    (hp : PutsTh w2 bm (g y.dir) (φT T f) (T.length + 1) (φK T y.dir) (nKids T y.dir) (y.ino : Int) px y.name w3) : TDid w w3 t S (tIns y T) := by
  obtain ⟨p1, p2, p3, p4⟩ := hp
  have h2 := (hok.nums y ((mem_ins T y).2 (.inl rfl))).1
  rw [φT_none h2 hy] at p1
  have e2 : φK T y.dir y.name = none := by unfold φK; rw [hk]; rfl
  rw [e2] at p2
  have l1 := HT.things.lt
  have l2 := (HT.ins _ hd).lt
  have hc13 : Chg [bm, g y.dir] w1 w3 := (hc.mono (by simp)).trans p3 (fun x hx => .inl hx)
  have hgr := HT.grow hy hok hd hk (w' := w3) (px := px) (gx := gx) hpx hgx (by rw [p4]; exact blk_lt hb) (by rw [p4]; exact hgl) p1 p2 (p3.keep hb (by simp; omega)) (fun hdir => (hn hdir).chg p3 (by simp; omega)) hc13
  refine ⟨_, hgr, fun x hx => ?_, (HB.mono (by simp)).trans hc13 (fun x hx => ?_)⟩
  · have := HB.size
    rcases List.mem_append.1 hx with hx | hx
    · exact .inl hx
    · simp at hx
      right; omega
  · simp at hx
    rcases hx with rfl | rfl
    · exact .inl HT.mem.2.1
    · exact .inl (HT.mem.2.2.2 _ hd)

set_option maxHeartbeats 8000000 in
set_option maxRecDepth 100000 in
theorem tmake_any (t : Nat) (S : List Nat) (T : PT) (s : ByteArray) (d : Bool) (w : World) (h : TreeAt w t S T) (hs : s.size ≤ maxLen) :
    Calls Try.prog 41 #[.pointer (some ⟨t, 0, none⟩), .string s, .bool d] w (MakePost w t S (tMake T s.data.toList d)) := by
  have hmm := @run_makeMap Try.prog
  have H := Lib.hid h
  have HS := Lib.hid hs
  have hok := Lib.hid h.ok
  clear h hs
  obtain ⟨Z, hZ⟩ : ∃ Z, tMake T s.data.toList d = Z := ⟨_, rfl⟩
  have HZ := Lib.hid hZ
  rw [hZ]
  clear hZ
  by_cases hr : s.data.toList = [47]
  · have HE : Hid (Z = ((0, 7), T)) := Lib.hid (by rw [← HZ.out]; unfold tMake; rw [if_pos hr])
    have hb : (s.toList == [47]) = true := by rw [root_str, decide_eq_true hr]
    clear hr
    go_enter Try.func41, Try.ntmps41
    go_wp2_with fail
    refine (tmade_any t S T w H.out).mono ?_
    rintro e w' ⟨rfl, rfl⟩
    go_wp2
    go_ret2
    rw [HE.out]
    exact ⟨rfl, TDid.same H.out (Chg.refl _ _)⟩
  · have hb : (s.toList == [47]) = false := by rw [root_str, decide_eq_false hr]
    have HX : Hid (Z = if (tPlace T s.data.toList).2.2 ≠ 0 then ((0, (tPlace T s.data.toList).2.2), T) else
        if tKid T (tPlace T s.data.toList).1 (tPlace T s.data.toList).2.1 ≠ 0 then ((0, 7), T) else if 128 ≤ T.length + 1 then ((0, 5), T) else
        ((tLeast 2 T, 0), tIns ⟨tLeast 2 T, (tPlace T s.data.toList).1, (tPlace T s.data.toList).2.1, d⟩ T)) := Lib.hid (by rw [← HZ.out]; unfold tMake; rw [if_neg hr])
    clear hr HZ
    have HP := Lib.hid (tplace_any t S T s w H.out HS.out)
    have HO : Hid ((tPlace T s.data.toList).2.2 = 0 → tIsDir T (tPlace T s.data.toList).1 = true ∧ mayB (tPlace T s.data.toList).2.1 = true ∧ tHas T (tPlace T s.data.toList).1 = true) := Lib.hid place_ok
    generalize tPlace T s.data.toList = r at *
    obtain ⟨a, la, er⟩ := r
    simp only at HX HO
    by_cases h0 : er = 0
    · subst h0
      obtain ⟨o1, o2, o3⟩ := HO.out rfl
      have HD := Lib.hid o1
      have HA := Lib.hid o3
      have hla := may_len o2
      have HM := Lib.hid o2
      have has := has_small hok.out o3
      have HX2 : Hid (Z = if tKid T a la ≠ 0 then ((0, 7), T) else if 128 ≤ T.length + 1 then ((0, 5), T) else ((tLeast 2 T, 0), tIns ⟨tLeast 2 T, a, la, d⟩ T)) := Lib.hid (by rw [HX.out, if_neg (by simp)])
      clear o1 o2 o3 HX HO
      go_enter Try.func41, Try.ntmps41
      go_wp2_with fail
      refine (tmade_any t S T w H.out).mono ?_
      rintro e w' ⟨rfl, rfl⟩
      go_wp2_with fail
      refine HP.out.mono ?_
      rintro e w1 ⟨rfl, hb1⟩
      have HB := Lib.hid hb1
      obtain ⟨bm, f, g, HT⟩ := H.out.keep0 hb1
      have c0 := blk_cell HT.head 0 _ rfl
      have hlk := HT.at HA.out
      obtain ⟨d0, d1, d2, d3⟩ := HT.cells HA.out
      rw [HD.out] at d3
      have d3' : w1.cell? ⟨f a, 3, none⟩ = some (.map (some (g a))) := d3
      have hkd := HT.kid HD.out la (by unfold maxLen; omega)
      have hln := HT.things.len Try.underlying70
      have HTT := Lib.hid HT
      clear d0 d1 d2 d3 hb1 HT
      cases hk : tKidOf T a la with
      | some x =>
        have HE : Hid (Z = ((0, 7), T)) := Lib.hid (by
          rw [HX2.out, if_pos]
          intro h0
          rw [(kid_zero hok.out).1 h0] at hk; cases hk)
        rw [hk] at hkd
        clear hk
        generalize tKid T a la = c at *
        go_wp2
        go_ret2
        rw [HE.out]
        exact ⟨rfl, TDid.same H.out HB.out⟩
      | none =>
        have hk0 : tKid T a la = 0 := (kid_zero hok.out).2 hk
        have HX3 : Hid (Z = if 128 ≤ T.length + 1 then ((0, 5), T) else ((tLeast 2 T, 0), tIns ⟨tLeast 2 T, a, la, d⟩ T)) := Lib.hid (by rw [HX2.out, if_neg (by simp [hk0])])
        have HK := Lib.hid hk
        rw [hk, hk0] at hkd
        clear hk hk0 HX2
        by_cases hfull : 128 ≤ T.length + 1
        · have HE : Hid (Z = ((0, 5), T)) := Lib.hid (by rw [HX3.out, if_pos hfull])
          have hdec : decide (((T.length + 1 : Nat) : Int) ≥ 128) = true := decide_eq_true (by omega)
          clear hfull
          generalize T.length + 1 = n at *
          go_wp2
          go_ret2
          rw [HE.out]
          exact ⟨rfl, TDid.same H.out HB.out⟩
        · have HE : Hid (Z = ((tLeast 2 T, 0), tIns ⟨tLeast 2 T, a, la, d⟩ T)) := Lib.hid (by rw [HX3.out, if_neg hfull])
          have hdec : decide (((T.length + 1 : Nat) : Int) ≥ 128) = false := decide_eq_false (by omega)
          have hle := least_le T 2
          have hge := least_ge T 2
          have hTl : T.length ≤ 126 := by omega
          have HN := Lib.hid hTl
          have HL : Hid (∀ k, 2 ≤ k → k < tLeast 2 T → tHas T k = true) := Lib.hid (fun k h1 h2 => has_iff.2 (.inr (least_taken T 2 k h1 h2)))
          have HF : Hid (∀ x ∈ T, x.ino ≠ tLeast 2 T) := Lib.hid (least_free T 2 hok.out.rise (fun x hx => (hok.out.nums x hx).1))
          have hm128 : tLeast 2 T ≤ 128 := by omega
          clear hfull HX3
          obtain ⟨m, hm⟩ : ∃ m, tLeast 2 T = m := ⟨_, rfl⟩
          rw [hm] at HE HL HF hge hm128
          clear hm hle hTl
          obtain ⟨nn, hnn⟩ : ∃ nn, T.length + 1 = nn := ⟨_, rfl⟩
          rw [hnn] at hln hdec
          have HNN := Lib.hid hnn
          clear hnn
          go_wp2
          go_loop [13] (fun v13 => ∃ k : Nat, v13 = .int .i64 k ∧ 2 ≤ k ∧ k ≤ m) (fun v13 => m - (intOf v13).toNat)
          case atStart => exact ⟨2, rfl, by omega, by omega⟩
          case round =>
            obtain ⟨k, rfl, hk2, hkm⟩ := hrel
            by_cases hlt : k < m
            · have hl2 := HTT.out.at (HL.out k hk2 hlt)
              go_wp2
              go_round
              case rel => exact ⟨k + 1, by go_num, by omega, by omega⟩
              case measure => simp [intOf]; omega
            · obtain rfl : k = m := by omega
              have hno : (Instr.lookup 70 (.map (some bm)) (.int .i64 (k : Int)) false).run Try.prog w1 = .ok (.pointer none) w1 := by
                have h1 := HTT.out.things.look keInt Try.underlying70 zeroPT (x := (k : Int)) (okI_small (by omega))
                rw [φT_none hk2 HF.out] at h1
                exact h1
              have HOK : Hid (TOk (tIns ⟨k, a, la, d⟩ T)) := Lib.hid (hok.out.ins HF.out ⟨hk2, hm128⟩ HD.out HK.out HM.out)
              clear hlt
              have hla12 := hla.2
              have HLA := Lib.hid hla12
              cases d with
              | false =>
                go_wp2_with fail
                have hc2 : Chg [] w1 (w1.alloc (.cells #[.int .i64 (a : Int), .string ⟨la.toArray⟩, .bool false, .map none] 79)) := (Chg.refl _ _).alloc _
                have hx2 : (w1.alloc (.cells #[.int .i64 (a : Int), .string ⟨la.toArray⟩, .bool false, .map none] 79)).heap[w1.heap.size]? = some (.cells (thCells ⟨k, a, la, false⟩ none) 79 (0, 0)) := (MapKept.heap_alloc _ _).1
                have hsz : w1.heap.size < (w1.alloc (.cells #[.int .i64 (a : Int), .string ⟨la.toArray⟩, .bool false, .map none] 79)).heap.size := blk_lt hx2
                have HH := Lib.hid (And.intro hc2 (And.intro hx2 hsz))
                clear hc2 hx2 hsz
                refine (put_ready HTT.out HH.out.1 HD.out HLA.out HF.out hk2 hm128 HN.out HH.out.2.1).mono ?_
                rintro e w3 ⟨rfl, hp⟩
                have HFIN : Hid (TDid w w3 t S (tIns ⟨k, a, la, false⟩ T)) := Lib.hid (put_done HTT.out HB.out HH.out.1 HF.out HOK.out HD.out HK.out (Nat.le_refl _) (Nat.le_refl _) HH.out.2.2 HH.out.2.1 (fun h => by cases h) hp)
                clear hp
                go_wp2
                go_ret2
                rw [HE.out]
                exact ⟨rfl, HFIN.out⟩
              | true =>
                go_wp2_with fail
                obtain ⟨w2, hw2⟩ : ∃ w2, w1.alloc (.cells #[.int .i64 (a : Int), .string ⟨la.toArray⟩, .bool false, .map none] 79) = w2 := ⟨_, rfl⟩
                have hs2 : w2.heap.size = w1.heap.size + 1 := by rw [← hw2]; simp
                have hc2 : Chg [] w1 w2 := by rw [← hw2]; exact (Chg.refl _ _).alloc _
                rw [hw2]
                have HS2 := Lib.hid hs2
                have HC2 := Lib.hid hc2
                clear hw2 hs2 hc2
                refine (tdirectory_any _ _ w2).mono ?_
                rintro e w3 ⟨rfl, hw3⟩
                have hs3 : w3.heap.size = w2.heap.size + 2 := by rw [hw3]; simp
                have hc3 : Chg [] w1 w3 := by rw [hw3]; exact (HC2.out.alloc _).alloc _
                have hx3 : w3.heap[w2.heap.size + 1]? = some (.cells (thCells ⟨k, a, la, true⟩ (some w2.heap.size)) 79 (0, 0)) := by
                  rw [hw3]
                  have h := (MapKept.heap_alloc (w2.alloc (.map #[] 0)) (.cells #[.int .i64 (a : Int), .string ⟨la.toArray⟩, .bool true, .map (some w2.heap.size)] 79)).1
                  have e2 : (w2.alloc (.map #[] 0)).heap.size = w2.heap.size + 1 := by simp
                  rw [e2] at h
                  exact h
                have hg3 : MapF 9 klS okS w3 w2.heap.size (fun _ => none) 0 := by
                  rw [hw3]
                  exact (MapF.made w2).chg ((Chg.refl [] _).alloc _) (by simp)
                have HH := Lib.hid (And.intro hc3 (And.intro hx3 (And.intro hg3 hs3)))
                clear hc3 hx3 hg3 hs3 hw3
                go_wp2_with fail
                refine (put_ready HTT.out HH.out.1 HD.out HLA.out HF.out hk2 hm128 HN.out HH.out.2.1).mono ?_
                rintro e w4 ⟨rfl, hp⟩
                have HFIN : Hid (TDid w w4 t S (tIns ⟨k, a, la, true⟩ T)) := Lib.hid (put_done HTT.out HB.out HH.out.1 HF.out HOK.out HD.out HK.out (by have := HS2.out; omega) (by have := HS2.out; omega) (by have := HH.out.2.2.2; omega) HH.out.2.1 (fun _ => HH.out.2.2.1) hp)
                clear hp
                go_wp2
                go_ret2
                rw [HE.out]
                exact ⟨rfl, HFIN.out⟩
    · have HE : Hid (Z = ((0, er), T)) := Lib.hid (by rw [HX.out, if_pos h0])
      have hb0 : (er != 0) = true := by simpa using h0
      clear h0 HX HO
      go_enter Try.func41, Try.ntmps41
      go_wp2_with fail
      refine (tmade_any t S T w H.out).mono ?_
      rintro e w' ⟨rfl, rfl⟩
      go_wp2_with fail
      refine HP.out.mono ?_
      rintro e w1 ⟨rfl, hb1⟩
      have HB := Lib.hid hb1
      clear hb1
      go_wp2
      go_ret2
      rw [HE.out]
      exact ⟨rfl, TDid.same H.out HB.out⟩
end Go.Proofs.Ytaophafailmhjaa.W

/- A tree, plainly: a thing less, a thing with another name. -/
namespace Go.Proofs.Ytaophafailmhjaa.W
open Go.Proofs.Ytaophafailmhjaa.NM
set_option linter.unusedVariables false
set_option linter.unusedSimpArgs false

def tDel (T : PT) (n : Nat) : PT := T.filter (fun x => x.ino != n)
theorem mem_del {T : PT} {n : Nat} {x : Th} : x ∈ tDel T n ↔ x ∈ T ∧ x.ino ≠ n := by
  unfold tDel; rw [List.mem_filter]; simp
theorem del_perm {T : PT} (h : T.Pairwise (fun x y => x.ino < y.ino)) {x : Th} (hx : x ∈ T) : T.Perm (x :: tDel T x.ino) := by
  unfold tDel
  induction T with
  | nil => cases hx
  | cons y r ih =>
    have h' := List.pairwise_cons.1 h
    rcases List.mem_cons.1 hx with rfl | hx'
    · have e : (x :: r).filter (fun z => z.ino != x.ino) = r := by
        rw [List.filter_cons_of_neg (by simp), List.filter_eq_self]
        intro z hz
        have := h'.1 z hz
        simp; omega
      rw [e]
    · have hlt := h'.1 x hx'
      rw [List.filter_cons_of_pos (by simp; omega)]
      exact ((ih h'.2 hx').cons y).trans (.swap ..)
theorem kidOf_iff {T : PT} (h : TOk T) {d : Nat} {s : List UInt8} {x : Th} : tKidOf T d s = some x ↔ x ∈ T ∧ x.dir = d ∧ x.name = s :=
  ⟨kidOf_some, fun ⟨h1, h2, h3⟩ => by rw [← h2, ← h3]; exact kidOf_mem h h1⟩
theorem kidOf_cons {T U : PT} (hT : TOk T) (hU : ∀ x ∈ U, tKidOf U x.dir x.name = some x) {y : Th} (hp : T.Perm (y :: U)) (d : Nat) (s : List UInt8) : tKidOf T d s = if d = y.dir ∧ s = y.name then some y else tKidOf U d s := by
  by_cases e : d = y.dir ∧ s = y.name
  · rw [if_pos e, kidOf_iff hT]
    exact ⟨hp.mem_iff.2 (List.mem_cons_self ..), e.1.symm, e.2.symm⟩
  · rw [if_neg e]
    cases hg : tKidOf U d s with
    | some x =>
      obtain ⟨h1, h2, h3⟩ := kidOf_some hg
      exact (kidOf_iff hT).2 ⟨hp.mem_iff.2 (List.mem_cons_of_mem _ h1), h2, h3⟩
    | none =>
      cases hg2 : tKidOf T d s with
      | none => rfl
      | some z =>
        obtain ⟨h1, h2, h3⟩ := kidOf_some hg2
        rcases List.mem_cons.1 (hp.mem_iff.1 h1) with rfl | h4
        · exact absurd ⟨h2.symm, h3.symm⟩ e
        · exact absurd ⟨h2, h3⟩ (kidOf_none hg z h4)
theorem kidOf_self_del {T : PT} (h : TOk T) (n : Nat) : ∀ x ∈ tDel T n, tKidOf (tDel T n) x.dir x.name = some x := by
  intro x hx
  cases hg : tKidOf (tDel T n) x.dir x.name with
  | none => exact absurd ⟨rfl, rfl⟩ (kidOf_none hg x hx)
  | some z =>
    obtain ⟨h1, h2, h3⟩ := kidOf_some hg
    have e1 := kidOf_mem h (mem_del.1 h1).1
    have e2 := kidOf_mem h (mem_del.1 hx).1
    rw [h2, h3, e2] at e1
    exact e1.symm
theorem ren_perm {T : PT} (h : T.Pairwise (fun x y => x.ino < y.ino)) {x : Th} (hx : x ∈ T) (d : Nat) (s : List UInt8) : (tRename T x.ino d s).Perm ({ x with dir := d, name := s } :: tDel T x.ino) := by
  have h1 := (del_perm h hx).map (fun y => if y.ino = x.ino then { y with dir := d, name := s } else y)
  have h2 : (tDel T x.ino).map (fun y => if y.ino = x.ino then { y with dir := d, name := s } else y) = tDel T x.ino := by
    conv => rhs; rw [← List.map_id (tDel T x.ino)]
    refine List.map_congr_left fun y hy => ?_
    rw [if_neg (mem_del.1 hy).2]; rfl
  rw [List.map_cons, h2, if_pos rfl] at h1
  exact h1
theorem any_kids {T : PT} {a : Nat} : T.any (fun x => x.dir == a) = true ↔ (T.filter (fun x => x.dir == a)).length ≠ 0 := by
  rw [List.any_eq_true]
  constructor
  · rintro ⟨x, hx, h⟩ h0
    have := List.eq_nil_of_length_eq_zero h0
    rw [List.filter_eq_nil_iff] at this
    exact this x hx h
  · intro h
    obtain ⟨x, hx⟩ := List.exists_mem_of_length_pos (Nat.pos_of_ne_zero h)
    obtain ⟨h1, h2⟩ := List.mem_filter.1 hx
    exact ⟨x, h1, h2⟩
end Go.Proofs.Ytaophafailmhjaa.W

/- Package tree: Remove. -/
namespace Go.Proofs.Ytaophafailmhjaa.W
open Go.RowKit
open Go.Proofs.Ytaophafailmhjaa.NM
set_option linter.unusedVariables false
set_option linter.unusedSimpArgs false

theorem kids_cons {T U : PT} {y : Th} (hp : T.Perm (y :: U)) (a : Nat) : nKids T a = nKids U a + if y.dir = a then 1 else 0 := by
  unfold nKids
  rw [(hp.filter _).length_eq, List.filter_cons]
  by_cases e : y.dir = a <;> simp [e]
/-- A name is taken away: what each directory then has. -/
theorem TreeOk.unname {w w' : World} {t : Nat} {S : List Nat} {T : PT} {bm : Nat} {f g : Nat → Nat} (h : TreeOk w t S T bm f g) {x : Th} (hx : x ∈ T)
    (hm : MapF 9 klS okS w' (g x.dir) (delF (φK T x.dir) x.name) (nKids T x.dir - 1)) (hc : Chg [g x.dir] w w') :
    ∀ a, tIsDir T a = true → MapF 9 klS okS w' (g a) (φK (tDel T x.ino) a) (nKids (tDel T x.ino) a) := by
  have hp := del_perm h.ok.rise hx
  have hkk := kidOf_self_del h.ok x.ino
  intro a ha
  by_cases e : a = x.dir
  · subst e
    refine hm.congr (by rw [kids_cons hp, if_pos rfl]; rfl) (fun s _ => ?_)
    by_cases e3 : s = x.name
    · subst e3
      rw [delF_self]; unfold φK
      cases hg : tKidOf (tDel T x.ino) x.dir x.name with
      | none => rfl
      | some z =>
        obtain ⟨h1, h2, h3⟩ := kidOf_some hg
        have e1 := kidOf_mem h.ok (mem_del.1 h1).1
        rw [h2, h3, kidOf_mem h.ok hx] at e1
        cases e1
        exact absurd rfl (mem_del.1 h1).2
    · rw [delF_other _ e3]; unfold φK
      rw [kidOf_cons h.ok hkk hp, if_neg (fun hh => e3 hh.2)]
  · have hne : g a ≠ g x.dir := fun e2 => e (h.ginj _ _ ha (h.ok.dirs x hx) e2)
    refine ((h.ins a ha).chg hc (by simpa using hne)).congr (by rw [kids_cons hp, if_neg (fun hh => e hh.symm)]; rfl) (fun s _ => ?_)
    unfold φK
    rw [kidOf_cons h.ok hkk hp, if_neg (fun hh => e hh.1)]
theorem isDir_del {T : PT} {n a : Nat} (h : tIsDir (tDel T n) a = true) : tIsDir T a = true ∧ (a = 1 ∨ a ≠ n) := by
  unfold tIsDir tDel at h
  unfold tIsDir
  rw [get_del] at h
  by_cases e1 : a = 1
  · subst e1; exact ⟨rfl, .inl rfl⟩
  · have e1' : (a == 1) = false := by simpa using e1
    rw [e1', Bool.false_or] at h
    rw [e1', Bool.false_or]
    by_cases e : a = n
    · rw [if_pos e] at h; cases h
    · rw [if_neg e] at h
      exact ⟨h, .inr e⟩
theorem has_del {T : PT} {n a : Nat} (h : tHas (tDel T n) a = true) : tHas T a = true ∧ (a = 1 ∨ a ≠ n) := by
  rcases has_iff.1 h with h1 | ⟨x, hx, rfl⟩
  · exact ⟨has_iff.2 (.inl h1), .inl h1⟩
  · exact ⟨has_iff.2 (.inr ⟨x, (mem_del.1 hx).1, rfl⟩), .inr (mem_del.1 hx).2⟩
/-- A thing less. -/
theorem TreeOk.shrink {w w' : World} {t : Nat} {S : List Nat} {T : PT} {bm : Nat} {f g : Nat → Nat} (h : TreeOk w t S T bm f g) {x : Th} (hx : x ∈ T) (hno : ∀ y ∈ T, y.dir ≠ x.ino)
    (hm : MapF 3 klI okI w' bm (delF (φT T f) (x.ino : Int)) T.length) (hi : ∀ a, tIsDir T a = true → MapF 9 klS okS w' (g a) (φK (tDel T x.ino) a) (nKids (tDel T x.ino) a)) (hc : Chg [bm, g x.dir] w w') :
    TreeAt w' t S (tDel T x.ino) := by
  have hp := del_perm h.ok.rise hx
  have hx2 := (h.ok.nums x hx).1
  have hd := h.ok.dirs x hx
  have hok : TOk (tDel T x.ino) := h.ok.del (by omega) hno
  refine ⟨bm, f, g, ?_⟩
  exact {
    head := hc.keep h.head (by
      have := ne_map h.things (blk_cell h.head 0 _ rfl)
      have h2 := ne_map (h.ins _ hd) (blk_cell h.head 0 _ rfl)
      simp at this h2 ⊢; exact ⟨this, h2⟩)
    things := hm.congr (by have := hp.length_eq; simpa using this) (fun z hz => by
      by_cases e : z = (x.ino : Int)
      · subst e
        rw [delF_self]
        unfold φT
        rw [if_neg]
        rintro ⟨_, hh⟩
        rcases (has_del hh).2 with h1 | h1
        · omega
        · simp at h1
      · rw [delF_other _ e]
        unfold φT
        by_cases e0 : 0 ≤ z ∧ tHas T z.toNat = true
        · rw [if_pos e0, if_pos]
          refine ⟨e0.1, ?_⟩
          rcases has_iff.1 e0.2 with h1 | ⟨y, hy, h1⟩
          · exact has_iff.2 (.inl h1)
          · exact has_iff.2 (.inr ⟨y, mem_del.2 ⟨hy, by omega⟩, h1⟩)
        · rw [if_neg e0, if_neg (fun hh => e0 ⟨hh.1, (has_del hh.2).1⟩)])
    each := fun a ha => by
      obtain ⟨h1, h2⟩ := has_del ha
      have e1 : thOf (tDel T x.ino) a = thOf T a := by
        unfold thOf
        by_cases e : a = 1
        · rw [if_pos e, if_pos e]
        · rw [if_neg e, if_neg e]
          unfold tDel
          rw [get_del, if_neg (h2.resolve_left e)]
      have e2 : tIsDir (tDel T x.ino) a = tIsDir T a := by rw [isDir_thOf a ha, isDir_thOf a h1, e1]
      rw [e1, e2]
      have hc0 := (h.cells h1).1
      exact hc.keep (h.each a h1) (by
        have h3 := ne_map h.things hc0
        have h4 := ne_map (h.ins _ hd) hc0
        simp at h3 h4 ⊢; exact ⟨h3, h4⟩)
    ins := fun a ha => hi a (isDir_del ha).1
    finj := fun a b ha hb e => h.finj a b (has_del ha).1 (has_del hb).1 e
    ginj := fun a b ha hb e => h.ginj a b (isDir_del ha).1 (isDir_del hb).1 e
    gm := fun a ha => h.gm a (isDir_del ha).1
    mem := ⟨h.mem.1, h.mem.2.1, fun a ha => h.mem.2.2.1 a (has_del ha).1, fun a ha => h.mem.2.2.2 a (isDir_del ha).1⟩
    lim := fun z hz => Nat.lt_of_lt_of_le (h.lim z hz) hc.size
    ok := hok }
theorem look_ok {T : PT} {p : List UInt8} (h : (tLook T p).2.2 = 0) : tHas T (tLook T p).1 = true ∧ (tLook T p).2.1 = tIsDir T (tLook T p).1 := by
  unfold tLook at h ⊢
  cases hs : splitB p with
  | none => rw [hs] at h; cases h
  | some l =>
    rw [hs] at h
    simp only at h ⊢
    by_cases h1 : (tWalk T l 1).2 ≠ 0
    · rw [if_pos h1] at h; exact absurd h h1
    · rw [if_neg h1]
      exact ⟨walk_has l 1 rfl (by simpa using h1), rfl⟩
theorem has_mem {T : PT} {a : Nat} (h : tHas T a = true) (h1 : a ≠ 1) : ∃ x ∈ T, x.ino = a := (has_iff.1 h).resolve_left h1

set_option maxHeartbeats 8000000 in
set_option maxRecDepth 100000 in
theorem tremove_any (t : Nat) (S : List Nat) (T : PT) (s : ByteArray) (d : Bool) (w : World) (h : TreeAt w t S T) (hs : s.size ≤ maxLen) :
    Calls Try.prog 44 #[.pointer (some ⟨t, 0, none⟩), .string s, .bool d] w (MakePost w t S (tRemove T s.data.toList d)) := by
  have H := Lib.hid h
  have HS := Lib.hid hs
  have hok := Lib.hid h.ok
  have hl0 : ∀ ty w, (Builtin.len_ #[77] ty #[.map none]).run Try.prog w = .ok (.int .i64 0) w := fun ty w => Maps.len_nil Try.underlying77 ty
  clear h hs
  obtain ⟨Z, hZ⟩ : ∃ Z, tRemove T s.data.toList d = Z := ⟨_, rfl⟩
  have HX : Hid (Z = if (tLook T s.data.toList).2.2 ≠ 0 then ((0, (tLook T s.data.toList).2.2), T) else if (tLook T s.data.toList).1 = 1 then ((0, 8), T) else
      if (d && !(tLook T s.data.toList).2.1) = true then ((0, 10), T) else if (!d && (tLook T s.data.toList).2.1) = true then ((0, 9), T) else
      if T.any (fun x => x.dir == (tLook T s.data.toList).1) = true then ((0, 11), T) else
      (((tLook T s.data.toList).1, 0), tDel T (tLook T s.data.toList).1)) := Lib.hid (by rw [← hZ]; rfl)
  rw [hZ]
  clear hZ
  have HP := Lib.hid (tlook_any t S T s w H.out HS.out)
  have HO : Hid ((tLook T s.data.toList).2.2 = 0 → tHas T (tLook T s.data.toList).1 = true ∧ (tLook T s.data.toList).2.1 = tIsDir T (tLook T s.data.toList).1) := Lib.hid look_ok
  generalize tLook T s.data.toList = r at *
  obtain ⟨a, isd, er⟩ := r
  simp only at HX HO
  by_cases h0 : er = 0
  · subst h0
    obtain ⟨o1, rfl⟩ := HO.out rfl
    have HA := Lib.hid o1
    have has := has_small hok.out o1
    have HX1 : Hid (Z = if a = 1 then ((0, 8), T) else if (d && !tIsDir T a) = true then ((0, 10), T) else if (!d && tIsDir T a) = true then ((0, 9), T) else
        if T.any (fun x => x.dir == a) = true then ((0, 11), T) else ((a, 0), tDel T a)) := Lib.hid (by rw [HX.out, if_neg (by simp)])
    clear o1 HX HO
    by_cases h1 : a = 1
    · have HE : Hid (Z = ((0, 8), T)) := Lib.hid (by rw [HX1.out, if_pos h1])
      have hb1 : ((a : Int) == 1) = true := by rw [h1]; rfl
      clear h1 HX1
      generalize tIsDir T a = dd at *
      go_enter Try.func44, Try.ntmps44
      go_wp2_with fail
      refine HP.out.mono ?_
      rintro e w1 ⟨rfl, hb⟩
      have HB := Lib.hid hb
      clear hb
      go_wp2
      go_ret2
      rw [HE.out]
      exact ⟨rfl, TDid.same H.out HB.out⟩
    · have hb1 : ((a : Int) == 1) = false := by simp; omega
      have HX2 : Hid (Z = if (d && !tIsDir T a) = true then ((0, 10), T) else if (!d && tIsDir T a) = true then ((0, 9), T) else
        if T.any (fun x => x.dir == a) = true then ((0, 11), T) else ((a, 0), tDel T a)) := Lib.hid (by rw [HX1.out, if_neg h1])
      obtain ⟨x, hx, rfl⟩ := has_mem HA.out h1
      have HXM := Lib.hid hx
      clear h1 HX1 hx
      by_cases hdd : d = tIsDir T x.ino
      · have HX3 : Hid (Z = if T.any (fun y => y.dir == x.ino) = true then ((0, 11), T) else ((x.ino, 0), tDel T x.ino)) := Lib.hid (by
          rw [HX2.out, if_neg, if_neg]
          · rw [hdd]; cases tIsDir T x.ino <;> simp
          · rw [hdd]; cases tIsDir T x.ino <;> simp)
        have HDE := Lib.hid hdd
        clear HX2
        have hany : (T.any (fun y => y.dir == x.ino) = true) ↔ nKids T x.ino ≠ 0 := any_kids
        have HLEN : ∀ (w1 : World) (bm : Nat) (f g : Nat → Nat), TreeOk w1 t S T bm f g → ∃ mv, w1.cell? ⟨f x.ino, 3, none⟩ = some mv ∧ ∀ ty, (Builtin.len_ #[77] ty #[mv]).run Try.prog w1 = .ok (.int .i64 (nKids T x.ino : Int)) w1 := fun w1 bm f g HT => by
          have d3 := (HT.cells HA.out).2.2.2
          cases hd : tIsDir T x.ino with
          | true =>
            rw [hd] at d3
            exact ⟨_, d3, (HT.ins _ hd).len Try.underlying77⟩
          | false =>
            rw [hd] at d3
            refine ⟨_, d3, fun ty => ?_⟩
            have h0 : nKids T x.ino = 0 := by
              unfold nKids
              rw [List.filter_eq_nil_iff.2 (fun y hy => ?_)]
              · rfl
              · have := hok.out.dirs y hy
                simp
                intro e
                rw [e, hd] at this; cases this
            rw [h0]
            exact hl0 ty w1
        have HLL := Lib.hid HLEN
        rw [← hdd] at HP
        clear HLEN hl0 hdd HDE
        by_cases hk : nKids T x.ino = 0
        · have HE : Hid (Z = ((x.ino, 0), tDel T x.ino)) := Lib.hid (by rw [HX3.out, if_neg (fun h => hany.1 h hk)])
          have HNO : Hid (∀ y ∈ T, y.dir ≠ x.ino) := Lib.hid (fun y hy e => by
            have : T.any (fun y => y.dir == x.ino) = true := List.any_eq_true.2 ⟨y, hy, by simpa using e⟩
            exact hany.1 this hk)
          have HK := Lib.hid hk
          clear hk hany HX3
          have HOS : Hid (okS x.name) := Lib.hid (by have := may_len (hok.out.may x HXM.out); unfold okS maxLen; omega)
          have HOI : Hid (okI (x.ino : Int)) := Lib.hid (okI_small (by omega))
          have HNE : Hid (∀ (bm : Nat) (f g : Nat → Nat) (w2 : World), TreeOk w2 t S T bm f g → t ≠ g x.dir) := Lib.hid (fun bm f g w2 h => ne_map (h.ins _ (hok.out.dirs x HXM.out)) (blk_cell h.head 0 _ rfl))
          have HNG : Hid (∀ (bm : Nat) (f g : Nat → Nat) (w2 : World), TreeOk w2 t S T bm f g → bm ∉ [g x.dir]) := Lib.hid (fun bm f g w2 h => by
            have := h.gm _ (hok.out.dirs x HXM.out)
            simp; exact fun e => this e.symm)
          have HFIN : Hid (∀ (bm : Nat) (f g : Nat → Nat) (w2 w3 w4 : World), TreeOk w2 t S T bm f g → Chg [] w w2 → MapF 9 klS okS w3 (g x.dir) (delF (φK T x.dir) x.name) (if (φK T x.dir x.name).isSome then nKids T x.dir - 1 else nKids T x.dir) → Chg [g x.dir] w2 w3 →
              MapF 3 klI okI w4 bm (delF (φT T f) (x.ino : Int)) (if (φT T f (x.ino : Int)).isSome then T.length + 1 - 1 else T.length + 1) → Chg [bm] w3 w4 → TDid w w4 t S (tDel T x.ino)) := Lib.hid (fun bm f g w2 w3 w4 h hc hm3 hc3 hm4 hc4 => by
            have hd := hok.out.dirs x HXM.out
            have e1 : φK T x.dir x.name = some (.int .i64 (x.ino : Int)) := by unfold φK; rw [kidOf_mem hok.out HXM.out]; rfl
            rw [e1] at hm3
            rw [φT_has HA.out] at hm4
            have h3 := h.unname HXM.out hm3 hc3
            have hc24 : Chg [bm, g x.dir] w2 w4 := (hc3.mono (by simp)).trans hc4 (by simp)
            refine ⟨S, h.shrink HXM.out HNO.out hm4 (fun a ha => (h3 a ha).chg hc4 (by have := h.gm a ha; simpa using this)) hc24, fun z hz => .inl hz, (hc.mono (by simp)).trans hc24 (fun z hz => ?_)⟩
            simp at hz
            rcases hz with rfl | rfl
            · exact .inl h.mem.2.1
            · exact .inl (h.mem.2.2.2 _ hd))
          cases d
          all_goals
            go_enter Try.func44, Try.ntmps44
            go_wp2_with fail
            refine HP.out.mono ?_
            rintro e w1 ⟨rfl, hb⟩
            have HB := Lib.hid hb
            obtain ⟨bm, f, g, HT⟩ := H.out.keep0 hb
            obtain ⟨mv, d3, hln⟩ := HLL.out w1 bm f g HT
            rw [HK.out] at hln
            have hth := thOf_mem hok.out HXM.out
            have hxd := hok.out.dirs x HXM.out
            have c0 := blk_cell HT.head 0 _ rfl
            have hlk := HT.at HA.out
            obtain ⟨d0, d1, d2, d9⟩ := HT.cells HA.out
            rw [hth] at d0 d1
            have hlp := HT.at (dir_has hxd)
            have p3 := (HT.cells (dir_has hxd)).2.2.2
            rw [if_pos hxd] at p3
            have HTT := Lib.hid HT
            have HD := Lib.hid hxd
            have hlp2 : (Instr.lookup 70 (.map (some bm)) (.int .i64 (x.dir : Int)) false).run Try.prog w1.drew = .ok (.pointer (some ⟨f x.dir, 0, none⟩)) w1.drew := (HT.keep ((Chg.refl [] w1).drew) (by simp)).at (dir_has hxd)
            clear hb HT d2 d9 hth hxd
            go_wp2
            go_still_tail 16, (by kernel_rfl)
            change wpList _ _ _ _ _ w1.drew
            have HG2 : Hid (MapF 9 klS okS w1.drew (g x.dir) (φK T x.dir) (nKids T x.dir)) := Lib.hid (HTT.out.ins _ HD.out)
            have HC2 : Hid (Chg [] w w1.drew) := Lib.hid HB.out.drew
            have HT2 : Hid (TreeOk w1.drew t S T bm f g) := Lib.hid (HTT.out.keep ((Chg.refl [] w1).drew) (by simp))
            have c02 : w1.drew.cell? ⟨t, 0, none⟩ = some (.map (some bm)) := c0
            clear hlk hlp hln hlp2 c0 d0 d1 d3 p3
            generalize w1.drew = w2 at *
            go_wp2_with (first
              | (refine wpList_del keStr _ rfl _ _ _ rfl 3 Try.underlying77 (g x.dir) (nKids T x.dir) (φK T x.dir) rfl HG2.out x.name rfl (HOS.out) ?_
                 intro w3 hm3 hc3 hs3
                 have c03 := hc3.cell c02 (by simpa using HNE.out bm f g w2 HT2.out)
                 have HB3 := Lib.hid (And.intro hm3 (And.intro hc3 hs3))
                 clear hm3 hc3 hs3)
              | (refine wpList_del keInt _ rfl _ _ _ rfl 68 Try.underlying70 bm (T.length + 1) (φT T f) rfl (HT2.out.things.chg HB3.out.2.1 (HNG.out bm f g w2 HT2.out)) (x.ino : Int) rfl (HOI.out) ?_
                 intro w4 hm4 hc4 hs4
                 have HB4 := Lib.hid (And.intro hm4 (And.intro hc4 hs4))
                 clear hm4 hc4 hs4))
            go_ret2
            rw [HE.out]
            exact ⟨rfl, HFIN.out bm f g w2 w3 w4 HT2.out HC2.out HB3.out.1 HB3.out.2.1 HB4.out.1 HB4.out.2.1⟩
        · have HE : Hid (Z = ((0, 11), T)) := Lib.hid (by rw [HX3.out, if_pos (hany.2 hk)])
          have hpos : 0 < nKids T x.ino := by omega
          clear hk hany HX3
          cases d
          all_goals
            go_enter Try.func44, Try.ntmps44
            go_wp2_with fail
            refine HP.out.mono ?_
            rintro e w1 ⟨rfl, hb⟩
            have HB := Lib.hid hb
            obtain ⟨bm, f, g, HT⟩ := H.out.keep0 hb
            obtain ⟨mv, d3, hln⟩ := HLL.out w1 bm f g HT
            have c0 := blk_cell HT.head 0 _ rfl
            have hlk := HT.at HA.out
            clear hb HT
            generalize nKids T x.ino = nk at *
            go_wp2
            go_ret2
            rw [HE.out]
            exact ⟨rfl, TDid.same H.out HB.out⟩
      · have hdd2 : tIsDir T x.ino = !d := by cases d <;> cases h : tIsDir T x.ino <;> simp_all
        rw [hdd2] at HX2 HP
        have HX3 : Hid (Z = ((0, if d then 10 else 9), T)) := Lib.hid (by
          rw [HX2.out]; cases d <;> simp)
        clear hdd hdd2 HX2
        cases d
        all_goals
          go_enter Try.func44, Try.ntmps44
          go_wp2_with fail
          refine HP.out.mono ?_
          rintro e w1 ⟨rfl, hb⟩
          have HB := Lib.hid hb
          clear hb
          go_wp2
          go_ret2
          rw [HX3.out]
          exact ⟨rfl, TDid.same H.out HB.out⟩
  · have HE : Hid (Z = ((0, er), T)) := Lib.hid (by rw [HX.out, if_pos h0])
    have hb0 : (er != 0) = true := by simpa using h0
    clear h0 HX HO
    go_enter Try.func44, Try.ntmps44
    go_wp2_with fail
    refine HP.out.mono ?_
    rintro e w1 ⟨rfl, hb⟩
    have HB := Lib.hid hb
    clear hb
    go_wp2
    go_ret2
    rw [HE.out]
    exact ⟨rfl, TDid.same H.out HB.out⟩
end Go.Proofs.Ytaophafailmhjaa.W

/- Package tree: Move. -/
namespace Go.Proofs.Ytaophafailmhjaa.W
open Go.RowKit
open Go.Proofs.Ytaophafailmhjaa.NM
set_option linter.unusedVariables false
set_option linter.unusedSimpArgs false

theorem tree_thing {w : World} {a b : Nat} {cs cs' : Array Value} (h1 : w.heap[a]? = some (.cells cs 72 (0, 0))) (h2 : w.heap[b]? = some (.cells cs' 79 (0, 0))) : a ≠ b := by
  rintro rfl
  rw [h1] at h2
  simp at h2
/-- A thing has another name. -/
theorem TreeOk.renamed {w w' : World} {t : Nat} {S : List Nat} {T : PT} {bm : Nat} {f g : Nat → Nat} (h : TreeOk w t S T bm f g) {x : Th} (hx : x ∈ T) {q : Nat} {la : List UInt8} (hd : tIsDir T q = true) (hk : tKidOf T q la = none) (hmay : mayB la = true)
    (hm : MapF 3 klI okI w' bm (φT T f) (T.length + 1)) (hi : ∀ a, tIsDir T a = true → a ≠ q → MapF 9 klS okS w' (g a) (φK (tDel T x.ino) a) (nKids (tDel T x.ino) a))
    (hq : MapF 9 klS okS w' (g q) (updF (φK (tDel T x.ino) q) la (.int .i64 (x.ino : Int))) (nKids (tDel T x.ino) q + 1))
    (hb : w'.heap[f x.ino]? = some (.cells (thCells { x with dir := q, name := la } (if tIsDir T x.ino then some (g x.ino) else none)) 79 (0, 0))) (hc : Chg [bm, g x.dir, g q, f x.ino] w w') :
    TreeAt w' t S (tRename T x.ino q la) := by
  have hp := ren_perm h.ok.rise hx q la
  have hx2 := (h.ok.nums x hx).1
  have hxh : tHas T x.ino = true := has_iff.2 (.inr ⟨x, hx, rfl⟩)
  have hdx := h.ok.dirs x hx
  have hok : TOk (tRename T x.ino q la) := h.ok.ren hd hk hmay
  have hkk := kidOf_self_del h.ok x.ino
  refine ⟨bm, f, g, ?_⟩
  have hxm : { x with dir := q, name := la } ∈ tRename T x.ino q la := hp.mem_iff.2 (List.mem_cons_self ..)
  exact {
    head := hc.keep h.head (by
      have h1 := ne_map h.things (blk_cell h.head 0 _ rfl)
      have h2 := ne_map (h.ins _ hd) (blk_cell h.head 0 _ rfl)
      have h3 := ne_map (h.ins _ hdx) (blk_cell h.head 0 _ rfl)
      have h4 := tree_thing h.head (h.each _ hxh)
      simp at h1 h2 h3 ⊢; exact ⟨h1, h3, h2, h4⟩)
    things := hm.congr (by unfold tRename; simp) (fun z hz => by unfold φT; simp only [has_ren])
    each := fun a ha => by
      rw [has_ren] at ha
      rw [isDir_ren]
      by_cases e : a = x.ino
      · subst e
        have e1 : thOf (tRename T x.ino q la) x.ino = { x with dir := q, name := la } := thOf_mem hok hxm
        rw [e1]; exact hb
      · have e1 : thOf (tRename T x.ino q la) a = thOf T a := by
          unfold thOf
          by_cases e1 : a = 1
          · rw [if_pos e1, if_pos e1]
          · rw [if_neg e1, if_neg e1, get_ren]
            cases hg : tGet T a with
            | none => rfl
            | some y =>
              have := (get_some hg).2
              simp only [Option.map_some, Option.getD_some]
              rw [if_neg (by omega)]
        rw [e1]
        have hc0 := (h.cells ha).1
        exact hc.keep (h.each a ha) (by
          have h1 := ne_map h.things hc0
          have h2 := ne_map (h.ins _ hd) hc0
          have h3 := ne_map (h.ins _ hdx) hc0
          have h4 : f a ≠ f x.ino := fun e2 => e (h.finj _ _ ha hxh e2)
          simp at h1 h2 h3 ⊢; exact ⟨h1, h3, h2, h4⟩)
    ins := fun a ha => by
      rw [isDir_ren] at ha
      by_cases e : a = q
      · subst e
        refine hq.congr (by rw [kids_cons hp, if_pos rfl]) (fun s _ => ?_)
        by_cases e3 : s = la
        · subst e3
          rw [updF_self]; unfold φK
          rw [kidOf_cons hok hkk hp, if_pos ⟨rfl, rfl⟩]; rfl
        · rw [updF_other _ _ e3]; unfold φK
          rw [kidOf_cons hok hkk hp, if_neg (fun hh => e3 hh.2)]
      · refine (hi a ha e).congr (by rw [kids_cons hp, if_neg (fun hh => e hh.symm)]; rfl) (fun s _ => ?_)
        unfold φK
        rw [kidOf_cons hok hkk hp, if_neg (fun hh => e hh.1)]
    finj := fun a b ha hb e => by rw [has_ren] at ha hb; exact h.finj a b ha hb e
    ginj := fun a b ha hb e => by rw [isDir_ren] at ha hb; exact h.ginj a b ha hb e
    gm := fun a ha => by rw [isDir_ren] at ha; exact h.gm a ha
    mem := ⟨h.mem.1, h.mem.2.1, fun a ha => by rw [has_ren] at ha; exact h.mem.2.2.1 a ha, fun a ha => by rw [isDir_ren] at ha; exact h.mem.2.2.2 a ha⟩
    lim := fun z hz => Nat.lt_of_lt_of_le (h.lim z hz) hc.size
    ok := hok }

def MovePost (w : World) (t : Nat) (S : List Nat) (r : Int × PT) (e : Ending) (w' : World) : Prop := e = .returned (.int .i64 r.1) ∧ TDid w w' t S r.2
/-- What becomes of it all, from the state behind the draw. -/
theorem move_done {w w2 w3 w5 : World} {t : Nat} {S : List Nat} {T : PT} {bm : Nat} {f g : Nat → Nat} {x : Th} {q : Nat} {la : List UInt8} (h : TreeOk w2 t S T bm f g) (hc : Chg [] w w2) (hx : x ∈ T) (hd : tIsDir T q = true) (hk : tKidOf T q la = none) (hmay : mayB la = true)
    (hm3 : MapF 9 klS okS w3 (g x.dir) (delF (φK T x.dir) x.name) (nKids T x.dir - 1)) (hc3 : Chg [g x.dir] w2 w3)
    (hp : PutsTh ((w3.setCell ⟨f x.ino, 0, none⟩ (.int .i64 (q : Int))).setCell ⟨f x.ino, 1, none⟩ (.string ⟨la.toArray⟩)) bm (g q) (φT T f) (T.length + 1) (φK (tDel T x.ino) q) (nKids (tDel T x.ino) q) (x.ino : Int) (f x.ino) la w5) : TDid w w5 t S (tRename T x.ino q la) := by
  have hxh : tHas T x.ino = true := has_iff.2 (.inr ⟨x, hx, rfl⟩)
  have hdx := h.ok.dirs x hx
  obtain ⟨p1, p2, p3, p4⟩ := hp
  have hfl := blk_lt (h.each _ hxh)
  have hc4 : Chg [f x.ino] w3 ((w3.setCell ⟨f x.ino, 0, none⟩ (.int .i64 (q : Int))).setCell ⟨f x.ino, 1, none⟩ (.string ⟨la.toArray⟩)) := ((Chg.refl _ _).setCell (.inl (by simp)) _).setCell (.inl (by simp)) _
  rw [φT_has hxh] at p1
  have e2 : φK (tDel T x.ino) q la = none := by
    unfold φK
    cases hg : tKidOf (tDel T x.ino) q la with
    | none => rfl
    | some z =>
      obtain ⟨h1, h2⟩ := kidOf_some hg
      exact absurd h2 (kidOf_none hk z (mem_del.1 h1).1)
  rw [e2] at p2
  have hm5 : MapF 3 klI okI w5 bm (φT T f) (T.length + 1) := p1.congr rfl (fun z hz => by
    by_cases e : z = (x.ino : Int)
    · subst e; rw [updF_self, φT_has hxh]
    · rw [updF_other _ _ e])
  have h3 := h.unname hx hm3 hc3
  have fcell := (h.cells hxh).1
  have hfm : ∀ a, tIsDir T a = true → f x.ino ≠ g a := fun a ha => ne_map (h.ins a ha) fcell
  have hfbm : f x.ino ≠ bm := ne_map h.things fcell
  have hc25 : Chg [bm, g x.dir, g q, f x.ino] w2 w5 := ((hc3.mono (by simp)).trans hc4 (by simp)).trans p3 (by simp)
  refine ⟨S, h.renamed hx hd hk hmay hm5 (fun a ha hne => ?_) p2 ?_ hc25, fun z hz => .inl hz, (hc.mono (by simp)).trans hc25 (fun z hz => ?_)⟩
  · refine ((h3 a ha).chg hc4 (by have := hfm a ha; simp; exact fun e => this e.symm)).chg p3 ?_
    have h1 := h.gm a ha
    have h2 : g a ≠ g q := fun e => hne (h.ginj _ _ ha hd e)
    simp; exact ⟨h1, h2⟩
  · refine p3.keep ?_ (by simp; exact ⟨hfbm, hfm q hd⟩)
    have hb3 := hc3.keep (h.each _ hxh) (by simpa using hfm _ hdx)
    have hs := set_blk (j := 1) (u := .string ⟨la.toArray⟩) (set_blk (j := 0) (u := .int .i64 (q : Int)) hb3)
    rw [hs, thOf_mem h.ok hx]
    rfl
  · simp at hz
    rcases hz with rfl | rfl | rfl | rfl
    · exact .inl h.mem.2.1
    · exact .inl (h.mem.2.2.2 _ hdx)
    · exact .inl (h.mem.2.2.2 _ hd)
    · exact .inl (h.mem.2.2.1 _ hxh)
/-- What 'put' asks. -/
theorem move_ready {w2 w3 : World} {t : Nat} {S : List Nat} {T : PT} {bm : Nat} {f g : Nat → Nat} {x : Th} {q : Nat} {la : List UInt8} (h : TreeOk w2 t S T bm f g) (hx : x ∈ T) (hd : tIsDir T q = true) (hla : la.length ≤ 12) (hT : T.length ≤ 1000)
    (hm3 : MapF 9 klS okS w3 (g x.dir) (delF (φK T x.dir) x.name) (nKids T x.dir - 1)) (hc3 : Chg [g x.dir] w2 w3) :
    Calls Try.prog 55 #[.pointer (some ⟨t, 0, none⟩), .int .i64 (q : Int), .int .i64 (x.ino : Int), .pointer (some ⟨f x.ino, 0, none⟩)] ((w3.setCell ⟨f x.ino, 0, none⟩ (.int .i64 (q : Int))).setCell ⟨f x.ino, 1, none⟩ (.string ⟨la.toArray⟩)) fun e w' => e = .returned (.tuple #[]) ∧
      PutsTh ((w3.setCell ⟨f x.ino, 0, none⟩ (.int .i64 (q : Int))).setCell ⟨f x.ino, 1, none⟩ (.string ⟨la.toArray⟩)) bm (g q) (φT T f) (T.length + 1) (φK (tDel T x.ino) q) (nKids (tDel T x.ino) q) (x.ino : Int) (f x.ino) la w' := by
  have hxh : tHas T x.ino = true := has_iff.2 (.inr ⟨x, hx, rfl⟩)
  have hdx := h.ok.dirs x hx
  have hc4 : Chg [f x.ino] w3 ((w3.setCell ⟨f x.ino, 0, none⟩ (.int .i64 (q : Int))).setCell ⟨f x.ino, 1, none⟩ (.string ⟨la.toArray⟩)) := ((Chg.refl _ _).setCell (.inl (by simp)) _).setCell (.inl (by simp)) _
  have hc24 : Chg [g x.dir, f x.ino] w2 ((w3.setCell ⟨f x.ino, 0, none⟩ (.int .i64 (q : Int))).setCell ⟨f x.ino, 1, none⟩ (.string ⟨la.toArray⟩)) := (hc3.mono (by simp)).trans hc4 (by simp)
  have fcell := (h.cells hxh).1
  have hfm : ∀ a, tIsDir T a = true → f x.ino ≠ g a := fun a ha => ne_map (h.ins a ha) fcell
  have hfbm : f x.ino ≠ bm := ne_map h.things fcell
  have h1 := has_small h.ok hxh
  have h2 := has_small h.ok (dir_has hd)
  have hb3 := hc3.keep (h.each _ hxh) (by simpa using hfm _ hdx)
  have hs := set_blk (j := 1) (u := .string ⟨la.toArray⟩) (set_blk (j := 0) (u := .int .i64 (q : Int)) hb3)
  have hkl : nKids (tDel T x.ino) q ≤ 1000 := Nat.le_trans (kids_le _ _) (by
    unfold tDel; exact Nat.le_trans (List.length_filter_le _ _) hT)
  refine tput_any t bm q x.ino (f x.ino) (f q) (g q) (φT T f) (T.length + 1) (φK (tDel T x.ino) q) (nKids (tDel T x.ino) q) la _ ?_ ?_ (by unfold maxLen; omega) (okI_small (by omega)) (okI_small (by omega)) ?_ ?_ ?_ ?_ (by unfold maxLen; omega) (by unfold okS maxLen; omega) (h.gm q hd)
  · refine hc24.keep h.head ?_
    have h3 := ne_map (h.ins _ hdx) (blk_cell h.head 0 _ rfl)
    have h4 := tree_thing h.head (h.each _ hxh)
    simp at h3 ⊢; exact ⟨h3, h4⟩
  · refine h.things.chg hc24 ?_
    have := h.gm _ hdx
    simp; exact ⟨fun e => this e.symm, fun e => hfbm e.symm⟩
  · by_cases e : q = x.ino
    · subst e; rw [updF_self]
    · rw [updF_other _ _ (by omega), φT_has (dir_has hd)]
  · by_cases e : q = x.ino
    · subst e
      have := blk_cell hs 3 (.map (some (g x.ino))) (by rw [if_pos hd]; rfl)
      exact this
    · have d3 := (h.cells (dir_has hd)).2.2.2
      rw [if_pos hd] at d3
      refine hc24.cell d3 ?_
      have h5 := ne_map (h.ins _ hdx) d3
      have h6 : f q ≠ f x.ino := fun e2 => e (h.finj _ _ (dir_has hd) hxh e2)
      simp at h5 ⊢; exact ⟨h5, h6⟩
  · exact blk_cell hs 1 _ rfl
  · exact (h.unname hx hm3 hc3 q hd).chg hc4 (by simpa using fun e => hfm q hd e.symm)
end Go.Proofs.Ytaophafailmhjaa.W

/- Package tree: Move, its walk. -/
namespace Go.Proofs.Ytaophafailmhjaa.W
open Go.RowKit
open Go.Proofs.Ytaophafailmhjaa.NM
set_option linter.unusedVariables false
set_option linter.unusedSimpArgs false

theorem not_none {l : List (List UInt8)} {s : List UInt8} (h : splitB s = some l) : splitB s ≠ none := by rw [h]; simp

set_option maxHeartbeats 8000000 in
set_option maxRecDepth 100000 in
theorem tmove_any (t : Nat) (S : List Nat) (T : PT) (s s2 : ByteArray) (w : World) (h : TreeAt w t S T) (hs : s.size ≤ maxLen) (hs2 : s2.size ≤ maxLen) (hT : T.length ≤ 1000) :
    Calls Try.prog 45 #[.pointer (some ⟨t, 0, none⟩), .string s, .string s2] w (MovePost w t S (tMove T s.data.toList s2.data.toList)) := by
  have H := Lib.hid h
  have HS := Lib.hid hs
  have HS2 := Lib.hid hs2
  have hok := Lib.hid h.ok
  have HTL := Lib.hid hT
  clear h hs hs2 hT
  obtain ⟨Z, hZ⟩ : ∃ Z, tMove T s.data.toList s2.data.toList = Z := ⟨_, rfl⟩
  have HX : Hid (Z = if (tLook T s.data.toList).2.2 ≠ 0 then ((tLook T s.data.toList).2.2, T) else if (tLook T s.data.toList).1 = 1 then (8, T) else
      if splitB s2.data.toList = none then (12, T) else if (withinB s2.data.toList s.data.toList || withinB s.data.toList s2.data.toList) = true then (1, T) else
      if (tPlace T s2.data.toList).2.2 ≠ 0 then ((tPlace T s2.data.toList).2.2, T) else
      if tKid T (tPlace T s2.data.toList).1 (tPlace T s2.data.toList).2.1 ≠ 0 then (7, T) else
      (0, tRename T (tLook T s.data.toList).1 (tPlace T s2.data.toList).1 (tPlace T s2.data.toList).2.1)) := Lib.hid (by rw [← hZ]; rfl)
  rw [hZ]
  clear hZ
  have HP := Lib.hid (tlook_any t S T s w H.out HS.out)
  have HO : Hid ((tLook T s.data.toList).2.2 = 0 → tHas T (tLook T s.data.toList).1 = true ∧ (tLook T s.data.toList).2.1 = tIsDir T (tLook T s.data.toList).1) := Lib.hid look_ok
  generalize tLook T s.data.toList = r at *
  obtain ⟨a, isd, er⟩ := r
  simp only at HX HO
  by_cases h0 : er = 0
  · subst h0
    obtain ⟨o1, _⟩ := HO.out rfl
    have HA := Lib.hid o1
    have has := has_small hok.out o1
    have HX1 : Hid (Z = if a = 1 then (8, T) else
      if splitB s2.data.toList = none then (12, T) else if (withinB s2.data.toList s.data.toList || withinB s.data.toList s2.data.toList) = true then (1, T) else
      if (tPlace T s2.data.toList).2.2 ≠ 0 then ((tPlace T s2.data.toList).2.2, T) else
      if tKid T (tPlace T s2.data.toList).1 (tPlace T s2.data.toList).2.1 ≠ 0 then (7, T) else
      (0, tRename T a (tPlace T s2.data.toList).1 (tPlace T s2.data.toList).2.1)) := Lib.hid (by rw [HX.out, if_neg (by simp)])
    clear o1 HX HO
    by_cases h1 : a = 1
    · have HE : Hid (Z = (8, T)) := Lib.hid (by rw [HX1.out, if_pos h1])
      have hb1 : ((a : Int) == 1) = true := by rw [h1]; rfl
      clear h1 HX1
      go_enter Try.func45, Try.ntmps45
      go_wp2_with fail
      refine HP.out.mono ?_
      rintro e w1 ⟨rfl, hb⟩
      have HB := Lib.hid hb
      clear hb
      go_wp2
      go_ret
      rw [HE.out]
      exact ⟨rfl, TDid.same H.out HB.out⟩
    · have hb1 : ((a : Int) == 1) = false := by simp; omega
      have HX2 : Hid (Z = if splitB s2.data.toList = none then (12, T) else if (withinB s2.data.toList s.data.toList || withinB s.data.toList s2.data.toList) = true then (1, T) else
        if (tPlace T s2.data.toList).2.2 ≠ 0 then ((tPlace T s2.data.toList).2.2, T) else
        if tKid T (tPlace T s2.data.toList).1 (tPlace T s2.data.toList).2.1 ≠ 0 then (7, T) else
        (0, tRename T a (tPlace T s2.data.toList).1 (tPlace T s2.data.toList).2.1)) := Lib.hid (by rw [HX1.out, if_neg h1])
      obtain ⟨x, hx, rfl⟩ := has_mem HA.out h1
      have HXM := Lib.hid hx
      clear h1 HX1 hx
      cases hsp : splitB s2.data.toList with
      | none =>
        have HE : Hid (Z = (12, T)) := Lib.hid (by rw [HX2.out, if_pos hsp])
        have HSP := Lib.hid hsp
        clear hsp HX2
        go_enter Try.func45, Try.ntmps45
        go_wp2_with fail
        refine HP.out.mono ?_
        rintro e w1 ⟨rfl, hb⟩
        have HB := Lib.hid hb
        clear hb
        go_wp2_with fail
        refine (split_any s2 w1 HS2.out).mono ?_
        rintro e w2 ⟨hb, h2⟩
        rw [HSP.out] at h2
        subst h2
        have HB2 := Lib.hid (chg_tr HB.out (chg_below hb))
        clear hb
        go_wp2
        go_ret
        rw [HE.out]
        exact ⟨rfl, TDid.same H.out HB2.out⟩
      | some l2 =>
        have HX3 : Hid (Z = if (withinB s2.data.toList s.data.toList || withinB s.data.toList s2.data.toList) = true then (1, T) else
          if (tPlace T s2.data.toList).2.2 ≠ 0 then ((tPlace T s2.data.toList).2.2, T) else
          if tKid T (tPlace T s2.data.toList).1 (tPlace T s2.data.toList).2.1 ≠ 0 then (7, T) else
          (0, tRename T x.ino (tPlace T s2.data.toList).1 (tPlace T s2.data.toList).2.1)) := Lib.hid (by rw [HX2.out, if_neg (by rw [hsp]; simp)])
        have HSPL : Hid (∀ w, Calls Try.prog 56 #[.string s2] w (fun e w' => (∃ v, e = .returned (.tuple #[v, .int .i64 0])) ∧ Chg [] w w')) := Lib.hid (fun w => (split_any s2 w HS2.out).mono fun e w' ⟨hb, h2⟩ => by
          rw [hsp] at h2
          obtain ⟨v, h2, _⟩ := h2
          exact ⟨⟨v, h2⟩, chg_below hb⟩)
        have HW1 : Hid (∀ w, Calls Try.prog 60 #[.string s2, .string s] w (fun e w' => e = .returned (.bool (withinB s2.data.toList s.data.toList)) ∧ Chg [] w w')) := Lib.hid (fun w => (within_any s2 s w HS2.out HS.out).mono fun e w' ⟨h, hb⟩ => ⟨h, chg_below hb⟩)
        have HW2 : Hid (∀ w, Calls Try.prog 60 #[.string s, .string s2] w (fun e w' => e = .returned (.bool (withinB s.data.toList s2.data.toList)) ∧ Chg [] w w')) := Lib.hid (fun w => (within_any s s2 w HS.out HS2.out).mono fun e w' ⟨h, hb⟩ => ⟨h, chg_below hb⟩)
        clear hsp HX2
        generalize withinB s2.data.toList s.data.toList = b1 at *
        generalize withinB s.data.toList s2.data.toList = b2 at *
        cases b1 with
        | true =>
          have HE : Hid (Z = (1, T)) := Lib.hid (by rw [HX3.out, if_pos (by simp)])
          clear HX3
          go_enter Try.func45, Try.ntmps45
          go_wp2_with fail
          refine HP.out.mono ?_
          rintro e w1 ⟨rfl, hb⟩
          have HB := Lib.hid hb
          clear hb
          go_wp2_with fail
          refine (HSPL.out w1).mono ?_
          rintro e w2 ⟨⟨v, rfl⟩, hb⟩
          have HB2 := Lib.hid (chg_tr HB.out hb)
          clear hb
          go_wp2_with fail
          refine (HW1.out w2).mono ?_
          rintro e w3 ⟨rfl, hb⟩
          have HB3 := Lib.hid (chg_tr HB2.out hb)
          clear hb
          go_wp2
          go_ret
          rw [HE.out]
          exact ⟨rfl, TDid.same H.out HB3.out⟩
        | false =>
          cases b2 with
          | true =>
            have HE : Hid (Z = (1, T)) := Lib.hid (by rw [HX3.out, if_pos (by simp)])
            clear HX3
            go_enter Try.func45, Try.ntmps45
            go_wp2_with fail
            refine HP.out.mono ?_
            rintro e w1 ⟨rfl, hb⟩
            have HB := Lib.hid hb
            clear hb
            go_wp2_with fail
            refine (HSPL.out w1).mono ?_
            rintro e w2 ⟨⟨v, rfl⟩, hb⟩
            have HB2 := Lib.hid (chg_tr HB.out hb)
            clear hb
            go_wp2_with fail
            refine (HW1.out w2).mono ?_
            rintro e w3 ⟨rfl, hb⟩
            have HB3 := Lib.hid (chg_tr HB2.out hb)
            clear hb
            go_wp2_with fail
            refine (HW2.out w3).mono ?_
            rintro e w4 ⟨rfl, hb⟩
            have HB4 := Lib.hid (chg_tr HB3.out hb)
            clear hb
            go_wp2
            go_ret
            rw [HE.out]
            exact ⟨rfl, TDid.same H.out HB4.out⟩
          | false =>
            have HX4 : Hid (Z = if (tPlace T s2.data.toList).2.2 ≠ 0 then ((tPlace T s2.data.toList).2.2, T) else
              if tKid T (tPlace T s2.data.toList).1 (tPlace T s2.data.toList).2.1 ≠ 0 then (7, T) else
              (0, tRename T x.ino (tPlace T s2.data.toList).1 (tPlace T s2.data.toList).2.1)) := Lib.hid (by rw [HX3.out, if_neg (by simp)])
            have HPL : Hid (∀ w1, Chg [] w w1 → Calls Try.prog 54 #[.pointer (some ⟨t, 0, none⟩), .string s2] w1 (PlacePost w1 (tPlace T s2.data.toList))) := Lib.hid (fun w1 hc => tplace_any t S T s2 w1 (H.out.keep0 hc) HS2.out)
            have HPO : Hid ((tPlace T s2.data.toList).2.2 = 0 → tIsDir T (tPlace T s2.data.toList).1 = true ∧ mayB (tPlace T s2.data.toList).2.1 = true ∧ tHas T (tPlace T s2.data.toList).1 = true) := Lib.hid place_ok
            clear HX3
            generalize tPlace T s2.data.toList = pl at *
            obtain ⟨q, la, e2⟩ := pl
            simp only at HX4 HPO
            go_enter Try.func45, Try.ntmps45
            go_wp2_with fail
            refine HP.out.mono ?_
            rintro e w1 ⟨rfl, hb⟩
            have HB := Lib.hid hb
            clear hb
            go_wp2_with fail
            refine (HSPL.out w1).mono ?_
            rintro e w2 ⟨⟨v, rfl⟩, hb⟩
            have HB2 := Lib.hid (chg_tr HB.out hb)
            clear hb
            go_wp2_with fail
            refine (HW1.out w2).mono ?_
            rintro e w3 ⟨rfl, hb⟩
            have HB3 := Lib.hid (chg_tr HB2.out hb)
            clear hb
            go_wp2_with fail
            refine (HW2.out w3).mono ?_
            rintro e w4 ⟨rfl, hb⟩
            have HB4 := Lib.hid (chg_tr HB3.out hb)
            clear hb
            go_wp2_with fail
            refine (HPL.out w4 HB4.out).mono ?_
            rintro e w5 ⟨rfl, hb⟩
            have HB5 := Lib.hid (chg_tr HB4.out hb)
            clear hb
            by_cases he : e2 = 0
            · subst he
              obtain ⟨o1, o2, o3⟩ := HPO.out rfl
              have HD := Lib.hid o1
              have hla := may_len o2
              have HM := Lib.hid o2
              have hqs := has_small hok.out o3
              have HX5 : Hid (Z = if tKid T q la ≠ 0 then (7, T) else (0, tRename T x.ino q la)) := Lib.hid (by rw [HX4.out, if_neg (by simp)])
              clear HX4 HPO o2
              obtain ⟨bm, f, g, HT⟩ := H.out.keep0 HB5.out
              have c0 := blk_cell HT.head 0 _ rfl
              have hlk := HT.at o3
              have d3 := (HT.cells o3).2.2.2
              rw [if_pos o1] at d3
              have hkd := HT.kid o1 la (by unfold maxLen; omega)
              have HTT := Lib.hid HT
              have HQ := Lib.hid o3
              clear HT o1 o3
              cases hk : tKidOf T q la with
              | some y =>
                have HE : Hid (Z = (7, T)) := Lib.hid (by
                  rw [HX5.out, if_pos]
                  intro h0
                  rw [(kid_zero hok.out).1 h0] at hk; cases hk)
                rw [hk] at hkd
                clear hk
                generalize tKid T q la = c at *
                go_wp2
                go_ret
                rw [HE.out]
                exact ⟨rfl, TDid.same H.out HB5.out⟩
              | none =>
                have hk0 : tKid T q la = 0 := (kid_zero hok.out).2 hk
                have HE : Hid (Z = (0, tRename T x.ino q la)) := Lib.hid (by rw [HX5.out, if_neg (by simp [hk0])])
                have HK := Lib.hid hk
                rw [hk, hk0] at hkd
                clear hk hk0 HX5
                have hxd := hok.out.dirs x HXM.out
                have hlx := HTT.out.at HA.out
                obtain ⟨x0, x1, x2, x3⟩ := HTT.out.cells HA.out
                rw [thOf_mem hok.out HXM.out] at x0 x1
                have hlp := HTT.out.at (dir_has hxd)
                have p3 := (HTT.out.cells (dir_has hxd)).2.2.2
                rw [if_pos hxd] at p3
                have HXD := Lib.hid hxd
                have hlp2 : (Instr.lookup 70 (.map (some bm)) (.int .i64 (x.dir : Int)) false).run Try.prog w5.drew = .ok (.pointer (some ⟨f x.dir, 0, none⟩)) w5.drew := (HTT.out.keep ((Chg.refl [] w5).drew) (by simp)).at (dir_has hxd)
                have HOS : Hid (okS x.name) := Lib.hid (by have := may_len (hok.out.may x HXM.out); unfold okS maxLen; omega)
                clear x2 x3 hxd
                go_wp2
                go_still_tail 16, (by kernel_rfl)
                change wpList _ _ _ _ _ w5.drew
                have HC2 : Hid (Chg [] w w5.drew) := Lib.hid HB5.out.drew
                have HT2 : Hid (TreeOk w5.drew t S T bm f g) := Lib.hid (HTT.out.keep ((Chg.refl [] w5).drew) (by simp))
                clear hlk hlp hlx hlp2 hkd c0 d3 x0 x1 p3
                generalize w5.drew = w6 at *
                have HG2 : Hid (MapF 9 klS okS w6 (g x.dir) (φK T x.dir) (nKids T x.dir)) := Lib.hid (HT2.out.ins _ HXD.out)
                go_wp2_with (refine wpList_del keStr _ rfl _ _ _ rfl 3 Try.underlying77 (g x.dir) (nKids T x.dir) (φK T x.dir) rfl HG2.out x.name rfl (HOS.out) ?_
                             intro w7 hm3 hc3 hs3
                             have e1 : φK T x.dir x.name = some (.int .i64 (x.ino : Int)) := by unfold φK; rw [kidOf_mem hok.out HXM.out]; rfl
                             rw [e1] at hm3
                             have hbx := hc3.keep (HT2.out.each _ HA.out) (by simpa using ne_map (HT2.out.ins _ HXD.out) (HT2.out.cells HA.out).1)
                             have x0 := blk_cell hbx 0 _ rfl
                             have x1 := blk_cell hbx 1 _ rfl
                             have f0 := blk_frozen hbx 0
                             have f1 := blk_frozen hbx 1
                             have hfl := blk_lt hbx
                             have HB7 := Lib.hid (And.intro hm3 hc3)
                             clear hm3 hc3 hs3 e1 hbx)
                refine (move_ready HT2.out HXM.out HD.out hla.2 HTL.out HB7.out.1 HB7.out.2).mono ?_
                rintro e w8 ⟨rfl, hp⟩
                have HFIN := Lib.hid (move_done HT2.out HC2.out HXM.out HD.out HK.out HM.out HB7.out.1 HB7.out.2 hp)
                clear hp
                go_wp2
                go_ret
                rw [HE.out]
                exact ⟨rfl, HFIN.out⟩
            · have HE : Hid (Z = (e2, T)) := Lib.hid (by rw [HX4.out, if_pos he])
              have hb0 : (e2 != 0) = true := by simpa using he
              clear he HX4 HPO
              go_wp2
              go_ret
              rw [HE.out]
              exact ⟨rfl, TDid.same H.out HB5.out⟩
  · have HE : Hid (Z = (er, T)) := Lib.hid (by rw [HX.out, if_pos h0])
    have hb0 : (er != 0) = true := by simpa using h0
    clear h0 HX HO
    go_enter Try.func45, Try.ntmps45
    go_wp2_with fail
    refine HP.out.mono ?_
    rintro e w1 ⟨rfl, hb⟩
    have HB := Lib.hid hb
    clear hb
    go_wp2
    go_ret
    rw [HE.out]
    exact ⟨rfl, TDid.same H.out HB.out⟩
end Go.Proofs.Ytaophafailmhjaa.W

/- A tree of one's own; awake. -/
namespace Go.Proofs.Ytaophafailmhjaa.W
open Go.RowKit
open Go.Proofs.Ytaophafailmhjaa.NM
set_option linter.unusedVariables false
set_option linter.unusedSimpArgs false

/-- What was done to a tree of our own, from the outside. -/
def Own (w w' : World) (t : Nat) (T : PT) : Prop := ∃ S, TreeAt w' t S T ∧ (∀ x ∈ S, w.heap.size ≤ x) ∧ Chg [] w w'
theorem own_did {w w1 w2 : World} {t : Nat} {S : List Nat} {T' : PT} (h2 : ∀ x ∈ S, w.heap.size ≤ x) (h3 : Chg [] w w1) (hd : TDid w1 w2 t S T') : Own w w2 t T' := by
  obtain ⟨S', d1, d2, d3⟩ := hd
  refine ⟨S', d1, fun x hx => ?_, h3.trans d3 (fun x hx => .inr (h2 x hx))⟩
  rcases d2 x hx with h | h
  · exact h2 x h
  · exact Nat.le_trans h3.size h
theorem Own.keep {w w1 w2 : World} {t : Nat} {T : PT} (h : Own w w1 t T) (hc : Chg [] w1 w2) : Own w w2 t T := by
  obtain ⟨S, h1, h2, h3⟩ := h
  exact ⟨S, h1.keep0 hc, h2, chg_tr h3 hc⟩
theorem Own.chg {w w' : World} {t : Nat} {T : PT} (h : Own w w' t T) : Chg [] w w' := by obtain ⟨S, h1, h2, h3⟩ := h; exact h3
theorem Own.ok {w w' : World} {t : Nat} {T : PT} (h : Own w w' t T) : TOk T := by obtain ⟨S, h1, h2, h3⟩ := h; exact h1.ok
theorem tok_len {T : PT} (h : TOk T) : T.length ≤ 127 := by
  have h2 := h.nums
  have h3 := h.rise
  have : ∀ (U : PT) (n : Nat), U.Pairwise (fun x y => x.ino < y.ino) → (∀ x ∈ U, n ≤ x.ino ∧ x.ino ≤ 128) → U = [] ∨ n + U.length ≤ 129 := by
    intro U
    induction U with
    | nil => intro n _ _; exact .inl rfl
    | cons y r ih =>
      intro n hp hm
      right
      have hp' := List.pairwise_cons.1 hp
      have hy := hm y (List.mem_cons_self ..)
      rcases ih (n + 1) hp'.2 (fun x hx => ⟨by have := hp'.1 x hx; omega, (hm x (List.mem_cons_of_mem _ hx)).2⟩) with h4 | h4
      · subst h4; simp; omega
      · simp; omega
  rcases this T 2 h3 h2 with h4 | h4
  · rw [h4]; simp
  · omega
theorem mk_size (s : List UInt8) (h : s.length ≤ maxLen) : (mk s).size ≤ maxLen := by rw [size_len, data_mk]; exact h

def ONewPost (w0 : World) (e : Ending) (w' : World) : Prop := ∃ t, e = .returned (.pointer (some ⟨t, 0, none⟩)) ∧ Own w0 w' t []
theorem onew_any {w0 w : World} (hc : Chg [] w0 w) : Calls Try.prog 18 #[] w (ONewPost w0) :=
  (tnew_any w).mono fun e w' ⟨t, S, h1, h2, h3, h4⟩ => ⟨t, h1, S, h2, fun x hx => Nat.le_trans hc.size (h3 x hx), chg_tr hc h4⟩
def OMakePost (w0 : World) (t : Nat) (r : (Nat × Int) × PT) (e : Ending) (w' : World) : Prop := e = .returned (.tuple #[.int .i64 (r.1.1 : Int), .int .i64 r.1.2]) ∧ Own w0 w' t r.2
theorem omake_any {w0 w : World} {t : Nat} {T : PT} (h : Own w0 w t T) (s : List UInt8) (d : Bool) (r : (Nat × Int) × PT) (hr : tMake T s d = r) (hs : s.length ≤ maxLen) : Calls Try.prog 41 #[.pointer (some ⟨t, 0, none⟩), .string (mk s), .bool d] w (OMakePost w0 t r) := by
  obtain ⟨S, h1, h2, h3⟩ := h
  have := tmake_any t S T (mk s) d w h1 (mk_size s hs)
  rw [data_mk, hr] at this
  exact this.mono fun e w' ⟨he, hd⟩ => ⟨he, own_did h2 h3 hd⟩
theorem oremove_any {w0 w : World} {t : Nat} {T : PT} (h : Own w0 w t T) (s : List UInt8) (d : Bool) (r : (Nat × Int) × PT) (hr : tRemove T s d = r) (hs : s.length ≤ maxLen) : Calls Try.prog 44 #[.pointer (some ⟨t, 0, none⟩), .string (mk s), .bool d] w (OMakePost w0 t r) := by
  obtain ⟨S, h1, h2, h3⟩ := h
  have := tremove_any t S T (mk s) d w h1 (mk_size s hs)
  rw [data_mk, hr] at this
  exact this.mono fun e w' ⟨he, hd⟩ => ⟨he, own_did h2 h3 hd⟩
def OMovePost (w0 : World) (t : Nat) (r : Int × PT) (e : Ending) (w' : World) : Prop := e = .returned (.int .i64 r.1) ∧ Own w0 w' t r.2
theorem omove_any {w0 w : World} {t : Nat} {T : PT} (h : Own w0 w t T) (s s2 : List UInt8) (r : Int × PT) (hr : tMove T s s2 = r) (hs : s.length ≤ maxLen) (hs2 : s2.length ≤ maxLen) : Calls Try.prog 45 #[.pointer (some ⟨t, 0, none⟩), .string (mk s), .string (mk s2)] w (OMovePost w0 t r) := by
  have hl := tok_len h.ok
  obtain ⟨S, h1, h2, h3⟩ := h
  have := tmove_any t S T (mk s) (mk s2) w h1 (mk_size s hs) (mk_size s2 hs2) (by omega)
  rw [data_mk, data_mk, hr] at this
  exact this.mono fun e w' ⟨he, hd⟩ => ⟨he, own_did h2 h3 hd⟩
def OLookPost (w0 : World) (t : Nat) (T : PT) (r : Nat × Bool × Int) (e : Ending) (w' : World) : Prop := e = .returned (.tuple #[.int .i64 (r.1 : Int), .bool r.2.1, .int .i64 r.2.2]) ∧ Own w0 w' t T
theorem olook_any {w0 w : World} {t : Nat} {T : PT} (h : Own w0 w t T) (s : List UInt8) (r : Nat × Bool × Int) (hr : tLook T s = r) (hs : s.length ≤ maxLen) : Calls Try.prog 42 #[.pointer (some ⟨t, 0, none⟩), .string (mk s)] w (OLookPost w0 t T r) := by
  have h' := h
  obtain ⟨S, h1, h2, h3⟩ := h
  have := tlook_any t S T (mk s) w h1 (mk_size s hs)
  rw [data_mk, hr] at this
  exact this.mono fun e w' ⟨he, hd⟩ => ⟨he, h'.keep hd⟩
def OListPost (w0 w : World) (t : Nat) (T : PT) (r : List Ent × Int) (e : Ending) (w' : World) : Prop := ∃ v, e = .returned (.tuple #[v, .int .i64 r.2]) ∧ w'.ownsRow w.heap.size 106 3 v r.1.length (r.1.flatMap entC) ∧ Chg [] w w' ∧ Own w0 w' t T
theorem olist_any {w0 w : World} {t : Nat} {T : PT} (h : Own w0 w t T) (s : List UInt8) (r : List Ent × Int) (hr : tList T s = r) (hs : s.length ≤ maxLen) : Calls Try.prog 46 #[.pointer (some ⟨t, 0, none⟩), .string (mk s)] w (OListPost w0 w t T r) := by
  have hl := tok_len h.ok
  have h' := h
  obtain ⟨S, h1, h2, h3⟩ := h
  have := tlist_any t S T (mk s) w h1 (mk_size s hs) (by omega)
  rw [data_mk, hr] at this
  exact this.mono fun e w' ⟨v, he, hr, hc⟩ => ⟨v, he, hr, hc, h'.keep hc⟩

def kT0 : PT := [⟨2, 1, [97], true⟩]
theorem k01 : tMake [] [47, 97] true = ((2, 0), kT0) := by kernel_rfl
theorem k02 : tLook kT0 [47, 97] = (2, true, 0) := by kernel_rfl

end Go.Proofs.Ytaophafailmhjaa.W

/- The file system as it is meant, in memory: a tree, handles, two maps of rows of bytes. -/
namespace Go.Proofs.Ytaophafailmhjaa.W
open Go.RowKit
open Go.Proofs.Ytaophafailmhjaa.NM
set_option linter.unusedVariables false
set_option linter.unusedSimpArgs false

def KeepK (K : List Nat) (w w' : World) : Prop := ∀ k ∈ K, w'.heap[k]? = w.heap[k]?
theorem KeepK.refl (K : List Nat) (w : World) : KeepK K w w := fun _ _ => rfl
theorem KeepK.trans {K : List Nat} {a b c : World} (h : KeepK K a b) (k : KeepK K b c) : KeepK K a c := fun x hx => (k x hx).trans (h x hx)
theorem KeepK.of_chg {K S : List Nat} {a b : World} (h : Chg S a b) (hk : ∀ k ∈ K, k ∉ S ∧ k < a.heap.size) : KeepK K a b := fun x hx => h.block x (hk x hx).2 (hk x hx).1
theorem KeepK.mono {K L : List Nat} {a b : World} (h : KeepK K a b) (hL : ∀ x ∈ L, x ∈ K) : KeepK L a b := fun x hx => h x (hL x hx)

/-! ### handles -/
/-- Handles in block k; S: all that they lie in. -/
def TokAt (w : World) (k : Nat) (S : List Nat) (l : List K.TRow) : Prop := ∃ v, K.IsTok w k v 0 l ∧ S = k :: v.ownBlock.toList
def KDid (w w' : World) (k : Nat) (S : List Nat) (l : List K.TRow) : Prop := ∃ S', TokAt w' k S' l ∧ (∀ x ∈ S', x ∈ S ∨ w.heap.size ≤ x) ∧ Chg S w w'
theorem TokAt.lim {w : World} {k : Nat} {S : List Nat} {l : List K.TRow} (h : TokAt w k S l) : ∀ x ∈ S, x < w.heap.size := by
  obtain ⟨v, h, rfl⟩ := h
  intro x hx
  rcases List.mem_cons.1 hx with rfl | hx
  · exact h.lt
  · rw [Option.mem_toList] at hx
    exact (h.rows.lt x hx).2
theorem TokAt.keep {w w' : World} {k : Nat} {S U : List Nat} {l : List K.TRow} (h : TokAt w k S l) (hc : Chg U w w') (ha : ∀ x ∈ S, x ∉ U) : TokAt w' k S l := by
  have hl := h.lim
  obtain ⟨v, h, rfl⟩ := h
  refine ⟨v, ⟨hc.keep h.head (ha k (List.mem_cons_self ..)), row_keep h.rows (fun g hg => ?_), h.few⟩, rfl⟩
  have hm : g ∈ k :: v.ownBlock.toList := List.mem_cons_of_mem _ (Option.mem_toList.2 hg)
  exact hc.block g (hl g hm) (ha g hm)
theorem KDid.same {w w' : World} {k : Nat} {S : List Nat} {l : List K.TRow} (h : TokAt w k S l) (hc : Chg [] w w') : KDid w w' k S l := ⟨S, h.keep hc (by simp), fun x hx => .inl hx, hc.mono (by simp)⟩
theorem kdid_of {w w' : World} {k : Nat} {v v' : Value} {l l' : List K.TRow} (h : K.IsTok w k v 0 l) (h' : K.IsTok w' k v' 0 l') (hf : K.TokFrame w w' k v) (hr : K.Fresh w v v') : KDid w w' k (k :: v.ownBlock.toList) l' := by
  refine ⟨_, ⟨v', h', rfl⟩, fun x hx => ?_, hf.os, hf.tape, hf.output, hf.size, fun x hx hn => ?_⟩
  · rcases List.mem_cons.1 hx with rfl | hx
    · exact .inl (List.mem_cons_self ..)
    · rw [Option.mem_toList] at hx
      rcases hr with e | ⟨g, e, hg⟩
      · exact .inl (List.mem_cons_of_mem _ (Option.mem_toList.2 (by rw [← e]; exact hx)))
      · have : g = x := by
          have hx' : v'.ownBlock = some x := hx
          rw [e] at hx'
          exact Option.some.inj hx'
        exact .inr (by omega)
  · refine hf.block x hx (fun e => hn ?_) (fun e => hn ?_)
    · subst e; exact List.mem_cons_self ..
    · exact List.mem_cons_of_mem _ (Option.mem_toList.2 e)
theorem kopen_any {w : World} {k : Nat} {S : List Nat} {l : List K.TRow} (h : TokAt w k S l) (hl : l.length ≤ 1000) (c i : Int) (q : Bool) :
    Calls Try.prog 47 #[.pointer (some ⟨k, 0, none⟩), .int .i64 c, .int .i64 i, .bool q] w fun e w' => e = .returned (.tuple #[.int .i64 (K.openR l c i q).1, .int .i64 (K.openR l c i q).2.1]) ∧ KDid w w' k S (K.openR l c i q).2.2 := by
  obtain ⟨v, h, rfl⟩ := h
  refine (K.open_any k v 0 l c i q w h (by omega) (Nat.zero_le _)).mono ?_
  rintro e w' ⟨v', rfl, h1, h2, h3⟩
  exact ⟨rfl, kdid_of h h1 h2 h3⟩
theorem kclose_any {w : World} {k : Nat} {S : List Nat} {l : List K.TRow} (h : TokAt w k S l) (c n : Int) :
    Calls Try.prog 51 #[.pointer (some ⟨k, 0, none⟩), .int .i64 c, .int .i64 n] w fun e w' => e = .returned (.int .i64 (K.closeE (K.find l c n))) ∧ KDid w w' k S (K.closeL l (K.find l c n)) := by
  obtain ⟨v, h, rfl⟩ := h
  refine (K.close_any k v 0 l c n w h).mono ?_
  rintro e w' ⟨v', rfl, h1, h2, h3⟩
  exact ⟨rfl, kdid_of h h1 h2 h3⟩
theorem kdrop_any {w : World} {k : Nat} {S : List Nat} {l : List K.TRow} (h : TokAt w k S l) (c : Int) :
    Calls Try.prog 24 #[.pointer (some ⟨k, 0, none⟩), .int .i64 c] w fun e w' => e = .returned (.int .i64 ((l.length : Int) - (K.keep (fun r => r.c == c) l).length)) ∧ KDid w w' k S (K.keep (fun r => r.c == c) l) := by
  obtain ⟨v, h, rfl⟩ := h
  refine (K.drop_any k v 0 l c w h).mono ?_
  rintro e w' ⟨v', rfl, h1, h2, h3⟩
  exact ⟨rfl, kdid_of h h1 h2 h3⟩
theorem kof_any {w : World} {k : Nat} {S : List Nat} {l : List K.TRow} (h : TokAt w k S l) (c n : Int) :
    Calls Try.prog 65 #[.pointer (some ⟨k, 0, none⟩), .int .i64 c, .int .i64 n] w fun e w' => e = .returned (K.ofAns (K.find l c n)) ∧ Chg [] w w' := by
  obtain ⟨v, h, rfl⟩ := h
  exact (K.of_any k v 0 l c n w h).mono fun e w' ⟨h1, h2⟩ => ⟨h1, Chg.of_below h2⟩
theorem kbusy_any {w : World} {k : Nat} {S : List Nat} {l : List K.TRow} (h : TokAt w k S l) (n : Int) :
    Calls Try.prog 43 #[.pointer (some ⟨k, 0, none⟩), .int .i64 n] w fun e w' => e = .returned (.bool (K.has (fun r => r.i == n) l)) ∧ Chg [] w w' := by
  obtain ⟨v, h, rfl⟩ := h
  exact (K.busy_any k v 0 l n w h).mono fun e w' ⟨h1, h2⟩ => ⟨h1, Chg.of_below h2⟩
theorem krows_any {w : World} {k : Nat} {S : List Nat} {l : List K.TRow} (h : TokAt w k S l) :
    Calls Try.prog 26 #[.pointer (some ⟨k, 0, none⟩)] w fun e w' => ∃ v', e = .returned v' ∧ w'.ownsRow w.heap.size 51 4 v' l.length (K.encs l) ∧ Chg [] w w' := by
  obtain ⟨v, h, rfl⟩ := h
  exact (K.copy_any k v 0 l w h).mono fun e w' ⟨v', h1, h2, h3⟩ => ⟨v', h1, h2, Chg.of_below h3⟩
theorem knew_any (w : World) : Calls Try.prog 19 #[] w fun e w' => e = .returned (.pointer (some ⟨w.heap.size, 0, none⟩)) ∧ TokAt w' w.heap.size [w.heap.size] [] ∧ Chg [] w w' ∧ w'.heap.size = w.heap.size + 1 := by
  refine (K.new_any w).mono ?_
  rintro e w' ⟨rfl, rfl⟩
  exact ⟨rfl, ⟨.slice none 0 0, ⟨heap_alloc_new w _, World.ownsRow_nil _ _ _ _, by simp⟩, rfl⟩, (Chg.refl _ _).alloc _, by simp⟩

/-! ### rows of bytes in a map -/
def HeldAt (w : World) (S : List Nat) (v : Value) (l : List UInt8) : Prop := BytesAt w v l ∧ (l ≠ [] → ∀ g, v.ownBlock = some g → g < w.heap.size ∧ g ∉ S)
def ValsAt (w : World) (S : List Nat) {κ : Type} (ok : κ → Prop) (φ : κ → Option Value) (F : κ → Option (List UInt8)) : Prop := ∀ x, ok x → (φ x = none ∧ F x = none) ∨ ∃ v l, φ x = some v ∧ F x = some l ∧ HeldAt w S v l
/-- Bytes stay where their block does; where there are none the block says nothing. -/
theorem BytesAt.keepL {w w' : World} {v : Value} {l : List UInt8} (h : BytesAt w v l) (hb : l ≠ [] → ∀ g, v.ownBlock = some g → w'.heap[g]? = w.heap[g]?) : BytesAt w' v l := by
  by_cases e : l = []
  · subst e
    obtain ⟨a, cap, rfl, h1, h2, h3⟩ := h
    refine ⟨a, cap, rfl, h1, h2, ?_⟩
    rcases h3 with h3 | ⟨g, o, rfl, hc⟩
    · exact .inl h3
    · exact .inr ⟨g, o, rfl, fun i hi => absurd hi (Nat.not_lt_zero i)⟩
  · exact h.keep (hb e)
theorem HeldAt.keep {w w' : World} {S S' U : List Nat} {v : Value} {l : List UInt8} (h : HeldAt w S v l) (hc : Chg U w w') (hU : ∀ x ∈ U, x ∈ S) (hS : ∀ x ∈ S', x ∈ S ∨ w.heap.size ≤ x) : HeldAt w' S' v l := by
  refine ⟨h.1.keepL fun hl g hg => ?_, fun hl g hg => ⟨Nat.lt_of_lt_of_le (h.2 hl g hg).1 hc.size, fun hm => ?_⟩⟩
  · exact hc.block g (h.2 hl g hg).1 (fun hm => (h.2 hl g hg).2 (hU g hm))
  · rcases hS g hm with h1 | h1
    · exact (h.2 hl g hg).2 h1
    · have := (h.2 hl g hg).1; omega
theorem ValsAt.keep {w w' : World} {S S' U : List Nat} {κ : Type} {ok : κ → Prop} {φ : κ → Option Value} {F : κ → Option (List UInt8)} (h : ValsAt w S ok φ F) (hc : Chg U w w') (hU : ∀ x ∈ U, x ∈ S) (hS : ∀ x ∈ S', x ∈ S ∨ w.heap.size ≤ x) : ValsAt w' S' ok φ F := by
  intro x hx
  rcases h x hx with h1 | ⟨v, l, h1, h2, h3⟩
  · exact .inl h1
  · exact .inr ⟨v, l, h1, h2, h3.keep hc hU hS⟩
theorem ValsAt.some {w : World} {S : List Nat} {κ : Type} {ok : κ → Prop} {φ : κ → Option Value} {F : κ → Option (List UInt8)} (h : ValsAt w S ok φ F) {x : κ} (hx : ok x) : (φ x).isSome = (F x).isSome := by
  rcases h x hx with ⟨h1, h2⟩ | ⟨v, l, h1, h2, h3⟩
  · rw [h1, h2]; rfl
  · rw [h1, h2]; rfl
theorem ValsAt.upd {w : World} {S : List Nat} {κ : Type} [DecidableEq κ] {ok : κ → Prop} {φ : κ → Option Value} {F : κ → Option (List UInt8)} (h : ValsAt w S ok φ F) (y : κ) {v : Value} {l : List UInt8} (hv : HeldAt w S v l) : ValsAt w S ok (updF φ y v) (W.upd F y l) := by
  intro x hx
  by_cases e : x = y
  · subst e
    exact .inr ⟨v, l, updF_self _ _ _, by unfold W.upd; rw [if_pos rfl], hv⟩
  · rw [updF_other _ _ e]
    unfold W.upd
    rw [if_neg e]
    exact h x hx
theorem ValsAt.del {w : World} {S : List Nat} {κ : Type} [DecidableEq κ] {ok : κ → Prop} {φ : κ → Option Value} {F : κ → Option (List UInt8)} (h : ValsAt w S ok φ F) (y : κ) : ValsAt w S ok (delF φ y) (W.del F y) := by
  intro x hx
  by_cases e : x = y
  · subst e
    exact .inl ⟨delF_self _ _, by unfold W.del; rw [if_pos rfl]⟩
  · rw [delF_other _ e]
    unfold W.del
    rw [if_neg e]
    exact h x hx

/-! ### the whole -/
/-- Where it lies. -/
structure PC where
  p : Nat
  t : Nat
  k : Nat
  f : Nat
  o : Nat
def foot (c : PC) (St Sk : List Nat) : List Nat := c.p :: c.f :: c.o :: (St ++ Sk)
structure ApartP (c : PC) (St Sk : List Nat) : Prop where
  pf : c.p ≠ c.f
  po : c.p ≠ c.o
  fo : c.f ≠ c.o
  pT : c.p ∉ St
  pK : c.p ∉ Sk
  fT : c.f ∉ St
  fK : c.f ∉ Sk
  oT : c.o ∉ St
  oK : c.o ∉ Sk
  tk : ∀ x ∈ St, x ∉ Sk
theorem mem_foot {c : PC} {St Sk : List Nat} {x : Nat} : x ∈ foot c St Sk ↔ x = c.p ∨ x = c.f ∨ x = c.o ∨ x ∈ St ∨ x ∈ Sk := by
  unfold foot
  simp [List.mem_append]
structure PlainOk (w : World) (c : PC) (St Sk : List Nat) (f : Int → Option Value) (o : Int × Int → Option Value) (Nf No : Nat) (s : PS) : Prop where
  head : w.heap[c.p]? = some (.cells #[.pointer (some ⟨c.t, 0, none⟩), .pointer (some ⟨c.k, 0, none⟩), .map (some c.f), .map (some c.o)] 60 (0, 0))
  tree : TreeAt w c.t St s.T
  toks : TokAt w c.k Sk s.K
  fm : MapF 3 klI okI w c.f f Nf
  om : MapF 66 klP okP w c.o o No
  fv : ValsAt w (foot c St Sk) okI f s.F
  ov : ValsAt w (foot c St Sk) okP o s.O
  ap : ApartP c St Sk
/-- It lies there; all that it lies in is of S, or new since w0; of what was there at w0 only S has turned; X: blocks that it does not touch. -/
def PAt (X : List Nat) (w0 w : World) (c : PC) (S : List Nat) (s : PS) : Prop :=
  ∃ St Sk f o Nf No, PlainOk w c St Sk f o Nf No s ∧ (∀ x ∈ foot c St Sk, x ∈ S ∨ w0.heap.size ≤ x) ∧ Chg S w0 w ∧ ∀ x ∈ X, x ∉ foot c St Sk ∧ x < w.heap.size
def PPost (X : List Nat) (w0 w : World) (c : PC) (S : List Nat) (s : PS) (w' : World) : Prop := PAt X w0 w' c S s ∧ KeepK X w w'
variable {X S : List Nat} {w0 w w' : World} {c : PC} {s : PS}
theorem PlainOk.lim {St Sk : List Nat} {f : Int → Option Value} {o : Int × Int → Option Value} {Nf No : Nat} (h : PlainOk w c St Sk f o Nf No s) : ∀ x ∈ foot c St Sk, x < w.heap.size := by
  intro x hx
  rcases mem_foot.1 hx with rfl | rfl | rfl | h1 | h1
  · exact blk_lt h.head
  · exact h.fm.lt
  · exact h.om.lt
  · exact h.tree.lim x h1
  · exact h.toks.lim x h1
theorem PlainOk.tree' {St Sk St' : List Nat} {f : Int → Option Value} {o : Int × Int → Option Value} {Nf No : Nat} {T : PT} (h : PlainOk w c St Sk f o Nf No s) (h1 : TreeAt w' c.t St' T) (h2 : ∀ x ∈ St', x ∈ St ∨ w.heap.size ≤ x) (hc : Chg St w w') :
    PlainOk w' c St' Sk f o Nf No { s with T := T } := by
  have hl := h.lim
  have hf : ∀ x ∈ foot c St' Sk, x ∈ foot c St Sk ∨ w.heap.size ≤ x := fun x hx => by
    rcases mem_foot.1 hx with e | e | e | e | e
    · exact .inl (mem_foot.2 (.inl e))
    · exact .inl (mem_foot.2 (.inr (.inl e)))
    · exact .inl (mem_foot.2 (.inr (.inr (.inl e))))
    · exact (h2 x e).imp (fun e => mem_foot.2 (.inr (.inr (.inr (.inl e))))) id
    · exact .inl (mem_foot.2 (.inr (.inr (.inr (.inr e)))))
  have hU : ∀ x ∈ St, x ∈ foot c St Sk := fun x hx => mem_foot.2 (.inr (.inr (.inr (.inl hx))))
  have no : ∀ x, x < w.heap.size → x ∉ St → x ∉ St' := fun x hx hn hm => by
    rcases h2 x hm with e | e
    · exact hn e
    · omega
  refine ⟨hc.keep h.head h.ap.pT, h1, h.toks.keep hc (fun x hx hm => h.ap.tk x hm hx), h.fm.chg hc h.ap.fT, h.om.chg hc h.ap.oT, h.fv.keep hc hU hf, h.ov.keep hc hU hf, h.ap.pf, h.ap.po, h.ap.fo, no _ (blk_lt h.head) h.ap.pT, h.ap.pK, no _ h.fm.lt h.ap.fT, h.ap.fK, no _ h.om.lt h.ap.oT, h.ap.oK, fun x hx hm => ?_⟩
  rcases h2 x hx with e | e
  · exact h.ap.tk x e hm
  · have := h.toks.lim x hm; omega
theorem PlainOk.toks' {St Sk Sk' : List Nat} {f : Int → Option Value} {o : Int × Int → Option Value} {Nf No : Nat} {l : List K.TRow} (h : PlainOk w c St Sk f o Nf No s) (h1 : TokAt w' c.k Sk' l) (h2 : ∀ x ∈ Sk', x ∈ Sk ∨ w.heap.size ≤ x) (hc : Chg Sk w w') :
    PlainOk w' c St Sk' f o Nf No { s with K := l } := by
  have hf : ∀ x ∈ foot c St Sk', x ∈ foot c St Sk ∨ w.heap.size ≤ x := fun x hx => by
    rcases mem_foot.1 hx with e | e | e | e | e
    · exact .inl (mem_foot.2 (.inl e))
    · exact .inl (mem_foot.2 (.inr (.inl e)))
    · exact .inl (mem_foot.2 (.inr (.inr (.inl e))))
    · exact .inl (mem_foot.2 (.inr (.inr (.inr (.inl e)))))
    · exact (h2 x e).imp (fun e => mem_foot.2 (.inr (.inr (.inr (.inr e))))) id
  have hU : ∀ x ∈ Sk, x ∈ foot c St Sk := fun x hx => mem_foot.2 (.inr (.inr (.inr (.inr hx))))
  have no : ∀ x, x < w.heap.size → x ∉ Sk → x ∉ Sk' := fun x hx hn hm => by
    rcases h2 x hm with e | e
    · exact hn e
    · omega
  refine ⟨hc.keep h.head h.ap.pK, h.tree.keep hc (fun x hx => h.ap.tk x hx), h1, h.fm.chg hc h.ap.fK, h.om.chg hc h.ap.oK, h.fv.keep hc hU hf, h.ov.keep hc hU hf, h.ap.pf, h.ap.po, h.ap.fo, h.ap.pT, no _ (blk_lt h.head) h.ap.pK, h.ap.fT, no _ h.fm.lt h.ap.fK, h.ap.oT, no _ h.om.lt h.ap.oK, fun x hx hm => ?_⟩
  rcases h2 x hm with e | e
  · exact h.ap.tk x hx e
  · have := h.tree.lim x hx; omega
theorem PlainOk.keep0 {St Sk : List Nat} {f : Int → Option Value} {o : Int × Int → Option Value} {Nf No : Nat} (h : PlainOk w c St Sk f o Nf No s) (hc : Chg [] w w') : PlainOk w' c St Sk f o Nf No s :=
  ⟨hc.keep h.head (by simp), h.tree.keep0 hc, h.toks.keep hc (by simp), h.fm.chg hc (by simp), h.om.chg hc (by simp), h.fv.keep hc (by simp) (fun x hx => .inl hx), h.ov.keep hc (by simp) (fun x hx => .inl hx), h.ap⟩
theorem PAt.keep0 (h : PAt X w0 w c S s) (hc : Chg [] w w') : PAt X w0 w' c S s := by
  obtain ⟨St, Sk, f, o, Nf, No, h1, h2, h3, h4⟩ := h
  exact ⟨St, Sk, f, o, Nf, No, h1.keep0 hc, h2, h3.trans hc (by simp), fun x hx => ⟨(h4 x hx).1, Nat.lt_of_lt_of_le (h4 x hx).2 hc.size⟩⟩
theorem PAt.keepK0 (h : PAt X w0 w c S s) (hc : Chg [] w w') : KeepK X w w' := by
  obtain ⟨St, Sk, f, o, Nf, No, h1, h2, h3, h4⟩ := h
  exact .of_chg hc fun k hk => ⟨by simp, (h4 k hk).2⟩
theorem PAt.post0 (h : PAt X w0 w c S s) (hc : Chg [] w w') : PPost X w0 w c S s w' := ⟨h.keep0 hc, h.keepK0 hc⟩
theorem PAt.mono {Y : List Nat} (h : PAt X w0 w c S s) (hY : ∀ x ∈ Y, x ∈ X) : PAt Y w0 w c S s := by
  obtain ⟨St, Sk, f, o, Nf, No, h1, h2, h3, h4⟩ := h
  exact ⟨St, Sk, f, o, Nf, No, h1, h2, h3, fun x hx => h4 x (hY x hx)⟩
/-- Blocks that are new. -/
theorem PAt.add {Y : List Nat} (h : PAt X w0 w c S s) (hc : Chg [] w w') (hY : ∀ k ∈ Y, k ∈ X ∨ w.heap.size ≤ k ∧ k < w'.heap.size) : PAt Y w0 w' c S s := by
  obtain ⟨St, Sk, f, o, Nf, No, h1, h2, h3, h4⟩ := h
  refine ⟨St, Sk, f, o, Nf, No, h1.keep0 hc, h2, h3.trans hc (by simp), fun x hx => ?_⟩
  rcases hY x hx with e | ⟨e1, e2⟩
  · exact ⟨(h4 x e).1, Nat.lt_of_lt_of_le (h4 x e).2 hc.size⟩
  · exact ⟨fun hm => by have := h1.lim x hm; omega, e2⟩
theorem PAt.chg (h : PAt X w0 w c S s) : Chg S w0 w := by obtain ⟨St, Sk, f, o, Nf, No, h1, h2, h3, h4⟩ := h; exact h3
theorem PAt.tok (h : PAt X w0 w c S s) : TOk s.T := by obtain ⟨St, Sk, f, o, Nf, No, h1, h2, h3, h4⟩ := h; exact h1.tree.ok
theorem PAt.lt (h : PAt X w0 w c S s) : ∀ x ∈ X, x < w.heap.size := by obtain ⟨St, Sk, f, o, Nf, No, h1, h2, h3, h4⟩ := h; exact fun x hx => (h4 x hx).2
theorem PAt.head (h : PAt X w0 w c S s) : w.heap[c.p]? = some (.cells #[.pointer (some ⟨c.t, 0, none⟩), .pointer (some ⟨c.k, 0, none⟩), .map (some c.f), .map (some c.o)] 60 (0, 0)) := by obtain ⟨St, Sk, f, o, Nf, No, h1, h2, h3, h4⟩ := h; exact h1.head
theorem PAt.cells (h : PAt X w0 w c S s) : w.cell? ⟨c.p, 0, none⟩ = some (.pointer (some ⟨c.t, 0, none⟩)) ∧ w.cell? ⟨c.p, 1, none⟩ = some (.pointer (some ⟨c.k, 0, none⟩)) ∧ w.cell? ⟨c.p, 2, none⟩ = some (.map (some c.f)) ∧ w.cell? ⟨c.p, 3, none⟩ = some (.map (some c.o)) ∧ c.p < w.heap.size :=
  ⟨blk_cell h.head 0 _ rfl, blk_cell h.head 1 _ rfl, blk_cell h.head 2 _ rfl, blk_cell h.head 3 _ rfl, blk_lt h.head⟩
theorem PAt.did {X S : List Nat} {w0 w w' : World} {c : PC} {s s' : PS} {St Sk St' Sk' : List Nat} {f f' : Int → Option Value} {o o' : Int × Int → Option Value} {Nf No Nf' No' : Nat} {U : List Nat} (h1 : PlainOk w c St Sk f o Nf No s) (h2 : ∀ x ∈ foot c St Sk, x ∈ S ∨ w0.heap.size ≤ x) (h3 : Chg S w0 w) (h4 : ∀ x ∈ X, x ∉ foot c St Sk ∧ x < w.heap.size)
    (k1 : PlainOk w' c St' Sk' f' o' Nf' No' s') (k2 : ∀ x ∈ foot c St' Sk', x ∈ foot c St Sk ∨ w.heap.size ≤ x) (k3 : Chg U w w') (k4 : ∀ x ∈ U, x ∈ foot c St Sk) : PPost X w0 w c S s' w' := by
  refine ⟨⟨St', Sk', f', o', Nf', No', k1, fun x hx => ?_, h3.trans k3 (fun x hx => h2 x (k4 x hx)), fun x hx => ⟨fun hm => ?_, Nat.lt_of_lt_of_le (h4 x hx).2 k3.size⟩⟩, .of_chg k3 fun k hk => ⟨fun hm => (h4 k hk).1 (k4 k hm), (h4 k hk).2⟩⟩
  · rcases k2 x hx with e | e
    · exact h2 x e
    · exact .inr (Nat.le_trans h3.size e)
  · rcases k2 x hm with e | e
    · exact (h4 x hx).1 e
    · have := (h4 x hx).2; omega
theorem PAt.treed {St Sk : List Nat} {f : Int → Option Value} {o : Int × Int → Option Value} {Nf No : Nat} {T : PT} (h1 : PlainOk w c St Sk f o Nf No s) (h2 : ∀ x ∈ foot c St Sk, x ∈ S ∨ w0.heap.size ≤ x) (h3 : Chg S w0 w) (h4 : ∀ x ∈ X, x ∉ foot c St Sk ∧ x < w.heap.size)
    (hd : TDid w w' c.t St T) : PPost X w0 w c S { s with T := T } w' := by
  obtain ⟨St', d1, d2, d3⟩ := hd
  refine PAt.did h1 h2 h3 h4 (h1.tree' d1 d2 d3) (fun x hx => ?_) d3 (fun x hx => mem_foot.2 (.inr (.inr (.inr (.inl hx)))))
  rcases mem_foot.1 hx with e | e | e | e | e
  · exact .inl (mem_foot.2 (.inl e))
  · exact .inl (mem_foot.2 (.inr (.inl e)))
  · exact .inl (mem_foot.2 (.inr (.inr (.inl e))))
  · exact (d2 x e).imp (fun e => mem_foot.2 (.inr (.inr (.inr (.inl e))))) id
  · exact .inl (mem_foot.2 (.inr (.inr (.inr (.inr e)))))
theorem PAt.toked {St Sk : List Nat} {f : Int → Option Value} {o : Int × Int → Option Value} {Nf No : Nat} {l : List K.TRow} (h1 : PlainOk w c St Sk f o Nf No s) (h2 : ∀ x ∈ foot c St Sk, x ∈ S ∨ w0.heap.size ≤ x) (h3 : Chg S w0 w) (h4 : ∀ x ∈ X, x ∉ foot c St Sk ∧ x < w.heap.size)
    (hd : KDid w w' c.k Sk l) : PPost X w0 w c S { s with K := l } w' := by
  obtain ⟨Sk', d1, d2, d3⟩ := hd
  refine PAt.did h1 h2 h3 h4 (h1.toks' d1 d2 d3) (fun x hx => ?_) d3 (fun x hx => mem_foot.2 (.inr (.inr (.inr (.inr hx)))))
  rcases mem_foot.1 hx with e | e | e | e | e
  · exact .inl (mem_foot.2 (.inl e))
  · exact .inl (mem_foot.2 (.inr (.inl e)))
  · exact .inl (mem_foot.2 (.inr (.inr (.inl e))))
  · exact .inl (mem_foot.2 (.inr (.inr (.inr (.inl e)))))
  · exact (d2 x e).imp (fun e => mem_foot.2 (.inr (.inr (.inr (.inr e))))) id

/-! ### the tree's and the handles' functions -/
theorem mkM {p : List UInt8} (hp : p.length ≤ 1000000) : (mk p).size ≤ maxLen := mk_size p (by unfold maxLen; omega)
theorem ptMake (h : PAt X w0 w c S s) (p : List UInt8) (d : Bool) (hp : p.length ≤ 1000000) : Calls Try.prog 41 #[.pointer (some ⟨c.t, 0, none⟩), .string (mk p), .bool d] w fun e w' =>
    e = .returned (.tuple #[.int .i64 ((tMake s.T p d).1.1 : Int), .int .i64 (tMake s.T p d).1.2]) ∧ PPost X w0 w c S { s with T := (tMake s.T p d).2 } w' := by
  obtain ⟨St, Sk, f, o, Nf, No, h1, h2, h3, h4⟩ := h
  have := tmake_any c.t St s.T (mk p) d w h1.tree (mkM hp)
  rw [data_mk] at this
  exact this.mono fun e w' ⟨he, hd⟩ => ⟨he, PAt.treed h1 h2 h3 h4 hd⟩
theorem ptRemove (h : PAt X w0 w c S s) (p : List UInt8) (d : Bool) (hp : p.length ≤ 1000000) : Calls Try.prog 44 #[.pointer (some ⟨c.t, 0, none⟩), .string (mk p), .bool d] w fun e w' =>
    e = .returned (.tuple #[.int .i64 ((tRemove s.T p d).1.1 : Int), .int .i64 (tRemove s.T p d).1.2]) ∧ PPost X w0 w c S { s with T := (tRemove s.T p d).2 } w' := by
  obtain ⟨St, Sk, f, o, Nf, No, h1, h2, h3, h4⟩ := h
  have := tremove_any c.t St s.T (mk p) d w h1.tree (mkM hp)
  rw [data_mk] at this
  exact this.mono fun e w' ⟨he, hd⟩ => ⟨he, PAt.treed h1 h2 h3 h4 hd⟩
theorem ptMove (h : PAt X w0 w c S s) (p q : List UInt8) (hp : p.length ≤ 1000000) (hq : q.length ≤ 1000000) : Calls Try.prog 45 #[.pointer (some ⟨c.t, 0, none⟩), .string (mk p), .string (mk q)] w fun e w' =>
    e = .returned (.int .i64 (tMove s.T p q).1) ∧ PPost X w0 w c S { s with T := (tMove s.T p q).2 } w' := by
  have hl := tok_len h.tok
  obtain ⟨St, Sk, f, o, Nf, No, h1, h2, h3, h4⟩ := h
  have := tmove_any c.t St s.T (mk p) (mk q) w h1.tree (mkM hp) (mkM hq) (by omega)
  rw [data_mk, data_mk] at this
  exact this.mono fun e w' ⟨he, hd⟩ => ⟨he, PAt.treed h1 h2 h3 h4 hd⟩
theorem ptLook (h : PAt X w0 w c S s) (p : List UInt8) (hp : p.length ≤ 1000000) : Calls Try.prog 42 #[.pointer (some ⟨c.t, 0, none⟩), .string (mk p)] w fun e w' =>
    e = .returned (.tuple #[.int .i64 ((tLook s.T p).1 : Int), .bool (tLook s.T p).2.1, .int .i64 (tLook s.T p).2.2]) ∧ PPost X w0 w c S s w' := by
  have h0 := h
  obtain ⟨St, Sk, f, o, Nf, No, h1, h2, h3, h4⟩ := h
  have := tlook_any c.t St s.T (mk p) w h1.tree (mkM hp)
  rw [data_mk] at this
  exact this.mono fun e w' ⟨he, hd⟩ => ⟨he, h0.post0 hd⟩
theorem ptList (h : PAt X w0 w c S s) (p : List UInt8) (hp : p.length ≤ 1000000) : Calls Try.prog 46 #[.pointer (some ⟨c.t, 0, none⟩), .string (mk p)] w fun e w' =>
    ∃ v, e = .returned (.tuple #[v, .int .i64 (tList s.T p).2]) ∧ w'.ownsRow w.heap.size 106 3 v (tList s.T p).1.length ((tList s.T p).1.flatMap entC) ∧ Chg [] w w' ∧ PPost X w0 w c S s w' := by
  have h0 := h
  have hl := tok_len h.tok
  obtain ⟨St, Sk, f, o, Nf, No, h1, h2, h3, h4⟩ := h
  have := tlist_any c.t St s.T (mk p) w h1.tree (mkM hp) (by omega)
  rw [data_mk] at this
  exact this.mono fun e w' ⟨v, he, ho, hd⟩ => ⟨v, he, ho, hd, h0.post0 hd⟩
theorem ptOpen (h : PAt X w0 w c S s) (hl : s.K.length ≤ 1000) (a i : Int) (q : Bool) : Calls Try.prog 47 #[.pointer (some ⟨c.k, 0, none⟩), .int .i64 a, .int .i64 i, .bool q] w fun e w' =>
    e = .returned (.tuple #[.int .i64 (K.openR s.K a i q).1, .int .i64 (K.openR s.K a i q).2.1]) ∧ PPost X w0 w c S { s with K := (K.openR s.K a i q).2.2 } w' := by
  obtain ⟨St, Sk, f, o, Nf, No, h1, h2, h3, h4⟩ := h
  exact (kopen_any h1.toks hl a i q).mono fun e w' ⟨he, hd⟩ => ⟨he, PAt.toked h1 h2 h3 h4 hd⟩
theorem ptClose (h : PAt X w0 w c S s) (a n : Int) : Calls Try.prog 51 #[.pointer (some ⟨c.k, 0, none⟩), .int .i64 a, .int .i64 n] w fun e w' =>
    e = .returned (.int .i64 (K.closeE (K.find s.K a n))) ∧ PPost X w0 w c S { s with K := K.closeL s.K (K.find s.K a n) } w' := by
  obtain ⟨St, Sk, f, o, Nf, No, h1, h2, h3, h4⟩ := h
  exact (kclose_any h1.toks a n).mono fun e w' ⟨he, hd⟩ => ⟨he, PAt.toked h1 h2 h3 h4 hd⟩
theorem ptDrop (h : PAt X w0 w c S s) (a : Int) : Calls Try.prog 24 #[.pointer (some ⟨c.k, 0, none⟩), .int .i64 a] w fun e w' =>
    e = .returned (.int .i64 ((s.K.length : Int) - (K.keep (fun r => r.c == a) s.K).length)) ∧ PPost X w0 w c S { s with K := K.keep (fun r => r.c == a) s.K } w' := by
  obtain ⟨St, Sk, f, o, Nf, No, h1, h2, h3, h4⟩ := h
  exact (kdrop_any h1.toks a).mono fun e w' ⟨he, hd⟩ => ⟨he, PAt.toked h1 h2 h3 h4 hd⟩
theorem ptOf (h : PAt X w0 w c S s) (a n : Int) : Calls Try.prog 65 #[.pointer (some ⟨c.k, 0, none⟩), .int .i64 a, .int .i64 n] w fun e w' =>
    e = .returned (K.ofAns (K.find s.K a n)) ∧ PPost X w0 w c S s w' := by
  have h0 := h
  obtain ⟨St, Sk, f, o, Nf, No, h1, h2, h3, h4⟩ := h
  exact (kof_any h1.toks a n).mono fun e w' ⟨he, hd⟩ => ⟨he, h0.post0 hd⟩
theorem ptBusy (h : PAt X w0 w c S s) (n : Int) : Calls Try.prog 43 #[.pointer (some ⟨c.k, 0, none⟩), .int .i64 n] w fun e w' =>
    e = .returned (.bool (K.has (fun r => r.i == n) s.K)) ∧ PPost X w0 w c S s w' := by
  have h0 := h
  obtain ⟨St, Sk, f, o, Nf, No, h1, h2, h3, h4⟩ := h
  exact (kbusy_any h1.toks n).mono fun e w' ⟨he, hd⟩ => ⟨he, h0.post0 hd⟩
theorem ptRows (h : PAt X w0 w c S s) : Calls Try.prog 26 #[.pointer (some ⟨c.k, 0, none⟩)] w fun e w' =>
    ∃ v', e = .returned v' ∧ w'.ownsRow w.heap.size 51 4 v' s.K.length (K.encs s.K) ∧ Chg [] w w' ∧ PPost X w0 w c S s w' := by
  have h0 := h
  obtain ⟨St, Sk, f, o, Nf, No, h1, h2, h3, h4⟩ := h
  exact (krows_any h1.toks).mono fun e w' ⟨v, he, ho, hd⟩ => ⟨v, he, ho, hd, h0.post0 hd⟩

/-! ### the maps -/
theorem zeroBytes (w : World) : (zeroValue 22).run Try.prog w = .ok (.slice none 0 0) w := by kernel_rfl
/-- 'm[x]' of bytes. -/
theorem ValsAt.look {κ : Type} {ok : κ → Prop} {φ : κ → Option Value} {F : κ → Option (List UInt8)} (h : ValsAt w S ok φ F) {x : κ} (hx : ok x) : ∃ v, (φ x).getD (.slice none 0 0) = v ∧ HeldAt w S v (ofO (F x)) ∧ (φ x).isSome = (F x).isSome := by
  rcases h x hx with ⟨h1, h2⟩ | ⟨v, l, h1, h2, h3⟩
  · exact ⟨.slice none 0 0, by rw [h1]; rfl, by rw [h2]; exact ⟨BytesAt.nil w, fun h => absurd rfl h⟩, by rw [h1, h2]; rfl⟩
  · exact ⟨v, by rw [h1]; rfl, by rw [h2]; exact h3, by rw [h1, h2]; rfl⟩
def FilesOk (F : Fs) : Prop := ∀ x, (F x).isSome = true → 0 ≤ x ∧ x ≤ 128
def OwnOk (O : Os) : Prop := ∀ a h, (O (a, h)).isSome = true → (0 ≤ a ∧ a < 4) ∧ 0 ≤ h ∧ h < 4
theorem PInv.filesOk (h : PInv s) : FilesOk s.F := fun x hx => by have := h.ino hx; omega
theorem PInv.ownOk (h : PInv s) : OwnOk s.O := fun a n hx => by
  obtain ⟨r, hr, rfl, rfl, _⟩ := (h.own a n).1 hx
  have := h.good.rng r hr
  omega
theorem f_few {St Sk : List Nat} {f : Int → Option Value} {o : Int × Int → Option Value} {Nf No : Nat} (h : PlainOk w c St Sk f o Nf No s) (hF : FilesOk s.F) : Nf ≤ 129 := by
  have := h.fm.card keInt ((List.range 129).map (fun (n : Nat) => (n : Int))) (fun x hx hs => by
    rw [h.fv.some hx] at hs
    have := hF x hs
    exact List.mem_map.2 ⟨x.toNat, List.mem_range.2 (by omega), by omega⟩)
  simpa using this
theorem o_few {St Sk : List Nat} {f : Int → Option Value} {o : Int × Int → Option Value} {Nf No : Nat} (h : PlainOk w c St Sk f o Nf No s) (hO : OwnOk s.O) : No ≤ 16 := by
  have := h.om.card kePair ((List.range 4).flatMap (fun (a : Nat) => (List.range 4).map (fun (n : Nat) => ((a : Int), (n : Int))))) (fun x hx hs => by
    rw [h.ov.some hx] at hs
    obtain ⟨a, n⟩ := x
    have := hO a n hs
    exact List.mem_flatMap.2 ⟨a.toNat, List.mem_range.2 (by omega), List.mem_map.2 ⟨n.toNat, List.mem_range.2 (by omega), by
      show ((a.toNat : Int), (n.toNat : Int)) = (a, n)
      congr 1 <;> omega⟩⟩)
  exact Nat.le_trans this (by decide)
theorem PAt.fset {St Sk : List Nat} {f : Int → Option Value} {o : Int × Int → Option Value} {Nf No N : Nat} (h1 : PlainOk w c St Sk f o Nf No s) (h2 : ∀ x ∈ foot c St Sk, x ∈ S ∨ w0.heap.size ≤ x) (h3 : Chg S w0 w) (h4 : ∀ x ∈ X, x ∉ foot c St Sk ∧ x < w.heap.size)
    {φ : Int → Option Value} {F : Fs} (hm : MapF 3 klI okI w' c.f φ N) (hc : Chg [c.f] w w') (hv : ValsAt w (foot c St Sk) okI φ F) : PPost X w0 w c S { s with F := F } w' := by
  have hU : ∀ x ∈ [c.f], x ∈ foot c St Sk := by intro x hx; simp at hx; subst hx; exact mem_foot.2 (.inr (.inl rfl))
  refine PAt.did h1 h2 h3 h4 ⟨hc.keep h1.head (by simp [h1.ap.pf]), h1.tree.keep hc (fun x hx e => h1.ap.fT (by simp at e; rw [← e]; exact hx)), h1.toks.keep hc (fun x hx e => h1.ap.fK (by simp at e; rw [← e]; exact hx)), hm, h1.om.chg hc (by simp [h1.ap.fo.symm]), hv.keep hc hU (fun x hx => .inl hx), h1.ov.keep hc hU (fun x hx => .inl hx), h1.ap⟩ (fun x hx => .inl hx) hc hU
theorem PAt.oset {St Sk : List Nat} {f : Int → Option Value} {o : Int × Int → Option Value} {Nf No N : Nat} (h1 : PlainOk w c St Sk f o Nf No s) (h2 : ∀ x ∈ foot c St Sk, x ∈ S ∨ w0.heap.size ≤ x) (h3 : Chg S w0 w) (h4 : ∀ x ∈ X, x ∉ foot c St Sk ∧ x < w.heap.size)
    {φ : Int × Int → Option Value} {O : Os} (hm : MapF 66 klP okP w' c.o φ N) (hc : Chg [c.o] w w') (hv : ValsAt w (foot c St Sk) okP φ O) : PPost X w0 w c S { s with O := O } w' := by
  have hU : ∀ x ∈ [c.o], x ∈ foot c St Sk := by intro x hx; simp at hx; subst hx; exact mem_foot.2 (.inr (.inr (.inl rfl)))
  refine PAt.did h1 h2 h3 h4 ⟨hc.keep h1.head (by simp [h1.ap.po]), h1.tree.keep hc (fun x hx e => h1.ap.oT (by simp at e; rw [← e]; exact hx)), h1.toks.keep hc (fun x hx e => h1.ap.oK (by simp at e; rw [← e]; exact hx)), h1.fm.chg hc (by simp [h1.ap.fo]), hm, h1.fv.keep hc hU (fun x hx => .inl hx), hv.keep hc hU (fun x hx => .inl hx), h1.ap⟩ (fun x hx => .inl hx) hc hU
/-- Bytes that may be laid into a map: their block is none of its. -/
def Free (w : World) (X : List Nat) (v : Value) (l : List UInt8) : Prop := BytesAt w v l ∧ (l ≠ [] → ∀ g, v.ownBlock = some g → g ∈ X)
theorem wpList_fset (w : World) {ops : Array Oper} {rest : List Oper} {op : Oper} {a : Act} {Q : Exit → Act → World → Prop} (hg : op.guard = none) (m x v : Operand) (hop : op.op = Op.mapUpdate 57 m x v)
    (c : PC) (hm : a.eval m = .map (some c.f)) {X S : List Nat} {w0 : World} {s : PS} (h : PAt X w0 w c S s) (hF : FilesOk s.F) (y : Int) (hx : a.eval x = .int .i64 y) (hy : okI y) (u : Value) (hv : a.eval v = u) (l : List UInt8) (hu : Free w X u l)
    (hK : ∀ w', PPost X w0 w c S { s with F := upd s.F y l } w' → w'.heap.size = w.heap.size → wpList Try.prog ops Q rest (a.put op.dst undef) w') : wpList Try.prog ops Q (op :: rest) a w := by
  obtain ⟨St, Sk, f, o, Nf, No, h1, h2, h3, h4⟩ := h
  have hN := f_few h1 hF
  refine wpList_upd keInt w hg m x v 57 (.inl hop) 22 Try.underlying57 c.f Nf f hm h1.fm (by unfold maxLen; omega) y hx hy u hv fun w' r1 r2 r3 => hK w' ?_ r3
  exact PAt.fset h1 h2 h3 h4 r1 r2 (h1.fv.upd y ⟨hu.1, fun hl g hg => ⟨(h4 g (hu.2 hl g hg)).2, (h4 g (hu.2 hl g hg)).1⟩⟩)
theorem wpList_oset (w : World) {ops : Array Oper} {rest : List Oper} {op : Oper} {a : Act} {Q : Exit → Act → World → Prop} (hg : op.guard = none) (m x v : Operand) (hop : op.op = Op.mapUpdate 58 m x v)
    (c : PC) (hm : a.eval m = .map (some c.o)) {X S : List Nat} {w0 : World} {s : PS} (h : PAt X w0 w c S s) (hF : OwnOk s.O) (y : Int × Int) (hx : a.eval x = .agg #[.int .i64 y.1, .int .i64 y.2]) (hy : okP y) (u : Value) (hv : a.eval v = u) (l : List UInt8) (hu : Free w X u l)
    (hK : ∀ w', PPost X w0 w c S { s with O := upd s.O y l } w' → w'.heap.size = w.heap.size → wpList Try.prog ops Q rest (a.put op.dst undef) w') : wpList Try.prog ops Q (op :: rest) a w := by
  obtain ⟨St, Sk, f, o, Nf, No, h1, h2, h3, h4⟩ := h
  have hN := o_few h1 hF
  refine wpList_upd kePair w hg m x v 58 (.inl hop) 22 Try.underlying58 c.o No o hm h1.om (by unfold maxLen; omega) y hx hy u hv fun w' r1 r2 r3 => hK w' ?_ r3
  exact PAt.oset h1 h2 h3 h4 r1 r2 (h1.ov.upd y ⟨hu.1, fun hl g hg => ⟨(h4 g (hu.2 hl g hg)).2, (h4 g (hu.2 hl g hg)).1⟩⟩)
theorem wpList_fdel (w : World) {ops : Array Oper} {rest : List Oper} {op : Oper} {a : Act} {Q : Exit → Act → World → Prop} (hg : op.guard = none) (m x : Operand) (hop : op.op = Op.call { callee := Callee.builtin Builtin.delete, args := #[m, x], argTypes := #[57, 3] })
    (c : PC) (hm : a.eval m = .map (some c.f)) {X S : List Nat} {w0 : World} {s : PS} (h : PAt X w0 w c S s) (y : Int) (hx : a.eval x = .int .i64 y) (hy : okI y)
    (hK : ∀ w', PPost X w0 w c S { s with F := del s.F y } w' → w'.heap.size = w.heap.size → wpList Try.prog ops Q rest (a.put op.dst (.tuple #[])) w') : wpList Try.prog ops Q (op :: rest) a w := by
  obtain ⟨St, Sk, f, o, Nf, No, h1, h2, h3, h4⟩ := h
  refine wpList_del keInt w hg m x 57 hop 22 Try.underlying57 c.f Nf f hm h1.fm y hx hy fun w' r1 r2 r3 => hK w' ?_ r3
  exact PAt.fset h1 h2 h3 h4 r1 r2 (h1.fv.del y)
theorem wpList_odel (w : World) {ops : Array Oper} {rest : List Oper} {op : Oper} {a : Act} {Q : Exit → Act → World → Prop} (hg : op.guard = none) (m x : Operand) (hop : op.op = Op.call { callee := Callee.builtin Builtin.delete, args := #[m, x], argTypes := #[58, 66] })
    (c : PC) (hm : a.eval m = .map (some c.o)) {X S : List Nat} {w0 : World} {s : PS} (h : PAt X w0 w c S s) (y : Int × Int) (hx : a.eval x = .agg #[.int .i64 y.1, .int .i64 y.2]) (hy : okP y)
    (hK : ∀ w', PPost X w0 w c S { s with O := del s.O y } w' → w'.heap.size = w.heap.size → wpList Try.prog ops Q rest (a.put op.dst (.tuple #[])) w') : wpList Try.prog ops Q (op :: rest) a w := by
  obtain ⟨St, Sk, f, o, Nf, No, h1, h2, h3, h4⟩ := h
  refine wpList_del kePair w hg m x 58 hop 22 Try.underlying58 c.o No o hm h1.om y hx hy fun w' r1 r2 r3 => hK w' ?_ r3
  exact PAt.oset h1 h2 h3 h4 r1 r2 (h1.ov.del y)
/-- What a map has at a key, told ahead of the walk: the row's bytes stay while the world only grows. -/
theorem PAt.flook (h : PAt X w0 w c S s) {y : Int} (hy : okI y) : ∃ v, (∀ n, (Instr.lookup 57 (.map (some c.f)) (.int .i64 y) false).run Try.prog (w.drewN n) = .ok v (w.drewN n)) ∧ (∀ n, (Instr.lookup 57 (.map (some c.f)) (.int .i64 y) true).run Try.prog (w.drewN n) = .ok (.tuple #[v, .bool (s.F y).isSome]) (w.drewN n)) ∧ BytesAt w v (ofO (s.F y)) ∧ (ofO (s.F y) ≠ [] → ∀ g, v.ownBlock = some g → g < w.heap.size) := by
  obtain ⟨St, Sk, f, o, Nf, No, h1, h2, h3, h4⟩ := h
  obtain ⟨v, e1, e2, e3⟩ := h1.fv.look hy
  refine ⟨v, fun n => ?_, fun n => ?_, e2.1, fun hl g hg => (e2.2 hl g hg).1⟩
  · have hm := h1.fm.keep (w' := w.drewN n) rfl
    rw [← e1]; exact hm.look keInt Try.underlying57 (zeroBytes) hy
  · have hm := h1.fm.keep (w' := w.drewN n) rfl
    rw [← e1, ← e3]; exact hm.lookOk keInt Try.underlying57 (zeroBytes) hy
theorem PAt.olook (h : PAt X w0 w c S s) {y : Int × Int} (hy : okP y) : ∃ v, (∀ n, (Instr.lookup 58 (.map (some c.o)) (.agg #[.int .i64 y.1, .int .i64 y.2]) false).run Try.prog (w.drewN n) = .ok v (w.drewN n)) ∧ BytesAt w v (ofO (s.O y)) ∧ (ofO (s.O y) ≠ [] → ∀ g, v.ownBlock = some g → g < w.heap.size) := by
  obtain ⟨St, Sk, f, o, Nf, No, h1, h2, h3, h4⟩ := h
  obtain ⟨v, e1, e2, e3⟩ := h1.ov.look hy
  refine ⟨v, fun n => ?_, e2.1, fun hl g hg => (e2.2 hl g hg).1⟩
  have hm := h1.om.keep (w' := w.drewN n) rfl
  rw [← e1]; exact hm.look kePair Try.underlying58 (zeroBytes) hy
end Go.Proofs.Ytaophafailmhjaa.W

/- What the deferred closure of package wire's read does. -/
namespace Go.Proofs.Ytaophafailmhjaa.W
open Go.RowKit
set_option linter.unusedVariables false
set_option linter.unusedSimpArgs false

end Go.Proofs.Ytaophafailmhjaa.W

/- Plain: what chapter 1's eyes and pens compute. -/
namespace Go.Proofs.Ytaophafailmhjaa.W
set_option linter.unusedVariables false
set_option linter.unusedSimpArgs false

def beNum (l : List UInt8) : Nat := l.foldl (fun x c => x * 256 + c.toNat) 0
theorem beNum_snoc (l : List UInt8) (c : UInt8) : beNum (l ++ [c]) = beNum l * 256 + c.toNat := by simp [beNum]
theorem beNum_from (l : List UInt8) : ∀ x : Nat, l.foldl (fun x c => x * 256 + c.toNat) x < (x + 1) * 256 ^ l.length := by
  induction l with
  | nil => intro x; simp
  | cons c l ih =>
    intro x
    have h := ih (x * 256 + c.toNat)
    rw [List.foldl_cons, List.length_cons, Nat.pow_succ']
    have hc := c.toNat_lt
    have h2 : (x * 256 + c.toNat + 1) * 256 ^ l.length ≤ ((x + 1) * 256) * 256 ^ l.length := Nat.mul_le_mul_right _ (by omega)
    rw [← Nat.mul_assoc]
    omega
theorem beNum_lt (l : List UInt8) : beNum l < 256 ^ l.length := by
  have := beNum_from l 0
  simpa [beNum] using this
theorem take_snocU (l : List UInt8) (k : Nat) (h : k < l.length) : l.take (k + 1) = l.take k ++ [l.getD k 0] := by
  rw [List.take_succ_eq_append_getElem h, List.getD_eq_getElem?_getD, List.getElem?_eq_getElem h]; rfl
theorem getD_take (l : List UInt8) (n k : Nat) (h : k < n) : (l.take n).getD k 0 = l.getD k 0 := by
  simp [List.getD_eq_getElem?_getD, List.getElem?_take, h]
theorem getD_drop (l : List UInt8) (n k : Nat) : (l.drop n).getD k 0 = l.getD (n + k) 0 := by
  simp [List.getD_eq_getElem?_getD, List.getElem?_drop]
theorem pow6 (k : Nat) (h : k ≤ 6) : 256 ^ k ≤ 281474976710656 := by
  have : 256 ^ k ≤ 256 ^ 6 := Nat.pow_le_pow_right (by omega) h
  simpa using this
theorem beNum_take_le (l : List UInt8) (k : Nat) (h : k ≤ 6) : beNum (l.take k) < 281474976710656 := by
  refine Nat.lt_of_lt_of_le (beNum_lt _) (pow6 _ ?_)
  exact Nat.le_trans (List.length_take_le _ _) h
theorem or_byte (a : Nat) (c : UInt8) : a * 256 ||| c.toNat = a * 256 + c.toNat := by
  have h := Nat.shiftLeft_add_eq_or_of_lt (show c.toNat < 2 ^ 8 from c.toNat_lt) a
  rw [Nat.shiftLeft_eq] at h
  exact h.symm

/-- Num: the number, the bytes that are left, the error. -/
def eyeNum (l : List UInt8) (bad : Int) (n : Nat) : Int × List UInt8 × Int :=
  if bad ≠ 0 then (0, l, bad) else if l.length < n then (0, l, 2) else ((beNum (l.take n) : Int), l.drop n, 0)
def eyeBool (l : List UInt8) (bad : Int) : Bool × List UInt8 × Int :=
  if bad ≠ 0 then (false, l, bad) else match l with
  | [] => (false, [], 2)
  | c :: r => if 1 < c.toNat then (false, c :: r, 4) else (c.toNat == 1, r, 0)
end Go.Proofs.Ytaophafailmhjaa.W

/- The eye of package wire. -/
namespace Go.Proofs.Ytaophafailmhjaa.W
open Go.RowKit
set_option linter.unusedVariables false
set_option linter.unusedSimpArgs false

end Go.Proofs.Ytaophafailmhjaa.W

/- Package wire's read: a step that ends, and a step that gives up. -/
namespace Go.Proofs.Ytaophafailmhjaa.W
open Go.RowKit
set_option linter.unusedVariables false
set_option linter.unusedSimpArgs false

end Go.Proofs.Ytaophafailmhjaa.W

/- Package wire's eye: number, Num. -/
namespace Go.Proofs.Ytaophafailmhjaa.W
open Go.RowKit
set_option linter.unusedVariables false
set_option linter.unusedSimpArgs false

theorem ofInt_i64 (a : Nat) (ha : a < 9223372036854775808) : (BitVec.ofInt 64 (a : Int)).toNat = a := by
  rw [BitVec.ofInt_natCast, BitVec.toNat_ofNat]; exact Nat.mod_eq_of_lt (by omega)
theorem i64_or_nat (a b : Nat) (ha : a < 9223372036854775808) (hb : b < 9223372036854775808) : bits .or .i64 (a : Int) (b : Int) = ((a ||| b : Nat) : Int) := by
  have hx : a ||| b < 2 ^ 63 := Nat.or_lt_two_pow (by omega) (by omega)
  show IntKind.i64.wrap ((BitVec.ofInt 64 (a : Int) ||| BitVec.ofInt 64 (b : Int)).toNat : Int) = _
  rw [BitVec.toNat_or, ofInt_i64 a ha, ofInt_i64 b hb, IntKind.wrap_i64]
  omega

/-- Bytes of an eye: nil, or in block g. -/
def EyeV (w : World) (v : Value) (g : Nat) (l : List UInt8) : Prop :=
  (v = .slice none 0 0 ∧ l = []) ∨ ∃ o cap, v = .slice (some ⟨g, o, none⟩) l.length cap ∧ l.length ≤ cap ∧ cap ≤ maxLen ∧ ∀ i, i < l.length → w.cell? ⟨g, o + i, none⟩ = some (bv (l.getD i 0))
theorem EyeV.keep {w w' : World} {v : Value} {g : Nat} {l : List UInt8} (h : EyeV w v g l) (hb : w'.heap[g]? = w.heap[g]?) : EyeV w' v g l := by
  rcases h with h | ⟨o, cap, rfl, h1, h2, hc⟩
  · exact .inl h
  · exact .inr ⟨o, cap, rfl, h1, h2, fun i hi => (World.cell?_of_block (w := w) (a := ⟨g, o + i, none⟩) hb).trans (hc i hi)⟩
theorem EyeV.keepC {w w' : World} {v : Value} {g : Nat} {l : List UInt8} {S : List Nat} (h : EyeV w v g l) (hg : g < w.heap.size ∨ v = .slice none 0 0) (hc : Chg S w w') (hn : g ∉ S) : EyeV w' v g l := by
  rcases h with h | ⟨o, cap, rfl, h1, h2, hcell⟩
  · exact .inl h
  · have hg' : g < w.heap.size := by
      rcases hg with hg | hg
      · exact hg
      · cases hg
    exact EyeV.keep (.inr ⟨o, cap, rfl, h1, h2, hcell⟩) (hc.block g hg' hn)
theorem or_lt {w w' : World} {g : Nat} {p : Prop} {S : List Nat} (h : g < w.heap.size ∨ p) (hc : Chg S w w') : g < w'.heap.size ∨ p := by
  rcases h with h | h
  · exact .inl (Nat.lt_of_lt_of_le h hc.size)
  · exact .inr h
theorem EyeV.slice {w : World} {v : Value} {g : Nat} {l : List UInt8} (h : EyeV w v g l) : ∃ a cap, v = .slice a l.length cap := by
  rcases h with ⟨rfl, rfl⟩ | ⟨o, cap, rfl, _⟩
  · exact ⟨_, _, rfl⟩
  · exact ⟨_, _, rfl⟩
theorem EyeV.dropped {w : World} {g o cap n : Nat} {l : List UInt8} (hl : l.length ≤ cap) (hc : cap ≤ maxLen) (hcell : ∀ i, i < l.length → w.cell? ⟨g, o + i, none⟩ = some (bv (l.getD i 0))) (hn : n ≤ l.length) :
    EyeV w (.slice (some ⟨g, if cap = n then o else o + n, none⟩) (l.length - n) (cap - n)) g (l.drop n) := by
  right
  have hdl : (l.drop n).length = l.length - n := List.length_drop ..
  refine ⟨if cap = n then o else o + n, cap - n, by rw [hdl], by omega, by omega, fun i hi => ?_⟩
  have h2 : ¬ (cap = n) := by omega
  rw [if_neg h2, getD_drop, Nat.add_assoc]
  exact hcell (n + i) (by omega)

end Go.Proofs.Ytaophafailmhjaa.W

/- Package wire's eye: Fail, Left, NewEye, bytes.Clone. -/
namespace Go.Proofs.Ytaophafailmhjaa.W
open Go.RowKit
set_option linter.unusedVariables false
set_option linter.unusedSimpArgs false

set_option maxHeartbeats 2000000 in
set_option maxRecDepth 100000 in
/-- bytes.Clone. -/
theorem clone_any (v : Value) (l : List UInt8) (w : World) (h : BytesAt w v l) (hl : l.length ≤ 1000000000) :
    Calls Try.prog 23 #[v] w fun e w' => ∃ v', e = .returned v' ∧ BRow w' v' l ∧ (∀ g, v'.ownBlock = some g → w.heap.size ≤ g) ∧ Chg [] w w' := by
  obtain ⟨a, cap, rfl, h1, h2, h3⟩ := h
  cases a with
  | none =>
    obtain ⟨rfl, rfl⟩ : l = [] ∧ cap = 0 := by
      rcases h3 with h3 | ⟨g, o, h, _⟩
      · exact h3
      · cases h
    have hq : ∀ w, (binOp .eql 22 (.slice none 0 0) (.slice none 0 0)).run Try.prog w = .ok (.bool true) w := fun w => Lib.run_eql_slice_nil w 22 5 none 0 0 0 0 Try.underlying22
    go_enter Try.func23, Try.ntmps23
    go_wp2
    go_ret
    exact ⟨_, rfl, BRow.nil _, by simp [Value.ownBlock], Chg.refl _ _⟩
  | some ad =>
    have hB : BytesAt w (.slice (some ad) l.length cap) l := ⟨_, _, rfl, h1, h2, h3⟩
    have hr : BRow (w.alloc (.cells #[] 5)) (.slice (some ⟨w.heap.size, 0, none⟩) 0 0) [] := World.ownsRow_made w #[] 0 (Nat.zero_le _) (by unfold maxLen; omega) rfl
    have hc0 : Chg [] w (w.alloc (.cells #[] 5)) := (Chg.refl [] w).alloc _
    have hB1 : BytesAt (w.alloc (.cells #[] 5)) (.slice (some ad) l.length cap) l := by
      refine ⟨_, _, rfl, h1, h2, ?_⟩
      rcases h3 with h3 | ⟨g, o, he, hcell⟩
      · exact .inl h3
      · exact .inr ⟨g, o, he, fun i hi => hc0.cell (hcell i hi) (by simp)⟩
    have HB := Lib.hid hB1
    have HR := Lib.hid hr
    have HC := Lib.hid hc0
    have hq : ∀ w, (binOp .eql 22 (.slice (some ad) l.length cap) (.slice none 0 0)).run Try.prog w = .ok (.bool false) w := fun w => Lib.run_eql_slice_nil w 22 5 (some ad) _ _ 0 0 Try.underlying22
    clear hB hB1 hr hc0 h3
    go_enter Try.func23, Try.ntmps23
    go_wp2_with (at_builtin; refine wpList_appB rfl _ _ rfl (.slice (some ⟨w.heap.size, 0, none⟩) 0 0) [] rfl HR.out _ l rfl HB.out (by simp; omega) ?_; intro v1 w1 ho1 hg1 hat1)
    go_ret
    refine ⟨v1, rfl, by simpa using ho1, ?_, HC.out.grown hg1 (by simp [Value.ownBlock])⟩
    intro g hg
    rcases hat1 with h | h
    · rw [h] at hg; simp [Value.ownBlock] at hg; omega
    · rw [h] at hg; simp at hg; omega

end Go.Proofs.Ytaophafailmhjaa.W

/- The file system as it is meant: its small functions. -/
namespace Go.Proofs.Ytaophafailmhjaa.W
open Go.RowKit
open Go.Proofs.Ytaophafailmhjaa.NM
set_option linter.unusedVariables false
set_option linter.unusedSimpArgs false

/-! ### local memory -/
/-- No bytes lie there. -/
def NoBytes (w : World) (k : Nat) : Prop := ∀ o x, w.cell? ⟨k, o, none⟩ ≠ some (.int .u8 x)
theorem noBytes_of {w : World} {k t : Nat} {cs : List Value} (h : w.heap[k]? = some (.cells cs.toArray t (0, 0))) (hn : ∀ v ∈ cs, ∀ x, v ≠ .int .u8 x) : NoBytes w k := by
  intro o x hc
  unfold World.cell? at hc
  simp only [h] at hc
  have : cs[o]? = some (.int .u8 x) := by simpa using hc
  exact hn _ (List.mem_of_getElem? this) x rfl
theorem HeldAt.keepB {w w' : World} {S U : List Nat} {v : Value} {l : List UInt8} (h : HeldAt w S v l) (hc : Chg U w w') (hU : ∀ x ∈ U, NoBytes w x) : HeldAt w' S v l := by
  refine ⟨h.1.keepL fun hl g hg => hc.block g (h.2 hl g hg).1 (fun hm => ?_), fun hl g hg => ⟨Nat.lt_of_lt_of_le (h.2 hl g hg).1 hc.size, (h.2 hl g hg).2⟩⟩
  obtain ⟨a, cap, rfl, h1, h2, h3⟩ := h.1
  rcases h3 with ⟨rfl, _⟩ | ⟨g', o, rfl, hcell⟩
  · exact hl rfl
  · obtain rfl : g' = g := by simpa [Value.ownBlock] using hg
    exact hU g' hm _ _ (hcell 0 (List.length_pos_iff.2 hl))
variable {X Y S : List Nat} {w0 w w' : World} {c : PC} {s : PS}
/-- Changes of local memory. -/
theorem PAt.keepB {U : List Nat} (h : PAt Y w0 w c S s) (hc : Chg U w w') (hU : ∀ x ∈ U, x ∈ Y ∧ w0.heap.size ≤ x ∧ NoBytes w x) : PAt Y w0 w' c S s := by
  obtain ⟨St, Sk, f, o, Nf, No, h1, h2, h3, h4⟩ := h
  have hn : ∀ x ∈ U, x ∉ foot c St Sk := fun x hx => (h4 x (hU x hx).1).1
  have no : ∀ x ∈ foot c St Sk, x ∉ U := fun x hx hm => hn x hm hx
  have hb : ∀ x ∈ U, NoBytes w x := fun x hx => (hU x hx).2.2
  refine ⟨St, Sk, f, o, Nf, No, ⟨hc.keep h1.head (no _ (mem_foot.2 (.inl rfl))), h1.tree.keep hc (fun x hx => no x (mem_foot.2 (.inr (.inr (.inr (.inl hx)))))), h1.toks.keep hc (fun x hx => no x (mem_foot.2 (.inr (.inr (.inr (.inr hx)))))), h1.fm.chg hc (no _ (mem_foot.2 (.inr (.inl rfl)))), h1.om.chg hc (no _ (mem_foot.2 (.inr (.inr (.inl rfl))))), ?_, ?_, h1.ap⟩, h2, h3.trans hc (fun x hx => .inr (hU x hx).2.1), fun x hx => ⟨(h4 x hx).1, Nat.lt_of_lt_of_le (h4 x hx).2 hc.size⟩⟩
  · intro x hx
    rcases h1.fv x hx with e | ⟨v, l, e1, e2, e3⟩
    · exact .inl e
    · exact .inr ⟨v, l, e1, e2, e3.keepB hc hb⟩
  · intro x hx
    rcases h1.ov x hx with e | ⟨v, l, e1, e2, e3⟩
    · exact .inl e
    · exact .inr ⟨v, l, e1, e2, e3.keepB hc hb⟩
theorem KeepK.chg {K U : List Nat} {a b d : World} (h : KeepK K a b) (hc : Chg U b d) (hK : ∀ k ∈ K, k ∉ U ∧ k < b.heap.size) : KeepK K a d := h.trans (.of_chg hc hK)

/-! ### operations and answers -/
def opC (o : Op) (v : Value) : Array Value := #[.int .i64 o.d, .string (mk o.p), .string (mk o.q), .int .i64 o.h, .int .i64 o.i, .int .i64 o.n, .bool o.w, v]
def opV (o : Op) (v : Value) : Value := .agg (opC o v)
def ansV (a : Ans) (vb vl : Value) : Value := .agg #[.int .i64 a.e, .int .i64 a.ino, .bool a.dir, .int .i64 (a.size : Int), .int .i64 a.h, vb, vl]
def zeroA : Array Value := #[.int .i64 0, .int .i64 0, .bool false, .int .i64 0, .int .i64 0, .slice none 0 0, .slice none 0 0]
theorem op_cells {W : World} {g : Nat} {o : Op} {v : Value} (h : W.heap[g]? = some (.cells (opC o v) 33 (0, 0))) :
    W.cell? ⟨g, 0, none⟩ = some (.int .i64 o.d) ∧ W.cell? ⟨g, 1, none⟩ = some (.string (mk o.p)) ∧ W.cell? ⟨g, 2, none⟩ = some (.string (mk o.q)) ∧ W.cell? ⟨g, 3, none⟩ = some (.int .i64 o.h) ∧ W.cell? ⟨g, 4, none⟩ = some (.int .i64 o.i) ∧ W.cell? ⟨g, 5, none⟩ = some (.int .i64 o.n) ∧ W.cell? ⟨g, 6, none⟩ = some (.bool o.w) ∧ W.cell? ⟨g, 7, none⟩ = some v :=
  ⟨blk_cell h 0 _ rfl, blk_cell h 1 _ rfl, blk_cell h 2 _ rfl, blk_cell h 3 _ rfl, blk_cell h 4 _ rfl, blk_cell h 5 _ rfl, blk_cell h 6 _ rfl, blk_cell h 7 _ rfl⟩
theorem ans_cells {W : World} {g t : Nat} {a0 a1 a2 a3 a4 a5 a6 : Value} (h : W.heap[g]? = some (.cells #[a0, a1, a2, a3, a4, a5, a6] t (0, 0))) :
    (W.cell? ⟨g, 0, none⟩ = some a0 ∧ W.cell? ⟨g, 1, none⟩ = some a1 ∧ W.cell? ⟨g, 2, none⟩ = some a2 ∧ W.cell? ⟨g, 3, none⟩ = some a3 ∧ W.cell? ⟨g, 4, none⟩ = some a4 ∧ W.cell? ⟨g, 5, none⟩ = some a5 ∧ W.cell? ⟨g, 6, none⟩ = some a6) ∧
    W.frozen? ⟨g, 0, none⟩ = false ∧ W.frozen? ⟨g, 1, none⟩ = false ∧ W.frozen? ⟨g, 2, none⟩ = false ∧ W.frozen? ⟨g, 3, none⟩ = false ∧ W.frozen? ⟨g, 4, none⟩ = false ∧ W.frozen? ⟨g, 5, none⟩ = false ∧ W.frozen? ⟨g, 6, none⟩ = false :=
  ⟨⟨blk_cell h 0 _ rfl, blk_cell h 1 _ rfl, blk_cell h 2 _ rfl, blk_cell h 3 _ rfl, blk_cell h 4 _ rfl, blk_cell h 5 _ rfl, blk_cell h 6 _ rfl⟩, blk_frozen h 0, blk_frozen h 1, blk_frozen h 2, blk_frozen h 3, blk_frozen h 4, blk_frozen h 5, blk_frozen h 6⟩
def set7 (w : World) (b : Nat) (u0 u1 u2 u3 u4 u5 u6 : Value) : World := ((((((w.setCell ⟨b, 0, none⟩ u0).setCell ⟨b, 1, none⟩ u1).setCell ⟨b, 2, none⟩ u2).setCell ⟨b, 3, none⟩ u3).setCell ⟨b, 4, none⟩ u4).setCell ⟨b, 5, none⟩ u5).setCell ⟨b, 6, none⟩ u6
theorem heap_at2 (w : World) (o1 o2 : Obj) : ((w.alloc o1).alloc o2).heap[w.heap.size + 1]? = some o2 := by have := heap_alloc_new (w.alloc o1) o2; simpa using this
theorem blk_lt_cell {w : World} {p : Addr} {v : Value} (h : w.cell? p = some v) : p.block < w.heap.size := World.block_lt_of_cell? w _ h
theorem set7_heap {w : World} {b t : Nat} {a0 a1 a2 a3 a4 a5 a6 u0 u1 u2 u3 u4 u5 u6 : Value} (h : w.heap[b]? = some (.cells #[a0, a1, a2, a3, a4, a5, a6] t (0, 0))) :
    (set7 w b u0 u1 u2 u3 u4 u5 u6).heap[b]? = some (.cells #[u0, u1, u2, u3, u4, u5, u6] t (0, 0)) := by
  have h0 : (w.setCell ⟨b, 0, none⟩ u0).heap[b]? = some (.cells #[u0, a1, a2, a3, a4, a5, a6] t (0, 0)) := set_blk h
  clear h
  have h1 : ((w.setCell ⟨b, 0, none⟩ u0).setCell ⟨b, 1, none⟩ u1).heap[b]? = some (.cells #[u0, u1, a2, a3, a4, a5, a6] t (0, 0)) := set_blk h0
  unfold set7
  clear h0
  generalize (w.setCell ⟨b, 0, none⟩ u0).setCell ⟨b, 1, none⟩ u1 = x1 at *
  have h2 : (x1.setCell ⟨b, 2, none⟩ u2).heap[b]? = some (.cells #[u0, u1, u2, a3, a4, a5, a6] t (0, 0)) := set_blk h1
  generalize x1.setCell ⟨b, 2, none⟩ u2 = x2 at *
  have h3 : (x2.setCell ⟨b, 3, none⟩ u3).heap[b]? = some (.cells #[u0, u1, u2, u3, a4, a5, a6] t (0, 0)) := set_blk h2
  generalize x2.setCell ⟨b, 3, none⟩ u3 = x3 at *
  have h4 : (x3.setCell ⟨b, 4, none⟩ u4).heap[b]? = some (.cells #[u0, u1, u2, u3, u4, a5, a6] t (0, 0)) := set_blk h3
  generalize x3.setCell ⟨b, 4, none⟩ u4 = x4 at *
  have h5 : (x4.setCell ⟨b, 5, none⟩ u5).heap[b]? = some (.cells #[u0, u1, u2, u3, u4, u5, a6] t (0, 0)) := set_blk h4
  generalize x4.setCell ⟨b, 5, none⟩ u5 = x5 at *
  exact set_blk h5
theorem set7_chg (w : World) (b : Nat) (u0 u1 u2 u3 u4 u5 u6 : Value) : Chg [b] w (set7 w b u0 u1 u2 u3 u4 u5 u6) := by
  have hb : ∀ (a : World) (j : Nat), (⟨b, j, none⟩ : Addr).block ∈ [b] ∨ a.heap.size ≤ (⟨b, j, none⟩ : Addr).block := fun a j => .inl (by simp)
  exact (((((((Chg.refl [b] w).setCell (hb _ _) _).setCell (hb _ _) _).setCell (hb _ _) _).setCell (hb _ _) _).setCell (hb _ _) _).setCell (hb _ _) _).setCell (hb _ _) _
/-- What an operation answers, and what it leaves. -/
def APost (X : List Nat) (w0 w : World) (c : PC) (S : List Nat) (r : Ans × PS) (e : Ending) (w' : World) : Prop :=
  ∃ vb vl, e = .returned (ansV r.1 vb vl) ∧ BytesAt w' vb r.1.b ∧ EntsAt w' vl r.1.l ∧ PAt (vb.ownBlock.toList ++ (vl.ownBlock.toList ++ X)) w0 w' c S r.2 ∧ KeepK X w w' ∧ ∀ g, vb.ownBlock = some g ∨ vl.ownBlock = some g → w.heap.size ≤ g
theorem EntsAt.nil (w : World) : EntsAt w (.slice none 0 0) [] := ⟨none, 0, rfl, .inl rfl⟩
theorem zeroA_noBytes {w : World} {g t : Nat} (h : w.heap[g]? = some (.cells zeroA t (0, 0))) : NoBytes w g := by
  refine noBytes_of (cs := zeroA.toList) (by simpa using h) ?_
  intro v hv x e
  subst e
  simp [zeroA] at hv
/-- The answer is laid into its cells: it has no rows. -/
theorem ans_done {g : Nat} {r : Ans × PS} (a : Ans) (s' : PS) (hr : r = (a, s')) (H : PAt Y w0 w' c S s') (hY : ∀ x ∈ X, x ∈ Y) (hg : g ∈ Y) (K : KeepK X w w') (hX : ∀ x ∈ X, x < w.heap.size) (hgw : w.heap.size ≤ g) (hw0 : w0.heap.size ≤ w.heap.size)
    (hz : w'.heap[g]? = some (.cells zeroA 30 (0, 0))) (hb : a.b = []) (hl : a.l = []) {u0 u1 u2 u3 u4 : Value} (e0 : u0 = .int .i64 a.e) (e1 : u1 = .int .i64 a.ino) (e2 : u2 = .bool a.dir) (e3 : u3 = .int .i64 (a.size : Int)) (e4 : u4 = .int .i64 a.h) :
    APost X w0 w c S r (.returned (.agg #[u0, u1, u2, u3, u4, .slice none 0 0, .slice none 0 0])) (set7 w' g u0 u1 u2 u3 u4 (.slice none 0 0) (.slice none 0 0)) := by
  subst hr
  have hc := set7_chg w' g u0 u1 u2 u3 u4 (.slice none 0 0) (.slice none 0 0)
  refine ⟨.slice none 0 0, .slice none 0 0, by rw [e0, e1, e2, e3, e4]; rfl, by rw [hb]; exact BytesAt.nil _, by rw [hl]; exact EntsAt.nil _, ?_, ?_, by simp [Value.ownBlock]⟩
  · have h2 := H.keepB hc (fun x hx => by simp at hx; subst hx; exact ⟨hg, by omega, zeroA_noBytes hz⟩)
    exact h2.mono (by simpa [Value.ownBlock] using hY)
  · exact K.chg hc (fun k hk => ⟨by have := hX k hk; simp; omega, H.lt k (hY k hk)⟩)

/-! ### made, no, deedOf -/
theorem made26_any (h : PAt X w0 w c S s) : Calls Try.prog 20 #[.pointer (some ⟨c.p, 0, none⟩)] w fun e w' => e = .returned (.bool true) ∧ w = w' := by
  obtain ⟨c0, _, _, _, _⟩ := h.cells
  clear h
  go_enter Try.func20, Try.ntmps20
  go_wp2
  go_ret
  exact ⟨rfl, rfl⟩
set_option maxHeartbeats 1000000 in
theorem no_any (e0 : Int) (w : World) : Calls Try.prog 21 #[.int .i64 e0] w fun e w' => e = .returned (ansV (no e0) (.slice none 0 0) (.slice none 0 0)) ∧ Chg [] w w' := by
  have hz : (w.alloc (.cells #[.int .i64 e0, .int .i64 0, .bool false, .int .i64 0, .int .i64 0, .slice none 0 0, .slice none 0 0] 30)).heap[w.heap.size]? = some (.cells #[.int .i64 e0, .int .i64 0, .bool false, .int .i64 0, .int .i64 0, .slice none 0 0, .slice none 0 0] 30 (0, 0)) := heap_alloc_new w _
  obtain ⟨⟨d0, d1, d2, d3, d4, d5, d6⟩, _⟩ := ans_cells hz
  have HD := Lib.hid (And.intro d0 (And.intro d1 (And.intro d2 (And.intro d3 (And.intro d4 (And.intro d5 d6))))))
  clear hz d0 d1 d2 d3 d4 d5 d6
  go_enter Try.func21, Try.ntmps21
  go_wp2
  obtain ⟨d0, d1, d2, d3, d4, d5, d6⟩ := HD.out
  exact bodyPost_ret (v := ansV (no e0) (.slice none 0 0) (.slice none 0 0)) (by simp [results, Try.results21, go_sem, d0, d1, d2, d3, d4, d5, d6, ansV, no]) rfl ⟨rfl, (Chg.refl [] w).alloc _⟩
end Go.Proofs.Ytaophafailmhjaa.W

/- The file system as it is meant: deedOf, sized. -/
namespace Go.Proofs.Ytaophafailmhjaa.W
open Go.RowKit
open Go.Proofs.Ytaophafailmhjaa.NM
set_option linter.unusedVariables false
set_option linter.unusedSimpArgs false

def deedNum (d : Int) : Option Nat := if d = 1 ∨ d = 2 then some 28 else if d = 3 ∨ d = 4 then some 29 else if d = 5 then some 30 else if d = 6 then some 31 else if d = 7 then some 32 else if d = 8 then some 33 else
  if d = 9 then some 34 else if d = 10 then some 35 else if d = 11 then some 36 else if d = 12 ∨ d = 13 then some 37 else none
def deedV (d : Int) : Value := match deedNum d with | some n => .func (.func n) #[] #[] | none => .nilFunc
set_option maxHeartbeats 4000000 in
set_option maxRecDepth 100000 in
theorem deedOf_any (d : Int) (w : World) : Calls Try.prog 22 #[.int .i64 d] w fun e w' => e = .returned (deedV d) ∧ w = w' := by
  by_cases h : 1 ≤ d ∧ d ≤ 13
  · have : d = 1 ∨ d = 2 ∨ d = 3 ∨ d = 4 ∨ d = 5 ∨ d = 6 ∨ d = 7 ∨ d = 8 ∨ d = 9 ∨ d = 10 ∨ d = 11 ∨ d = 12 ∨ d = 13 := by omega
    rcases this with rfl | rfl | rfl | rfl | rfl | rfl | rfl | rfl | rfl | rfl | rfl | rfl | rfl
    all_goals
      go_enter Try.func22, Try.ntmps22
      go_wp2
      go_ret
      exact ⟨rfl, rfl⟩
  · have hn : deedV d = .nilFunc := by
      unfold deedV deedNum
      repeat rw [if_neg (by omega)]
    rw [hn]
    have e1 : (d == 1) = false := by simp; omega
    have e2 : (d == 2) = false := by simp; omega
    have e3 : (d == 3) = false := by simp; omega
    have e4 : (d == 4) = false := by simp; omega
    have e5 : (d == 5) = false := by simp; omega
    have e6 : (d == 6) = false := by simp; omega
    have e7 : (d == 7) = false := by simp; omega
    have e8 : (d == 8) = false := by simp; omega
    have e9 : (d == 9) = false := by simp; omega
    have e10 : (d == 10) = false := by simp; omega
    have e11 : (d == 11) = false := by simp; omega
    have e12 : (d == 12) = false := by simp; omega
    have e13 : (d == 13) = false := by simp; omega
    clear h hn
    go_enter Try.func22, Try.ntmps22
    go_wp2
    go_ret
    exact ⟨rfl, rfl⟩

/-! ### sized -/
def zs (n : Nat) : List UInt8 := List.replicate n 0
theorem infoU8 : (Try.prog.info? 5).map (fun i => (i.zero, i.size, i.bytes)) = some (some (.int .u8 0), 1, 1) := by kernel_rfl
theorem make_bytes (n : Nat) (hn : n ≤ 1000000) (w : World) : (Instr.makeSlice 22 (.int .i64 (n : Int)) (.int .i64 (n : Int))).run Try.prog w = .ok (.slice (some ⟨w.heap.size, 0, none⟩) n n) (w.alloc (.cells (bvs (zs n)).toArray 5)) := by
  obtain ⟨i, hi, h1, h2, h3⟩ := info_parts infoU8
  have h := run_make (P := Try.prog) w 22 5 i _ Try.underlying22 hi h1 .i64 .i64 n n (by omega) (Int.le_refl _) (by rw [h3]; omega) (by omega)
  rw [h2] at h
  have hz : madeCells (Value.int .u8 0).cells ((n : Int).toNat * 1) = (bvs (zs n)).toArray := by
    rw [Int.toNat_natCast, Nat.mul_one]
    apply Array.ext
    · rw [size_madeCells]; simp [bvs, zs]
    · intro i h1 h2
      simp [madeCells, bvs, zs, bv, Value.cells, Nat.mod_one]
  rw [hz] at h
  exact h
theorem sized_eq (l : List UInt8) (n : Nat) : splice (bvs (zs n)) 0 (bvs (l.take n)) = bvs (sizedB l n) := by
  unfold splice sizedB
  rw [List.take_zero, List.nil_append, Nat.zero_add, bvs_len]
  unfold bvs zs
  rw [List.map_append]
  congr 1
  rw [← List.map_drop, List.drop_replicate]
  congr 2
  rw [List.length_take]
  omega
theorem BytesAt.slice {w : World} {v : Value} {l : List UInt8} (h : BytesAt w v l) : ∃ a cap, v = .slice a l.length cap := by
  obtain ⟨a, cap, e, _⟩ := h
  exact ⟨a, cap, e⟩
/-- Bytes stay where the world only grows. -/
theorem BytesAt.chg0 {w w' : World} {v : Value} {l : List UInt8} (h : BytesAt w v l) (hc : Chg [] w w') : BytesAt w' v l := by
  obtain ⟨a, cap, rfl, h1, h2, h3⟩ := h
  refine ⟨a, cap, rfl, h1, h2, ?_⟩
  rcases h3 with h3 | ⟨g, o, rfl, hcell⟩
  · exact .inl h3
  · exact .inr ⟨g, o, rfl, fun i hi => hc.cell (hcell i hi) (by simp)⟩
/-- 'copy(out, b)' into n noughts. -/
theorem wpList_sized {w : World} {ops : Array Oper} {rest : List Oper} {o : Oper} {a : Act} {Q : Exit → Act → World → Prop} (hgd : o.guard = none) (d s : Operand)
    (ho : o.op = .call { callee := .builtin .copy, args := #[d, s], argTypes := #[22, 22] }) (N n : Nat) (hd : a.eval d = .slice (some ⟨N, 0, none⟩) n n) (u : Value) (hs : a.eval s = u) (l : List UInt8) (hm : BytesAt w u l)
    (hN : w.heap[N]? = some (.cells (bvs (zs n)).toArray 5 (0, 0)))
    (h : ∀ w' r, Hid (w'.heap[N]? = some (.cells (bvs (sizedB l n)).toArray 5 (0, 0)) ∧ Below N w w') → wpList Try.prog ops Q rest (a.put o.dst r) w') : wpList Try.prog ops Q (o :: rest) a w := by
  obtain ⟨au, cap, rfl, h1, h2, h3⟩ := hm
  have hlen : (l.take n).length = Nat.min l.length n := by rw [List.length_take]; exact Nat.min_comm _ _
  have hle : Nat.min l.length n ≤ n := Nat.min_le_right _ _
  refine wpList_copy_splice hgd d s 22 22 ho 5 Try.underlying22 (by kernel_rfl) (some ⟨N, 0, none⟩) au n n l.length cap hd hs N 0 (bvs (zs n)) 5 hN (bvs (l.take n)) (by rw [bvs_len, hlen]) ?_ (by rw [bvs_len, bvs_len, hlen]; unfold zs; rw [List.length_replicate]; omega) (bvs_one _) N w (Below.refl _ _) (Nat.le_refl _) ?_
  · intro hpos
    refine ⟨rfl, ?_⟩
    rcases h3 with ⟨rfl, _⟩ | ⟨g, o', rfl, hc⟩
    · simp [bvs] at hpos
    · refine ⟨_, rfl, fun j v hv => ?_⟩
      have hj : j < (l.take n).length := by
        have := (List.getElem?_eq_some_iff.1 hv).1
        rwa [bvs_len] at this
      rw [bvs_at _ j hj] at hv
      cases hv
      rw [List.length_take] at hj
      rw [add_none, hc j (by omega), List.getD_eq_getElem?_getD, List.getD_eq_getElem?_getD, List.getElem?_take, if_pos (by omega)]
  · intro w' hw' hb
    rw [sized_eq] at hw'
    exact h w' _ ⟨hw'.out, hb⟩
set_option maxHeartbeats 4000000 in
set_option maxRecDepth 100000 in
theorem sized_any (v : Value) (l : List UInt8) (n : Nat) (w : World) (h : BytesAt w v l) (hn : n ≤ 100000) : Calls Try.prog 50 #[v, .int .i64 (n : Int)] w fun e w' =>
    ∃ N, e = .returned (.slice (some ⟨N, 0, none⟩) n n) ∧ w.heap.size ≤ N ∧ w'.heap[N]? = some (.cells (bvs (sizedB l n)).toArray 5 (0, 0)) ∧ Chg [] w w' := by
  have hmk := make_bytes n (by omega)
  obtain ⟨w1, hw1⟩ : ∃ w1, w1 = w.alloc (.cells (bvs (zs n)).toArray 5) := ⟨_, rfl⟩
  have hb1 : Below w.heap.size w w1 := by rw [hw1]; exact (Below.refl _ _).alloc (Nat.le_refl _) _
  have HN : Hid (w1.heap[w.heap.size]? = some (.cells (bvs (zs n)).toArray 5 (0, 0))) := Lib.hid (by rw [hw1]; exact heap_alloc_new w _)
  have HB1 := Lib.hid hb1
  have HM : Hid (BytesAt w1 v l) := Lib.hid (by rw [hw1]; exact h.chg0 ((Chg.refl [] w).alloc _))
  obtain ⟨a, cap, rfl⟩ := h.slice
  have HW1 := Lib.hid hw1
  clear hb1 h hw1
  go_enter Try.func50, Try.ntmps50
  go_wp2_with (rw [← HW1.out]; refine wpList_sized (by rfl) (.tmp 8) (.tmp 9) (by rfl) w.heap.size n (by rfl) _ (by rfl) l HM.out HN.out ?_; intro w' r hw')
  go_ret
  exact ⟨w.heap.size, rfl, Nat.le_refl _, hw'.out.1, Chg.of_below (HB1.out.trans hw'.out.2)⟩
end Go.Proofs.Ytaophafailmhjaa.W

/- Regions that draw their order: conditions on the world that need hold only up to the operation that uses what was loaded under them. -/
namespace Go.Proofs.Ytaophafailmhjaa.W
open Go.RowKit
set_option linter.unusedVariables false
set_option linter.unusedSimpArgs false

section
variable {P : Program} {ops : Array Oper} {Q : Exit → Act → World → Prop} {md : Region.Mode} {cs : List (Nat × (World → Prop))}

/-- Each condition holds as long as its operation has not come up. -/
def HoldC (cs : List (Nat × (World → Prop))) (L : Array Bool) (w : World) : Prop := ∀ c ∈ cs, L.getD c.1 true = false → c.2 w
theorem HoldC.nil {L : Array Bool} {w : World} : HoldC [] L w := fun c hc => by cases hc
theorem HoldC.cons {L : Array Bool} {w : World} {d : Nat} {C : World → Prop} (h : C w) (hr : HoldC cs L w) : HoldC ((d, C) :: cs) L w := fun c hc h0 => by
  rcases List.mem_cons.1 hc with rfl | hc
  · exact h
  · exact hr c hc h0
theorem HoldC.past {L : Array Bool} {w : World} {d : Nat} {C : World → Prop} (h : L.getD d true = true) (hr : HoldC cs L w) : HoldC ((d, C) :: cs) L w := fun c hc h0 => by
  rcases List.mem_cons.1 hc with rfl | hc
  · rw [h] at h0; cases h0
  · exact hr c hc h0
theorem getD_set_false {L : Array Bool} {i j : Nat} (h : (L.setIfInBounds i true).getD j true = false) : L.getD j true = false := by
  by_cases hij : i = j
  · subst hij
    rw [Array.getD_eq_getD_getElem?] at h
    by_cases hl : i < L.size
    · simp [hl] at h
    · simp [Array.getElem?_eq_none (Nat.le_of_not_lt hl), hl] at h
  · rwa [getD_set_ne true hij] at h
theorem HoldC.set {L : Array Bool} {w : World} (h : HoldC cs L w) (i : Nat) : HoldC cs (L.setIfInBounds i true) w := fun c hc h0 => h c hc (getD_set_false h0)

/-- As 'wpAnyH', the conditions bound to the operations that have not come up. -/
def wpAnyL (P : Program) (md : Region.Mode) (ops : Array Oper) (Q : Exit → Act → World → Prop) (cs : List (Nat × (World → Prop))) : Nat → Array Bool → Act → World → Prop
  | 0, L, a, w => Region.ready md ops L = [] ∧ Q .normal a w
  | n + 1, L, a, w => (Region.ready md ops L = [] → Q .normal a w) ∧
    ∀ i ∈ Region.ready md ops L, wpOp P ops Q i (fun a' w' => HoldC cs (L.setIfInBounds i true) w' ∧ wpAnyL P md ops Q cs n (L.setIfInBounds i true) a' w') a w
theorem wpAny_of_L : ∀ (n : Nat) (L : Array Bool) (a : Act) (w : World), wpAnyL P md ops Q cs n L a w → wpAny P md ops Q n L a w
  | 0, _, _, _, h => h
  | n + 1, _, _, _, h => ⟨h.1, fun i hi => wpOp_mono (fun a' w' h' => wpAny_of_L n _ a' w' h'.2) (h.2 i hi)⟩

/-- What has come up has all that it waits for behind it. -/
def closedB (md : Region.Mode) (ops : Array Oper) (L : Array Bool) : Bool :=
  (List.range ops.size).all fun j => !(L.getD j true) || match ops[j]? with
    | none => true
    | some o => o.after.all fun e => !Region.binds md e || L.getD e.on false
def Closed (md : Region.Mode) (ops : Array Oper) (L : Array Bool) : Prop := ∀ j o, ops[j]? = some o → L.getD j true = true → ∀ e ∈ o.after, Region.binds md e = true → L.getD e.on false = true
theorem closed_of {L : Array Bool} (h : closedB md ops L = true) : Closed md ops L := fun j o hj hl e he hb => by
  unfold closedB at h
  rw [List.all_eq_true] at h
  have h1 := h j (List.mem_range.2 (Array.getElem?_eq_some_iff.1 hj).1)
  simp only [hj, hl, Bool.not_true, Bool.false_or] at h1
  have h2 := Array.all_eq_true_iff_forall_mem.1 h1 e he
  simpa [hb] using h2
theorem Closed.step {L : Array Bool} (h : Closed md ops L) {i : Nat} (hi : i ∈ Region.ready md ops L) : Closed md ops (L.setIfInBounds i true) := fun j o hj hl e he hb => by
  obtain ⟨h0, oi, ho, hall⟩ := mem_ready.1 hi
  by_cases hij : i = j
  · subst hij
    rw [ho] at hj; cases hj
    exact getD_set_true (hall e he hb)
  · rw [getD_set_ne true hij] at hl
    exact getD_set_true (h j o hj hl e he hb)
/-- Operation d waits for i, at whatever distance. -/
def ancB (md : Region.Mode) (ops : Array Oper) : Nat → Nat → Nat → Bool
  | 0, _, _ => false
  | n + 1, d, i => match ops[d]? with
    | none => false
    | some o => o.after.any fun e => Region.binds md e && (e.on == i || ancB md ops n e.on i)
theorem anc_open {L : Array Bool} (hc : Closed md ops L) {i : Nat} (hi : L.getD i true = false) : ∀ n d, ancB md ops n d i = true → L.getD d true = false := by
  intro n
  induction n with
  | zero => intro d h; cases h
  | succ n ih =>
    intro d h
    unfold ancB at h
    cases ho : ops[d]? with
    | none => rw [ho] at h; cases h
    | some o =>
      simp only [ho] at h
      obtain ⟨e, he, h1⟩ := Array.any_eq_true'.1 h
      simp only [Bool.and_eq_true, Bool.or_eq_true, beq_iff_eq] at h1
      cases hd : L.getD d true with
      | false => rfl
      | true =>
        have h2 := hc d o ho hd e he h1.1
        rcases h1.2 with rfl | h3
        · rw [Array.getD_eq_getD_getElem?] at hi h2
          cases hx : L[e.on]? with
          | none => rw [hx] at h2; cases h2
          | some b => rw [hx] at hi h2; simp at hi h2; rw [hi] at h2; cases h2
        · have h4 := ih e.on h3
          rw [Array.getD_eq_getD_getElem?] at h4 h2
          cases hx : L[e.on]? with
          | none => rw [hx] at h2; cases h2
          | some b => rw [hx] at h4 h2; simp at h4 h2; rw [h4] at h2; cases h2

theorem wpAnyL_first {i : Nat} {oi : Oper} {v : Value} {C : World → Prop} (hi : ops[i]? = some oi) (hsel : ∀ (j : Nat) (o : Oper) cs b, ops[j]? = some o → o.op ≠ .select cs b)
    (hQ : ∀ c a w, Q (.panic c) (a.put oi.dst v) w → Q (.panic c) a w) (hC : ∀ L w, Closed md ops L → L.getD i true = false → HoldC cs L w → C w) (hne : ∀ c ∈ cs, c.1 ≠ i) :
    ∀ (fuel : Nat) (L : Array Bool) (a : Act) (w : World), Closed md ops L →
      (∀ j oj, ops[j]? = some oj → j ≠ i → L.getD j true = false → (∀ e ∈ oj.after, Region.binds md e = true → e.on ≠ i) → oi.apart ops oj = true) →
      i ∈ Region.ready md ops L → YieldsIf P ops C oi v a → HoldC cs L w →
      wpAnyL P md ops Q cs fuel (L.setIfInBounds i true) (a.put oi.dst v) w → wpAnyL P md ops Q cs (fuel + 1) L a w := by
  intro fuel
  induction fuel with
  | zero =>
    intro L a w hcl _ hr hy hS H
    refine ⟨fun h => (by rw [h] at hr; cases hr), fun j hj => ?_⟩
    by_cases hji : j = i
    · subst hji; exact hy.wpOp hi (hC L w hcl (mem_ready.1 hr).1 hS) ⟨hS.set _, H⟩
    · have := ready_mono hj hji
      rw [H.1] at this
      cases this
  | succ fuel ih =>
    intro L a w hcl hfree hr hy hS H
    refine ⟨fun h => (by rw [h] at hr; cases hr), fun j hj => ?_⟩
    by_cases hji : j = i
    · subst hji; exact hy.wpOp hi (hC L w hcl (mem_ready.1 hr).1 hS) ⟨hS.set _, H⟩
    · have h1 := H.2 j (ready_mono hj hji)
      obtain ⟨hjun, oj, hoj, hall⟩ := mem_ready.1 hj
      have h0 := (mem_ready.1 hr).1
      have hnot : ∀ e ∈ oj.after, Region.binds md e = true → e.on ≠ i := fun e he hb heq => by
        have h1 := hall e he hb
        rw [heq] at h1
        rcases Nat.lt_or_ge i L.size with h' | h'
        · simp [h'] at h0 h1; rw [h0] at h1; cases h1
        · simp [Array.getElem?_eq_none h'] at h1
      have h2 := wpOp_putIf hoj (hfree j oj hoj hji hjun hnot) (fun cs b => hsel i oi cs b hi) (fun cs b => hsel j oj cs b hoj) hQ hy h1
      refine wpOp_mono (fun a' w' h3 => ?_) h2
      have hS' : HoldC cs (L.setIfInBounds j true) w' := fun c hc h4 => h3.2.1 c hc (by
        rw [Array.setIfInBounds_comm _ _ (Ne.symm hji), getD_set_ne true (Ne.symm (hne c hc))]
        exact h4)
      refine ⟨hS', ih (L.setIfInBounds j true) a' w' (hcl.step hj) (fun k ok hk hki hun hno => ?_) (ready_mono hr (Ne.symm hji)) h3.1 hS' ?_⟩
      · refine hfree k ok hk hki ?_ hno
        by_cases hjk : j = k
        · subst hjk; exact hjun
        · rw [getD_set_ne true hjk] at hun; exact hun
      · rw [Array.setIfInBounds_comm _ _ hji]
        exact h3.2.2

/-- Taken first: an operation that yields its value in whatever world. -/
theorem wpAnyL_take {i : Nat} {oi : Oper} {v : Value} {fuel : Nat} {L : Array Bool} {a : Act} {w : World} (hi : ops[i]? = some oi)
    (hs : Region.noSelect ops = true) (hcl : closedB md ops L = true) (hf : Region.free md ops L i = true) (hr : (Region.ready md ops L).contains i = true) (hne : cs.all (fun c => c.1 != i) = true)
    (hQ : ∀ c a w, Q (.panic c) (a.put oi.dst v) w → Q (.panic c) a w) (hy : YieldsIf P ops (fun _ => True) oi v a) (hS : HoldC cs L w)
    (h : HoldC cs (L.setIfInBounds i true) w → wpAnyL P md ops Q cs fuel (L.setIfInBounds i true) (a.put oi.dst v) w) : wpAnyL P md ops Q cs (fuel + 1) L a w :=
  wpAnyL_first hi (Region.noSelect_spec hs) hQ (fun _ _ _ _ _ => trivial) (fun c hc => by simpa using List.all_eq_true.1 hne c hc) fuel L a w (closed_of hcl) (Region.free_spec hi hf) (by simpa using hr) hy hS (h (hS.set _))
/-- Taken first: a load, under condition number k. -/
theorem wpAnyL_load (k : Nat) {i d : Nat} {C : World → Prop} {oi : Oper} {v : Value} {fuel : Nat} {L : Array Bool} {a : Act} {w : World} (hk : cs[k]? = some (d, C)) (hi : ops[i]? = some oi)
    (hs : Region.noSelect ops = true) (hcl : closedB md ops L = true) (hf : Region.free md ops L i = true) (hr : (Region.ready md ops L).contains i = true) (hne : cs.all (fun c => c.1 != i) = true) (hanc : ancB md ops ops.size d i = true)
    (hQ : ∀ c a w, Q (.panic c) (a.put oi.dst v) w → Q (.panic c) a w) (hy : YieldsIf P ops C oi v a) (hS : HoldC cs L w)
    (h : HoldC cs (L.setIfInBounds i true) w → wpAnyL P md ops Q cs fuel (L.setIfInBounds i true) (a.put oi.dst v) w) : wpAnyL P md ops Q cs (fuel + 1) L a w :=
  wpAnyL_first hi (Region.noSelect_spec hs) hQ (fun L w h1 h2 h3 => h3 _ (List.mem_of_getElem? hk) (anc_open h1 h2 _ _ hanc)) (fun c hc => by simpa using List.all_eq_true.1 hne c hc) fuel L a w (closed_of hcl) (Region.free_spec hi hf) (by simpa using hr) hy hS (h (hS.set _))
theorem wpAnyL_done {L : Array Bool} {a : Act} {w : World} (hr : Region.ready md ops L = []) (h : Q .normal a w) : ∀ fuel, wpAnyL P md ops Q cs fuel L a w
  | 0 => ⟨hr, h⟩
  | _ + 1 => ⟨fun _ => h, by rw [hr]; simp⟩
def AllReadyL (P : Program) (md : Region.Mode) (ops : Array Oper) (Q : Exit → Act → World → Prop) (cs : List (Nat × (World → Prop))) (fuel : Nat) (L : Array Bool) (a : Act) (w : World) (rs : List Nat) : Prop :=
  ∀ i ∈ rs, wpOp P ops Q i (fun a' w' => HoldC cs (L.setIfInBounds i true) w' ∧ wpAnyL P md ops Q cs fuel (L.setIfInBounds i true) a' w') a w
theorem AllReadyL.nil {fuel : Nat} {L : Array Bool} {a : Act} {w : World} : AllReadyL P md ops Q cs fuel L a w [] := fun _ h => by cases h
theorem AllReadyL.cons {fuel : Nat} {L : Array Bool} {a : Act} {w : World} {i : Nat} {o : Oper} {rs : List Nat} (ho : ops[i]? = some o)
    (h : ∀ K' : Act → World → Prop, Shut (∀ a w, HoldC cs (L.setIfInBounds i true) w → (HoldC cs (L.setIfInBounds i true) w → wpAnyL P md ops Q cs fuel (L.setIfInBounds i true) a w) → K' a w) → if Region.wanted o (yielded ops a.tmps) = true then Oper.wp P o a w K' Q else K' (a.put o.dst undef) w)
    (hs : AllReadyL P md ops Q cs fuel L a w rs) : AllReadyL P md ops Q cs fuel L a w (i :: rs) := fun j hj => by
  rcases List.mem_cons.1 hj with rfl | hj
  · exact wpOp_step ho (fun K' hK => h K' (fun a w hS hW => hK a w ⟨hS, hW hS⟩))
  · exact hs j hj
theorem wpAnyL_ready {rs : List Nat} {fuel : Nat} {L : Array Bool} {a : Act} {w : World} (hr : Region.ready md ops L = rs) (hne : rs ≠ [])
    (h : AllReadyL P md ops Q cs fuel L a w rs) : wpAnyL P md ops Q cs (fuel + 1) L a w := ⟨fun h0 => absurd (hr ▸ h0) hne, hr ▸ h⟩
/-- The beginning. -/
theorem wp_region_L {id : Nat} {a : Act} {w : World} (cs : List (Nat × (World → Prop))) (hm : P.follows .mixedOrders = true) (hS : HoldC cs (Array.replicate ops.size false) w.drew)
    (h : HoldC cs (Array.replicate ops.size false) w.drew → wpAnyL P .any ops Q cs ops.size (Array.replicate ops.size false) a w.drew) : (Code.region id ops true).wp P Q a w :=
  wp_region_any hm (wpAny_of_L _ _ _ _ (h hS))
end
end Go.Proofs.Ytaophafailmhjaa.W

/- The file system as it is meant: row, sees. -/
namespace Go.Proofs.Ytaophafailmhjaa.W
open Go.RowKit
open Go.Proofs.Ytaophafailmhjaa.NM
set_option linter.unusedVariables false
set_option linter.unusedSimpArgs false

variable {X Y S : List Nat} {w0 w w' : World} {c : PC} {s : PS}
/-! ### row, sees -/
def RowPost (w : World) (z : K.TRow) (ok : Bool) (e : Ending) (w' : World) : Prop := e = .returned (.tuple #[.agg #[.int .i64 z.c, .int .i64 z.h, .int .i64 z.i, .bool z.b], .bool ok]) ∧ Chg [] w w'
def rowOk (o : Option K.TRow) (q : Bool) : Bool := match o with | some r => r.b || !q | none => false
def rowZ (o : Option K.TRow) : K.TRow := o.getD ⟨0, 0, 0, false⟩
theorem ofAns_row (o : Option K.TRow) : K.ofAns o = .tuple #[.agg #[.int .i64 (rowZ o).c, .int .i64 (rowZ o).h, .int .i64 (rowZ o).i, .bool (rowZ o).b], .bool o.isSome] := by cases o <;> rfl
theorem row4_heap {w : World} {b t : Nat} {a0 a1 a2 a3 u0 u1 u2 u3 : Value} (h : w.heap[b]? = some (.cells #[a0, a1, a2, a3] t (0, 0))) :
    ((((w.setCell ⟨b, 0, none⟩ u0).setCell ⟨b, 1, none⟩ u1).setCell ⟨b, 2, none⟩ u2).setCell ⟨b, 3, none⟩ u3).heap[b]? = some (.cells #[u0, u1, u2, u3] t (0, 0)) := set_blk (set_blk (set_blk (set_blk h)))
theorem row_cells {W : World} {g t : Nat} {a0 a1 a2 a3 : Value} (h : W.heap[g]? = some (.cells #[a0, a1, a2, a3] t (0, 0))) :
    (W.cell? ⟨g, 0, none⟩ = some a0 ∧ W.cell? ⟨g, 1, none⟩ = some a1 ∧ W.cell? ⟨g, 2, none⟩ = some a2 ∧ W.cell? ⟨g, 3, none⟩ = some a3) ∧ W.frozen? ⟨g, 0, none⟩ = false ∧ W.frozen? ⟨g, 1, none⟩ = false ∧ W.frozen? ⟨g, 2, none⟩ = false ∧ W.frozen? ⟨g, 3, none⟩ = false :=
  ⟨⟨blk_cell h 0 _ rfl, blk_cell h 1 _ rfl, blk_cell h 2 _ rfl, blk_cell h 3 _ rfl⟩, blk_frozen h 0, blk_frozen h 1, blk_frozen h 2, blk_frozen h 3⟩
set_option maxHeartbeats 4000000 in
set_option maxRecDepth 100000 in
theorem row_any (h : PAt X w0 w c S s) (a : Int) (o : Op) (v : Value) (q : Bool) : Calls Try.prog 48 #[.pointer (some ⟨c.p, 0, none⟩), .int .i64 a, opV o v, .bool q] w (RowPost w (rowZ (K.find s.K a o.h)) (rowOk (K.find s.K a o.h) q)) := by
  obtain ⟨w1, hw1⟩ : ∃ w1, w1 = (w.alloc (.cells (opC o v) 33)).alloc (.cells #[.int .i64 0, .int .i64 0, .int .i64 0, .bool false] 51) := ⟨_, rfl⟩
  have hc1 : Chg [] w w1 := by rw [hw1]; exact ((Chg.refl [] w).alloc _).alloc _
  have ho : w1.heap[w.heap.size]? = some (.cells (opC o v) 33 (0, 0)) := by rw [hw1]; exact blk_alloc (heap_alloc_new w _)
  have hr : w1.heap[w.heap.size + 1]? = some (.cells #[.int .i64 0, .int .i64 0, .int .i64 0, .bool false] 51 (0, 0)) := by rw [hw1]; exact heap_at2 _ _ _
  have HC1 := Lib.hid hc1
  have HR := Lib.hid hr
  have HO := Lib.hid ho
  have HP := Lib.hid (h.keep0 hc1)
  obtain ⟨_, p1, _, _, hp⟩ := (h.keep0 hc1).cells
  obtain ⟨_, _, _, o3, _, _, _, _⟩ := op_cells ho
  obtain ⟨z, hz⟩ : ∃ z, z = rowZ (K.find s.K a o.h) := ⟨_, rfl⟩
  obtain ⟨k, hk⟩ : ∃ k, k = (K.find s.K a o.h).isSome := ⟨_, rfl⟩
  have hok : rowOk (K.find s.K a o.h) q = (k && (z.b || !q)) := by rw [hk, hz]; unfold rowOk rowZ; cases K.find s.K a o.h <;> rfl
  rw [hok, ← hz]
  have CO : Hid (∀ (W : World), Chg [] w1 W → Calls Try.prog 65 #[.pointer (some ⟨c.k, 0, none⟩), .int .i64 a, .int .i64 o.h] W fun e w' => e = .returned (.tuple #[.agg #[.int .i64 z.c, .int .i64 z.h, .int .i64 z.i, .bool z.b], .bool k]) ∧ Chg [] W w') := Lib.hid (fun W hW => by
    obtain ⟨St, Sk, f, o', Nf, No, g1, g2, g3, g4⟩ := (h.keep0 hc1).keep0 hW
    have := kof_any g1.toks a o.h
    rw [ofAns_row, ← hz, ← hk] at this
    exact this)
  have HW1 := Lib.hid hw1
  clear hok hz hk h hc1 ho hr hw1
  unfold opV opC at *
  obtain ⟨zc, zh, zi, zb⟩ := z
  simp only at CO
  go_enter Try.func48, Try.ntmps48
  go_wp2
  rw [← HW1.out]
  refine wp_region_L [(7, fun w' => w'.cell? ⟨c.p, 1, none⟩ = some (.pointer (some ⟨c.k, 0, none⟩))), (7, fun w' => w'.cell? ⟨w.heap.size, 3, none⟩ = some (.int .i64 o.h))] (by kernel_rfl) ?_ (fun hHeld => ?_)
  · exact (HoldC.cons (p1) (HoldC.cons (o3) HoldC.nil))
  refine wpAnyL_take (i := 0) (oi := _) (v := ?_) rfl (by kernel_rfl) (by kernel_rfl) (by kernel_rfl) (by kernel_rfl) (by kernel_rfl) (fun _ _ _ h => h) (Or.inl ⟨by rfl, ?_⟩) (by assumption) (fun hNew => ?_)
  rotate_left
  · intro w _
    go_simp
    try with_reducible rfl
  clear hHeld
  have hHeld := hNew
  clear hNew
  try simp only [List.getElem_toArray, List.getElem_cons_succ, List.getElem_cons_zero, Act.put, List.setIfInBounds_toArray, List.set_cons_zero, List.set_cons_succ]
  refine wpAnyL_take (i := 1) (oi := _) (v := ?_) rfl (by kernel_rfl) (by kernel_rfl) (by kernel_rfl) (by kernel_rfl) (by kernel_rfl) (fun _ _ _ h => h) (Or.inl ⟨by rfl, ?_⟩) (by assumption) (fun hNew => ?_)
  rotate_left
  · intro w _
    go_simp
    try with_reducible rfl
  clear hHeld
  have hHeld := hNew
  clear hNew
  try simp only [List.getElem_toArray, List.getElem_cons_succ, List.getElem_cons_zero, Act.put, List.setIfInBounds_toArray, List.set_cons_zero, List.set_cons_succ]
  refine wpAnyL_take (i := 2) (oi := _) (v := ?_) rfl (by kernel_rfl) (by kernel_rfl) (by kernel_rfl) (by kernel_rfl) (by kernel_rfl) (fun _ _ _ h => h) (Or.inl ⟨by rfl, ?_⟩) (by assumption) (fun hNew => ?_)
  rotate_left
  · intro w _
    go_simp
    try with_reducible rfl
  clear hHeld
  have hHeld := hNew
  clear hNew
  try simp only [List.getElem_toArray, List.getElem_cons_succ, List.getElem_cons_zero, Act.put, List.setIfInBounds_toArray, List.set_cons_zero, List.set_cons_succ]
  refine wpAnyL_load 0 (i := 3) (oi := _) (v := ?_) rfl rfl (by kernel_rfl) (by kernel_rfl) (by kernel_rfl) (by kernel_rfl) (by kernel_rfl) (by kernel_rfl) (fun _ _ _ h => h) (Or.inl ⟨by rfl, ?_⟩) (by assumption) (fun hNew => ?_)
  rotate_left
  · intro w hSw
    (try dsimp only at hSw)
    go_simp
    try with_reducible rfl
  clear hHeld
  have hHeld := hNew
  clear hNew
  try simp only [List.getElem_toArray, List.getElem_cons_succ, List.getElem_cons_zero, Act.put, List.setIfInBounds_toArray, List.set_cons_zero, List.set_cons_succ]
  refine wpAnyL_take (i := 4) (oi := _) (v := ?_) rfl (by kernel_rfl) (by kernel_rfl) (by kernel_rfl) (by kernel_rfl) (by kernel_rfl) (fun _ _ _ h => h) (Or.inl ⟨by rfl, ?_⟩) (by assumption) (fun hNew => ?_)
  rotate_left
  · intro w _
    go_simp
    try with_reducible rfl
  clear hHeld
  have hHeld := hNew
  clear hNew
  try simp only [List.getElem_toArray, List.getElem_cons_succ, List.getElem_cons_zero, Act.put, List.setIfInBounds_toArray, List.set_cons_zero, List.set_cons_succ]
  refine wpAnyL_take (i := 5) (oi := _) (v := ?_) rfl (by kernel_rfl) (by kernel_rfl) (by kernel_rfl) (by kernel_rfl) (by kernel_rfl) (fun _ _ _ h => h) (Or.inl ⟨by rfl, ?_⟩) (by assumption) (fun hNew => ?_)
  rotate_left
  · intro w _
    go_simp
    try with_reducible rfl
  clear hHeld
  have hHeld := hNew
  clear hNew
  try simp only [List.getElem_toArray, List.getElem_cons_succ, List.getElem_cons_zero, Act.put, List.setIfInBounds_toArray, List.set_cons_zero, List.set_cons_succ]
  refine wpAnyL_load 1 (i := 6) (oi := _) (v := ?_) rfl rfl (by kernel_rfl) (by kernel_rfl) (by kernel_rfl) (by kernel_rfl) (by kernel_rfl) (by kernel_rfl) (fun _ _ _ h => h) (Or.inl ⟨by rfl, ?_⟩) (by assumption) (fun hNew => ?_)
  rotate_left
  · intro w hSw
    (try dsimp only at hSw)
    go_simp
    try with_reducible rfl
  clear hHeld
  have hHeld := hNew
  clear hNew
  try simp only [List.getElem_toArray, List.getElem_cons_succ, List.getElem_cons_zero, Act.put, List.setIfInBounds_toArray, List.set_cons_zero, List.set_cons_succ]
  refine wpAnyL_ready (rs := [7, 11]) (by kernel_rfl) (by simp) ?_
  refine AllReadyL.cons (o := _) rfl (fun K hK => ?_) (AllReadyL.cons (o := _) rfl (fun K hK => ?_) AllReadyL.nil)
  · try simp only [List.getElem_toArray, List.getElem_cons_succ, List.getElem_cons_zero]
    go_simp
    refine (CO.out _ ((Chg.refl [] w1).drew)).mono ?_
    rintro e w2 ⟨rfl, hc2⟩
    have hc12 : Chg [] w1 w2 := ((Chg.refl [] w1).drew).trans hc2 (by simp)
    have HR2 := Lib.hid (hc12.keep HR.out (by simp))
    have HC2 := Lib.hid (HC1.out.trans hc12 (by simp))
    obtain ⟨⟨r0, r1, r2, r3⟩, f0, f1, f2, f3⟩ := row_cells HR2.out
    have hs2 : w.heap.size + 1 < w2.heap.size := blk_lt HR2.out
    clear hc2 hc12
    clear hHeld
    refine hK.out _ _ ?_ (fun hHeld => ?_)
    · exact (HoldC.past (by kernel_rfl) (HoldC.past (by kernel_rfl) HoldC.nil))
    clear hK K
    try simp only [List.getElem_toArray, List.getElem_cons_succ, List.getElem_cons_zero, Act.put, List.setIfInBounds_toArray, List.set_cons_zero, List.set_cons_succ]
    refine wpAnyL_take (i := 8) (oi := _) (v := ?_) rfl (by kernel_rfl) (by kernel_rfl) (by kernel_rfl) (by kernel_rfl) (by kernel_rfl) (fun _ _ _ h => h) (Or.inl ⟨by rfl, ?_⟩) (by assumption) (fun hNew => ?_)
    rotate_left
    · intro w _
      go_simp
      try with_reducible rfl
    clear hHeld
    have hHeld := hNew
    clear hNew
    try simp only [List.getElem_toArray, List.getElem_cons_succ, List.getElem_cons_zero, Act.put, List.setIfInBounds_toArray, List.set_cons_zero, List.set_cons_succ]
    refine wpAnyL_take (i := 9) (oi := _) (v := ?_) rfl (by kernel_rfl) (by kernel_rfl) (by kernel_rfl) (by kernel_rfl) (by kernel_rfl) (fun _ _ _ h => h) (Or.inl ⟨by rfl, ?_⟩) (by assumption) (fun hNew => ?_)
    rotate_left
    · intro w _
      go_simp
      try with_reducible rfl
    clear hHeld
    have hHeld := hNew
    clear hNew
    try simp only [List.getElem_toArray, List.getElem_cons_succ, List.getElem_cons_zero, Act.put, List.setIfInBounds_toArray, List.set_cons_zero, List.set_cons_succ]
    refine wpAnyL_take (i := 10) (oi := _) (v := ?_) rfl (by kernel_rfl) (by kernel_rfl) (by kernel_rfl) (by kernel_rfl) (by kernel_rfl) (fun _ _ _ h => h) (Or.inl ⟨by rfl, ?_⟩) (by assumption) (fun hNew => ?_)
    rotate_left
    · intro w _
      go_simp
      try with_reducible rfl
    clear hHeld
    have hHeld := hNew
    clear hNew
    try simp only [List.getElem_toArray, List.getElem_cons_succ, List.getElem_cons_zero, Act.put, List.setIfInBounds_toArray, List.set_cons_zero, List.set_cons_succ]
    refine wpAnyL_ready (rs := [11]) (by kernel_rfl) (by simp) ?_
    refine AllReadyL.cons (o := _) rfl (fun K hK => ?_) AllReadyL.nil
    try simp only [List.getElem_toArray, List.getElem_cons_succ, List.getElem_cons_zero]
    go_simp
    clear hHeld
    refine hK.out _ _ ?_ (fun hHeld => ?_)
    · exact (HoldC.past (by kernel_rfl) (HoldC.past (by kernel_rfl) HoldC.nil))
    clear hK K
    try simp only [List.getElem_toArray, List.getElem_cons_succ, List.getElem_cons_zero, Act.put, List.setIfInBounds_toArray, List.set_cons_zero, List.set_cons_succ]
    refine wpAnyL_ready (rs := [12]) (by kernel_rfl) (by simp) ?_
    refine AllReadyL.cons (o := _) rfl (fun K hK => ?_) AllReadyL.nil
    try simp only [List.getElem_toArray, List.getElem_cons_succ, List.getElem_cons_zero]
    go_simp
    clear hHeld
    refine hK.out _ _ ?_ (fun hHeld => ?_)
    · exact (HoldC.past (by kernel_rfl) (HoldC.past (by kernel_rfl) HoldC.nil))
    clear hK K
    try simp only [List.getElem_toArray, List.getElem_cons_succ, List.getElem_cons_zero, Act.put, List.setIfInBounds_toArray, List.set_cons_zero, List.set_cons_succ]
    refine wpAnyL_take (i := 13) (oi := _) (v := ?_) rfl (by kernel_rfl) (by kernel_rfl) (by kernel_rfl) (by kernel_rfl) (by kernel_rfl) (fun _ _ _ h => h) (Or.inl ⟨by rfl, ?_⟩) (by assumption) (fun hNew => ?_)
    rotate_left
    · intro w _
      go_simp
      try with_reducible rfl
    clear hHeld
    have hHeld := hNew
    clear hNew
    try simp only [List.getElem_toArray, List.getElem_cons_succ, List.getElem_cons_zero, Act.put, List.setIfInBounds_toArray, List.set_cons_zero, List.set_cons_succ]
    refine wpAnyL_done (by kernel_rfl) ?_ _
    clear hHeld
    cases k
    all_goals cases zb
    all_goals cases q
    all_goals
      go_wp2
      first
        | (obtain ⟨⟨d0, d1, d2, d3⟩, _⟩ := row_cells (blk_alloc (o' := .cells #[.int .i64 zc, .int .i64 zh, .int .i64 zi, .bool false] 51) (row4_heap (u0 := .int .i64 zc) (u1 := .int .i64 zh) (u2 := .int .i64 zi) (u3 := .bool false) HR2.out)); exact bodyPost_ret (v := .tuple #[.agg #[.int .i64 zc, .int .i64 zh, .int .i64 zi, .bool false], .bool false]) (by simp [results, Try.results48, go_sem, d0, d1, d2, d3]) rfl ⟨rfl, ((((HC2.out.setCell (.inr (by simp)) _).setCell (.inr (by simp)) _).setCell (.inr (by simp)) _).setCell (.inr (by simp)) _).alloc _⟩)
        | (obtain ⟨⟨d0, d1, d2, d3⟩, _⟩ := row_cells (blk_alloc (o' := .cells #[.int .i64 zc, .int .i64 zh, .int .i64 zi, .bool false] 51) (row4_heap (u0 := .int .i64 zc) (u1 := .int .i64 zh) (u2 := .int .i64 zi) (u3 := .bool false) HR2.out)); exact bodyPost_ret (v := .tuple #[.agg #[.int .i64 zc, .int .i64 zh, .int .i64 zi, .bool false], .bool true]) (by simp [results, Try.results48, go_sem, d0, d1, d2, d3]) rfl ⟨rfl, ((((HC2.out.setCell (.inr (by simp)) _).setCell (.inr (by simp)) _).setCell (.inr (by simp)) _).setCell (.inr (by simp)) _).alloc _⟩)
        | (obtain ⟨⟨d0, d1, d2, d3⟩, _⟩ := row_cells (blk_alloc (o' := .cells #[.int .i64 zc, .int .i64 zh, .int .i64 zi, .bool true] 51) (row4_heap (u0 := .int .i64 zc) (u1 := .int .i64 zh) (u2 := .int .i64 zi) (u3 := .bool true) HR2.out)); exact bodyPost_ret (v := .tuple #[.agg #[.int .i64 zc, .int .i64 zh, .int .i64 zi, .bool true], .bool false]) (by simp [results, Try.results48, go_sem, d0, d1, d2, d3]) rfl ⟨rfl, ((((HC2.out.setCell (.inr (by simp)) _).setCell (.inr (by simp)) _).setCell (.inr (by simp)) _).setCell (.inr (by simp)) _).alloc _⟩)
        | (obtain ⟨⟨d0, d1, d2, d3⟩, _⟩ := row_cells (blk_alloc (o' := .cells #[.int .i64 zc, .int .i64 zh, .int .i64 zi, .bool true] 51) (row4_heap (u0 := .int .i64 zc) (u1 := .int .i64 zh) (u2 := .int .i64 zi) (u3 := .bool true) HR2.out)); exact bodyPost_ret (v := .tuple #[.agg #[.int .i64 zc, .int .i64 zh, .int .i64 zi, .bool true], .bool true]) (by simp [results, Try.results48, go_sem, d0, d1, d2, d3]) rfl ⟨rfl, ((((HC2.out.setCell (.inr (by simp)) _).setCell (.inr (by simp)) _).setCell (.inr (by simp)) _).setCell (.inr (by simp)) _).alloc _⟩)
  · try simp only [List.getElem_toArray, List.getElem_cons_succ, List.getElem_cons_zero]
    go_simp
    have p1' : (w1.drew.alloc (.cells #[.int .i64 0, .int .i64 0, .int .i64 0, .bool false] 51)).cell? ⟨c.p, 1, none⟩ = some (.pointer (some ⟨c.k, 0, none⟩)) := (Chg.alloc ((Chg.refl [] w1).drew) _).cell p1 (by simp)
    have o3' : (w1.drew.alloc (.cells #[.int .i64 0, .int .i64 0, .int .i64 0, .bool false] 51)).cell? ⟨w.heap.size, 3, none⟩ = some (.int .i64 o.h) := (Chg.alloc ((Chg.refl [] w1).drew) _).cell o3 (by simp)
    clear hHeld
    refine hK.out _ _ ?_ (fun hHeld => ?_)
    · exact (HoldC.cons (p1') (HoldC.cons (o3') HoldC.nil))
    clear hK K
    try simp only [List.getElem_toArray, List.getElem_cons_succ, List.getElem_cons_zero, Act.put, List.setIfInBounds_toArray, List.set_cons_zero, List.set_cons_succ]
    refine wpAnyL_ready (rs := [7]) (by kernel_rfl) (by simp) ?_
    refine AllReadyL.cons (o := _) rfl (fun K hK => ?_) AllReadyL.nil
    try simp only [List.getElem_toArray, List.getElem_cons_succ, List.getElem_cons_zero]
    go_simp
    refine (CO.out _ (Chg.alloc ((Chg.refl [] w1).drew) _)).mono ?_
    rintro e w2 ⟨rfl, hc2⟩
    have hn : (w1.drew.alloc (.cells #[.int .i64 0, .int .i64 0, .int .i64 0, .bool false] 51)).heap[w1.heap.size]? = some (.cells #[.int .i64 0, .int .i64 0, .int .i64 0, .bool false] 51 (0, 0)) := heap_alloc_new w1.drew _
    have HN2 := Lib.hid (hc2.keep hn (by simp))
    have hc12 : Chg [] w1 w2 := (Chg.alloc ((Chg.refl [] w1).drew) _).trans hc2 (by simp)
    have HR2 := Lib.hid (hc12.keep HR.out (by simp))
    have HC2 := Lib.hid (HC1.out.trans hc12 (by simp))
    obtain ⟨⟨r0, r1, r2, r3⟩, f0, f1, f2, f3⟩ := row_cells HR2.out
    obtain ⟨⟨n0, n1, n2, n3⟩, m0, m1, m2, m3⟩ := row_cells HN2.out
    have hs2 : w.heap.size + 1 < w2.heap.size := blk_lt HR2.out
    have hs3 : w1.heap.size < w2.heap.size := blk_lt HN2.out
    have hs4 : w.heap.size + 1 < w1.heap.size := blk_lt HR.out
    have hs5 : ¬ (w.heap.size + 1 = w1.heap.size) := by omega
    clear hc2 hc12 hn
    clear hHeld
    refine hK.out _ _ ?_ (fun hHeld => ?_)
    · exact (HoldC.past (by kernel_rfl) (HoldC.past (by kernel_rfl) HoldC.nil))
    clear hK K
    try simp only [List.getElem_toArray, List.getElem_cons_succ, List.getElem_cons_zero, Act.put, List.setIfInBounds_toArray, List.set_cons_zero, List.set_cons_succ]
    refine wpAnyL_take (i := 8) (oi := _) (v := ?_) rfl (by kernel_rfl) (by kernel_rfl) (by kernel_rfl) (by kernel_rfl) (by kernel_rfl) (fun _ _ _ h => h) (Or.inl ⟨by rfl, ?_⟩) (by assumption) (fun hNew => ?_)
    rotate_left
    · intro w _
      go_simp
      try with_reducible rfl
    clear hHeld
    have hHeld := hNew
    clear hNew
    try simp only [List.getElem_toArray, List.getElem_cons_succ, List.getElem_cons_zero, Act.put, List.setIfInBounds_toArray, List.set_cons_zero, List.set_cons_succ]
    refine wpAnyL_take (i := 9) (oi := _) (v := ?_) rfl (by kernel_rfl) (by kernel_rfl) (by kernel_rfl) (by kernel_rfl) (by kernel_rfl) (fun _ _ _ h => h) (Or.inl ⟨by rfl, ?_⟩) (by assumption) (fun hNew => ?_)
    rotate_left
    · intro w _
      go_simp
      try with_reducible rfl
    clear hHeld
    have hHeld := hNew
    clear hNew
    try simp only [List.getElem_toArray, List.getElem_cons_succ, List.getElem_cons_zero, Act.put, List.setIfInBounds_toArray, List.set_cons_zero, List.set_cons_succ]
    refine wpAnyL_take (i := 10) (oi := _) (v := ?_) rfl (by kernel_rfl) (by kernel_rfl) (by kernel_rfl) (by kernel_rfl) (by kernel_rfl) (fun _ _ _ h => h) (Or.inl ⟨by rfl, ?_⟩) (by assumption) (fun hNew => ?_)
    rotate_left
    · intro w _
      go_simp
      try with_reducible rfl
    clear hHeld
    have hHeld := hNew
    clear hNew
    try simp only [List.getElem_toArray, List.getElem_cons_succ, List.getElem_cons_zero, Act.put, List.setIfInBounds_toArray, List.set_cons_zero, List.set_cons_succ]
    refine wpAnyL_ready (rs := [12]) (by kernel_rfl) (by simp) ?_
    refine AllReadyL.cons (o := _) rfl (fun K hK => ?_) AllReadyL.nil
    try simp only [List.getElem_toArray, List.getElem_cons_succ, List.getElem_cons_zero]
    go_simp
    clear hHeld
    refine hK.out _ _ ?_ (fun hHeld => ?_)
    · exact (HoldC.past (by kernel_rfl) (HoldC.past (by kernel_rfl) HoldC.nil))
    clear hK K
    try simp only [List.getElem_toArray, List.getElem_cons_succ, List.getElem_cons_zero, Act.put, List.setIfInBounds_toArray, List.set_cons_zero, List.set_cons_succ]
    refine wpAnyL_take (i := 13) (oi := _) (v := ?_) rfl (by kernel_rfl) (by kernel_rfl) (by kernel_rfl) (by kernel_rfl) (by kernel_rfl) (fun _ _ _ h => h) (Or.inl ⟨by rfl, ?_⟩) (by assumption) (fun hNew => ?_)
    rotate_left
    · intro w _
      go_simp
      try with_reducible rfl
    clear hHeld
    have hHeld := hNew
    clear hNew
    try simp only [List.getElem_toArray, List.getElem_cons_succ, List.getElem_cons_zero, Act.put, List.setIfInBounds_toArray, List.set_cons_zero, List.set_cons_succ]
    refine wpAnyL_done (by kernel_rfl) ?_ _
    clear hHeld
    cases k
    all_goals cases zb
    all_goals cases q
    all_goals
      go_wp2
      first
        | (obtain ⟨⟨d0, d1, d2, d3⟩, _⟩ := row_cells (row4_heap (w := (((w2.setCell ⟨w1.heap.size, 0, none⟩ (.int .i64 zc)).setCell ⟨w1.heap.size, 1, none⟩ (.int .i64 zh)).setCell ⟨w1.heap.size, 2, none⟩ (.int .i64 zi)).setCell ⟨w1.heap.size, 3, none⟩ (.bool false)) (u0 := .int .i64 zc) (u1 := .int .i64 zh) (u2 := .int .i64 zi) (u3 := .bool false) (blk_sets (blk_sets (blk_sets (blk_sets HR2.out hs5) hs5) hs5) hs5)); exact bodyPost_ret (v := .tuple #[.agg #[.int .i64 zc, .int .i64 zh, .int .i64 zi, .bool false], .bool false]) (by simp [results, Try.results48, go_sem, d0, d1, d2, d3]) rfl ⟨rfl, (((((((HC2.out.setCell (.inr (by simp; omega)) _).setCell (.inr (by simp; omega)) _).setCell (.inr (by simp; omega)) _).setCell (.inr (by simp; omega)) _).setCell (.inr (by simp)) _).setCell (.inr (by simp)) _).setCell (.inr (by simp)) _).setCell (.inr (by simp)) _⟩)
        | (obtain ⟨⟨d0, d1, d2, d3⟩, _⟩ := row_cells (row4_heap (w := (((w2.setCell ⟨w1.heap.size, 0, none⟩ (.int .i64 zc)).setCell ⟨w1.heap.size, 1, none⟩ (.int .i64 zh)).setCell ⟨w1.heap.size, 2, none⟩ (.int .i64 zi)).setCell ⟨w1.heap.size, 3, none⟩ (.bool false)) (u0 := .int .i64 zc) (u1 := .int .i64 zh) (u2 := .int .i64 zi) (u3 := .bool false) (blk_sets (blk_sets (blk_sets (blk_sets HR2.out hs5) hs5) hs5) hs5)); exact bodyPost_ret (v := .tuple #[.agg #[.int .i64 zc, .int .i64 zh, .int .i64 zi, .bool false], .bool true]) (by simp [results, Try.results48, go_sem, d0, d1, d2, d3]) rfl ⟨rfl, (((((((HC2.out.setCell (.inr (by simp; omega)) _).setCell (.inr (by simp; omega)) _).setCell (.inr (by simp; omega)) _).setCell (.inr (by simp; omega)) _).setCell (.inr (by simp)) _).setCell (.inr (by simp)) _).setCell (.inr (by simp)) _).setCell (.inr (by simp)) _⟩)
        | (obtain ⟨⟨d0, d1, d2, d3⟩, _⟩ := row_cells (row4_heap (w := (((w2.setCell ⟨w1.heap.size, 0, none⟩ (.int .i64 zc)).setCell ⟨w1.heap.size, 1, none⟩ (.int .i64 zh)).setCell ⟨w1.heap.size, 2, none⟩ (.int .i64 zi)).setCell ⟨w1.heap.size, 3, none⟩ (.bool true)) (u0 := .int .i64 zc) (u1 := .int .i64 zh) (u2 := .int .i64 zi) (u3 := .bool true) (blk_sets (blk_sets (blk_sets (blk_sets HR2.out hs5) hs5) hs5) hs5)); exact bodyPost_ret (v := .tuple #[.agg #[.int .i64 zc, .int .i64 zh, .int .i64 zi, .bool true], .bool false]) (by simp [results, Try.results48, go_sem, d0, d1, d2, d3]) rfl ⟨rfl, (((((((HC2.out.setCell (.inr (by simp; omega)) _).setCell (.inr (by simp; omega)) _).setCell (.inr (by simp; omega)) _).setCell (.inr (by simp; omega)) _).setCell (.inr (by simp)) _).setCell (.inr (by simp)) _).setCell (.inr (by simp)) _).setCell (.inr (by simp)) _⟩)
        | (obtain ⟨⟨d0, d1, d2, d3⟩, _⟩ := row_cells (row4_heap (w := (((w2.setCell ⟨w1.heap.size, 0, none⟩ (.int .i64 zc)).setCell ⟨w1.heap.size, 1, none⟩ (.int .i64 zh)).setCell ⟨w1.heap.size, 2, none⟩ (.int .i64 zi)).setCell ⟨w1.heap.size, 3, none⟩ (.bool true)) (u0 := .int .i64 zc) (u1 := .int .i64 zh) (u2 := .int .i64 zi) (u3 := .bool true) (blk_sets (blk_sets (blk_sets (blk_sets HR2.out hs5) hs5) hs5) hs5)); exact bodyPost_ret (v := .tuple #[.agg #[.int .i64 zc, .int .i64 zh, .int .i64 zi, .bool true], .bool true]) (by simp [results, Try.results48, go_sem, d0, d1, d2, d3]) rfl ⟨rfl, (((((((HC2.out.setCell (.inr (by simp; omega)) _).setCell (.inr (by simp; omega)) _).setCell (.inr (by simp; omega)) _).setCell (.inr (by simp; omega)) _).setCell (.inr (by simp)) _).setCell (.inr (by simp)) _).setCell (.inr (by simp)) _).setCell (.inr (by simp)) _⟩)
theorem okI_of {x : Int} (h1 : 0 ≤ x) (h2 : x ≤ 1000000) : okI x := i64_ok (by omega) (by omega)
theorem okP_of {a n : Int} (h1 : 0 ≤ a) (h2 : a ≤ 1000000) (h3 : 0 ≤ n) (h4 : n ≤ 1000000) : okP (a, n) := ⟨i64_ok (by omega) (by omega), i64_ok (by omega) (by omega)⟩
def SeesPost (w : World) (l : List UInt8) (e : Ending) (w' : World) : Prop := ∃ v, e = .returned v ∧ BytesAt w' v l ∧ (l ≠ [] → ∀ g, v.ownBlock = some g → g < w'.heap.size) ∧ Chg [] w w'
set_option maxHeartbeats 4000000 in
set_option maxRecDepth 100000 in
theorem sees_any (h : PAt X w0 w c S s) (hI : PInv s) (r : K.TRow) (hr : r ∈ s.K) : Calls Try.prog 49 #[.pointer (some ⟨c.p, 0, none⟩), .agg #[.int .i64 r.c, .int .i64 r.h, .int .i64 r.i, .bool r.b]] w (SeesPost w (psSees s r)) := by
  have hc : Chg [] w (w.alloc (.cells #[.int .i64 r.c, .int .i64 r.h, .int .i64 r.i, .bool r.b] 51)) := (Chg.refl [] w).alloc _
  have h1 := h.keep0 hc
  have hg := hI.good.rng r hr
  have hi := hI.ino (hI.rows r hr)
  obtain ⟨p0, p1, p2, p3, p4⟩ := h1.cells
  have HC := Lib.hid hc
  obtain ⟨rc, rh, ri, rb⟩ := r
  simp only at hg hi
  cases rb with
  | true =>
    obtain ⟨v, hv, hb, hl⟩ := h1.olook (y := (rc, rh)) (okP_of hg.1 (by omega) hg.2.2.1 (by omega))
    have hs : psSees s ⟨rc, rh, ri, true⟩ = ofO (s.O (rc, rh)) := by unfold psSees; rw [if_pos rfl]
    rw [hs]
    have HV := Lib.hid (And.intro hb hl)
    clear hs hb hl h h1 hI hr hg hi hc
    go_enter Try.func49, Try.ntmps49
    go_wp2
    go_quiet (fail)
    go_wp2
    go_ret
    exact ⟨v, rfl, HV.out.1.chg0 (Chg.drewN (Chg.refl [] _) _), fun hl g hg => HV.out.2 hl g hg, HC.out.drewN _⟩
  | false =>
    obtain ⟨v, hv, _, hb, hl⟩ := h1.flook (y := ri) (okI_of (by omega) (by omega))
    have hs : psSees s ⟨rc, rh, ri, false⟩ = ofO (s.F ri) := by unfold psSees; rw [if_neg (by simp)]
    rw [hs]
    have HV := Lib.hid (And.intro hb hl)
    clear hs hb hl h h1 hI hr hg hi hc
    go_enter Try.func49, Try.ntmps49
    go_wp2
    go_quiet (fail)
    go_wp2
    go_ret
    exact ⟨v, rfl, HV.out.1.chg0 (Chg.drewN (Chg.refl [] _) _), fun hl g hg => HV.out.2 hl g hg, HC.out.drewN _⟩
end Go.Proofs.Ytaophafailmhjaa.W
