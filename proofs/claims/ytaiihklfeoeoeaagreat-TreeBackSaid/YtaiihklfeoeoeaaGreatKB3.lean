/- Texts laid together. -/
import Derived.Test.YtaiihklfeoeoeaaGreatKB2
import Derived.Deep.CutBlock
import Derived.Deep.DeepCutAuto
import Derived.Test.YtaiihklfeoeoeaaGreatKB1
import Derived.Deep.RegionHeld
import Derived.Defers
import Derived.Recover
import Derived.RegionTactic
import Derived.ChangeAlike
import Derived.Laws.BitsLemmas
import Derived.Laws.BitsAllLaws
import Derived.IntWalk
import Derived.Shelf.Abstract
/- The reference's Make. -/
namespace Go.Proofs.YtaiihklfeoeoeaaGreat.W
open Go.RowKit
open Go.Proofs.YtaiihklfeoeoeaaGreat.NM
set_option linter.unusedVariables false
set_option linter.unusedSimpArgs false

theorem wpList_app2 {P : Program} {w : World} {ops : Array Oper} {rest : List Oper} {o : Oper} {a : Act} {Q : Exit → Act → World → Prop} (hgd : o.guard = none) (s x : Operand) (t : TypeId)
    (ho : o.op = .call { callee := .builtin .append, args := #[s, x], argTypes := #[t, t] })
    (base : Nat) {e : TypeId} {z : Value} {size bytes : Nat} (hE : El P t e z size bytes)
    (v : Value) (n : Nat) (xs : List Value) (hs : a.eval s = v) (hown : w.ownsRow base e size v n xs) (H : Nat) (hH : w.heap.size = H)
    (c : Nat) (news : Array Value) (hx : a.eval x = .slice (some ⟨H, 0, none⟩) 1 c) (hl : news.size = size) (h1 : ∀ u ∈ news.toList, u.oneCell' = true)
    (h63 : n + 1 ≤ maxLen) (hbytes : (n + 1) * bytes ≤ 140737488355328) (hbase : base ≤ w.heap.size)
    (h : ∀ v' w', w'.ownsRow base e size v' (n + 1) (xs ++ news.toList) → w.grownBy w' v.ownBlock → wpList P ops Q rest (a.put o.dst v') w') : wpList P ops Q (o :: rest) a (w.alloc (.cells news e)) := by
  subst hH
  exact wpList_app1 hgd s x t ho base hE v n xs hs hown c news hx hl h1 h63 hbytes hbase h
theorem elTh : El Tryz.prog 28 75 (.agg #[.int .i64 0, .int .i64 0, .string ByteArray.empty, .bool false]) 4 40 := El.mk Tryz.underlying28 (by kernel_rfl) rfl (by decide)
theorem thA_one (x : Th) : ∀ u ∈ ((thE x).toArray).toList, u.oneCell' = true := by simpa using thE_one x

/-- What doing with the reference's tree leaves. -/
def RDid (w w' : World) (b : Nat) (v : Value) (base : Nat) (T : PT) : Prop := ∃ v', RTOk w' b v' base T ∧ (v' = v ∨ ∀ g, v'.ownBlock = some g → w.heap.size ≤ g) ∧ Chg [b] w w'
theorem RDid.same {w w' : World} {b base : Nat} {v : Value} {T : PT} (h : RTOk w b v base T) (hc : Chg [] w w') : RDid w w' b v base T := ⟨v, h.keep0 hc, .inl rfl, hc.mono (by simp)⟩
theorem RDid.put {w wr : World} {b base : Nat} {v v5 : Value} {T U : PT} (h : RTOk w b v base T) (hB : Chg [] w wr) (hO : wr.ownsRow w.heap.size 75 4 v5 U.length (thEs U)) (hb0 : base ≤ w.heap.size) (hok : TOk U) : RDid w (wr.setCell ⟨b, 0, none⟩ v5) b v base U := by
  have hbl := h.lt
  have hb : wr.heap[b]? = some (.cells #[v] 30 (0, 0)) := hB.keep h.head (by simp)
  have hap : v5.ownBlock ≠ some b := fun e => by have := (World.ownsRow.lt hO b e).1; omega
  refine ⟨v5, ⟨?_, row_base (row_keep hO (fun g hg => Below.heap_setCell _ _ _ g (fun e => hap (by rw [hg, e])))) base (fun g hg => Nat.le_trans hb0 (World.ownsRow.lt hO g hg).1), hap, hok⟩, .inr (fun g hg => (World.ownsRow.lt hO g hg).1), (hB.mono (by simp)).setCell (.inl (by simp)) _⟩
  rw [set_blk hb]; rfl
def RMakePost (w : World) (b : Nat) (v : Value) (base : Nat) (r : (Nat × Int) × PT) (e : Ending) (w' : World) : Prop := e = .returned (.tuple #[.int .i64 (r.1.1 : Int), .int .i64 r.1.2]) ∧ RDid w w' b v base r.2
theorem split_root {s : List UInt8} (h : s ≠ [47]) : splitB s ≠ some [] := by
  intro e
  have := (split_some e).2.2
  exact h (by rw [← this]; rfl)
theorem make_tok {T : PT} (h : TOk T) {a : Nat} {la : List UInt8} {d : Bool} (hd : tIsDir T a = true) (hm : mayB la = true) (hk : tKid T a la = 0) (hl : ¬ 128 ≤ T.length + 1) : TOk (tIns ⟨tLeast 2 T, a, la, d⟩ T) := by
  have h1 := least_ge T 2
  have h2 := least_le T 2
  exact h.ins (y := ⟨tLeast 2 T, a, la, d⟩) (least_free T 2 h.rise (fun x hx => (h.nums x hx).1)) ⟨h1, by simp only; omega⟩ hd ((kid_zero h).1 hk) hm

/-- The tree under way: what has been put, and whether the new one was. -/
def insUp (y : Th) (T : PT) (k : Nat) (p : Bool) (acc : PT) : Prop := tIns y T = acc ++ (if p then T.drop k else tIns y (T.drop k)) ∧ acc.length = k + if p then 1 else 0
theorem insUp_zero (y : Th) (T : PT) : insUp y T 0 false [] := ⟨by simp, rfl⟩
theorem insUp_on {y : Th} {T : PT} {k : Nat} {acc : PT} {x : Th} (h : insUp y T k true acc) (hx : T[k]? = some x) : insUp y T (k + 1) true (acc ++ [x]) := by
  obtain ⟨h1, h2⟩ := h
  refine ⟨?_, by simp at h2 ⊢; omega⟩
  rw [h1, drop_at hx]; simp
theorem insUp_no {y : Th} {T : PT} {k : Nat} {acc : PT} {x : Th} (h : insUp y T k false acc) (hx : T[k]? = some x) (hn : ¬ y.ino < x.ino) : insUp y T (k + 1) false (acc ++ [x]) := by
  obtain ⟨h1, h2⟩ := h
  refine ⟨?_, by simp at h2 ⊢; omega⟩
  rw [h1, drop_at hx]
  simp only [Bool.false_eq_true, if_false]
  show acc ++ tIns y (x :: T.drop (k + 1)) = _
  rw [tIns, if_neg hn]; simp
theorem insUp_yes {y : Th} {T : PT} {k : Nat} {acc : PT} {x : Th} (h : insUp y T k false acc) (hx : T[k]? = some x) (hn : y.ino < x.ino) : insUp y T (k + 1) true (acc ++ [y] ++ [x]) := by
  obtain ⟨h1, h2⟩ := h
  refine ⟨?_, by simp at h2 ⊢; omega⟩
  rw [h1, drop_at hx]
  simp only [Bool.false_eq_true, if_false]
  show acc ++ tIns y (x :: T.drop (k + 1)) = _
  rw [tIns, if_pos hn]; simp
theorem insUp_end {y : Th} {T acc : PT} {p : Bool} (h : insUp y T T.length p acc) : tIns y T = if p then acc else acc ++ [y] := by
  rw [h.1]
  cases p <;> simp [tIns]
theorem least_hit {T : PT} {k n : Nat} {x : Th} (h : tLeast 2 T = tLeast n (T.drop k)) (hx : T[k]? = some x) (he : x.ino = n) : tLeast 2 T = tLeast (n + 1) (T.drop (k + 1)) := by
  rw [h, drop_at hx, tLeast, if_pos he]
theorem least_miss {T : PT} {k n : Nat} {x : Th} (h : tLeast 2 T = tLeast n (T.drop k)) (hx : T[k]? = some x) (he : x.ino ≠ n) : tLeast 2 T = n := by
  rw [h, drop_at hx, tLeast, if_neg he]
theorem least_end {T : PT} {n : Nat} (h : tLeast 2 T = tLeast n (T.drop T.length)) : tLeast 2 T = n := by
  rw [h]; simp [tLeast]
def nextIs (T : PT) (k n : Nat) : Bool := match T[k]? with | some x => x.ino == n | none => false

theorem below_alloc {w wr : World} {o : Obj} (h : Below (w.heap.size + 1) (w.alloc o) wr) : Chg [] w wr := by
  have e : (w.alloc o).heap.size = w.heap.size + 1 := by simp
  exact ((Chg.refl [] w).alloc o).trans (T := []) (Chg.of_below (by rw [e]; exact h)) (by simp)

theorem make_last {wo wr w7 : World} {b base : Nat} {v u v7 : Value} {T acc : PT} {X : Th} {o : Obj} {xs : List Value} (h : RTOk wo b v base T) (hbe : Below (wo.heap.size + 1) (wo.alloc o) wr) (hbs : wo.heap.size + 1 ≤ wr.heap.size)
    (ho : wr.ownsRow (wo.heap.size + 1) 75 4 u acc.length (thEs acc)) (ho7 : w7.ownsRow (wo.heap.size + 1) 75 4 v7 (acc.length + 1) (thEs acc ++ xs)) (hg7 : wr.grownBy w7 u.ownBlock) (hX : thE X = xs) (hE : tIns X T = acc ++ [X]) (hb0 : base ≤ wo.heap.size) (hok : TOk (tIns X T)) :
    w7.cell? ⟨b, 0, none⟩ = some v ∧ w7.frozen? ⟨b, 0, none⟩ = false ∧ b < w7.heap.size ∧ wo.heap.size < w7.heap.size ∧ (∃ a7 c7, v7 = .slice a7 (acc.length + 1) c7) ∧ Hid (RDid wo (w7.setCell ⟨b, 0, none⟩ v7) b v base (tIns X T)) := by
  have HO7 : w7.ownsRow (wo.heap.size + 1) 75 4 v7 (acc ++ [X]).length (thEs (acc ++ [X])) := by rw [thEs_app, thEs_one, List.length_append, hX]; exact ho7
  have HB7 := below_alloc (hbe.grown hg7 hbs (fun q hq => (World.ownsRow.lt ho q hq).1))
  have hb7 := HB7.keep h.head (by simp)
  refine ⟨blk_cell hb7 0 _ rfl, blk_frozen hb7 0, blk_lt hb7, by have := hg7.size; omega, ?_, Lib.hid (RDid.put h HB7 ?_ hb0 hok)⟩
  · obtain ⟨a7, c7, e, _⟩ := throw_own HO7
    exact ⟨a7, c7, by rw [e, List.length_append]; rfl⟩
  · rw [hE]
    exact row_base HO7 _ (fun g hg => by have := (World.ownsRow.lt HO7 g hg).1; omega)

set_option maxHeartbeats 8000000 in
set_option maxRecDepth 100000 in
theorem rmake_any (b base : Nat) (v : Value) (T : PT) (s : ByteArray) (d : Bool) (w : World) (h : RTOk w b v base T) (hs : s.size ≤ 1000) (hb0 : base ≤ w.heap.size) :
    Calls Tryz.prog 19 #[.pointer (some ⟨b, 0, none⟩), .string s, .bool d] w (RMakePost w b v base (tMake T s.data.toList d)) := by
  have H := Lib.hid h
  have HS := Lib.hid hs
  have hok := Lib.hid h.ok
  have hTl := tok_len' h.ok
  have hbl := h.lt
  clear h hs
  obtain ⟨Z, hZ⟩ : ∃ Z, tMake T s.data.toList d = Z := ⟨_, rfl⟩
  have HZ := Lib.hid hZ
  rw [hZ]
  clear hZ
  by_cases hr : s.data.toList = [47]
  · have HE : Hid (Z = ((0, 7), T)) := Lib.hid (by rw [← HZ.out]; unfold tMake; rw [if_pos hr])
    have hb : (s.toList == [47]) = true := by rw [root_str, decide_eq_true hr]
    clear hr
    go_enter Tryz.func19, Tryz.ntmps19
    go_wp2
    go_ret2
    rw [HE.out]
    exact ⟨rfl, RDid.same H.out (Chg.refl _ _)⟩
  · have hb : (s.toList == [47]) = false := by rw [root_str, decide_eq_false hr]
    have HX : Hid (Z = if (tPlace T s.data.toList).2.2 ≠ 0 then ((0, (tPlace T s.data.toList).2.2), T) else
        if tKid T (tPlace T s.data.toList).1 (tPlace T s.data.toList).2.1 ≠ 0 then ((0, 7), T) else if 128 ≤ T.length + 1 then ((0, 5), T) else
        ((tLeast 2 T, 0), tIns ⟨tLeast 2 T, (tPlace T s.data.toList).1, (tPlace T s.data.toList).2.1, d⟩ T)) := Lib.hid (by rw [← HZ.out]; unfold tMake; rw [if_neg hr])
    have HP := Lib.hid (rplace_any b base v T s w H.out HS.out (split_root hr))
    clear hr HZ
    have HO : Hid ((tPlace T s.data.toList).2.2 = 0 → tIsDir T (tPlace T s.data.toList).1 = true ∧ mayB (tPlace T s.data.toList).2.1 = true ∧ tHas T (tPlace T s.data.toList).1 = true) := Lib.hid place_ok
    generalize tPlace T s.data.toList = r at *
    obtain ⟨a, la, er⟩ := r
    simp only at HX HO
    by_cases h0 : er = 0
    · subst h0
      obtain ⟨o1, o2, o3⟩ := HO.out rfl
      have HD := Lib.hid o1
      have HM := Lib.hid o2
      have has := has_small hok.out o3
      have HX2 : Hid (Z = if tKid T a la ≠ 0 then ((0, 7), T) else if 128 ≤ T.length + 1 then ((0, 5), T) else ((tLeast 2 T, 0), tIns ⟨tLeast 2 T, a, la, d⟩ T)) := Lib.hid (by rw [HX.out, if_neg (by simp)])
      clear o1 o2 o3 HX HO
      go_enter Tryz.func19, Tryz.ntmps19
      go_wp2_with fail
      refine HP.out.mono ?_
      rintro e w1 ⟨rfl, hb1⟩
      have HB := Lib.hid hb1
      have H1 := Lib.hid (H.out.keep0 hb1)
      have hbl1 := Nat.lt_of_lt_of_le hbl hb1.size
      have hbase1 := Nat.le_trans hb0 hb1.size
      clear hb1 HP
      have CK := rkid_any b base v T a la w1 H1.out
      rw [kdI_nat] at CK
      have HCK := Lib.hid CK
      clear CK
      by_cases hk0 : tKid T a la = 0
      · have HK := Lib.hid hk0
        rw [hk0] at HCK
        have HX3 : Hid (Z = if 128 ≤ T.length + 1 then ((0, 5), T) else ((tLeast 2 T, 0), tIns ⟨tLeast 2 T, a, la, d⟩ T)) := Lib.hid (by rw [HX2.out, if_neg (by simp [hk0])])
        clear hk0 HX2
        obtain ⟨A, cap, hv, hcap, hrow⟩ := throw_own H1.out.rows
        subst hv
        have t0 : w1.cell? ⟨b, 0, none⟩ = some (.slice A T.length cap) := blk_cell H1.out.head 0 _ rfl
        have HR := Lib.hid hrow
        clear hrow
        go_wp2_with fail
        refine HCK.out.mono ?_
        rintro e w2 ⟨rfl, rfl⟩
        by_cases hfull : 128 ≤ T.length + 1
        · have HE : Hid (Z = ((0, 5), T)) := Lib.hid (by rw [HX3.out, if_pos hfull])
          have hz1 : 128 ≤ (T.length : Int) + 1 := by omega
          clear hfull
          go_wp2
          go_ret2
          rw [HE.out]
          exact ⟨rfl, RDid.same H.out HB.out⟩
        · have HE : Hid (Z = ((tLeast 2 T, 0), tIns ⟨tLeast 2 T, a, la, d⟩ T)) := Lib.hid (by rw [HX3.out, if_neg hfull])
          have HTK : Hid (TOk (tIns ⟨tLeast 2 T, a, la, d⟩ T)) := Lib.hid (make_tok hok.out HD.out HM.out HK.out hfull)
          have hz1 : ¬ 128 ≤ (T.length : Int) + 1 := by omega
          clear hfull HX3
          go_wp2
          go_loopg [11, 12] T.length (fun gh v11 v12 wr => ∃ (k n : Nat), v12 = .int .i64 k ∧ v11 = .int .i64 n ∧ n = k + 2 ∧ k ≤ T.length ∧ T.length ≤ k + gh ∧ Hid (tLeast 2 T = tLeast n (T.drop k)) ∧ wr = w1)
          case atStart => exact ⟨0, 2, rfl, rfl, rfl, by omega, by omega, Lib.hid (by simp), rfl⟩
          case round =>
            obtain ⟨k, n, rfl, rfl, hn, hk, hkg, HL, rfl⟩ := hrel
            have hnz : n ≤ k + 2 := by omega
            have hnk : k + 2 ≤ n := by omega
            clear hn
            obtain ⟨gg, hgg⟩ : ∃ gg : Bool, gg = nextIs T k n := ⟨_, rfl⟩
            have HGG := Lib.hid hgg
            clear hgg
            go_upto_region 12 with (fail)
            go_cut [59] (fun s59 wx => s59 = .bool gg ∧ wx = wr)
            case first =>
              by_cases hlt : k < T.length
              · obtain ⟨x, hx⟩ : ∃ x, T[k]? = some x := ⟨_, List.getElem?_eq_getElem hlt⟩
                obtain ⟨g, rfl, hg, hc⟩ : ∃ g, A = some ⟨g, 0, none⟩ ∧ g < wr.heap.size ∧ wr.cell? ⟨g, k * 4, none⟩ = some (.int .i64 (x.ino : Int)) := by
                  rcases HR.out with h0 | ⟨g, h1, h2, h3⟩
                  · rw [h0] at hlt; simp at hlt
                  · exact ⟨g, h1, h2, (h3 k x hx).1⟩
                obtain ⟨y, hy⟩ : ∃ y : Int, y = x.ino := ⟨_, rfl⟩
                rw [← hy] at hc
                have HG2 : Hid (gg = (y == (n : Int))) := Lib.hid (by
                  rw [HGG.out, hy]; unfold nextIs; rw [hx]
                  simp only
                  rw [Bool.eq_iff_iff]; simp; omega)
                have hkz : (k : Int) < (T.length : Int) := by omega
                clear hx hy
                cases hq : (y == (n : Int))
                all_goals
                  have HG3 := Lib.hid (HG2.out.trans hq)
                  go_wp2_with fail
                  go_meet
                  exact ⟨by rw [HG3.out], rfl⟩
              · have hkz : ¬ (k : Int) < (T.length : Int) := by omega
                have HG3 : Hid (gg = false) := Lib.hid (by rw [HGG.out]; unfold nextIs; rw [List.getElem?_eq_none (by omega)])
                go_wp2_with fail
                go_meet
                exact ⟨by rw [HG3.out], rfl⟩
            case rest =>
            obtain ⟨rfl, hwc⟩ := hcut
            rw [hwc]
            clear hwc
            cases hgv : gg with
            | true =>
              have HN : Hid (k < T.length ∧ tLeast 2 T = tLeast (n + 1) (T.drop (k + 1))) := Lib.hid (by
                rw [HGG.out] at hgv
                unfold nextIs at hgv
                cases hx : T[k]? with
                | none => rw [hx] at hgv; cases hgv
                | some x =>
                  rw [hx] at hgv
                  exact ⟨(List.getElem?_eq_some_iff.1 hx).1, least_hit HL.out hx (by simpa using hgv)⟩)
              have hlt := HN.out.1
              subst hgv
              go_wp2
              go_roundg (T.length - k - 1)
              case measure => omega
              case rel => exact ⟨k + 1, n + 1, by go_num, by go_num, by omega, by omega, by omega, Lib.hid HN.out.2, rfl⟩
            | false =>
              have HLE : Hid (tLeast 2 T = n) := Lib.hid (by
                rw [HGG.out] at hgv
                unfold nextIs at hgv
                cases hx : T[k]? with
                | none =>
                  obtain rfl : k = T.length := by have := List.getElem?_eq_none_iff.1 hx; omega
                  exact least_end HL.out
                | some x =>
                  rw [hx] at hgv
                  exact least_miss HL.out hx (by simpa using hgv))
              subst hgv
              have HE2 : Hid (Z = ((n, 0), tIns ⟨n, a, la, d⟩ T)) := Lib.hid (by rw [HE.out, HLE.out])
              have HTK2 : Hid (TOk (tIns ⟨n, a, la, d⟩ T)) := Lib.hid (by rw [← HLE.out]; exact HTK.out)
              clear HL HGG
              obtain ⟨wo, rfl⟩ : ∃ wo : World, wo = wr := ⟨_, rfl⟩
              obtain ⟨X, hX⟩ : ∃ X : Th, X = ⟨n, a, la, d⟩ := ⟨_, rfl⟩
              rw [← hX] at HE2 HTK2
              have HX := Lib.hid hX
              have hxn := heap_alloc_new wo (.cells #[.int .i64 (n : Int), .int .i64 (a : Int), .string ⟨la.toArray⟩, .bool d] 75)
              have HXN := Lib.hid hxn
              clear hxn hX
              obtain ⟨ob, hob⟩ : ∃ ob, ob = Obj.cells #[.int .i64 (n : Int), .int .i64 (a : Int), .string ⟨la.toArray⟩, .bool d] 75 := ⟨_, rfl⟩
              have HOB := Lib.hid hob
              clear hob
              go_wp2
              obtain ⟨gko, rfl⟩ : ∃ gko : Nat, gko = gk := ⟨_, rfl⟩
              go_loopg [13, 15, 16] T.length (fun gh v13 v15 v16 wx => ∃ (k : Nat) (p : Bool) (acc : PT), v16 = .int .i64 k ∧ v15 = .bool p ∧ k ≤ T.length ∧ T.length ≤ k + gh ∧ acc.length ≤ k + 1 ∧ Hid (insUp X T k p acc) ∧ Hid (wx.ownsRow (wo.heap.size + 1) 75 4 v13 acc.length (thEs acc)) ∧ Hid (Below (wo.heap.size + 1) (wo.alloc ob) wx))
              case atStart =>
                refine ⟨0, false, [], rfl, rfl, by omega, by omega, by simp, Lib.hid (insUp_zero _ _), Lib.hid (World.ownsRow_nil _ _ _ _), Lib.hid ?_⟩
                rw [HOB.out]; exact Below.refl _ _
              case round =>
                obtain ⟨k, p, acc, rfl, rfl, hk, hkg, hacc, HI, HO, HBE⟩ := hrel
                have hbs : wo.heap.size + 1 ≤ wr.heap.size := by have := HBE.out.size; rw [HOB.out] at this; simpa using this
                have HB2 := Lib.hid (below_alloc HBE.out)
                have hb9 := HB2.out.keep H1.out.head (by simp)
                have t0 : wr.cell? ⟨b, 0, none⟩ = some (.slice A T.length cap) := blk_cell hb9 0 _ rfl
                have t1 : wr.frozen? ⟨b, 0, none⟩ = false := blk_frozen hb9 0
                have t2 : b < wr.heap.size := by omega
                have hx9 : wr.heap[wo.heap.size]? = some (.cells #[.int .i64 (n : Int), .int .i64 (a : Int), .string ⟨la.toArray⟩, .bool d] 75 (0, 0)) := (HBE.out.block wo.heap.size (by omega)).trans (by rw [HOB.out]; exact HXN.out)
                have x0 := blk_cell hx9 0 _ rfl
                have x1 := blk_cell hx9 1 _ rfl
                have x2 := blk_cell hx9 2 _ rfl
                have x3 := blk_cell hx9 3 _ rfl
                have x4 : wo.heap.size < wr.heap.size := by omega
                have HXE : Hid ((thE X).toArray = #[.int .i64 (n : Int), .int .i64 (a : Int), .string ⟨la.toArray⟩, .bool d]) := Lib.hid (by rw [HX.out]; rfl)
                clear hb9 hx9
                by_cases hlt : k < T.length
                · obtain ⟨x, hx⟩ : ∃ x, T[k]? = some x := ⟨_, List.getElem?_eq_getElem hlt⟩
                  obtain ⟨g, rfl, hg, c0, c1, c2, c3⟩ : ∃ g, A = some ⟨g, 0, none⟩ ∧ g < wo.heap.size ∧ wr.cell? ⟨g, k * 4, none⟩ = some (.int .i64 (x.ino : Int)) ∧ wr.cell? ⟨g, k * 4 + 1, none⟩ = some (.int .i64 (x.dir : Int)) ∧
                      wr.cell? ⟨g, k * 4 + 2, none⟩ = some (.string ⟨x.name.toArray⟩) ∧ wr.cell? ⟨g, k * 4 + 3, none⟩ = some (.bool x.isDir) := by
                    rcases HR.out with h0 | ⟨g, h1, h2, h3⟩
                    · rw [h0] at hlt; simp at hlt
                    · obtain ⟨c0, c1, c2, c3⟩ := h3 k x hx
                      exact ⟨g, h1, h2, HB2.out.cell c0 (by simp), HB2.out.cell c1 (by simp), HB2.out.cell c2 (by simp), HB2.out.cell c3 (by simp)⟩
                  have hkz : (k : Int) < (T.length : Int) := by omega
                  have HGV : Hid (u13.ownBlock ≠ some g) := Lib.hid (fun e => by have := (World.ownsRow.lt HO.out _ e).1; omega)
                  have HBV : Hid (u13.ownBlock ≠ some b) := Lib.hid (fun e => by have := (World.ownsRow.lt HO.out _ e).1; omega)
                  have HNE : Hid (u13.ownBlock ≠ some wr.heap.size) := Lib.hid (fun e => by have := (World.ownsRow.lt HO.out _ e).2; omega)
                  obtain ⟨y, hy⟩ : ∃ y : Int, y = x.ino := ⟨_, rfl⟩
                  have HYE : Hid (thE x = [.int .i64 y, .int .i64 (x.dir : Int), .string ⟨x.name.toArray⟩, .bool x.isDir]) := Lib.hid (by rw [hy]; rfl)
                  rw [← hy] at c0
                  have HCE : Hid (n < x.ino ↔ (n : Int) < y) := Lib.hid (by rw [hy]; omega)
                  have HX9 := Lib.hid hx
                  clear hx hy
                  cases p with
                  | true =>
                    have HI2 := Lib.hid (insUp_on HI.out HX9.out)
                    go_wp2_with (at_builtin; refine wpList_app1 rfl _ _ _ rfl (wo.heap.size + 1) elTh _ _ _ rfl HO.out 1 #[.int .i64 y, .int .i64 (x.dir : Int), .string ⟨x.name.toArray⟩, .bool x.isDir] rfl rfl (by intro u hu; simp at hu; rcases hu with rfl | rfl | rfl | rfl <;> rfl) (by unfold maxLen; omega) (by omega) hbs ?_; intro v7 w7 ho7 hg7)
                    go_roundg (T.length - k - 1)
                    case measure => omega
                    case rel =>
                      refine ⟨k + 1, true, acc ++ [x], by go_num, rfl, by omega, by omega, by simp; omega, HI2, Lib.hid ?_, Lib.hid (HBE.out.grown hg7 hbs (fun q hq => (World.ownsRow.lt HO.out q hq).1))⟩
                      rw [thEs_app, thEs_one, List.length_append]
                      rw [HYE.out]; exact ho7
                  | false =>
                    have hacc2 : acc.length ≤ k := by have := HI.out.2; simp at this; omega
                    by_cases hq : (n : Int) < y
                    · have HI2 := Lib.hid (insUp_yes HI.out HX9.out (by rw [HX.out]; exact HCE.out.2 hq))
                      have HKX : Hid (∀ w7, wr.grownBy w7 u13.ownBlock → Chg [] wo w7) := Lib.hid (fun w7 hg7 => below_alloc (HBE.out.grown hg7 hbs (fun q hq => (World.ownsRow.lt HO.out q hq).1)))
                      have HCC := Lib.hid (And.intro c0 (And.intro c1 (And.intro c2 c3)))
                      go_wp2_with (first
                        | (at_builtin; refine wpList_app1 rfl _ _ _ rfl (wo.heap.size + 1) elTh _ _ _ rfl HO.out 1 #[.int .i64 (n : Int), .int .i64 (a : Int), .string ⟨la.toArray⟩, .bool d] rfl rfl (by intro u hu; simp at hu; rcases hu with rfl | rfl | rfl | rfl <;> rfl) (by unfold maxLen; omega) (by omega) hbs ?_; intro v7 w7 ho7 hg7
                           have z0 := hg7.cell HCC.out.1 (fun e => HGV.out e.symm)
                           have z1 := hg7.cell HCC.out.2.1 (fun e => HGV.out e.symm)
                           have z2 := hg7.cell HCC.out.2.2.1 (fun e => HGV.out e.symm)
                           have z3 := hg7.cell HCC.out.2.2.2 (fun e => HGV.out e.symm)
                           have z5 := hg7.cell t0 (fun e => HBV.out e.symm)
                           have z4 : wr.heap.size ≤ w7.heap.size := hg7.size
                           have HO7 := Lib.hid ho7
                           have HG7 := Lib.hid hg7
                           clear ho7 hg7)
                        | (at_builtin; refine wpList_app1 rfl _ _ _ rfl (wo.heap.size + 1) elTh _ _ _ rfl HO7.out 1 #[.int .i64 y, .int .i64 (x.dir : Int), .string ⟨x.name.toArray⟩, .bool x.isDir] rfl rfl (by intro u hu; simp at hu; rcases hu with rfl | rfl | rfl | rfl <;> rfl) (by unfold maxLen; omega) (by omega) (by omega) ?_; intro v8 w8 ho8 hg8))
                      go_roundg (T.length - k - 1)
                      case measure => omega
                      case rel =>
                        refine ⟨k + 1, true, acc ++ [X] ++ [x], by go_num, rfl, by omega, by omega, by simp; omega, HI2, Lib.hid ?_, Lib.hid ((HBE.out.grown HG7.out hbs (fun q hq => (World.ownsRow.lt HO.out q hq).1)).grown hg8 (by omega) (fun q hq => (World.ownsRow.lt HO7.out q hq).1))⟩
                        rw [thEs_app, thEs_app, thEs_one, thEs_one, List.length_append, List.length_append]
                        have e1 : thE X = [.int .i64 (n : Int), .int .i64 (a : Int), .string ⟨la.toArray⟩, .bool d] := by rw [HX.out]; rfl
                        rw [e1]
                        rw [HYE.out]; exact ho8
                    · have HI2 := Lib.hid (insUp_no HI.out HX9.out (by rw [HX.out]; exact fun h => hq (HCE.out.1 h)))
                      go_wp2_with (at_builtin; refine wpList_app1 rfl _ _ _ rfl (wo.heap.size + 1) elTh _ _ _ rfl HO.out 1 #[.int .i64 y, .int .i64 (x.dir : Int), .string ⟨x.name.toArray⟩, .bool x.isDir] rfl rfl (by intro u hu; simp at hu; rcases hu with rfl | rfl | rfl | rfl <;> rfl) (by unfold maxLen; omega) (by omega) hbs ?_; intro v7 w7 ho7 hg7)
                      go_roundg (T.length - k - 1)
                      case measure => omega
                      case rel =>
                        refine ⟨k + 1, false, acc ++ [x], by go_num, rfl, by omega, by omega, by simp; omega, HI2, Lib.hid ?_, Lib.hid (HBE.out.grown hg7 hbs (fun q hq => (World.ownsRow.lt HO.out q hq).1))⟩
                        rw [thEs_app, thEs_one, List.length_append]
                        rw [HYE.out]; exact ho7
                · obtain rfl : k = T.length := by omega
                  have HEND := Lib.hid (insUp_end HI.out)
                  cases p with
                  | true =>
                    have HP : Hid (RDid wo (wr.setCell ⟨b, 0, none⟩ u13) b (.slice A T.length cap) base (tIns X T)) := Lib.hid (by
                      have HEE : tIns X T = acc := HEND.out
                      refine RDid.put H1.out HB2.out ?_ hbase1 HTK2.out
                      rw [HEE]
                      exact row_base HO.out _ (fun g hg => by have := (World.ownsRow.lt HO.out g hg).1; omega))
                    obtain ⟨a5, c5, hv5, _⟩ := throw_own HO.out
                    subst hv5
                    go_wp2
                    go_ret2
                    rw [HE2.out]
                    obtain ⟨v', r1, r2, r3⟩ := HP.out
                    refine ⟨rfl, v', r1, ?_, (HB.out.mono (by simp)).trans r3 (by simp)⟩
                    rcases r2 with r2 | r2
                    · exact .inl r2
                    · exact .inr (fun g hg => Nat.le_trans HB.out.size (r2 g hg))
                  | false =>
                    have hacc2 : acc.length ≤ T.length := by have := HI.out.2; simp at this; omega
                    go_wp2_with (at_builtin; refine wpList_app1 rfl _ _ _ rfl (wo.heap.size + 1) elTh _ _ _ rfl HO.out 1 #[.int .i64 (n : Int), .int .i64 (a : Int), .string ⟨la.toArray⟩, .bool d] rfl rfl (by intro u hu; simp at hu; rcases hu with rfl | rfl | rfl | rfl <;> rfl) (by unfold maxLen; omega) (by omega) hbs ?_; intro v7 w7 ho7 hg7
                                 obtain ⟨r0, r1, r2, r3, ⟨a7, c7, rfl⟩, HP⟩ := make_last H1.out HBE.out hbs HO.out ho7 hg7 (by rw [HX.out]; rfl) HEND.out hbase1 HTK2.out
                                 clear ho7 hg7)
                    go_ret2
                    rw [HE2.out]
                    obtain ⟨v', r1, r2, r3⟩ := HP.out
                    refine ⟨rfl, v', r1, ?_, (HB.out.mono (by simp)).trans r3 (by simp)⟩
                    rcases r2 with r2 | r2
                    · exact .inl r2
                    · exact .inr (fun g hg => Nat.le_trans HB.out.size (r2 g hg))
      · have HE : Hid (Z = ((0, 7), T)) := Lib.hid (by rw [HX2.out, if_pos hk0])
        generalize tKid T a la = c at *
        have hc0 : ((c : Int) != 0) = true := by simp; omega
        clear hk0
        go_wp2_with fail
        refine HCK.out.mono ?_
        rintro e w2 ⟨rfl, rfl⟩
        go_wp2
        go_ret2
        rw [HE.out]
        exact ⟨rfl, RDid.same H.out HB.out⟩
    · have HE : Hid (Z = ((0, er), T)) := Lib.hid (by rw [HX.out, if_pos h0])
      have he0 : (er != 0) = true := by simpa using h0
      clear h0 HX HO
      go_enter Tryz.func19, Tryz.ntmps19
      go_wp2_with fail
      refine HP.out.mono ?_
      rintro e w1 ⟨rfl, hb1⟩
      have HB := Lib.hid hb1
      clear hb1
      go_wp2
      go_ret2
      rw [HE.out]
      exact ⟨rfl, RDid.same H.out HB.out⟩
end Go.Proofs.YtaiihklfeoeoeaaGreat.W

/- Regions that draw their order: conditions on the world that need hold only up to the operation that uses what was loaded under them. -/
namespace Go.Proofs.YtaiihklfeoeoeaaGreat.W
open Go.RowKit
set_option linter.unusedVariables false
set_option linter.unusedSimpArgs false

section
variable {P : Program} {ops : Array Oper} {Q : Exit → Act → World → Prop} {md : Region.Mode} {cs : List (Nat × (World → Prop))}

/-- Each condition holds as long as its operation has not come up. -/
def HoldC (cs : List (Nat × (World → Prop))) (L : Array Bool) (w : World) : Prop := ∀ c ∈ cs, L.getD c.1 true = false → c.2 w
theorem HoldC.nil {L : Array Bool} {w : World} : HoldC [] L w := fun c hc => by cases hc
theorem HoldC.cons {L : Array Bool} {w : World} {d : Nat} {C : World → Prop} (h : C w) (hr : HoldC cs L w) : HoldC ((d, C) :: cs) L w := fun c hc h0 => by
  rcases List.mem_cons.1 hc with rfl | hc
  · exact h
  · exact hr c hc h0
theorem HoldC.past {L : Array Bool} {w : World} {d : Nat} {C : World → Prop} (h : L.getD d true = true) (hr : HoldC cs L w) : HoldC ((d, C) :: cs) L w := fun c hc h0 => by
  rcases List.mem_cons.1 hc with rfl | hc
  · rw [h] at h0; cases h0
  · exact hr c hc h0
theorem getD_set_false {L : Array Bool} {i j : Nat} (h : (L.setIfInBounds i true).getD j true = false) : L.getD j true = false := by
  by_cases hij : i = j
  · subst hij
    rw [Array.getD_eq_getD_getElem?] at h
    by_cases hl : i < L.size
    · simp [hl] at h
    · simp [Array.getElem?_eq_none (Nat.le_of_not_lt hl), hl] at h
  · rwa [getD_set_ne true hij] at h
theorem HoldC.set {L : Array Bool} {w : World} (h : HoldC cs L w) (i : Nat) : HoldC cs (L.setIfInBounds i true) w := fun c hc h0 => h c hc (getD_set_false h0)

/-- As 'wpAnyH', the conditions bound to the operations that have not come up. -/
def wpAnyL (P : Program) (md : Region.Mode) (ops : Array Oper) (Q : Exit → Act → World → Prop) (cs : List (Nat × (World → Prop))) : Nat → Array Bool → Act → World → Prop
  | 0, L, a, w => Region.ready md ops L = [] ∧ Q .normal a w
  | n + 1, L, a, w => (Region.ready md ops L = [] → Q .normal a w) ∧
    ∀ i ∈ Region.ready md ops L, wpOp P ops Q i (fun a' w' => HoldC cs (L.setIfInBounds i true) w' ∧ wpAnyL P md ops Q cs n (L.setIfInBounds i true) a' w') a w
theorem wpAny_of_L : ∀ (n : Nat) (L : Array Bool) (a : Act) (w : World), wpAnyL P md ops Q cs n L a w → wpAny P md ops Q n L a w
  | 0, _, _, _, h => h
  | n + 1, _, _, _, h => ⟨h.1, fun i hi => wpOp_mono (fun a' w' h' => wpAny_of_L n _ a' w' h'.2) (h.2 i hi)⟩

/-- What has come up has all that it waits for behind it. -/
def closedB (md : Region.Mode) (ops : Array Oper) (L : Array Bool) : Bool :=
  (List.range ops.size).all fun j => !(L.getD j true) || match ops[j]? with
    | none => true
    | some o => o.after.all fun e => !Region.binds md e || L.getD e.on false
def Closed (md : Region.Mode) (ops : Array Oper) (L : Array Bool) : Prop := ∀ j o, ops[j]? = some o → L.getD j true = true → ∀ e ∈ o.after, Region.binds md e = true → L.getD e.on false = true
theorem closed_of {L : Array Bool} (h : closedB md ops L = true) : Closed md ops L := fun j o hj hl e he hb => by
  unfold closedB at h
  rw [List.all_eq_true] at h
  have h1 := h j (List.mem_range.2 (Array.getElem?_eq_some_iff.1 hj).1)
  simp only [hj, hl, Bool.not_true, Bool.false_or] at h1
  have h2 := Array.all_eq_true_iff_forall_mem.1 h1 e he
  simpa [hb] using h2
theorem Closed.step {L : Array Bool} (h : Closed md ops L) {i : Nat} (hi : i ∈ Region.ready md ops L) : Closed md ops (L.setIfInBounds i true) := fun j o hj hl e he hb => by
  obtain ⟨h0, oi, ho, hall⟩ := mem_ready.1 hi
  by_cases hij : i = j
  · subst hij
    rw [ho] at hj; cases hj
    exact getD_set_true (hall e he hb)
  · rw [getD_set_ne true hij] at hl
    exact getD_set_true (h j o hj hl e he hb)
/-- Operation d waits for i, at whatever distance. -/
def ancB (md : Region.Mode) (ops : Array Oper) : Nat → Nat → Nat → Bool
  | 0, _, _ => false
  | n + 1, d, i => match ops[d]? with
    | none => false
    | some o => o.after.any fun e => Region.binds md e && (e.on == i || ancB md ops n e.on i)
theorem anc_open {L : Array Bool} (hc : Closed md ops L) {i : Nat} (hi : L.getD i true = false) : ∀ n d, ancB md ops n d i = true → L.getD d true = false := by
  intro n
  induction n with
  | zero => intro d h; cases h
  | succ n ih =>
    intro d h
    unfold ancB at h
    cases ho : ops[d]? with
    | none => rw [ho] at h; cases h
    | some o =>
      simp only [ho] at h
      obtain ⟨e, he, h1⟩ := Array.any_eq_true'.1 h
      simp only [Bool.and_eq_true, Bool.or_eq_true, beq_iff_eq] at h1
      cases hd : L.getD d true with
      | false => rfl
      | true =>
        have h2 := hc d o ho hd e he h1.1
        rcases h1.2 with rfl | h3
        · rw [Array.getD_eq_getD_getElem?] at hi h2
          cases hx : L[e.on]? with
          | none => rw [hx] at h2; cases h2
          | some b => rw [hx] at hi h2; simp at hi h2; rw [hi] at h2; cases h2
        · have h4 := ih e.on h3
          rw [Array.getD_eq_getD_getElem?] at h4 h2
          cases hx : L[e.on]? with
          | none => rw [hx] at h2; cases h2
          | some b => rw [hx] at h4 h2; simp at h4 h2; rw [h4] at h2; cases h2

theorem wpAnyL_first {i : Nat} {oi : Oper} {v : Value} {C : World → Prop} (hi : ops[i]? = some oi) (hsel : ∀ (j : Nat) (o : Oper) cs b, ops[j]? = some o → o.op ≠ .select cs b)
    (hQ : ∀ c a w, Q (.panic c) (a.put oi.dst v) w → Q (.panic c) a w) (hC : ∀ L w, Closed md ops L → L.getD i true = false → HoldC cs L w → C w) (hne : ∀ c ∈ cs, c.1 ≠ i) :
    ∀ (fuel : Nat) (L : Array Bool) (a : Act) (w : World), Closed md ops L →
      (∀ j oj, ops[j]? = some oj → j ≠ i → L.getD j true = false → (∀ e ∈ oj.after, Region.binds md e = true → e.on ≠ i) → oi.apart ops oj = true) →
      i ∈ Region.ready md ops L → YieldsIf P ops C oi v a → HoldC cs L w →
      wpAnyL P md ops Q cs fuel (L.setIfInBounds i true) (a.put oi.dst v) w → wpAnyL P md ops Q cs (fuel + 1) L a w := by
  intro fuel
  induction fuel with
  | zero =>
    intro L a w hcl _ hr hy hS H
    refine ⟨fun h => (by rw [h] at hr; cases hr), fun j hj => ?_⟩
    by_cases hji : j = i
    · subst hji; exact hy.wpOp hi (hC L w hcl (mem_ready.1 hr).1 hS) ⟨hS.set _, H⟩
    · have := ready_mono hj hji
      rw [H.1] at this
      cases this
  | succ fuel ih =>
    intro L a w hcl hfree hr hy hS H
    refine ⟨fun h => (by rw [h] at hr; cases hr), fun j hj => ?_⟩
    by_cases hji : j = i
    · subst hji; exact hy.wpOp hi (hC L w hcl (mem_ready.1 hr).1 hS) ⟨hS.set _, H⟩
    · have h1 := H.2 j (ready_mono hj hji)
      obtain ⟨hjun, oj, hoj, hall⟩ := mem_ready.1 hj
      have h0 := (mem_ready.1 hr).1
      have hnot : ∀ e ∈ oj.after, Region.binds md e = true → e.on ≠ i := fun e he hb heq => by
        have h1 := hall e he hb
        rw [heq] at h1
        rcases Nat.lt_or_ge i L.size with h' | h'
        · simp [h'] at h0 h1; rw [h0] at h1; cases h1
        · simp [Array.getElem?_eq_none h'] at h1
      have h2 := wpOp_putIf hoj (hfree j oj hoj hji hjun hnot) (fun cs b => hsel i oi cs b hi) (fun cs b => hsel j oj cs b hoj) hQ hy h1
      refine wpOp_mono (fun a' w' h3 => ?_) h2
      have hS' : HoldC cs (L.setIfInBounds j true) w' := fun c hc h4 => h3.2.1 c hc (by
        rw [Array.setIfInBounds_comm _ _ (Ne.symm hji), getD_set_ne true (Ne.symm (hne c hc))]
        exact h4)
      refine ⟨hS', ih (L.setIfInBounds j true) a' w' (hcl.step hj) (fun k ok hk hki hun hno => ?_) (ready_mono hr (Ne.symm hji)) h3.1 hS' ?_⟩
      · refine hfree k ok hk hki ?_ hno
        by_cases hjk : j = k
        · subst hjk; exact hjun
        · rw [getD_set_ne true hjk] at hun; exact hun
      · rw [Array.setIfInBounds_comm _ _ hji]
        exact h3.2.2

/-- Taken first: an operation that yields its value in whatever world. -/
theorem wpAnyL_take {i : Nat} {oi : Oper} {v : Value} {fuel : Nat} {L : Array Bool} {a : Act} {w : World} (hi : ops[i]? = some oi)
    (hs : Region.noSelect ops = true) (hcl : closedB md ops L = true) (hf : Region.free md ops L i = true) (hr : (Region.ready md ops L).contains i = true) (hne : cs.all (fun c => c.1 != i) = true)
    (hQ : ∀ c a w, Q (.panic c) (a.put oi.dst v) w → Q (.panic c) a w) (hy : YieldsIf P ops (fun _ => True) oi v a) (hS : HoldC cs L w)
    (h : HoldC cs (L.setIfInBounds i true) w → wpAnyL P md ops Q cs fuel (L.setIfInBounds i true) (a.put oi.dst v) w) : wpAnyL P md ops Q cs (fuel + 1) L a w :=
  wpAnyL_first hi (Region.noSelect_spec hs) hQ (fun _ _ _ _ _ => trivial) (fun c hc => by simpa using List.all_eq_true.1 hne c hc) fuel L a w (closed_of hcl) (Region.free_spec hi hf) (by simpa using hr) hy hS (h (hS.set _))
/-- Taken first: a load, under condition number k. -/
theorem wpAnyL_load (k : Nat) {i d : Nat} {C : World → Prop} {oi : Oper} {v : Value} {fuel : Nat} {L : Array Bool} {a : Act} {w : World} (hk : cs[k]? = some (d, C)) (hi : ops[i]? = some oi)
    (hs : Region.noSelect ops = true) (hcl : closedB md ops L = true) (hf : Region.free md ops L i = true) (hr : (Region.ready md ops L).contains i = true) (hne : cs.all (fun c => c.1 != i) = true) (hanc : ancB md ops ops.size d i = true)
    (hQ : ∀ c a w, Q (.panic c) (a.put oi.dst v) w → Q (.panic c) a w) (hy : YieldsIf P ops C oi v a) (hS : HoldC cs L w)
    (h : HoldC cs (L.setIfInBounds i true) w → wpAnyL P md ops Q cs fuel (L.setIfInBounds i true) (a.put oi.dst v) w) : wpAnyL P md ops Q cs (fuel + 1) L a w :=
  wpAnyL_first hi (Region.noSelect_spec hs) hQ (fun L w h1 h2 h3 => h3 _ (List.mem_of_getElem? hk) (anc_open h1 h2 _ _ hanc)) (fun c hc => by simpa using List.all_eq_true.1 hne c hc) fuel L a w (closed_of hcl) (Region.free_spec hi hf) (by simpa using hr) hy hS (h (hS.set _))
theorem wpAnyL_done {L : Array Bool} {a : Act} {w : World} (hr : Region.ready md ops L = []) (h : Q .normal a w) : ∀ fuel, wpAnyL P md ops Q cs fuel L a w
  | 0 => ⟨hr, h⟩
  | _ + 1 => ⟨fun _ => h, by rw [hr]; simp⟩
def AllReadyL (P : Program) (md : Region.Mode) (ops : Array Oper) (Q : Exit → Act → World → Prop) (cs : List (Nat × (World → Prop))) (fuel : Nat) (L : Array Bool) (a : Act) (w : World) (rs : List Nat) : Prop :=
  ∀ i ∈ rs, wpOp P ops Q i (fun a' w' => HoldC cs (L.setIfInBounds i true) w' ∧ wpAnyL P md ops Q cs fuel (L.setIfInBounds i true) a' w') a w
theorem AllReadyL.nil {fuel : Nat} {L : Array Bool} {a : Act} {w : World} : AllReadyL P md ops Q cs fuel L a w [] := fun _ h => by cases h
theorem AllReadyL.cons {fuel : Nat} {L : Array Bool} {a : Act} {w : World} {i : Nat} {o : Oper} {rs : List Nat} (ho : ops[i]? = some o)
    (h : ∀ K' : Act → World → Prop, Shut (∀ a w, HoldC cs (L.setIfInBounds i true) w → (HoldC cs (L.setIfInBounds i true) w → wpAnyL P md ops Q cs fuel (L.setIfInBounds i true) a w) → K' a w) → if Region.wanted o (yielded ops a.tmps) = true then Oper.wp P o a w K' Q else K' (a.put o.dst undef) w)
    (hs : AllReadyL P md ops Q cs fuel L a w rs) : AllReadyL P md ops Q cs fuel L a w (i :: rs) := fun j hj => by
  rcases List.mem_cons.1 hj with rfl | hj
  · exact wpOp_step ho (fun K' hK => h K' (fun a w hS hW => hK a w ⟨hS, hW hS⟩))
  · exact hs j hj
theorem wpAnyL_ready {rs : List Nat} {fuel : Nat} {L : Array Bool} {a : Act} {w : World} (hr : Region.ready md ops L = rs) (hne : rs ≠ [])
    (h : AllReadyL P md ops Q cs fuel L a w rs) : wpAnyL P md ops Q cs (fuel + 1) L a w := ⟨fun h0 => absurd (hr ▸ h0) hne, hr ▸ h⟩
/-- The beginning. -/
theorem wp_region_L {id : Nat} {a : Act} {w : World} (cs : List (Nat × (World → Prop))) (hm : P.follows .mixedOrders = true) (hS : HoldC cs (Array.replicate ops.size false) w.drew)
    (h : HoldC cs (Array.replicate ops.size false) w.drew → wpAnyL P .any ops Q cs ops.size (Array.replicate ops.size false) a w.drew) : (Code.region id ops true).wp P Q a w :=
  wp_region_any hm (wpAny_of_L _ _ _ _ (h hS))
end
end Go.Proofs.YtaiihklfeoeoeaaGreat.W

/- The reference's Remove. -/
namespace Go.Proofs.YtaiihklfeoeoeaaGreat.W
open Go.RowKit
open Go.Proofs.YtaiihklfeoeoeaaGreat.NM
set_option linter.unusedVariables false
set_option linter.unusedSimpArgs false

/-- A slice that reads as things. -/
def SrcTh (w : World) (u : Value) (U : PT) : Prop := ∃ a c, u = .slice a U.length c ∧ ((a = none ∧ c = 0 ∧ U = []) ∨ ∃ ad, a = some ad ∧ ∀ j x, (thEs U)[j]? = some x → w.cell? (ad.add j) = some x)
theorem thEs_one_cell (U : PT) : ∀ u ∈ thEs U, u.oneCell' = true := by
  intro u hu
  obtain ⟨x, _, hx⟩ := List.mem_flatMap.1 hu
  exact thE_one x u hx
theorem run_appTh {w : World} (ty : TypeId) (base : Nat) (v : Value) (acc : PT) (hown : w.ownsRow base 75 4 v acc.length (thEs acc)) (u : Value) (U : PT) (hu : SrcTh w u U) (hsz : acc.length + U.length ≤ 1000) (hbase : base ≤ w.heap.size) :
    ∃ v' w', (Builtin.append_ #[28, 28] ty #[v, u]).run Tryz.prog w = .ok v' w' ∧ w'.ownsRow base 75 4 v' (acc ++ U).length (thEs (acc ++ U)) ∧ w.grownBy w' v.ownBlock ∧ (v'.ownBlock = v.ownBlock ∨ v'.ownBlock = some w.heap.size) := by
  obtain ⟨ht, ⟨i, hi, hz, hsize, hby⟩, hzs, hsp⟩ := elTh
  obtain ⟨a, c, rfl, hu⟩ := hu
  rcases hu with ⟨rfl, rfl, rfl⟩ | ⟨ad, rfl, hc⟩
  · have hr := run_append_owned_none (P := Tryz.prog) (w := w) base 28 ty 75 i 4 ht hi v acc.length (thEs acc) hown
    exact ⟨v, w, hr, by rw [List.append_nil]; exact hown, ⟨rfl, rfl, rfl, Nat.le_refl _, fun _ _ _ => rfl⟩, .inl rfl⟩
  · obtain ⟨v', w', hr, ho, hg, _, hat⟩ := run_append_own_at (P := Tryz.prog) w base 28 ty 75 i _ 4 40 ht hi hz hsize hby hzs hsp v acc.length (thEs acc) hown ad U.length c (thEs U) (thEs_len U) hc (thEs_one_cell U) (by unfold maxLen; omega) (by omega) hbase
    exact ⟨v', w', hr, by rw [List.length_append, thEs_app]; exact ho, hg, hat⟩
theorem wp_appTh {w : World} {o : Oper} {a : Act} {K : Act → World → Prop} {Q : Exit → Act → World → Prop} (s x : Operand)
    (ho : o.op = .call { callee := .builtin .append, args := #[s, x], argTypes := #[28, 28] }) (base : Nat) (v : Value) (acc : PT) (hs : a.eval s = v) (hown : w.ownsRow base 75 4 v acc.length (thEs acc)) (u : Value) (U : PT) (hx : a.eval x = u) (hu : SrcTh w u U) (hsz : acc.length + U.length ≤ 1000) (hbase : base ≤ w.heap.size)
    (h : ∀ v' w', w'.ownsRow base 75 4 v' (acc ++ U).length (thEs (acc ++ U)) → w.grownBy w' v.ownBlock → (v'.ownBlock = v.ownBlock ∨ v'.ownBlock = some w.heap.size) → K (a.put o.dst v') w') : o.wp Tryz.prog a w K Q := by
  obtain ⟨v', w', hr, h2, h3, h4⟩ := run_appTh o.type base v acc hown u U hu hsz hbase
  unfold Oper.wp execOp
  simp only [ho, resolve, invoke, builtin, Sem.run_bind, Sem.run_pure, Result.andThen_ok, List.map_toArray, List.map_cons, List.map_nil, hs, hx, hr]
  exact h v' w' h2 h3 h4
theorem wpList_appTh {w : World} {ops : Array Oper} {rest : List Oper} {o : Oper} {a : Act} {Q : Exit → Act → World → Prop} (hgd : o.guard = none) (s x : Operand)
    (ho : o.op = .call { callee := .builtin .append, args := #[s, x], argTypes := #[28, 28] }) (base : Nat) (v : Value) (acc : PT) (hs : a.eval s = v) (hown : w.ownsRow base 75 4 v acc.length (thEs acc)) (u : Value) (U : PT) (hx : a.eval x = u) (hu : SrcTh w u U) (hsz : acc.length + U.length ≤ 1000) (hbase : base ≤ w.heap.size)
    (h : ∀ v' w', w'.ownsRow base 75 4 v' (acc ++ U).length (thEs (acc ++ U)) → w.grownBy w' v.ownBlock → (v'.ownBlock = v.ownBlock ∨ v'.ownBlock = some w.heap.size) → wpList Tryz.prog ops Q rest (a.put o.dst v') w') : wpList Tryz.prog ops Q (o :: rest) a w :=
  wpList_plain hgd fun _ hK => wp_appTh s x ho base v acc hs hown u U hx hu hsz hbase fun v' w' h2 h3 h4 => hK _ _ (h v' w' h2 h3 h4)
theorem SrcTh.keep {w w' : World} {u : Value} {U : PT} (h : SrcTh w u U) (hc : Chg [] w w') : SrcTh w' u U := by
  obtain ⟨a, c, h1, h2⟩ := h
  refine ⟨a, c, h1, ?_⟩
  rcases h2 with h2 | ⟨ad, h2, h3⟩
  · exact .inl h2
  · exact .inr ⟨ad, h2, fun j x hx => hc.cell (h3 j x hx) (by simp)⟩
/-- An empty slice that was made. -/
theorem empty_row (w : World) (base : Nat) (hb : base ≤ w.heap.size) : (w.alloc (.cells #[] 75)).ownsRow base 75 4 (.slice (some ⟨w.heap.size, 0, none⟩) 0 0) 0 (thEs []) := by
  refine ⟨rfl, .inr ⟨w.heap.size, 0, #[], rfl, hb, heap_alloc_new w _, ?_, ?_, ?_, ?_⟩⟩
  · omega
  · unfold maxLen; omega
  · rfl
  · rfl
theorem del_at {T : PT} (h : T.Pairwise (fun x y => x.ino < y.ino)) {i : Nat} {x : Th} (hx : T[i]? = some x) : T.filter (fun y => y.ino != x.ino) = T.take i ++ T.drop (i + 1) := by
  induction T generalizing i with
  | nil => simp at hx
  | cons y r ih =>
    have h' := List.pairwise_cons.1 h
    match i with
    | 0 =>
      obtain rfl : y = x := by simpa using hx
      rw [List.filter_cons_of_neg (by simp)]
      simp only [List.take_zero, List.nil_append, Nat.zero_add, List.drop_succ_cons, List.drop_zero]
      rw [List.filter_eq_self]
      intro z hz
      have := h'.1 z hz
      simp; omega
    | i + 1 =>
      have hx' : r[i]? = some x := by simpa using hx
      have := h'.1 x (List.mem_of_getElem? hx')
      rw [List.filter_cons_of_pos (by simp; omega), ih h'.2 hx']
      simp
theorem row_take {w : World} {base g cap : Nat} {T : PT} (h : w.ownsRow base 75 4 (.slice (some ⟨g, 0, none⟩) T.length cap) T.length (thEs T)) (i : Nat) (hi : i ≤ T.length) (c : Nat) : SrcTh w (.slice (some ⟨g, 0, none⟩) i c) (T.take i) := by
  refine ⟨_, c, by rw [List.length_take, Nat.min_eq_left hi], .inr ⟨_, rfl, fun j x hx => ?_⟩⟩
  refine World.ownsRow.cells h (g := g) rfl j x ?_
  have : T = T.take i ++ T.drop i := (List.take_append_drop i T).symm
  rw [this, thEs_app, List.getElem?_append_left (List.getElem?_eq_some_iff.1 hx).1]
  exact hx
theorem row_drop {w : World} {base g cap : Nat} {T : PT} (h : w.ownsRow base 75 4 (.slice (some ⟨g, 0, none⟩) T.length cap) T.length (thEs T)) (i : Nat) (hi : i ≤ T.length) (c : Nat) : SrcTh w (.slice (some ⟨g, i * 4, none⟩) (T.length - i) c) (T.drop i) := by
  refine ⟨_, c, by rw [List.length_drop], .inr ⟨_, rfl, fun j x hx => ?_⟩⟩
  have := World.ownsRow.cells h (g := g) rfl (i * 4 + j) x (by
    have e : T = T.take i ++ T.drop i := (List.take_append_drop i T).symm
    rw [e, thEs_app, List.getElem?_append_right (by rw [thEs_len, List.length_take, Nat.min_eq_left hi]; omega), thEs_len, List.length_take, Nat.min_eq_left hi, Nat.add_sub_cancel_left]
    exact hx)
  rw [add_none] at this ⊢
  simpa using this
theorem row_rest {w : World} {base g cap : Nat} {T : PT} (h : w.ownsRow base 75 4 (.slice (some ⟨g, 0, none⟩) T.length cap) T.length (thEs T)) (i : Nat) (hi : i ≤ T.length) : SrcTh w (.slice (if cap = i then some ⟨g, 0, none⟩ else some ⟨g, i * 4, none⟩) (T.length - i) (cap - i)) (T.drop i) := by
  by_cases hc : cap = i
  · rw [if_pos hc]
    have hl : T.length ≤ cap := by
      obtain ⟨a, c, he, hc, _⟩ := throw_own h
      injection he with _ _ h3
      omega
    obtain rfl : i = T.length := by omega
    rw [List.drop_length, Nat.sub_self]
    exact ⟨_, _, rfl, .inr ⟨_, rfl, fun j x hx => by simp [thEs] at hx⟩⟩
  · rw [if_neg hc]
    exact row_drop h i hi _
theorem src_nil (w : World) (ad : Addr) (c : Nat) : SrcTh w (.slice (some ad) 0 c) [] := ⟨_, c, rfl, .inr ⟨ad, rfl, fun j x hx => by simp [thEs] at hx⟩⟩

set_option maxHeartbeats 8000000 in
set_option maxRecDepth 100000 in
theorem rremove_any (b base : Nat) (v : Value) (T : PT) (s : ByteArray) (d : Bool) (w : World) (h : RTOk w b v base T) (hs : s.size ≤ 1000) (hb0 : base ≤ w.heap.size) :
    Calls Tryz.prog 21 #[.pointer (some ⟨b, 0, none⟩), .string s, .bool d] w (RMakePost w b v base (tRemove T s.data.toList d)) := by
  have H := Lib.hid h
  have hok := Lib.hid h.ok
  have hTl := tok_len' h.ok
  have hbl := h.lt
  obtain ⟨Z, hZ⟩ : ∃ Z, tRemove T s.data.toList d = Z := ⟨_, rfl⟩
  have HX : Hid (Z = if (tLook T s.data.toList).2.2 ≠ 0 then ((0, (tLook T s.data.toList).2.2), T) else if (tLook T s.data.toList).1 = 1 then ((0, 8), T) else
    if (d && !(tLook T s.data.toList).2.1) = true then ((0, 10), T) else if (!d && (tLook T s.data.toList).2.1) = true then ((0, 9), T) else
    if T.any (fun x => x.dir == (tLook T s.data.toList).1) = true then ((0, 11), T) else
    (((tLook T s.data.toList).1, 0), T.filter (fun x => x.ino != (tLook T s.data.toList).1))) := Lib.hid (by rw [← hZ]; rfl)
  rw [hZ]
  clear hZ
  have HP := Lib.hid (rlook_any b base v T s w h hs)
  have HO : Hid ((tLook T s.data.toList).2.2 = 0 → tHas T (tLook T s.data.toList).1 = true ∧ (tLook T s.data.toList).2.1 = tIsDir T (tLook T s.data.toList).1) := Lib.hid (fun h => look_okL h)
  clear h hs
  generalize tLook T s.data.toList = r at *
  obtain ⟨n, isd, er⟩ := r
  simp only at HX HO
  go_enter Tryz.func21, Tryz.ntmps21
  go_wp2_with fail
  refine HP.out.mono ?_
  rintro e w1 ⟨rfl, hb1⟩
  have HB := Lib.hid hb1
  have H1 := Lib.hid (H.out.keep0 hb1)
  have hbl1 := Nat.lt_of_lt_of_le hbl hb1.size
  have hbase1 := Nat.le_trans hb0 hb1.size
  clear hb1 HP
  by_cases h0 : er = 0
  · subst h0
    obtain ⟨o1, o2⟩ := HO.out rfl
    have HA := Lib.hid o1
    have hns := has_small hok.out o1
    have HX1 : Hid (Z = if n = 1 then ((0, 8), T) else if (d && !isd) = true then ((0, 10), T) else if (!d && isd) = true then ((0, 9), T) else
      if T.any (fun x => x.dir == n) = true then ((0, 11), T) else ((n, 0), T.filter (fun x => x.ino != n))) := Lib.hid (by rw [HX.out, if_neg (by simp)])
    clear o1 o2 HX HO
    by_cases hn1 : n = 1
    · have HE : Hid (Z = ((0, 8), T)) := Lib.hid (by rw [HX1.out, if_pos hn1])
      subst hn1
      go_wp2
      go_ret2
      rw [HE.out]
      exact ⟨rfl, RDid.same H.out HB.out⟩
    · have hz1 : ((n : Int) == 1) = false := by simp; omega
      have HX2 : Hid (Z = if (d && !isd) = true then ((0, 10), T) else if (!d && isd) = true then ((0, 9), T) else
        if T.any (fun x => x.dir == n) = true then ((0, 11), T) else ((n, 0), T.filter (fun x => x.ino != n))) := Lib.hid (by rw [HX1.out, if_neg hn1])
      have HN1 := Lib.hid hn1
      clear HX1 hn1
      by_cases hdd : d = isd
      · have HX3 : Hid (Z = if T.any (fun x => x.dir == n) = true then ((0, 11), T) else ((n, 0), T.filter (fun x => x.ino != n))) := Lib.hid (by
          rw [HX2.out, if_neg (by rw [hdd]; simp), if_neg (by rw [hdd]; simp)])
        subst hdd
        clear HX2
        obtain ⟨A, cap, hv, hcap, hrow⟩ := throw_own H1.out.rows
        subst hv
        have t0 : w1.cell? ⟨b, 0, none⟩ = some (.slice A T.length cap) := blk_cell H1.out.head 0 _ rfl
        have HR := Lib.hid hrow
        clear hrow
        cases d
        all_goals
          go_wp2_with fail
          go_loopg [11] T.length (fun gh v11 wr => ∃ k : Nat, v11 = .int .i64 k ∧ k ≤ T.length ∧ T.length ≤ k + gh ∧ Hid (∀ x ∈ T.take k, x.dir ≠ n) ∧ wr = w1)
          case atStart => exact ⟨0, rfl, by omega, by omega, Lib.hid (by simp), rfl⟩
          case round =>
            obtain ⟨k, rfl, hk, hkg, HQ, rfl⟩ := hrel
            by_cases hlt : k < T.length
            · obtain ⟨x, hx⟩ : ∃ x, T[k]? = some x := ⟨_, List.getElem?_eq_getElem hlt⟩
              obtain ⟨g, rfl, hg, hc⟩ : ∃ g, A = some ⟨g, 0, none⟩ ∧ g < wr.heap.size ∧ wr.cell? ⟨g, k * 4 + 1, none⟩ = some (.int .i64 (x.dir : Int)) := by
                rcases HR.out with h0 | ⟨g, h1, h2, h3⟩
                · rw [h0] at hlt; simp at hlt
                · exact ⟨g, h1, h2, (h3 k x hx).2.1⟩
              have HXk := Lib.hid hx
              clear hx
              have hkz : (k : Int) < (T.length : Int) := by omega
              obtain ⟨y, hy⟩ : ∃ y : Int, y = x.dir := ⟨_, rfl⟩
              rw [← hy] at hc
              have HY := Lib.hid hy
              clear hy
              cases hq : (y == (n : Int)) with
              | true =>
                have HE : Hid (Z = ((0, 11), T)) := Lib.hid (by
                  rw [HX3.out, if_pos]
                  rw [List.any_eq_true]
                  refine ⟨x, List.mem_of_getElem? HXk.out, ?_⟩
                  rw [HY.out] at hq
                  simp at hq ⊢; omega)
                go_wp2
                go_ret2
                rw [HE.out]
                exact ⟨rfl, RDid.same H.out HB.out⟩
              | false =>
                have HN : Hid (∀ x ∈ T.take (k + 1), x.dir ≠ n) := Lib.hid (by
                  intro z hz
                  have e : T.take (k + 1) = T.take k ++ [x] := by
                    rw [List.take_add_one, HXk.out]; rfl
                  rw [e] at hz
                  rcases List.mem_append.1 hz with hz | hz
                  · exact HQ.out z hz
                  · obtain rfl := List.mem_singleton.1 hz
                    rw [HY.out] at hq
                    simp at hq; omega)
                go_wp2
                go_roundg (T.length - k - 1)
                case measure => omega
                case rel => exact ⟨k + 1, by go_num, by omega, by omega, HN, rfl⟩
            · have HNO : Hid (∀ x ∈ T, x.dir ≠ n) := Lib.hid (by
                obtain rfl : k = T.length := by omega
                have := HQ.out
                rwa [List.take_length] at this)
              have HE : Hid (Z = ((n, 0), T.filter (fun x => x.ino != n))) := Lib.hid (by
                rw [HX3.out, if_neg]
                rw [List.any_eq_true]
                rintro ⟨x, hx, he⟩
                exact HNO.out x hx (by simpa using he))
              have HF := Lib.hid (rfind_any b base _ T n wr H1.out)
              obtain ⟨i, x, hi, hix, hig⟩ : ∃ (i : Nat) (x : Th), fiI T n = i ∧ T[i]? = some x ∧ tGet T n = some x := by
                rcases fiI_cases T n with ⟨h2, h3⟩ | h2
                · have := HA.out
                  unfold tHas at this
                  rw [h3] at this
                  simp at this
                  exact absurd this HN1.out
                · exact h2
              rw [hi] at HF
              have hil := (List.getElem?_eq_some_iff.1 hix).1
              have HFL : Hid (T.filter (fun y => y.ino != n) = T.take i ++ T.drop (i + 1)) := Lib.hid (by
                rw [← del_at hok.out.rise hix, (get_some hig).2])
              have HTK : Hid (TOk (T.filter (fun y => y.ino != n))) := Lib.hid (hok.out.del HN1.out HNO.out)
              obtain ⟨g, rfl, hg⟩ : ∃ g, A = some ⟨g, 0, none⟩ ∧ g < wr.heap.size := by
                rcases HR.out with h0 | ⟨g, h1, h2, h3⟩
                · rw [h0] at hil; simp at hil
                · exact ⟨g, h1, h2⟩
              clear hi hix hig HX3 HQ
              go_wp2_with fail
              refine HF.out.mono ?_
              rintro e w2 ⟨rfl, rfl⟩
              have HROW := Lib.hid H1.out.rows
              have hie : (i : Int) ≤ (cap : Int) := by omega
              have hie1 : (i : Int) + 1 ≤ (T.length : Int) := by omega
              have hie2 : (i : Int) + 1 ≤ (cap : Int) := by omega
              have hi0 : (0 : Int) ≤ (i : Int) + 1 := by omega
              have hit : ((i : Int) + 1).toNat = i + 1 := by omega
              have hwi : IntKind.i64.wrap ((i : Int) + 1) = (i : Int) + 1 := IntWalk.i64_in _ (by omega)
              go_wp2_with fail
              refine wp_region_L [(19, fun w' => w'.cell? ⟨b, 0, none⟩ = some (.slice (some ⟨g, 0, none⟩) T.length cap))] (by kernel_rfl) ?_ (fun hHeld => ?_)
              · exact (HoldC.cons (t0) HoldC.nil)
              refine wpAnyL_take (i := 0) (oi := _) (v := ?_) rfl (by kernel_rfl) (by kernel_rfl) (by kernel_rfl) (by kernel_rfl) (by kernel_rfl) (fun _ _ _ h => h) (Or.inl ⟨by rfl, ?_⟩) (by assumption) (fun hNew => ?_)
              rotate_left
              · intro w _
                go_simp
                try with_reducible rfl
              clear hHeld
              have hHeld := hNew
              clear hNew
              try simp only [List.getElem_toArray, List.getElem_cons_succ, List.getElem_cons_zero, Act.put, List.setIfInBounds_toArray, List.set_cons_zero, List.set_cons_succ]
              refine wpAnyL_take (i := 2) (oi := _) (v := ?_) rfl (by kernel_rfl) (by kernel_rfl) (by kernel_rfl) (by kernel_rfl) (by kernel_rfl) (fun _ _ _ h => h) (Or.inl ⟨by rfl, ?_⟩) (by assumption) (fun hNew => ?_)
              rotate_left
              · intro w _
                go_simp
                try with_reducible rfl
              clear hHeld
              have hHeld := hNew
              clear hNew
              try simp only [List.getElem_toArray, List.getElem_cons_succ, List.getElem_cons_zero, Act.put, List.setIfInBounds_toArray, List.set_cons_zero, List.set_cons_succ]
              refine wpAnyL_take (i := 3) (oi := _) (v := ?_) rfl (by kernel_rfl) (by kernel_rfl) (by kernel_rfl) (by kernel_rfl) (by kernel_rfl) (fun _ _ _ h => h) (Or.inl ⟨by rfl, ?_⟩) (by assumption) (fun hNew => ?_)
              rotate_left
              · intro w _
                go_simp
                try with_reducible rfl
              clear hHeld
              have hHeld := hNew
              clear hNew
              try simp only [List.getElem_toArray, List.getElem_cons_succ, List.getElem_cons_zero, Act.put, List.setIfInBounds_toArray, List.set_cons_zero, List.set_cons_succ]
              refine wpAnyL_take (i := 4) (oi := _) (v := ?_) rfl (by kernel_rfl) (by kernel_rfl) (by kernel_rfl) (by kernel_rfl) (by kernel_rfl) (fun _ _ _ h => h) (Or.inl ⟨by rfl, ?_⟩) (by assumption) (fun hNew => ?_)
              rotate_left
              · intro w _
                go_simp
                try with_reducible rfl
              clear hHeld
              have hHeld := hNew
              clear hNew
              try simp only [List.getElem_toArray, List.getElem_cons_succ, List.getElem_cons_zero, Act.put, List.setIfInBounds_toArray, List.set_cons_zero, List.set_cons_succ]
              refine wpAnyL_take (i := 6) (oi := _) (v := ?_) rfl (by kernel_rfl) (by kernel_rfl) (by kernel_rfl) (by kernel_rfl) (by kernel_rfl) (fun _ _ _ h => h) (Or.inl ⟨by rfl, ?_⟩) (by assumption) (fun hNew => ?_)
              rotate_left
              · intro w _
                go_simp
                try with_reducible rfl
              clear hHeld
              have hHeld := hNew
              clear hNew
              try simp only [List.getElem_toArray, List.getElem_cons_succ, List.getElem_cons_zero, Act.put, List.setIfInBounds_toArray, List.set_cons_zero, List.set_cons_succ]
              refine wpAnyL_take (i := 9) (oi := _) (v := ?_) rfl (by kernel_rfl) (by kernel_rfl) (by kernel_rfl) (by kernel_rfl) (by kernel_rfl) (fun _ _ _ h => h) (Or.inl ⟨by rfl, ?_⟩) (by assumption) (fun hNew => ?_)
              rotate_left
              · intro w _
                go_simp
                try with_reducible rfl
              clear hHeld
              have hHeld := hNew
              clear hNew
              try simp only [List.getElem_toArray, List.getElem_cons_succ, List.getElem_cons_zero, Act.put, List.setIfInBounds_toArray, List.set_cons_zero, List.set_cons_succ]
              refine wpAnyL_take (i := 10) (oi := _) (v := ?_) rfl (by kernel_rfl) (by kernel_rfl) (by kernel_rfl) (by kernel_rfl) (by kernel_rfl) (fun _ _ _ h => h) (Or.inl ⟨by rfl, ?_⟩) (by assumption) (fun hNew => ?_)
              rotate_left
              · intro w _
                go_simp
                try with_reducible rfl
              clear hHeld
              have hHeld := hNew
              clear hNew
              try simp only [List.getElem_toArray, List.getElem_cons_succ, List.getElem_cons_zero, Act.put, List.setIfInBounds_toArray, List.set_cons_zero, List.set_cons_succ]
              refine wpAnyL_take (i := 11) (oi := _) (v := ?_) rfl (by kernel_rfl) (by kernel_rfl) (by kernel_rfl) (by kernel_rfl) (by kernel_rfl) (fun _ _ _ h => h) (Or.inl ⟨by rfl, ?_⟩) (by assumption) (fun hNew => ?_)
              rotate_left
              · intro w _
                go_simp
                try with_reducible rfl
              clear hHeld
              have hHeld := hNew
              clear hNew
              try simp only [List.getElem_toArray, List.getElem_cons_succ, List.getElem_cons_zero, Act.put, List.setIfInBounds_toArray, List.set_cons_zero, List.set_cons_succ]
              refine wpAnyL_take (i := 13) (oi := _) (v := ?_) rfl (by kernel_rfl) (by kernel_rfl) (by kernel_rfl) (by kernel_rfl) (by kernel_rfl) (fun _ _ _ h => h) (Or.inl ⟨by rfl, ?_⟩) (by assumption) (fun hNew => ?_)
              rotate_left
              · intro w _
                go_simp
                try with_reducible rfl
              clear hHeld
              have hHeld := hNew
              clear hNew
              try simp only [List.getElem_toArray, List.getElem_cons_succ, List.getElem_cons_zero, Act.put, List.setIfInBounds_toArray, List.set_cons_zero, List.set_cons_succ]
              refine wpAnyL_take (i := 14) (oi := _) (v := ?_) rfl (by kernel_rfl) (by kernel_rfl) (by kernel_rfl) (by kernel_rfl) (by kernel_rfl) (fun _ _ _ h => h) (Or.inl ⟨by rfl, ?_⟩) (by assumption) (fun hNew => ?_)
              rotate_left
              · intro w _
                go_simp
                try with_reducible rfl
              clear hHeld
              have hHeld := hNew
              clear hNew
              try simp only [List.getElem_toArray, List.getElem_cons_succ, List.getElem_cons_zero, Act.put, List.setIfInBounds_toArray, List.set_cons_zero, List.set_cons_succ]
              refine wpAnyL_load 0 (i := 5) (oi := _) (v := ?_) rfl rfl (by kernel_rfl) (by kernel_rfl) (by kernel_rfl) (by kernel_rfl) (by kernel_rfl) (by kernel_rfl) (fun _ _ _ h => h) (Or.inl ⟨by rfl, ?_⟩) (by assumption) (fun hNew => ?_)
              rotate_left
              · intro w hSw
                (try dsimp only at hSw)
                go_simp
                try with_reducible rfl
              clear hHeld
              have hHeld := hNew
              clear hNew
              try simp only [List.getElem_toArray, List.getElem_cons_succ, List.getElem_cons_zero, Act.put, List.setIfInBounds_toArray, List.set_cons_zero, List.set_cons_succ]
              refine wpAnyL_take (i := 7) (oi := _) (v := ?_) rfl (by kernel_rfl) (by kernel_rfl) (by kernel_rfl) (by kernel_rfl) (by kernel_rfl) (fun _ _ _ h => h) (Or.inl ⟨by rfl, ?_⟩) (by assumption) (fun hNew => ?_)
              rotate_left
              · intro w _
                go_simp
                try with_reducible rfl
              clear hHeld
              have hHeld := hNew
              clear hNew
              try simp only [List.getElem_toArray, List.getElem_cons_succ, List.getElem_cons_zero, Act.put, List.setIfInBounds_toArray, List.set_cons_zero, List.set_cons_succ]
              refine wpAnyL_load 0 (i := 12) (oi := _) (v := ?_) rfl rfl (by kernel_rfl) (by kernel_rfl) (by kernel_rfl) (by kernel_rfl) (by kernel_rfl) (by kernel_rfl) (fun _ _ _ h => h) (Or.inl ⟨by rfl, ?_⟩) (by assumption) (fun hNew => ?_)
              rotate_left
              · intro w hSw
                (try dsimp only at hSw)
                go_simp
                try with_reducible rfl
              clear hHeld
              have hHeld := hNew
              clear hNew
              try simp only [List.getElem_toArray, List.getElem_cons_succ, List.getElem_cons_zero, Act.put, List.setIfInBounds_toArray, List.set_cons_zero, List.set_cons_succ]
              refine wpAnyL_take (i := 15) (oi := _) (v := ?_) rfl (by kernel_rfl) (by kernel_rfl) (by kernel_rfl) (by kernel_rfl) (by kernel_rfl) (fun _ _ _ h => h) (Or.inl ⟨by rfl, ?_⟩) (by assumption) (fun hNew => ?_)
              rotate_left
              · intro w _
                go_simp
                try with_reducible rfl
              clear hHeld
              have hHeld := hNew
              clear hNew
              try simp only [List.getElem_toArray, List.getElem_cons_succ, List.getElem_cons_zero, Act.put, List.setIfInBounds_toArray, List.set_cons_zero, List.set_cons_succ]
              refine wpAnyL_ready (rs := [1]) (by kernel_rfl) (by simp) ?_
              refine AllReadyL.cons (o := _) rfl (fun K hK => ?_) AllReadyL.nil
              try simp only [List.getElem_toArray, List.getElem_cons_succ, List.getElem_cons_zero]
              go_simp
              obtain ⟨W1, hW1⟩ : ∃ W1, W1 = (wr.alloc (.cells #[] 75)).drew := ⟨_, rfl⟩
              obtain ⟨z, hz⟩ : ∃ z, z = wr.heap.size := ⟨_, rfl⟩
              rw [← hW1, ← hz]
              have hc1 : Chg [] wr W1 := by rw [hW1]; exact ((Chg.refl [] wr).alloc _).drew
              have HC1 := Lib.hid hc1
              have HO1 : Hid (W1.ownsRow wr.heap.size 75 4 (.slice (some ⟨z, 0, none⟩) 0 0) 0 (thEs [])) := Lib.hid (by rw [hW1, hz]; exact World.ownsRow.drew (empty_row wr wr.heap.size (Nat.le_refl _)))
              have HS1 := Lib.hid ((row_take HROW.out i (by omega) cap).keep hc1)
              have HS2 := Lib.hid (row_rest HROW.out (i + 1) hil)
              have HZ := Lib.hid hz
              have e1 := hc1.cell t0 (by simp)
              clear hW1 hc1 hz
              clear hHeld
              refine hK.out _ _ ?_ (fun hHeld => ?_)
              · exact (HoldC.cons (e1) HoldC.nil)
              clear hK K
              try simp only [List.getElem_toArray, List.getElem_cons_succ, List.getElem_cons_zero, Act.put, List.setIfInBounds_toArray, List.set_cons_zero, List.set_cons_succ]
              refine wpAnyL_ready (rs := [8]) (by kernel_rfl) (by simp) ?_
              refine AllReadyL.cons (o := _) rfl (fun K hK => ?_) AllReadyL.nil
              try simp only [List.getElem_toArray, List.getElem_cons_succ, List.getElem_cons_zero]
              refine wp_appTh (.tmp 62) (.tmp 68) (by rfl) wr.heap.size _ [] (by rfl) HO1.out _ (T.take i) (by rfl) HS1.out (by simp; omega) HC1.out.size ?_
              intro v7 w7 ho7 hg7 hat7
              have HC7 : Hid (Chg [] wr w7) := Lib.hid (HC1.out.grown hg7 (fun k hk => .inr (by
                obtain rfl : z = k := by simpa [Value.ownBlock] using hk
                rw [HZ.out]; exact Nat.le_refl _)))
              have HS3 := Lib.hid (HS2.out.keep HC7.out)
              have HO7 := Lib.hid ho7
              have e7 := HC7.out.cell t0 (by simp)
              clear ho7 hg7 hat7 e1
              clear hHeld
              refine hK.out _ _ ?_ (fun hHeld => ?_)
              · exact (HoldC.cons (e7) HoldC.nil)
              clear hK K
              try simp only [List.getElem_toArray, List.getElem_cons_succ, List.getElem_cons_zero, Act.put, List.setIfInBounds_toArray, List.set_cons_zero, List.set_cons_succ]
              refine wpAnyL_ready (rs := [16]) (by kernel_rfl) (by simp) ?_
              refine AllReadyL.cons (o := _) rfl (fun K hK => ?_) AllReadyL.nil
              try simp only [List.getElem_toArray, List.getElem_cons_succ, List.getElem_cons_zero]
              refine wp_appTh (.tmp 69) (.tmp 76) (by rfl) wr.heap.size _ _ (by rfl) HO7.out _ (T.drop (i + 1)) (by rfl) HS3.out (by simp; omega) HC7.out.size ?_
              intro v8 w8 ho8 hg8 hat8
              have HC8 : Hid (Chg [] wr w8) := Lib.hid (HC7.out.grown hg8 (fun k hk => .inr (World.ownsRow.lt HO7.out k hk).1))
              obtain ⟨a8, c8, hv8, _⟩ := throw_own ho8
              subst hv8
              have HP : Hid (RDid wr (w8.setCell ⟨b, 0, none⟩ (.slice a8 ([] ++ T.take i ++ T.drop (i + 1)).length c8)) b (.slice (some ⟨g, 0, none⟩) T.length cap) base (T.filter (fun y => y.ino != n))) := Lib.hid (by
                refine RDid.put H1.out HC8.out ?_ hbase1 HTK.out
                rw [HFL.out]
                exact ho8)
              have hb8 := HC8.out.keep H1.out.head (by simp)
              have e8 := blk_cell hb8 0 _ rfl
              have f8 := blk_frozen hb8 0
              have l8 := blk_lt hb8
              generalize ([] ++ T.take i ++ T.drop (i + 1)).length = n8 at *
              clear ho8 hg8 hat8 e7 hb8
              clear hHeld
              refine hK.out _ _ ?_ (fun hHeld => ?_)
              · exact (HoldC.cons (e8) HoldC.nil)
              clear hK K
              try simp only [List.getElem_toArray, List.getElem_cons_succ, List.getElem_cons_zero, Act.put, List.setIfInBounds_toArray, List.set_cons_zero, List.set_cons_succ]
              refine wpAnyL_take (i := 17) (oi := _) (v := ?_) rfl (by kernel_rfl) (by kernel_rfl) (by kernel_rfl) (by kernel_rfl) (by kernel_rfl) (fun _ _ _ h => h) (Or.inl ⟨by rfl, ?_⟩) (by assumption) (fun hNew => ?_)
              rotate_left
              · intro w _
                go_simp
                try with_reducible rfl
              clear hHeld
              have hHeld := hNew
              clear hNew
              try simp only [List.getElem_toArray, List.getElem_cons_succ, List.getElem_cons_zero, Act.put, List.setIfInBounds_toArray, List.set_cons_zero, List.set_cons_succ]
              refine wpAnyL_take (i := 18) (oi := _) (v := ?_) rfl (by kernel_rfl) (by kernel_rfl) (by kernel_rfl) (by kernel_rfl) (by kernel_rfl) (fun _ _ _ h => h) (Or.inl ⟨by rfl, ?_⟩) (by assumption) (fun hNew => ?_)
              rotate_left
              · intro w _
                go_simp
                try with_reducible rfl
              clear hHeld
              have hHeld := hNew
              clear hNew
              try simp only [List.getElem_toArray, List.getElem_cons_succ, List.getElem_cons_zero, Act.put, List.setIfInBounds_toArray, List.set_cons_zero, List.set_cons_succ]
              refine wpAnyL_ready (rs := [19]) (by kernel_rfl) (by simp) ?_
              refine AllReadyL.cons (o := _) rfl (fun K hK => ?_) AllReadyL.nil
              try simp only [List.getElem_toArray, List.getElem_cons_succ, List.getElem_cons_zero]
              go_simp
              clear hHeld
              refine hK.out _ _ ?_ (fun hHeld => ?_)
              · exact (HoldC.past (by kernel_rfl) HoldC.nil)
              clear hK K
              try simp only [List.getElem_toArray, List.getElem_cons_succ, List.getElem_cons_zero, Act.put, List.setIfInBounds_toArray, List.set_cons_zero, List.set_cons_succ]
              refine wpAnyL_done (by kernel_rfl) ?_ _
              clear hHeld
              generalize w8.setCell ⟨b, 0, none⟩ (.slice a8 n8 c8) = w9 at *
              clear e8 f8 l8 t0 HS2 HS3
              generalize hq : (if cap = i + 1 then (some ⟨g, 0, none⟩ : Option Addr) else some ⟨g, (i + 1) * 4, none⟩) = ad
              clear hq
              go_wp2
              go_ret2
              rw [HE.out]
              obtain ⟨v', r1, r2, r3⟩ := HP.out
              refine ⟨rfl, v', r1, ?_, (HB.out.mono (by simp)).trans r3 (by simp)⟩
              rcases r2 with r2 | r2
              · exact .inl r2
              · exact .inr (fun g hg => Nat.le_trans HB.out.size (r2 g hg))
      · have hx : (d = true ∧ isd = false) ∨ (d = false ∧ isd = true) := by
          cases d <;> cases isd <;> simp_all
        clear hdd
        rcases hx with ⟨rfl, rfl⟩ | ⟨rfl, rfl⟩
        · have HE : Hid (Z = ((0, 10), T)) := Lib.hid (by rw [HX2.out]; rfl)
          go_wp2
          go_ret2
          rw [HE.out]
          exact ⟨rfl, RDid.same H.out HB.out⟩
        · have HE : Hid (Z = ((0, 9), T)) := Lib.hid (by rw [HX2.out]; rfl)
          go_wp2
          go_ret2
          rw [HE.out]
          exact ⟨rfl, RDid.same H.out HB.out⟩
  · have HE : Hid (Z = ((0, er), T)) := Lib.hid (by rw [HX.out, if_pos h0])
    have he0 : (er != 0) = true := by simpa using h0
    clear h0 HX HO
    go_wp2
    go_ret2
    rw [HE.out]
    exact ⟨rfl, RDid.same H.out HB.out⟩
end Go.Proofs.YtaiihklfeoeoeaaGreat.W

/- The reference's Move. -/
namespace Go.Proofs.YtaiihklfeoeoeaaGreat.W
open Go.RowKit
open Go.Proofs.YtaiihklfeoeoeaaGreat.NM
set_option linter.unusedVariables false
set_option linter.unusedSimpArgs false

theorem thEs_cons (y : Th) (r : PT) : thEs (y :: r) = thE y ++ thEs r := rfl
theorem thEs_set {T : PT} {i : Nat} {x : Th} (hx : T[i]? = some x) (q : Nat) (la : List UInt8) : ((thEs T).set (i * 4 + 1) (.int .i64 (q : Int))).set (i * 4 + 2) (.string ⟨la.toArray⟩) = thEs (T.set i { x with dir := q, name := la }) := by
  induction T generalizing i with
  | nil => simp at hx
  | cons y r ih =>
    match i with
    | 0 =>
      obtain rfl : y = x := by simpa using hx
      simp [thEs_cons, thE]
    | i + 1 =>
      have hx' : r[i]? = some x := by simpa using hx
      rw [thEs_cons, List.set_append_right _ _ (by rw [thE_len]; omega), List.set_append_right _ _ (by rw [thE_len]; omega), thE_len]
      rw [show (i + 1) * 4 + 1 - 4 = i * 4 + 1 by omega, show (i + 1) * 4 + 2 - 4 = i * 4 + 2 by omega, ih hx', List.set_cons_succ, thEs_cons]
theorem ren_at {T : PT} (h : T.Pairwise (fun x y => x.ino < y.ino)) {i : Nat} {x : Th} (hx : T[i]? = some x) (q : Nat) (la : List UInt8) : tRename T x.ino q la = T.set i { x with dir := q, name := la } := by
  unfold tRename
  induction T generalizing i with
  | nil => simp at hx
  | cons y r ih =>
    have h' := List.pairwise_cons.1 h
    match i with
    | 0 =>
      obtain rfl : y = x := by simpa using hx
      rw [List.map_cons, if_pos rfl, List.set_cons_zero]
      congr 1
      conv => rhs; rw [← List.map_id r]
      refine List.map_congr_left fun z hz => ?_
      have := h'.1 z hz
      rw [if_neg (by omega)]; rfl
    | i + 1 =>
      have hx' : r[i]? = some x := by simpa using hx
      have := h'.1 x (List.mem_of_getElem? hx')
      rw [List.map_cons, if_neg (by omega), List.set_cons_succ, ih h'.2 hx']
def RMovePost (w : World) (b : Nat) (v : Value) (base : Nat) (r : Int × PT) (e : Ending) (w' : World) : Prop := e = .returned (.int .i64 r.1) ∧ RDid w w' b v base r.2
/-- What stands in memory while a thing is given another name. -/
theorem move_rows {wo w7 : World} {b base g7 c7 i q : Nat} {v : Value} {T : PT} {x : Th} {la : List UInt8} (h : RTOk wo b v base T) (hx : T[i]? = some x) (hc : Chg [] wo w7) (ho : w7.ownsRow wo.heap.size 75 4 (.slice (some ⟨g7, 0, none⟩) T.length c7) T.length (thEs T)) (hb0 : base ≤ wo.heap.size)
    (hok : TOk (tRename T x.ino q la)) :
    (w7.cell? ⟨g7, i * 4 + 1, none⟩ = some (.int .i64 (x.dir : Int)) ∧ w7.frozen? ⟨g7, i * 4 + 1, none⟩ = false ∧ w7.cell? ⟨g7, i * 4 + 2, none⟩ = some (.string ⟨x.name.toArray⟩) ∧ w7.frozen? ⟨g7, i * 4 + 2, none⟩ = false ∧ g7 < w7.heap.size ∧ w7.cell? ⟨b, 0, none⟩ = some v ∧ w7.frozen? ⟨b, 0, none⟩ = false ∧ b < w7.heap.size ∧ b ≠ g7) ∧
    Hid (RDid wo (((w7.setCell ⟨g7, i * 4 + 1, none⟩ (.int .i64 (q : Int))).setCell ⟨g7, i * 4 + 2, none⟩ (.string ⟨la.toArray⟩)).setCell ⟨b, 0, none⟩ (.slice (some ⟨g7, 0, none⟩) T.length c7)) b v base (tRename T x.ino q la)) := by
  obtain ⟨gl, gb⟩ : g7 < w7.heap.size ∧ wo.heap.size ≤ g7 := ⟨(World.ownsRow.lt ho g7 rfl).2, (World.ownsRow.lt ho g7 rfl).1⟩
  have hb7 := hc.keep h.head (by simp)
  have hil := (List.getElem?_eq_some_iff.1 hx).1
  have key : ∀ j, j < 4 → ∀ u, (thE x)[j]? = some u → w7.cell? ⟨g7, i * 4 + j, none⟩ = some u := by
    intro j hj u hu
    have := World.ownsRow.cells ho (g := g7) rfl (i * 4 + j) u (by rw [thEs_at hx hj]; exact hu)
    rw [add_none] at this
    simpa using this
  have hfz : ∀ j, w7.frozen? ⟨g7, j, none⟩ = false := fun j => by
    rcases ho.2 with ⟨h1, _⟩ | ⟨g, cap, cur, h1, _, hg, _⟩
    · cases h1
    · simp only [Value.slice.injEq, Option.some.injEq, Addr.mk.injEq, and_true, true_and] at h1
      obtain ⟨rfl, _⟩ := h1
      exact blk_frozen hg j
  refine ⟨⟨key 1 (by omega) _ rfl, hfz _, key 2 (by omega) _ rfl, hfz _, gl, blk_cell hb7 0 _ rfl, blk_frozen hb7 0, blk_lt hb7, by have := h.lt; omega⟩, Lib.hid ?_⟩
  obtain ⟨o1, g1⟩ := World.ownsRow.stored ho (i * 4 + 1) (.int .i64 (q : Int)) 
  obtain ⟨o2, g2⟩ := World.ownsRow.stored o1 (i * 4 + 2) (.string ⟨la.toArray⟩)
  rw [thEs_set hx q la] at o2
  refine RDid.put h (((hc.setCell (.inr gb) _)).setCell (.inr gb) _) ?_ hb0 hok
  rw [ren_at h.ok.rise hx]
  have : (T.set i { x with dir := q, name := la }).length = T.length := by simp
  rw [this]
  exact o2
theorem rmove_ready {wo w1 w7 : World} {b base i q : Nat} {v v7 : Value} {T : PT} {x : Th} {la : List UInt8} (h : RTOk wo b v base T) (hx : T[i]? = some x) (hc : Chg [] wo w1) (ho : w7.ownsRow wo.heap.size 75 4 v7 ([] ++ T).length (thEs ([] ++ T)))
    (hg : w1.grownBy w7 (some wo.heap.size)) (hb0 : base ≤ wo.heap.size) (hok : TOk (tRename T x.ino q la)) : ∃ g7 c7, v7 = .slice (some ⟨g7, 0, none⟩) T.length c7 ∧ Hid (Chg [] wo w7) ∧
    ((w7.cell? ⟨g7, i * 4 + 1, none⟩ = some (.int .i64 (x.dir : Int)) ∧ w7.frozen? ⟨g7, i * 4 + 1, none⟩ = false ∧ w7.cell? ⟨g7, i * 4 + 2, none⟩ = some (.string ⟨x.name.toArray⟩) ∧ w7.frozen? ⟨g7, i * 4 + 2, none⟩ = false ∧ g7 < w7.heap.size ∧ w7.cell? ⟨b, 0, none⟩ = some v ∧ w7.frozen? ⟨b, 0, none⟩ = false ∧ b < w7.heap.size ∧ b ≠ g7) ∧
    Hid (RDid wo (((w7.setCell ⟨g7, i * 4 + 1, none⟩ (.int .i64 (q : Int))).setCell ⟨g7, i * 4 + 2, none⟩ (.string ⟨la.toArray⟩)).setCell ⟨b, 0, none⟩ (.slice (some ⟨g7, 0, none⟩) T.length c7)) b v base (tRename T x.ino q la))) := by
  rw [List.nil_append] at ho
  have hil := (List.getElem?_eq_some_iff.1 hx).1
  obtain ⟨a, c, rfl, _, hr⟩ := throw_own ho
  obtain ⟨g7, rfl⟩ : ∃ g, a = some ⟨g, 0, none⟩ := by
    rcases hr with h0 | ⟨g, h1, _⟩
    · rw [h0] at hil; simp at hil
    · exact ⟨g, h1⟩
  have hc7 : Chg [] wo w7 := hc.grown hg (fun k hk => by cases hk; exact .inr (Nat.le_refl _))
  exact ⟨g7, c, rfl, Lib.hid hc7, move_rows h hx hc7 ho hb0 hok⟩
theorem within_root {a b : List UInt8} {l : List (List UInt8)} (ha : splitB a = some l) (hb : splitB b = some []) : withinB a b = true := by
  unfold withinB; rw [ha, hb]; rfl
theorem look_split {T : PT} {p : List UInt8} (h : (tLook T p).2.2 = 0) : ∃ l, splitB p = some l := by
  unfold tLook at h
  cases hs : splitB p with
  | none => rw [hs] at h; cases h
  | some l => exact ⟨l, rfl⟩

set_option maxHeartbeats 8000000 in
set_option maxRecDepth 100000 in
theorem rmove_any (b base : Nat) (v : Value) (T : PT) (s s2 : ByteArray) (w : World) (h : RTOk w b v base T) (hs : s.size ≤ 1000) (hs2 : s2.size ≤ 1000) (hb0 : base ≤ w.heap.size) :
    Calls Tryz.prog 23 #[.pointer (some ⟨b, 0, none⟩), .string s, .string s2] w (RMovePost w b v base (tMove T s.data.toList s2.data.toList)) := by
  have H := Lib.hid h
  have hok := Lib.hid h.ok
  have hTl := tok_len' h.ok
  have hbl := h.lt
  obtain ⟨Z, hZ⟩ : ∃ Z, tMove T s.data.toList s2.data.toList = Z := ⟨_, rfl⟩
  have HX : Hid (Z = if (tLook T s.data.toList).2.2 ≠ 0 then ((tLook T s.data.toList).2.2, T) else if (tLook T s.data.toList).1 = 1 then (8, T) else
    if splitB s2.data.toList = none then (12, T) else if (withinB s2.data.toList s.data.toList || withinB s.data.toList s2.data.toList) = true then (1, T) else
    if (tPlace T s2.data.toList).2.2 ≠ 0 then ((tPlace T s2.data.toList).2.2, T) else
    if tKid T (tPlace T s2.data.toList).1 (tPlace T s2.data.toList).2.1 ≠ 0 then (7, T) else
    (0, tRename T (tLook T s.data.toList).1 (tPlace T s2.data.toList).1 (tPlace T s2.data.toList).2.1)) := Lib.hid (by rw [← hZ]; rfl)
  rw [hZ]
  clear hZ
  have HP := Lib.hid (rlook_any b base v T s w h hs)
  have HO : Hid ((tLook T s.data.toList).2.2 = 0 → tHas T (tLook T s.data.toList).1 = true ∧ ∃ l, splitB s.data.toList = some l) := Lib.hid (fun h => ⟨(look_okL h).1, look_split h⟩)
  have HS2 := Lib.hid hs2
  have HS := Lib.hid hs
  clear h hs hs2
  generalize tLook T s.data.toList = r at *
  obtain ⟨n, isd, er⟩ := r
  simp only at HX HO
  go_enter Tryz.func23, Tryz.ntmps23
  go_wp2_with fail
  refine HP.out.mono ?_
  rintro e w1 ⟨rfl, hb1⟩
  have HB := Lib.hid hb1
  clear hb1 HP
  by_cases h0 : er = 0
  · subst h0
    obtain ⟨o1, o2⟩ := HO.out rfl
    have HA := Lib.hid o1
    have HSP := Lib.hid o2
    have hns := has_small hok.out o1
    have HX1 : Hid (Z = if n = 1 then (8, T) else
      if splitB s2.data.toList = none then (12, T) else if (withinB s2.data.toList s.data.toList || withinB s.data.toList s2.data.toList) = true then (1, T) else
      if (tPlace T s2.data.toList).2.2 ≠ 0 then ((tPlace T s2.data.toList).2.2, T) else
      if tKid T (tPlace T s2.data.toList).1 (tPlace T s2.data.toList).2.1 ≠ 0 then (7, T) else
      (0, tRename T n (tPlace T s2.data.toList).1 (tPlace T s2.data.toList).2.1)) := Lib.hid (by rw [HX.out, if_neg (by simp)])
    clear o1 o2 HX HO
    by_cases hn1 : n = 1
    · have HE : Hid (Z = (8, T)) := Lib.hid (by rw [HX1.out, if_pos hn1])
      subst hn1
      go_wp2
      go_ret
      rw [HE.out]
      exact ⟨rfl, RDid.same H.out HB.out⟩
    · have hz1 : ((n : Int) == 1) = false := by simp; omega
      have HN1 := Lib.hid hn1
      have HX2 : Hid (Z = if splitB s2.data.toList = none then (12, T) else if (withinB s2.data.toList s.data.toList || withinB s.data.toList s2.data.toList) = true then (1, T) else
        if (tPlace T s2.data.toList).2.2 ≠ 0 then ((tPlace T s2.data.toList).2.2, T) else
        if tKid T (tPlace T s2.data.toList).1 (tPlace T s2.data.toList).2.1 ≠ 0 then (7, T) else
        (0, tRename T n (tPlace T s2.data.toList).1 (tPlace T s2.data.toList).2.1)) := Lib.hid (by rw [HX1.out, if_neg hn1])
      clear HX1 hn1
      cases hsp : splitB s2.data.toList with
      | none =>
        have HE : Hid (Z = (12, T)) := Lib.hid (by rw [HX2.out, if_pos hsp])
        have HSP2 := Lib.hid hsp
        clear hsp
        go_wp2_with fail
        refine (rsplit_any s2 w1 HS2.out).mono ?_
        rintro e w2 ⟨hb, h2⟩
        rw [HSP2.out] at h2
        subst h2
        have HB2 := Lib.hid (chg_tr HB.out (chg_below hb))
        clear hb
        go_wp2
        go_ret
        rw [HE.out]
        exact ⟨rfl, RDid.same H.out HB2.out⟩
      | some l2 =>
        have HX3 : Hid (Z = if (withinB s2.data.toList s.data.toList || withinB s.data.toList s2.data.toList) = true then (1, T) else
          if (tPlace T s2.data.toList).2.2 ≠ 0 then ((tPlace T s2.data.toList).2.2, T) else
          if tKid T (tPlace T s2.data.toList).1 (tPlace T s2.data.toList).2.1 ≠ 0 then (7, T) else
          (0, tRename T n (tPlace T s2.data.toList).1 (tPlace T s2.data.toList).2.1)) := Lib.hid (by rw [HX2.out, if_neg (by rw [hsp]; simp)])
        have HRT : Hid (withinB s.data.toList s2.data.toList = false → splitB s2.data.toList ≠ some []) := Lib.hid (fun h e => by
          obtain ⟨l, hl⟩ := HSP.out
          rw [within_root hl e] at h; cases h)
        have HW1 : Hid (∀ w, Calls Tryz.prog 48 #[.string s2, .string s] w (fun e w' => e = .returned (.bool (withinB s2.data.toList s.data.toList)) ∧ Chg [] w w')) := Lib.hid (fun w => (rwithin_any s2 s w HS2.out HS.out).mono fun e w' ⟨h1, h2⟩ => ⟨h1, chg_below h2⟩)
        have HW2 : Hid (∀ w, Calls Tryz.prog 48 #[.string s, .string s2] w (fun e w' => e = .returned (.bool (withinB s.data.toList s2.data.toList)) ∧ Chg [] w w')) := Lib.hid (fun w => (rwithin_any s s2 w HS.out HS2.out).mono fun e w' ⟨h1, h2⟩ => ⟨h1, chg_below h2⟩)
        have HSPL : Hid (∀ w, Calls Tryz.prog 47 #[.string s2] w (fun e w' => (∃ v, e = .returned (.tuple #[v, .int .i64 0])) ∧ Chg [] w w')) := Lib.hid (fun w => (rsplit_any s2 w HS2.out).mono fun e w' ⟨hb, h2⟩ => by
          rw [hsp] at h2
          obtain ⟨v, h2, _⟩ := h2
          exact ⟨⟨v, h2⟩, chg_below hb⟩)
        clear hsp HX2
        go_wp2_with fail
        refine (HSPL.out w1).mono ?_
        rintro e w2 ⟨⟨v2, rfl⟩, hb⟩
        have HB2 := Lib.hid (chg_tr HB.out hb)
        clear hb
        generalize withinB s2.data.toList s.data.toList = b1 at *
        generalize withinB s.data.toList s2.data.toList = b2 at *
        cases b1 with
        | true =>
          have HE : Hid (Z = (1, T)) := Lib.hid (by rw [HX3.out, if_pos (by simp)])
          go_wp2_with fail
          refine (HW1.out w2).mono ?_
          rintro e w3 ⟨rfl, hb⟩
          have HB3 := Lib.hid (chg_tr HB2.out hb)
          clear hb
          go_wp2
          go_ret
          rw [HE.out]
          exact ⟨rfl, RDid.same H.out HB3.out⟩
        | false =>
          go_wp2_with fail
          refine (HW1.out w2).mono ?_
          rintro e w3 ⟨rfl, hb⟩
          have HB3 := Lib.hid (chg_tr HB2.out hb)
          clear hb
          go_wp2_with fail
          refine (HW2.out w3).mono ?_
          rintro e w4 ⟨rfl, hb⟩
          have HB4 := Lib.hid (chg_tr HB3.out hb)
          clear hb
          cases b2 with
          | true =>
            have HE : Hid (Z = (1, T)) := Lib.hid (by rw [HX3.out, if_pos (by simp)])
            go_wp2
            go_ret
            rw [HE.out]
            exact ⟨rfl, RDid.same H.out HB4.out⟩
          | false =>
            have HNR := Lib.hid (HRT.out rfl)
            have H4 := Lib.hid (H.out.keep0 HB4.out)
            have HX4 : Hid (Z = if (tPlace T s2.data.toList).2.2 ≠ 0 then ((tPlace T s2.data.toList).2.2, T) else
              if tKid T (tPlace T s2.data.toList).1 (tPlace T s2.data.toList).2.1 ≠ 0 then (7, T) else
              (0, tRename T n (tPlace T s2.data.toList).1 (tPlace T s2.data.toList).2.1)) := Lib.hid (by rw [HX3.out, if_neg (by simp)])
            have HPL := Lib.hid (rplace_any b base v T s2 w4 H4.out HS2.out HNR.out)
            have HPO : Hid ((tPlace T s2.data.toList).2.2 = 0 → tIsDir T (tPlace T s2.data.toList).1 = true ∧ mayB (tPlace T s2.data.toList).2.1 = true ∧ tHas T (tPlace T s2.data.toList).1 = true) := Lib.hid place_ok
            clear HX3 HRT HNR HSPL HW1 HW2
            generalize tPlace T s2.data.toList = r at *
            obtain ⟨a, la, er⟩ := r
            simp only at HX4 HPO
            go_wp2_with fail
            refine HPL.out.mono ?_
            rintro e w5 ⟨rfl, hb⟩
            have HB5 := Lib.hid (chg_tr HB4.out hb)
            clear hb HPL
            by_cases h0 : er = 0
            · subst h0
              obtain ⟨o1, o2, o3⟩ := HPO.out rfl
              have HD := Lib.hid o1
              have HM := Lib.hid o2
              have has := has_small hok.out o3
              have HX5 : Hid (Z = if tKid T a la ≠ 0 then (7, T) else (0, tRename T n a la)) := Lib.hid (by rw [HX4.out, if_neg (by simp)])
              clear o1 o2 o3 HX4 HPO
              have H5 := Lib.hid (H.out.keep0 HB5.out)
              have CK := rkid_any b base v T a la w5 H5.out
              rw [kdI_nat] at CK
              have HCK := Lib.hid CK
              clear CK
              go_wp2_with fail
              refine HCK.out.mono ?_
              rintro e w6 ⟨rfl, rfl⟩
              by_cases hk0 : tKid T a la = 0
              · have HE : Hid (Z = (0, tRename T n a la)) := Lib.hid (by rw [HX5.out, if_neg (by simp [hk0])])
                have HTK : Hid (TOk (tRename T n a la)) := Lib.hid (hok.out.ren HD.out ((kid_zero hok.out).1 hk0) HM.out)
                rw [hk0]
                clear hk0 HX5 HCK
                have HF := Lib.hid (rfind_any b base _ T n w5 H5.out)
                obtain ⟨i, x, hi, hix, hig⟩ : ∃ (i : Nat) (x : Th), fiI T n = i ∧ T[i]? = some x ∧ tGet T n = some x := by
                  rcases fiI_cases T n with ⟨h2, h3⟩ | h2
                  · have := HA.out
                    unfold tHas at this
                    rw [h3] at this
                    simp at this
                    exact absurd this HN1.out
                  · exact h2
                have hil := (List.getElem?_eq_some_iff.1 hix).1
                rw [hi] at HF
                have hxn := (get_some hig).2
                have HIX := Lib.hid hix
                subst hxn
                clear hi hix hig
                obtain ⟨A, cap, hv, hcap, hrow⟩ := throw_own H5.out.rows
                subst hv
                have t0 : w5.cell? ⟨b, 0, none⟩ = some (.slice A T.length cap) := blk_cell H5.out.head 0 _ rfl
                obtain ⟨g, rfl, hg⟩ : ∃ g, A = some ⟨g, 0, none⟩ ∧ g < w5.heap.size := by
                  rcases hrow with h0 | ⟨g, h1, h2, h3⟩
                  · rw [h0] at hil; simp at hil
                  · exact ⟨g, h1, h2⟩
                have hbase5 : base ≤ w5.heap.size := Nat.le_trans hb0 HB5.out.size
                have hbl5 := H5.out.lt
                have HSRC : Hid (SrcTh (w5.alloc (.cells #[] 75)) (.slice (some ⟨g, 0, none⟩) T.length cap) T) := Lib.hid (by
                  have := (row_take H5.out.rows T.length (Nat.le_refl _) cap).keep ((Chg.refl [] w5).alloc (.cells #[] 75))
                  rwa [List.take_length] at this)
                have HO0 := Lib.hid (empty_row w5 w5.heap.size (Nat.le_refl _))
                have HC0 : Hid (Chg [] w5 (w5.alloc (.cells #[] 75))) := Lib.hid ((Chg.refl [] w5).alloc _)
                have hilz : (i : Int) < (T.length : Int) := by omega
                clear hrow
                go_wp2_with fail
                refine HF.out.mono ?_
                rintro e w6 ⟨rfl, rfl⟩
                go_wp2_with (at_builtin; refine wpList_appTh rfl _ _ rfl w5.heap.size _ [] rfl HO0.out _ T rfl HSRC.out (by simp; omega) HC0.out.size ?_; intro v7 w7 ho7 hg7 hat7
                             obtain ⟨g7, c7, rfl, HC7, HRW⟩ := rmove_ready H5.out HIX.out HC0.out ho7 hg7 hbase5 HTK.out
                             obtain ⟨⟨m1, m2, m3, m4, m5, m6, m7, m8, m9⟩, HP⟩ := HRW
                             clear ho7 hg7 hat7)
                go_ret
                rw [HE.out]
                obtain ⟨v', r1, r2, r3⟩ := HP.out
                refine ⟨rfl, v', r1, ?_, (HB5.out.mono (by simp)).trans r3 (by simp)⟩
                rcases r2 with r2 | r2
                · exact .inl r2
                · exact .inr (fun g hg => Nat.le_trans HB5.out.size (r2 g hg))
              · have HE : Hid (Z = (7, T)) := Lib.hid (by rw [HX5.out, if_pos hk0])
                generalize tKid T a la = c at *
                have hc0 : ((c : Int) != 0) = true := by simp; omega
                clear hk0
                go_wp2
                go_ret
                rw [HE.out]
                exact ⟨rfl, RDid.same H.out HB5.out⟩
            · have HE : Hid (Z = (er, T)) := Lib.hid (by rw [HX4.out, if_pos h0])
              have he0 : (er != 0) = true := by simpa using h0
              clear h0 HX4 HPO
              go_wp2
              go_ret
              rw [HE.out]
              exact ⟨rfl, RDid.same H.out HB5.out⟩
  · have HE : Hid (Z = (er, T)) := Lib.hid (by rw [HX.out, if_pos h0])
    have he0 : (er != 0) = true := by simpa using h0
    clear h0 HX HO
    go_wp2
    go_ret
    rw [HE.out]
    exact ⟨rfl, RDid.same H.out HB.out⟩
end Go.Proofs.YtaiihklfeoeoeaaGreat.W

/- Two trees side by side: ours and the reference's; do. -/
namespace Go.Proofs.YtaiihklfeoeoeaaGreat.W
open Go.RowKit
open Go.Proofs.YtaiihklfeoeoeaaGreat.NM
set_option linter.unusedVariables false
set_option linter.unusedSimpArgs false

structure Two (w0 w : World) (t b : Nat) (S : List Nat) (v : Value) (T U : PT) : Prop where
  ours : TreeAt w t S T
  refs : RTOk w b v w0.heap.size U
  newS : ∀ x ∈ S, w0.heap.size ≤ x
  newb : w0.heap.size ≤ b
  apart : b ∉ S
  apart2 : ∀ g, v.ownBlock = some g → g ∉ S
  chg : Chg [] w0 w
/-- Blocks that a tree, and the reference's, do not touch. -/
def Off (w : World) (S : List Nat) (b : Nat) (v : Value) (K : List Nat) : Prop := ∀ k ∈ K, k ∉ S ∧ k ≠ b ∧ v.ownBlock ≠ some k ∧ k < w.heap.size
def KeepK (K : List Nat) (w w' : World) : Prop := ∀ k ∈ K, w'.heap[k]? = w.heap[k]?
theorem KeepK.trans {K : List Nat} {a b c : World} (h : KeepK K a b) (k : KeepK K b c) : KeepK K a c := fun x hx => (k x hx).trans (h x hx)
theorem KeepK.of_chg {K S : List Nat} {a b : World} (h : Chg S a b) (hk : ∀ k ∈ K, k ∉ S ∧ k < a.heap.size) : KeepK K a b := fun x hx => h.block x (hk x hx).2 (hk x hx).1
/-- Two trees of our own, apart; the blocks of K are none of theirs. -/
def Both (K : List Nat) (w0 w : World) (t b : Nat) (T U : PT) : Prop := ∃ S v, Two w0 w t b S v T U ∧ Off w S b v K
theorem Two.our {K : List Nat} {w0 w w' : World} {t b : Nat} {S : List Nat} {v : Value} {T U T' : PT} (h : Two w0 w t b S v T U) (hK : Off w S b v K) (hd : TDid w w' t S T') : Both K w0 w' t b T' U ∧ KeepK K w w' := by
  obtain ⟨S', d1, d2, d3⟩ := hd
  have hl := h.ours.lim
  refine ⟨⟨S', v, ⟨d1, h.refs.keep d3 h.apart (fun g hg => h.apart2 g hg), fun x hx => ?_, h.newb, fun hm => ?_, fun g hg hm => ?_, h.chg.trans d3 (fun x hx => .inr (h.newS x hx))⟩, fun k hk => ?_⟩, .of_chg d3 (fun k hk => ⟨(hK k hk).1, (hK k hk).2.2.2⟩)⟩
  · rcases d2 x hx with h1 | h1
    · exact h.newS x h1
    · exact Nat.le_trans h.chg.size h1
  · rcases d2 _ hm with h1 | h1
    · exact h.apart h1
    · have := h.refs.lt; omega
  · rcases d2 _ hm with h1 | h1
    · exact h.apart2 g hg h1
    · have := (World.ownsRow.lt h.refs.rows g hg).2; omega
  · obtain ⟨k1, k2, k3, k4⟩ := hK k hk
    refine ⟨fun hm => ?_, k2, k3, Nat.lt_of_lt_of_le k4 d3.size⟩
    rcases d2 _ hm with h1 | h1
    · exact k1 h1
    · omega
theorem Two.ref {K : List Nat} {w0 w w' : World} {t b : Nat} {S : List Nat} {v : Value} {T U U' : PT} (h : Two w0 w t b S v T U) (hK : Off w S b v K) (hd : RDid w w' b v w0.heap.size U') : Both K w0 w' t b T U' ∧ KeepK K w w' := by
  obtain ⟨v', d1, d2, d3⟩ := hd
  refine ⟨⟨S, v', ⟨h.ours.keep d3 (fun x hx hm => h.apart (by simp at hm; subst hm; exact hx)), d1, h.newS, h.newb, h.apart, fun g hg hm => ?_, h.chg.trans d3 (fun x hx => .inr (by simp at hx; subst hx; exact h.newb))⟩, fun k hk => ?_⟩, .of_chg d3 (fun k hk => ⟨by simpa using (hK k hk).2.1, (hK k hk).2.2.2⟩)⟩
  · rcases d2 with rfl | d2
    · exact h.apart2 g hg hm
    · have := d2 g hg
      have := h.ours.lim g hm
      omega
  · obtain ⟨k1, k2, k3, k4⟩ := hK k hk
    refine ⟨k1, k2, fun e => ?_, Nat.lt_of_lt_of_le k4 d3.size⟩
    rcases d2 with rfl | d2
    · exact k3 e
    · have := d2 k e; omega
theorem Both.keep {K : List Nat} {w0 w w' : World} {t b : Nat} {T U : PT} (h : Both K w0 w t b T U) (hc : Chg [] w w') : Both K w0 w' t b T U := by
  obtain ⟨S, v, h, hK⟩ := h
  exact ⟨S, v, ⟨h.ours.keep0 hc, h.refs.keep0 hc, h.newS, h.newb, h.apart, h.apart2, chg_tr h.chg hc⟩, fun k hk => ⟨(hK k hk).1, (hK k hk).2.1, (hK k hk).2.2.1, Nat.lt_of_lt_of_le (hK k hk).2.2.2 hc.size⟩⟩
/-- A change of blocks that are none of theirs. -/
theorem Both.keepO {K O : List Nat} {w0 w w' : World} {t b : Nat} {T U : PT} (h : Both K w0 w t b T U) (hc : Chg O w w') (hO : ∀ k ∈ O, k ∈ K) (hn : ∀ k ∈ O, w0.heap.size ≤ k) : Both K w0 w' t b T U := by
  obtain ⟨S, v, h, hK⟩ := h
  exact ⟨S, v, ⟨h.ours.keep hc (fun x hx hm => (hK x (hO x hm)).1 hx), h.refs.keep hc (fun hm => (hK _ (hO _ hm)).2.1 rfl) (fun g hg hm => (hK g (hO g hm)).2.2.1 hg), h.newS, h.newb, h.apart, h.apart2, h.chg.trans hc (fun x hx => .inr (hn x hx))⟩, fun k hk => ⟨(hK k hk).1, (hK k hk).2.1, (hK k hk).2.2.1, Nat.lt_of_lt_of_le (hK k hk).2.2.2 hc.size⟩⟩
theorem Both.mono {K L : List Nat} {w0 w : World} {t b : Nat} {T U : PT} (h : Both K w0 w t b T U) (hL : ∀ k ∈ L, k ∈ K) : Both L w0 w t b T U := by
  obtain ⟨S, v, h, hK⟩ := h
  exact ⟨S, v, h, fun k hk => hK k (hL k hk)⟩
/-- A block that was made now is none of theirs. -/
theorem Both.add {K : List Nat} {w0 w w' : World} {t b : Nat} {T U : PT} (h : Both K w0 w t b T U) (hc : Chg [] w w') (k : Nat) (hk : w.heap.size ≤ k) (hk2 : k < w'.heap.size) : Both (k :: K) w0 w' t b T U := by
  obtain ⟨S, v, h2, hK2⟩ := h.keep hc
  obtain ⟨S, v, h, hK⟩ := h
  refine ⟨S, v, ⟨h.ours.keep0 hc, h.refs.keep0 hc, h.newS, h.newb, h.apart, h.apart2, chg_tr h.chg hc⟩, fun x hx => ?_⟩
  rcases List.mem_cons.1 hx with rfl | hx
  · refine ⟨fun hm => ?_, ?_, fun e => ?_, hk2⟩
    · have := h.ours.lim _ hm; omega
    · have := h.refs.lt; omega
    · have := (World.ownsRow.lt h.refs.rows _ e).2; omega
  · exact ⟨(hK x hx).1, (hK x hx).2.1, (hK x hx).2.2.1, Nat.lt_of_lt_of_le (hK x hx).2.2.2 hc.size⟩
theorem Both.chg {K : List Nat} {w0 w : World} {t b : Nat} {T U : PT} (h : Both K w0 w t b T U) : Chg [] w0 w := by obtain ⟨S, v, h, _⟩ := h; exact h.chg
theorem Both.own {K : List Nat} {w0 w : World} {t b : Nat} {T U : PT} (h : Both K w0 w t b T U) : Own w0 w t T := by obtain ⟨S, v, h, _⟩ := h; exact ⟨S, h.ours, h.newS, h.chg⟩
theorem Both.oks {K : List Nat} {w0 w : World} {t b : Nat} {T U : PT} (h : Both K w0 w t b T U) : TOk T ∧ TOk U := by obtain ⟨S, v, h, _⟩ := h; exact ⟨h.ours.ok, h.refs.ok⟩
/-- A new reference's tree beside ours. -/
theorem Own.both {w0 w : World} {t : Nat} {T : PT} (h : Own w0 w t T) : Both [] w0 (w.alloc (.cells #[.slice none 0 0] 30)) t w.heap.size T [] := by
  obtain ⟨S, h1, h2, h3⟩ := h
  have hl := h1.lim
  exact ⟨S, .slice none 0 0, ⟨h1.keep0 ((Chg.refl [] w).alloc _), ⟨heap_alloc_new w _, World.ownsRow_nil _ _ _ _, by simp [Value.ownBlock], TOk.nil⟩, h2, h3.size, fun hm => by have := hl _ hm; omega, by simp [Value.ownBlock], h3.alloc _⟩, by simp [Off]⟩

/-! ### do -/
def doT (T : PT) (x : Dd) : PT := if x.c ≤ 3 then (tMake T x.p x.d).2 else if x.c ≤ 5 then (tRemove T x.p x.d).2 else (tMove T x.p x.q).2
def sameR (r s : Nat × Int) : Bool := (r.1 : Int) == (s.1 : Int) && r.2 == s.2
theorem sameR_self (r : Nat × Int) : sameR r r = true := by simp [sameR]
def doB (T U : PT) (x : Dd) : Bool := if x.c ≤ 3 then sameR (tMake T x.p x.d).1 (tMake U x.p x.d).1 else if x.c ≤ 5 then sameR (tRemove T x.p x.d).1 (tRemove U x.p x.d).1 else (tMove T x.p x.q).1 == (tMove U x.p x.q).1
theorem doB_self (T : PT) (x : Dd) : doB T T x = true := by
  unfold doB
  split
  · exact sameR_self _
  · split
    · exact sameR_self _
    · simp
def DoPost (K : List Nat) (w0 w : World) (t b : Nat) (r : Bool) (T U : PT) (e : Ending) (w' : World) : Prop := e = .returned (.bool r) ∧ Both K w0 w' t b T U ∧ KeepK K w w'
def BothMk (K : List Nat) (w0 w : World) (t b : Nat) (T U : PT) (r : Nat × Int) (e : Ending) (w' : World) : Prop := e = .returned (.tuple #[.int .i64 (r.1 : Int), .int .i64 r.2]) ∧ Both K w0 w' t b T U ∧ KeepK K w w'
theorem bothMake {K : List Nat} {w0 w : World} {t b : Nat} {T U : PT} (h : Both K w0 w t b T U) (s : List UInt8) (d : Bool) (hs : s.length ≤ 1000) : Calls Tryz.prog 16 #[.pointer (some ⟨t, 0, none⟩), .string (mk s), .bool d] w (BothMk K w0 w t b (tMake T s d).2 U (tMake T s d).1) := by
  obtain ⟨S, v, h, hK⟩ := h
  have := tmake_any t S T (mk s) d w h.ours (mk_size s (by unfold maxLen; omega))
  rw [data_mk] at this
  exact this.mono fun e w' ⟨he, hd⟩ => ⟨he, h.our hK hd⟩
theorem bothRemove {K : List Nat} {w0 w : World} {t b : Nat} {T U : PT} (h : Both K w0 w t b T U) (s : List UInt8) (d : Bool) (hs : s.length ≤ 1000) : Calls Tryz.prog 20 #[.pointer (some ⟨t, 0, none⟩), .string (mk s), .bool d] w (BothMk K w0 w t b (tRemove T s d).2 U (tRemove T s d).1) := by
  obtain ⟨S, v, h, hK⟩ := h
  have := tremove_any t S T (mk s) d w h.ours (mk_size s (by unfold maxLen; omega))
  rw [data_mk] at this
  exact this.mono fun e w' ⟨he, hd⟩ => ⟨he, h.our hK hd⟩
def BothMv (K : List Nat) (w0 w : World) (t b : Nat) (T U : PT) (r : Int) (e : Ending) (w' : World) : Prop := e = .returned (.int .i64 r) ∧ Both K w0 w' t b T U ∧ KeepK K w w'
theorem bothMove {K : List Nat} {w0 w : World} {t b : Nat} {T U : PT} (h : Both K w0 w t b T U) (s s2 : List UInt8) (hs : s.length ≤ 1000) (hs2 : s2.length ≤ 1000) : Calls Tryz.prog 22 #[.pointer (some ⟨t, 0, none⟩), .string (mk s), .string (mk s2)] w (BothMv K w0 w t b (tMove T s s2).2 U (tMove T s s2).1) := by
  obtain ⟨S, v, h, hK⟩ := h
  have hl := tok_len h.ours.ok
  have := tmove_any t S T (mk s) (mk s2) w h.ours (mk_size s (by unfold maxLen; omega)) (mk_size s2 (by unfold maxLen; omega)) (by omega)
  rw [data_mk, data_mk] at this
  exact this.mono fun e w' ⟨he, hd⟩ => ⟨he, h.our hK hd⟩
theorem bothRMake {K : List Nat} {w0 w : World} {t b : Nat} {T U : PT} (h : Both K w0 w t b T U) (s : List UInt8) (d : Bool) (hs : s.length ≤ 1000) : Calls Tryz.prog 19 #[.pointer (some ⟨b, 0, none⟩), .string (mk s), .bool d] w (BothMk K w0 w t b T (tMake U s d).2 (tMake U s d).1) := by
  obtain ⟨S, v, h, hK⟩ := h
  have := rmake_any b _ v U (mk s) d w h.refs (by rw [size_len, data_mk]; exact hs) h.chg.size
  rw [data_mk] at this
  exact this.mono fun e w' ⟨he, hd⟩ => ⟨he, h.ref hK hd⟩
theorem bothRRemove {K : List Nat} {w0 w : World} {t b : Nat} {T U : PT} (h : Both K w0 w t b T U) (s : List UInt8) (d : Bool) (hs : s.length ≤ 1000) : Calls Tryz.prog 21 #[.pointer (some ⟨b, 0, none⟩), .string (mk s), .bool d] w (BothMk K w0 w t b T (tRemove U s d).2 (tRemove U s d).1) := by
  obtain ⟨S, v, h, hK⟩ := h
  have := rremove_any b _ v U (mk s) d w h.refs (by rw [size_len, data_mk]; exact hs) h.chg.size
  rw [data_mk] at this
  exact this.mono fun e w' ⟨he, hd⟩ => ⟨he, h.ref hK hd⟩
theorem bothRMove {K : List Nat} {w0 w : World} {t b : Nat} {T U : PT} (h : Both K w0 w t b T U) (s s2 : List UInt8) (hs : s.length ≤ 1000) (hs2 : s2.length ≤ 1000) : Calls Tryz.prog 23 #[.pointer (some ⟨b, 0, none⟩), .string (mk s), .string (mk s2)] w (BothMv K w0 w t b T (tMove U s s2).2 (tMove U s s2).1) := by
  obtain ⟨S, v, h, hK⟩ := h
  have := rmove_any b _ v U (mk s) (mk s2) w h.refs (by rw [size_len, data_mk]; exact hs) (by rw [size_len, data_mk]; exact hs2) h.chg.size
  rw [data_mk, data_mk] at this
  exact this.mono fun e w' ⟨he, hd⟩ => ⟨he, h.ref hK hd⟩
theorem deed_cells {W : World} {g : Nat} {c : Int} {p q : List UInt8} {d : Bool} (hh : W.heap[g]? = some (.cells #[.int .i64 c, .string (mk p), .string (mk q), .bool d] 33 (0, 0))) :
    W.cell? ⟨g, 0, none⟩ = some (.int .i64 c) ∧ W.cell? ⟨g, 1, none⟩ = some (.string (mk p)) ∧ W.cell? ⟨g, 2, none⟩ = some (.string (mk q)) ∧ W.cell? ⟨g, 3, none⟩ = some (.bool d) :=
  ⟨blk_cell hh 0 _ rfl, blk_cell hh 1 _ rfl, blk_cell hh 2 _ rfl, blk_cell hh 3 _ rfl⟩
theorem same_cases {n k : Nat} {e f : Int} {R : Bool} (h : R = sameR (n, e) (k, f)) : (((n : Int) == (k : Int)) = false ∧ Hid (R = false)) ∨ (((n : Int) == (k : Int)) = true ∧ (e == f) = false ∧ Hid (R = false)) ∨ (((n : Int) == (k : Int)) = true ∧ (e == f) = true ∧ Hid (R = true)) := by
  unfold Hid
  unfold sameR at h
  simp only at h
  cases h1 : ((n : Int) == (k : Int))
  · rw [h1] at h; exact .inl ⟨rfl, by rw [h]; rfl⟩
  · rw [h1] at h
    right
    cases h2 : (e == f)
    · rw [h2] at h; exact .inl ⟨rfl, rfl, by rw [h]; rfl⟩
    · rw [h2] at h; exact .inr ⟨rfl, rfl, by rw [h]; rfl⟩

set_option maxHeartbeats 4000000 in
set_option maxRecDepth 100000 in
theorem do_any {K : List Nat} {w0 w : World} {t b : Nat} {T U : PT} (h : Both K w0 w t b T U) (x : Dd) (hp : x.p.length ≤ 1000) (hq : x.q.length ≤ 1000) :
    Calls Tryz.prog 8 #[.pointer (some ⟨t, 0, none⟩), .pointer (some ⟨b, 0, none⟩), .agg #[.int .i64 x.c, .string (mk x.p), .string (mk x.q), .bool x.d]] w (DoPost K w0 w t b (doB T U x) (doT T x) (doT U x)) := by
  obtain ⟨R, hR⟩ : ∃ R, R = doB T U x := ⟨_, rfl⟩
  obtain ⟨T', hT⟩ : ∃ T', T' = doT T x := ⟨_, rfl⟩
  obtain ⟨U', hU⟩ : ∃ U', U' = doT U x := ⟨_, rfl⟩
  rw [← hR, ← hT, ← hU]
  obtain ⟨xc, xp, xq, xd⟩ := x
  simp only at hp hq hR hT hU ⊢
  have HR := Lib.hid hR
  have HT := Lib.hid hT
  have HU := Lib.hid hU
  have hal : Chg [] w (w.alloc (.cells #[.int .i64 xc, .string (mk xp), .string (mk xq), .bool xd] 33)) := (Chg.refl [] w).alloc _
  have H := Lib.hid (h.add hal w.heap.size (Nat.le_refl _) (by simp))
  have HK0 : Hid (KeepK K w (w.alloc (.cells #[.int .i64 xc, .string (mk xp), .string (mk xq), .bool xd] 33))) := Lib.hid (by
    obtain ⟨S, v, h, hK⟩ := h
    exact .of_chg hal (fun k hk => ⟨by simp, (hK k hk).2.2.2⟩))
  have hh0 : (w.alloc (.cells #[.int .i64 xc, .string (mk xp), .string (mk xq), .bool xd] 33)).heap[w.heap.size]? = some (.cells #[.int .i64 xc, .string (mk xp), .string (mk xq), .bool xd] 33 (0, 0)) := heap_alloc_new w _
  have HH0 := Lib.hid hh0
  obtain ⟨c0, c1, c2, c3⟩ := deed_cells HH0.out
  have hg0 : w.heap.size < w.heap.size + 1 := by omega
  clear h hR hT hU hal hh0
  by_cases h3 : xc ≤ 3
  · have HT2 : Hid (T' = (tMake T xp xd).2 ∧ U' = (tMake U xp xd).2 ∧ R = sameR (tMake T xp xd).1 (tMake U xp xd).1) := Lib.hid (by
      refine ⟨?_, ?_, ?_⟩
      · rw [HT.out]; unfold doT; rw [if_pos h3]
      · rw [HU.out]; unfold doT; rw [if_pos h3]
      · rw [HR.out]; unfold doB; rw [if_pos h3])
    clear HT HU HR
    go_enter Tryz.func8, Tryz.ntmps8
    go_wp2_with fail
    refine (bothMake H.out xp xd hp).mono ?_
    rintro e w2 ⟨rfl, h2, k2⟩
    have H2 := Lib.hid h2
    have K2 := Lib.hid k2
    have HH2 := Lib.hid ((k2 _ (List.mem_cons_self ..)).trans HH0.out)
    clear h2 k2 c0 c1 c2 c3
    obtain ⟨c0, c1, c2, c3⟩ := deed_cells HH2.out
    go_wp2_with fail
    refine (bothRMake H2.out xp xd hp).mono ?_
    rintro e w3 ⟨rfl, h3, k3⟩
    have HF : Hid (Both K w0 w3 t b T' U' ∧ KeepK K w w3) := Lib.hid ⟨by rw [HT2.out.1, HT2.out.2.1]; exact h3.mono (fun k hk => List.mem_cons_of_mem _ hk), HK0.out.trans (KeepK.trans (fun k hk => K2.out k (List.mem_cons_of_mem _ hk)) (fun k hk => k3 k (List.mem_cons_of_mem _ hk)))⟩
    have HRR := Lib.hid HT2.out.2.2
    clear h3 k3 c0 c1 c2 c3 HT2 H H2 K2 HH2
    generalize (tMake T xp xd).1 = r1 at *
    generalize (tMake U xp xd).1 = r2 at *
    obtain ⟨n1, e1⟩ := r1
    obtain ⟨n2, e2⟩ := r2
    rcases same_cases HRR.out with ⟨q1, HE⟩ | ⟨q1, q2, HE⟩ | ⟨q1, q2, HE⟩
    all_goals
      clear HRR
      go_wp2
      go_ret
      rw [HE.out]
      exact ⟨rfl, HF.out⟩
  · by_cases h5 : xc ≤ 5
    · have HT2 : Hid (T' = (tRemove T xp xd).2 ∧ U' = (tRemove U xp xd).2 ∧ R = sameR (tRemove T xp xd).1 (tRemove U xp xd).1) := Lib.hid (by
        refine ⟨?_, ?_, ?_⟩
        · rw [HT.out]; unfold doT; rw [if_neg h3, if_pos h5]
        · rw [HU.out]; unfold doT; rw [if_neg h3, if_pos h5]
        · rw [HR.out]; unfold doB; rw [if_neg h3, if_pos h5])
      clear HT HU HR
      go_enter Tryz.func8, Tryz.ntmps8
      go_wp2_with fail
      refine (bothRemove H.out xp xd hp).mono ?_
      rintro e w2 ⟨rfl, h2, k2⟩
      have H2 := Lib.hid h2
      have K2 := Lib.hid k2
      have HH2 := Lib.hid ((k2 _ (List.mem_cons_self ..)).trans HH0.out)
      clear h2 k2 c0 c1 c2 c3
      obtain ⟨c0, c1, c2, c3⟩ := deed_cells HH2.out
      go_wp2_with fail
      refine (bothRRemove H2.out xp xd hp).mono ?_
      rintro e w3 ⟨rfl, h3, k3⟩
      have HF : Hid (Both K w0 w3 t b T' U' ∧ KeepK K w w3) := Lib.hid ⟨by rw [HT2.out.1, HT2.out.2.1]; exact h3.mono (fun k hk => List.mem_cons_of_mem _ hk), HK0.out.trans (KeepK.trans (fun k hk => K2.out k (List.mem_cons_of_mem _ hk)) (fun k hk => k3 k (List.mem_cons_of_mem _ hk)))⟩
      have HRR := Lib.hid HT2.out.2.2
      clear h3 k3 c0 c1 c2 c3 HT2 H H2 K2 HH2
      generalize (tRemove T xp xd).1 = r1 at *
      generalize (tRemove U xp xd).1 = r2 at *
      obtain ⟨n1, e1⟩ := r1
      obtain ⟨n2, e2⟩ := r2
      rcases same_cases HRR.out with ⟨q1, HE⟩ | ⟨q1, q2, HE⟩ | ⟨q1, q2, HE⟩
      all_goals
        clear HRR
        go_wp2
        go_ret
        rw [HE.out]
        exact ⟨rfl, HF.out⟩
    · have HT2 : Hid (T' = (tMove T xp xq).2 ∧ U' = (tMove U xp xq).2 ∧ R = ((tMove T xp xq).1 == (tMove U xp xq).1)) := Lib.hid (by
        refine ⟨?_, ?_, ?_⟩
        · rw [HT.out]; unfold doT; rw [if_neg h3, if_neg h5]
        · rw [HU.out]; unfold doT; rw [if_neg h3, if_neg h5]
        · rw [HR.out]; unfold doB; rw [if_neg h3, if_neg h5])
      clear HT HU HR
      go_enter Tryz.func8, Tryz.ntmps8
      go_wp2_with fail
      refine (bothMove H.out xp xq hp hq).mono ?_
      rintro e w2 ⟨rfl, h2, k2⟩
      have H2 := Lib.hid h2
      have K2 := Lib.hid k2
      have HH2 := Lib.hid ((k2 _ (List.mem_cons_self ..)).trans HH0.out)
      clear h2 k2 c0 c1 c2 c3
      obtain ⟨c0, c1, c2, c3⟩ := deed_cells HH2.out
      go_wp2_with fail
      refine (bothRMove H2.out xp xq hp hq).mono ?_
      rintro e w3 ⟨rfl, h3, k3⟩
      have HF : Hid (Both K w0 w3 t b T' U' ∧ KeepK K w w3) := Lib.hid ⟨by rw [HT2.out.1, HT2.out.2.1]; exact h3.mono (fun k hk => List.mem_cons_of_mem _ hk), HK0.out.trans (KeepK.trans (fun k hk => K2.out k (List.mem_cons_of_mem _ hk)) (fun k hk => k3 k (List.mem_cons_of_mem _ hk)))⟩
      have HRR := Lib.hid HT2.out.2.2
      clear h3 k3 c0 c1 c2 c3 HT2 H H2 K2 HH2
      generalize (tMove T xp xq).1 = r1 at *
      generalize (tMove U xp xq).1 = r2 at *
      go_wp2
      go_ret
      rw [HRR.out]
      exact ⟨rfl, HF.out⟩
end Go.Proofs.YtaiihklfeoeoeaaGreat.W

/- What the deferred closure of package wire's read does. -/
namespace Go.Proofs.YtaiihklfeoeoeaaGreat.W
open Go.RowKit
set_option linter.unusedVariables false
set_option linter.unusedSimpArgs false

theorem assert_nil (w : World) : (Instr.typeAssert .nilIface 20 140 true).run Tryz.prog w = .ok (.tuple #[.agg #[.int .i64 0], .bool false]) w := by kernel_rfl
theorem assert_give (x : Int) (w : World) : (Instr.typeAssert (.iface 140 (.agg #[.int .i64 x])) 20 140 true).run Tryz.prog w = .ok (.tuple #[.agg #[.int .i64 x], .bool true]) w := by kernel_rfl

set_option maxHeartbeats 2000000 in
set_option maxRecDepth 100000 in
theorem catch_idle (pa pb : Value) (w : World) :
    CallsD Tryz.prog 109 #[pa, pb] .returning w fun e u' w' => e = .returned (.tuple #[]) ∧ u' = .returning ∧ w' = w.alloc (.cells #[.int .i64 0] 140) := by
  have hta := assert_nil
  refine callsD_of_wpS Tryz.func109 rfl fun c₀ cs hu => ?_
  rw [Tryz.ntmps109]
  change Code.wpS Tryz.prog _ _ ⟨#[pa, pb, undef, undef, undef, undef, undef, undef, undef, undef, undef, undef, undef, undef, undef, undef, undef, undef, undef], []⟩ _ _
  apply wpS_seq
  apply wpS_region
  simp [wpOpsS, go_sem, recoverD, hu, Exit.thenS, hta]
  apply wpS_seq
  apply wpS_region
  simp [wpOpsS, go_sem, Exit.thenS]
  refine wpS_cond (t := false) (by simp [Act.eval]) ?_
  simp only [Bool.false_eq_true, if_false]
  refine wpS_of_wp (wp_skip ?_)
  cases c₀
  simp_all [bodyPostS, results, Tryz.results109]

set_option maxHeartbeats 2000000 in
set_option maxRecDepth 100000 in
theorem catch_panic (b pa pb : Nat) (av : Option Addr) (L cap : Nat) (v1 bad : Value) (x : Int) (older : List PanicEntry) (w : World) (ha : w.heap[pa]? = some (.cells #[.slice av L cap] 38 (0, 0))) (hp : w.heap[pb]? = some (.cells #[.pointer (some ⟨b, 0, none⟩)] 43 (0, 0)))
    (hb : w.heap[b]? = some (.cells #[.bool true, v1, bad] 88 (0, 0))) :
    CallsD Tryz.prog 109 #[.pointer (some ⟨pa, 0, none⟩), .pointer (some ⟨pb, 0, none⟩)] (.panicking ({ v := .iface 140 (.agg #[.int .i64 x]), recovered := false } :: older)) w fun e u' w' =>
      e = .returned (.tuple #[]) ∧ u' = .panicking ({ v := .iface 140 (.agg #[.int .i64 x]), recovered := true } :: older) ∧ Chg [b] w w' ∧ w'.heap[b]? = some (.cells #[.bool true, .slice av L cap, .int .i64 x] 88 (0, 0)) := by
  have hta := assert_give x
  have ha0 := blk_cell ha 0 _ rfl
  have hp0 := blk_cell hp 0 _ rfl
  have hf1 := blk_frozen hb 1
  have hf2 := blk_frozen hb 2
  have hb1 := blk_cell hb 1 _ rfl
  have hb2 := blk_cell hb 2 _ rfl
  have l1 := blk_lt ha
  have l2 := blk_lt hp
  have l3 := blk_lt hb
  have l4 : ¬ (b = w.heap.size) := Nat.ne_of_lt l3
  have HB := Lib.hid hb
  clear ha hp hb
  refine callsD_of_wpS Tryz.func109 rfl fun c₀ cs hu => ?_
  rw [Tryz.ntmps109]
  change Code.wpS Tryz.prog _ _ ⟨#[_, _, undef, undef, undef, undef, undef, undef, undef, undef, undef, undef, undef, undef, undef, undef, undef, undef, undef], []⟩ _ _
  apply wpS_seq
  apply wpS_region
  simp [wpOpsS, go_sem, recoverD, hu, Exit.thenS, hta]
  apply wpS_seq
  apply wpS_region
  simp [wpOpsS, go_sem, Exit.thenS]
  refine wpS_cond (t := true) (by simp [Act.eval]) ?_
  simp only [if_true]
  refine wpS_of_wp ?_
  go_region
  refine ⟨rfl, _, rfl, .tuple #[], by simp [results, Tryz.results109], rfl, rfl, ?_, ?_⟩
  · exact ((((Chg.refl [b] w).setCell (p := ⟨b, 1, none⟩) (.inl (by simp)) _).setCell (p := ⟨b, 2, none⟩) (.inl (by simp)) _).alloc _).drew
  · exact blk_alloc (set_blk (set_blk HB.out))
end Go.Proofs.YtaiihklfeoeoeaaGreat.W

/- Plain: what chapter 1's eyes and pens compute. -/
namespace Go.Proofs.YtaiihklfeoeoeaaGreat.W
set_option linter.unusedVariables false
set_option linter.unusedSimpArgs false

def beNum (l : List UInt8) : Nat := l.foldl (fun x c => x * 256 + c.toNat) 0
theorem beNum_snoc (l : List UInt8) (c : UInt8) : beNum (l ++ [c]) = beNum l * 256 + c.toNat := by simp [beNum]
theorem beNum_from (l : List UInt8) : ∀ x : Nat, l.foldl (fun x c => x * 256 + c.toNat) x < (x + 1) * 256 ^ l.length := by
  induction l with
  | nil => intro x; simp
  | cons c l ih =>
    intro x
    have h := ih (x * 256 + c.toNat)
    rw [List.foldl_cons, List.length_cons, Nat.pow_succ']
    have hc := c.toNat_lt
    have h2 : (x * 256 + c.toNat + 1) * 256 ^ l.length ≤ ((x + 1) * 256) * 256 ^ l.length := Nat.mul_le_mul_right _ (by omega)
    rw [← Nat.mul_assoc]
    omega
theorem beNum_lt (l : List UInt8) : beNum l < 256 ^ l.length := by
  have := beNum_from l 0
  simpa [beNum] using this
theorem take_snocU (l : List UInt8) (k : Nat) (h : k < l.length) : l.take (k + 1) = l.take k ++ [l.getD k 0] := by
  rw [List.take_succ_eq_append_getElem h, List.getD_eq_getElem?_getD, List.getElem?_eq_getElem h]; rfl
theorem getD_take (l : List UInt8) (n k : Nat) (h : k < n) : (l.take n).getD k 0 = l.getD k 0 := by
  simp [List.getD_eq_getElem?_getD, List.getElem?_take, h]
theorem getD_drop (l : List UInt8) (n k : Nat) : (l.drop n).getD k 0 = l.getD (n + k) 0 := by
  simp [List.getD_eq_getElem?_getD, List.getElem?_drop]
theorem pow6 (k : Nat) (h : k ≤ 6) : 256 ^ k ≤ 281474976710656 := by
  have : 256 ^ k ≤ 256 ^ 6 := Nat.pow_le_pow_right (by omega) h
  simpa using this
theorem beNum_take_le (l : List UInt8) (k : Nat) (h : k ≤ 6) : beNum (l.take k) < 281474976710656 := by
  refine Nat.lt_of_lt_of_le (beNum_lt _) (pow6 _ ?_)
  exact Nat.le_trans (List.length_take_le _ _) h
theorem or_byte (a : Nat) (c : UInt8) : a * 256 ||| c.toNat = a * 256 + c.toNat := by
  have h := Nat.shiftLeft_add_eq_or_of_lt (show c.toNat < 2 ^ 8 from c.toNat_lt) a
  rw [Nat.shiftLeft_eq] at h
  exact h.symm

/-- Num: the number, the bytes that are left, the error. -/
def eyeNum (l : List UInt8) (bad : Int) (n : Nat) : Int × List UInt8 × Int :=
  if bad ≠ 0 then (0, l, bad) else if l.length < n then (0, l, 2) else ((beNum (l.take n) : Int), l.drop n, 0)
def eyeBool (l : List UInt8) (bad : Int) : Bool × List UInt8 × Int :=
  if bad ≠ 0 then (false, l, bad) else match l with
  | [] => (false, [], 2)
  | c :: r => if 1 < c.toNat then (false, c :: r, 4) else (c.toNat == 1, r, 0)
end Go.Proofs.YtaiihklfeoeoeaaGreat.W

/- The eye of package wire. -/
namespace Go.Proofs.YtaiihklfeoeoeaaGreat.W
open Go.RowKit
set_option linter.unusedVariables false
set_option linter.unusedSimpArgs false

set_option maxHeartbeats 1000000 in
theorem take_ok (b g o cap : Nat) (l : List UInt8) (bad : Value) (n : Nat) (w : World) (h : w.heap[b]? = some (.cells #[.bool true, .slice (some ⟨g, o, none⟩) l.length cap, bad] 88 (0, 0)))
    (hl : l.length ≤ cap) (hc : cap ≤ maxLen) (hn : n ≤ l.length) :
    Calls Tryz.prog 91 #[.pointer (some ⟨b, 0, none⟩), .int .i64 n] w fun e w' => e = .returned (.slice (some ⟨g, o, none⟩) n n) ∧
      w' = w.setCell ⟨b, 1, none⟩ (.slice (some ⟨g, if cap = n then o else o + n, none⟩) (l.length - n) (cap - n)) := by
  have c1 := blk_cell h 1 _ rfl
  have f1 := blk_frozen h 1
  have hlt := blk_lt h
  unfold maxLen at hc
  clear h
  by_cases hcn : cap = n
  · go_enter Tryz.func91, Tryz.ntmps91
    go_wp2
    go_ret
    exact ⟨rfl, rfl⟩
  · go_enter Tryz.func91, Tryz.ntmps91
    go_wp2
    go_ret
    exact ⟨rfl, rfl⟩

/-- The panic of an eye that gives up. -/
def gaveUp (x : Int) : Ending := .panicked [{ v := .iface 140 (.agg #[.int .i64 x]), recovered := false }]

set_option maxHeartbeats 1000000 in
theorem take_short (b : Nat) (a : Option Addr) (L cap : Nat) (bad : Value) (n : Int) (w : World) (h : w.heap[b]? = some (.cells #[.bool true, .slice a L cap, bad] 88 (0, 0)))
    (hL : L ≤ 1000000000000) (hn : (L : Int) < n) :
    Calls Tryz.prog 91 #[.pointer (some ⟨b, 0, none⟩), .int .i64 n] w fun e w' => e = gaveUp 2 ∧ w = w' := by
  have c1 := blk_cell h 1 _ rfl
  have f1 := blk_frozen h 1
  have hlt := blk_lt h
  clear h
  unfold gaveUp
  go_enter Tryz.func91, Tryz.ntmps91
  go_wp2
  exact ⟨rfl, rfl, rfl⟩

theorem wmay_yes (n : Int) (w : World) (h1 : 1 ≤ n) (h7 : n ≤ 7) : Calls Tryz.prog 83 #[.int .i64 n] w fun e w' => e = .returned (.bool true) ∧ w = w' := by
  go_enter Tryz.func83, Tryz.ntmps83
  go_wp2
  go_ret
  exact ⟨rfl, rfl⟩

end Go.Proofs.YtaiihklfeoeoeaaGreat.W

/- Package wire's read: a step that ends, and a step that gives up. -/
namespace Go.Proofs.YtaiihklfeoeoeaaGreat.W
open Go.RowKit
set_option linter.unusedVariables false
set_option linter.unusedSimpArgs false

set_option maxHeartbeats 2000000 in
set_option maxRecDepth 100000 in
theorem read_done (b : Nat) (v : Value) (bad : Int) (k : FuncId) (cap : Array Value) (w : World) (h : w.heap[b]? = some (.cells #[.bool true, v, .int .i64 bad] 88 (0, 0))) (hbad : bad ≠ 0) :
    Calls Tryz.prog 86 #[.pointer (some ⟨b, 0, none⟩), .func (.func k) #[] cap] w fun e w' => e = .returned (.tuple #[]) ∧ w' = w.alloc (.cells #[.pointer (some ⟨b, 0, none⟩)] 43) := by
  have h0 := blk_cell h 0 _ rfl
  have h2 := blk_cell h 2 _ rfl
  have hl := blk_lt h
  have hz : (bad != 0) = true := by simp [hbad]
  have HB := Lib.hid hbad
  clear h hbad
  go_enter_defers Tryz.func86, Tryz.ntmps86
  go_wp2
  exact ⟨.tuple #[], by simp [results, Tryz.results86], rfl, rfl⟩

set_option maxHeartbeats 2000000 in
set_option maxRecDepth 100000 in
theorem read_ret (b : Nat) (v : Value) (k : FuncId) (cap : Array Value) (w : World) (ent : ∀ args w, (callFunc k args).run Tryz.prog w = .ok (.enter k args) w) (a : Option Addr) (L c : Nat) (hv : v = .slice a L c)
    (h : w.heap[b]? = some (.cells #[.bool true, v, .int .i64 0] 88 (0, 0))) (Q : World → Prop) (HS : Hid (Calls Tryz.prog k cap ((w.alloc (.cells #[.pointer (some ⟨b, 0, none⟩)] 43)).alloc (.cells #[v] 38)) fun e w' => e = .returned (.tuple #[]) ∧ Q w')) :
    Calls Tryz.prog 86 #[.pointer (some ⟨b, 0, none⟩), .func (.func k) #[] cap] w fun e w' => e = .returned (.tuple #[]) ∧ ∃ w1, Q w1 ∧ w' = w1.alloc (.cells #[.int .i64 0] 140) := by
  subst hv
  have h0 := blk_cell h 0 _ rfl
  have h1 := blk_cell h 1 _ rfl
  have h2 := blk_cell h 2 _ rfl
  have hl := blk_lt h
  have hmf : ∀ (fn : Fn) (first cap : Array Value) (w : World), (Instr.makeFunc fn first cap).run Tryz.prog w = .ok (.func fn first cap) w := fun _ _ _ _ => rfl
  clear h
  go_enter_defers Tryz.func86, Tryz.ntmps86
  go_wp2
  refine HS.out.mono ?_
  rintro e w1 ⟨rfl, hq⟩
  have HQ := Lib.hid hq
  clear hq HS
  go_wp2
  refine leaves_cons (f := 109) (args := #[.pointer (some ⟨w.heap.size + 1, 0, none⟩), .pointer (some ⟨w.heap.size, 0, none⟩)]) (by simp) (by simp [go_sem]) ?_
  refine (catch_idle _ _ _).mono ?_
  rintro e u' w'' ⟨rfl, rfl, rfl⟩
  exact ⟨.tuple #[], by simp [results, Tryz.results86], rfl, _, HQ.out, rfl⟩

set_option maxHeartbeats 2000000 in
set_option maxRecDepth 100000 in
theorem read_panic (b : Nat) (v : Value) (k : FuncId) (cap : Array Value) (w : World) (ent : ∀ args w, (callFunc k args).run Tryz.prog w = .ok (.enter k args) w) (a : Option Addr) (L c : Nat) (hv : v = .slice a L c) (x : Int)
    (h : w.heap[b]? = some (.cells #[.bool true, v, .int .i64 0] 88 (0, 0))) (S : List Nat) (hS : ∀ k ∈ S, k < w.heap.size)
    (HS : Hid (Calls Tryz.prog k cap ((w.alloc (.cells #[.pointer (some ⟨b, 0, none⟩)] 43)).alloc (.cells #[v] 38)) fun e w' => e = gaveUp x ∧ ∃ v1, Chg S ((w.alloc (.cells #[.pointer (some ⟨b, 0, none⟩)] 43)).alloc (.cells #[v] 38)) w' ∧ w'.heap[b]? = some (.cells #[.bool true, v1, .int .i64 0] 88 (0, 0)))) :
    Calls Tryz.prog 86 #[.pointer (some ⟨b, 0, none⟩), .func (.func k) #[] cap] w fun e w' => e = .returned (.tuple #[]) ∧ Chg (b :: S) w w' ∧ w'.heap[b]? = some (.cells #[.bool true, v, .int .i64 x] 88 (0, 0)) := by
  subst hv
  have h0 := blk_cell h 0 _ rfl
  have h1 := blk_cell h 1 _ rfl
  have h2 := blk_cell h 2 _ rfl
  have hl := blk_lt h
  have HSS := Lib.hid hS
  have hmf : ∀ (fn : Fn) (first cap : Array Value) (w : World), (Instr.makeFunc fn first cap).run Tryz.prog w = .ok (.func fn first cap) w := fun _ _ _ _ => rfl
  clear h hS
  go_enter_defers Tryz.func86, Tryz.ntmps86
  go_wp2
  refine HS.out.mono ?_
  rintro e w1 ⟨rfl, v1, hch, hb⟩
  have hA : w1.heap[w.heap.size]? = some (.cells #[.pointer (some ⟨b, 0, none⟩)] 43 (0, 0)) :=
    hch.keep (blk_alloc (heap_alloc_new w _)) (fun hm => by have := HSS.out _ hm; omega)
  have hB : w1.heap[w.heap.size + 1]? = some (.cells #[.slice a L c] 38 (0, 0)) := by
    refine hch.keep ?_ (fun hm => by have := HSS.out _ hm; omega)
    have := heap_alloc_new (w.alloc (.cells #[.pointer (some ⟨b, 0, none⟩)] 43)) (.cells #[.slice a L c] 38)
    simpa using this
  have CP := Lib.hid (catch_panic b (w.heap.size + 1) w.heap.size a L c v1 _ x [] w1 hB hA hb)
  have HC := Lib.hid hch
  clear hch hA hB hb HS
  refine leaves_cons (f := 109) (args := #[.pointer (some ⟨w.heap.size + 1, 0, none⟩), .pointer (some ⟨w.heap.size, 0, none⟩)]) (by simp) (by simp [go_sem]) ?_
  refine CP.out.mono ?_
  rintro e u' w'' ⟨rfl, rfl, hc2, hb2⟩
  refine ⟨.tuple #[], by simp [results, Tryz.results86], rfl, ?_, hb2⟩
  have h3 : Chg S w w1 := (((Chg.refl S w).alloc _).alloc _).trans HC.out (fun x hx => .inl hx)
  exact (h3.mono (fun x hx => .inl (List.mem_cons_of_mem _ hx))).trans hc2 (fun x hx => .inl (by simp at hx; simp [hx]))
end Go.Proofs.YtaiihklfeoeoeaaGreat.W

/- Package wire's eye: number, Num. -/
namespace Go.Proofs.YtaiihklfeoeoeaaGreat.W
open Go.RowKit
set_option linter.unusedVariables false
set_option linter.unusedSimpArgs false

theorem ofInt_i64 (a : Nat) (ha : a < 9223372036854775808) : (BitVec.ofInt 64 (a : Int)).toNat = a := by
  rw [BitVec.ofInt_natCast, BitVec.toNat_ofNat]; exact Nat.mod_eq_of_lt (by omega)
theorem i64_or_nat (a b : Nat) (ha : a < 9223372036854775808) (hb : b < 9223372036854775808) : bits .or .i64 (a : Int) (b : Int) = ((a ||| b : Nat) : Int) := by
  have hx : a ||| b < 2 ^ 63 := Nat.or_lt_two_pow (by omega) (by omega)
  show IntKind.i64.wrap ((BitVec.ofInt 64 (a : Int) ||| BitVec.ofInt 64 (b : Int)).toNat : Int) = _
  rw [BitVec.toNat_or, ofInt_i64 a ha, ofInt_i64 b hb, IntKind.wrap_i64]
  omega

set_option maxHeartbeats 2000000 in
set_option maxRecDepth 100000 in
theorem number_ok (b g o cap : Nat) (l : List UInt8) (bad : Value) (n : Nat) (w : World) (h : w.heap[b]? = some (.cells #[.bool true, .slice (some ⟨g, o, none⟩) l.length cap, bad] 88 (0, 0)))
    (hgb : g ≠ b) (hl : l.length ≤ cap) (hc : cap ≤ maxLen) (hcell : ∀ i, i < l.length → w.cell? ⟨g, o + i, none⟩ = some (bv (l.getD i 0))) (h1 : 1 ≤ n) (h7 : n ≤ 7) (hn : n ≤ l.length) :
    Calls Tryz.prog 88 #[.pointer (some ⟨b, 0, none⟩), .int .i64 n] w fun e w' => e = .returned (.int .i64 (beNum (l.take n))) ∧
      w' = w.setCell ⟨b, 1, none⟩ (.slice (some ⟨g, if cap = n then o else o + n, none⟩) (l.length - n) (cap - n)) := by
  have CT := Lib.hid (take_ok b g o cap l bad n w h hl hc hn)
  obtain ⟨w1, hw1⟩ : ∃ w1, w1 = w.setCell ⟨b, 1, none⟩ (.slice (some ⟨g, if cap = n then o else o + n, none⟩) (l.length - n) (cap - n)) := ⟨_, rfl⟩
  rw [← hw1] at CT ⊢
  have HC : Hid (∀ i, i < n → w1.cell? ⟨g, o + i, none⟩ = some (bv (l.getD i 0))) := by
    intro i hi
    rw [hw1]
    exact (World.cell?_of_block (w := w) (a := ⟨g, o + i, none⟩) (Below.heap_setCell w _ _ g (by simpa using hgb))).trans (hcell i (by omega))
  clear h hl hc hcell hw1
  go_enter Tryz.func88, Tryz.ntmps88
  go_wp2_with (go_at_call 91; refine CT.out.mono ?_; rintro e w2 ⟨rfl, rfl⟩)
  go_loop [5, 12] (fun x i => ∃ k : Nat, k ≤ n ∧ i = .int .i64 k ∧ x = .int .i64 (beNum (l.take k))) (fun _ i => n - (intOf i).toNat)
  case atStart => exact ⟨0, Nat.zero_le _, rfl, rfl⟩
  case round =>
    obtain ⟨k, hk, rfl, rfl⟩ := hrel
    by_cases hlt : k < n
    · have hcl := HC.out k hlt
      have hb := beNum_take_le l k (by omega)
      have hkz : (k : Int) < (n : Int) := by omega
      have hkz1 : (k : Int).toNat = k := by omega
      obtain ⟨c, hc⟩ : ∃ c, c = l.getD k 0 := ⟨_, rfl⟩
      rw [← hc] at hcl
      have hc8 := c.toNat_lt
      have HX : Hid (beNum (l.take (k + 1)) = beNum (l.take k) * 256 + c.toNat) := Lib.hid (by rw [take_snocU l k (by omega), beNum_snoc, hc])
      clear hc
      obtain ⟨x, hx⟩ : ∃ x, x = beNum (l.take k) := ⟨_, rfl⟩
      rw [← hx] at hb HX ⊢
      clear hx
      unfold bv at hcl
      have hor : bits .or .i64 ((x : Int) * 256) (c.toNat : Int) = ((x * 256 + c.toNat : Nat) : Int) := by
        have := i64_or_nat (x * 256) c.toNat (by omega) (by omega)
        rw [or_byte] at this
        simpa using this
      go_wp2
      go_round
      case rel => exact ⟨k + 1, by omega, by go_num, by rw [HX.out]; go_num⟩
      case measure => simp [intOf]; omega
    · go_wp2
      go_ret
      obtain rfl : k = n := by omega
      exact ⟨rfl, rfl⟩

set_option maxHeartbeats 2000000 in
theorem number_short (b : Nat) (a : Option Addr) (L cap : Nat) (bad : Value) (n : Int) (w : World) (h : w.heap[b]? = some (.cells #[.bool true, .slice a L cap, bad] 88 (0, 0)))
    (hL : L ≤ 1000000000000) (hn : (L : Int) < n) :
    Calls Tryz.prog 88 #[.pointer (some ⟨b, 0, none⟩), .int .i64 n] w fun e w' => e = gaveUp 2 ∧ w = w' := by
  have CT := Lib.hid (take_short b a L cap bad n w h hL hn)
  clear h
  unfold gaveUp at *
  go_enter Tryz.func88, Tryz.ntmps88
  go_wp2_with fail
  refine CT.out.mono ?_
  rintro e w1 ⟨rfl, rfl⟩
  exact ⟨rfl, rfl, rfl⟩

/-- Bytes of an eye: nil, or in block g. -/
def EyeV (w : World) (v : Value) (g : Nat) (l : List UInt8) : Prop :=
  (v = .slice none 0 0 ∧ l = []) ∨ ∃ o cap, v = .slice (some ⟨g, o, none⟩) l.length cap ∧ l.length ≤ cap ∧ cap ≤ maxLen ∧ ∀ i, i < l.length → w.cell? ⟨g, o + i, none⟩ = some (bv (l.getD i 0))
theorem EyeV.keep {w w' : World} {v : Value} {g : Nat} {l : List UInt8} (h : EyeV w v g l) (hb : w'.heap[g]? = w.heap[g]?) : EyeV w' v g l := by
  rcases h with h | ⟨o, cap, rfl, h1, h2, hc⟩
  · exact .inl h
  · exact .inr ⟨o, cap, rfl, h1, h2, fun i hi => (World.cell?_of_block (w := w) (a := ⟨g, o + i, none⟩) hb).trans (hc i hi)⟩
theorem EyeV.keepC {w w' : World} {v : Value} {g : Nat} {l : List UInt8} {S : List Nat} (h : EyeV w v g l) (hg : g < w.heap.size ∨ v = .slice none 0 0) (hc : Chg S w w') (hn : g ∉ S) : EyeV w' v g l := by
  rcases h with h | ⟨o, cap, rfl, h1, h2, hcell⟩
  · exact .inl h
  · have hg' : g < w.heap.size := by
      rcases hg with hg | hg
      · exact hg
      · cases hg
    exact EyeV.keep (.inr ⟨o, cap, rfl, h1, h2, hcell⟩) (hc.block g hg' hn)
theorem or_lt {w w' : World} {g : Nat} {p : Prop} {S : List Nat} (h : g < w.heap.size ∨ p) (hc : Chg S w w') : g < w'.heap.size ∨ p := by
  rcases h with h | h
  · exact .inl (Nat.lt_of_lt_of_le h hc.size)
  · exact .inr h
theorem EyeV.slice {w : World} {v : Value} {g : Nat} {l : List UInt8} (h : EyeV w v g l) : ∃ a cap, v = .slice a l.length cap := by
  rcases h with ⟨rfl, rfl⟩ | ⟨o, cap, rfl, _⟩
  · exact ⟨_, _, rfl⟩
  · exact ⟨_, _, rfl⟩
/-- The eye in block b, its bytes in block g. -/
def EyeAt (w : World) (b g : Nat) (l : List UInt8) (bad : Int) : Prop :=
  ∃ v, w.heap[b]? = some (.cells #[.bool true, v, .int .i64 bad] 88 (0, 0)) ∧ EyeV w v g l ∧ g ≠ b ∧ (g < w.heap.size ∨ v = .slice none 0 0) ∧ l.length ≤ 1000000
theorem EyeAt.keep {w w' : World} {b g : Nat} {l : List UInt8} {bad : Int} {S : List Nat} (h : EyeAt w b g l bad) (hc : Chg S w w') (hb : b ∉ S) (hg : g ∉ S) : EyeAt w' b g l bad := by
  obtain ⟨v, h1, h2, h3, h4, h5⟩ := h
  exact ⟨v, hc.keep h1 hb, h2.keepC h4 hc hg, h3, or_lt h4 hc, h5⟩
theorem EyeV.dropped {w : World} {g o cap n : Nat} {l : List UInt8} (hl : l.length ≤ cap) (hc : cap ≤ maxLen) (hcell : ∀ i, i < l.length → w.cell? ⟨g, o + i, none⟩ = some (bv (l.getD i 0))) (hn : n ≤ l.length) :
    EyeV w (.slice (some ⟨g, if cap = n then o else o + n, none⟩) (l.length - n) (cap - n)) g (l.drop n) := by
  right
  have hdl : (l.drop n).length = l.length - n := List.length_drop ..
  refine ⟨if cap = n then o else o + n, cap - n, by rw [hdl], by omega, by omega, fun i hi => ?_⟩
  have h2 : ¬ (cap = n) := by omega
  rw [if_neg h2, getD_drop, Nat.add_assoc]
  exact hcell (n + i) (by omega)

theorem enters1 : ∀ args w, (callFunc 87 args).run Tryz.prog w = .ok (.enter 87 args) w := enters_of Tryz.func87 (by kernel_rfl) rfl

set_option maxHeartbeats 2000000 in
set_option maxRecDepth 100000 in
theorem step_ok (b g o cap pw pe px : Nat) (l : List UInt8) (bad : Value) (n : Nat) (w : World) (h : w.heap[b]? = some (.cells #[.bool true, .slice (some ⟨g, o, none⟩) l.length cap, bad] 88 (0, 0)))
    (hgb : g ≠ b) (hl : l.length ≤ cap) (hc : cap ≤ maxLen) (hcell : ∀ i, i < l.length → w.cell? ⟨g, o + i, none⟩ = some (bv (l.getD i 0))) (h1 : 1 ≤ n) (h7 : n ≤ 7) (hn : n ≤ l.length)
    (hw : w.heap[pw]? = some (.cells #[.int .i64 n] 3 (0, 0))) (he : w.heap[pe]? = some (.cells #[.pointer (some ⟨b, 0, none⟩)] 43 (0, 0))) (hx : w.heap[px]? = some (.cells #[.int .i64 0] 3 (0, 0))) (hxb : px ≠ b) :
    Calls Tryz.prog 87 #[.pointer (some ⟨pw, 0, none⟩), .pointer (some ⟨pe, 0, none⟩), .pointer (some ⟨px, 0, none⟩)] w fun e w' => e = .returned (.tuple #[]) ∧
      w' = (w.setCell ⟨b, 1, none⟩ (.slice (some ⟨g, if cap = n then o else o + n, none⟩) (l.length - n) (cap - n))).setCell ⟨px, 0, none⟩ (.int .i64 (beNum (l.take n))) := by
  have CN := Lib.hid (number_ok b g o cap l bad n w h hgb hl hc hcell h1 h7 hn)
  obtain ⟨w1, hw1⟩ : ∃ w1, w1 = w.setCell ⟨b, 1, none⟩ (.slice (some ⟨g, if cap = n then o else o + n, none⟩) (l.length - n) (cap - n)) := ⟨_, rfl⟩
  rw [← hw1] at CN ⊢
  have hx1 : w1.heap[px]? = some (.cells #[.int .i64 0] 3 (0, 0)) := by rw [hw1]; exact blk_sets hx hxb
  have w0 := blk_cell hw 0 _ rfl
  have e0 := blk_cell he 0 _ rfl
  have x0 := blk_cell hx1 0 _ rfl
  have x1 := blk_frozen hx1 0
  clear h hl hc hcell hw1 hw he hx hx1
  go_enter Tryz.func87, Tryz.ntmps87
  go_wp2_with fail
  refine (wmay_yes _ _ (by omega) (by omega)).mono ?_
  rintro e w' ⟨rfl, rfl⟩
  go_wp2_with fail
  refine CN.out.mono ?_
  rintro e w' ⟨rfl, rfl⟩
  go_wp2
  go_end0
  exact ⟨rfl, rfl⟩

set_option maxHeartbeats 2000000 in
set_option maxRecDepth 100000 in
theorem step_short (b pw pe : Nat) (px : Value) (a : Option Addr) (L cap : Nat) (bad : Value) (n : Nat) (w : World) (h : w.heap[b]? = some (.cells #[.bool true, .slice a L cap, bad] 88 (0, 0)))
    (hL : L ≤ 1000000000000) (hn : L < n) (h1 : 1 ≤ n) (h7 : n ≤ 7)
    (hw : w.heap[pw]? = some (.cells #[.int .i64 n] 3 (0, 0))) (he : w.heap[pe]? = some (.cells #[.pointer (some ⟨b, 0, none⟩)] 43 (0, 0))) :
    Calls Tryz.prog 87 #[.pointer (some ⟨pw, 0, none⟩), .pointer (some ⟨pe, 0, none⟩), px] w fun e w' => e = gaveUp 2 ∧ w = w' := by
  have CN := Lib.hid (number_short b a L cap bad n w h hL (by omega))
  have w0 := blk_cell hw 0 _ rfl
  have e0 := blk_cell he 0 _ rfl
  clear h hw he
  unfold gaveUp at *
  go_enter Tryz.func87, Tryz.ntmps87
  go_wp2_with fail
  refine (wmay_yes _ _ (by omega) (by omega)).mono ?_
  rintro e w' ⟨rfl, rfl⟩
  go_wp2_with fail
  refine CN.out.mono ?_
  rintro e w' ⟨rfl, rfl⟩
  exact ⟨rfl, rfl, rfl⟩

set_option maxHeartbeats 4000000 in
set_option maxRecDepth 100000 in
/-- Num. -/
theorem enum_any (b g : Nat) (l : List UInt8) (bad : Int) (width : Int) (w : World) (h : EyeAt w b g l bad) (h1 : 1 ≤ width) (h7 : width ≤ 7) :
    Calls Tryz.prog 62 #[.pointer (some ⟨b, 0, none⟩), .int .i64 width] w fun e w' => e = .returned (.int .i64 (eyeNum l bad width.toNat).1) ∧
      EyeAt w' b g (eyeNum l bad width.toNat).2.1 (eyeNum l bad width.toNat).2.2 ∧ Chg [b] w w' := by
  obtain ⟨n, rfl⟩ := Int.eq_ofNat_of_zero_le (show 0 ≤ width by omega)
  rw [Int.toNat_natCast]
  have hE := h
  obtain ⟨v, hb, hv, hgb, hg, hll⟩ := h
  have hbl := blk_lt hb
  obtain ⟨w3, hw3⟩ : ∃ w3, w3 = ((w.alloc (.cells #[.pointer (some ⟨b, 0, none⟩)] 43)).alloc (.cells #[.int .i64 n] 3)).alloc (.cells #[.int .i64 0] 3) := ⟨_, rfl⟩
  have hs3 : w3.heap.size = w.heap.size + 3 := by rw [hw3]; simp
  have hb3 : w3.heap[b]? = some (.cells #[.bool true, v, .int .i64 bad] 88 (0, 0)) := by rw [hw3]; exact blk_alloc (blk_alloc (blk_alloc hb))
  have hpe : w3.heap[w.heap.size]? = some (.cells #[.pointer (some ⟨b, 0, none⟩)] 43 (0, 0)) := by rw [hw3]; exact blk_alloc (blk_alloc (heap_alloc_new w _))
  have hpw : w3.heap[w.heap.size + 1]? = some (.cells #[.int .i64 n] 3 (0, 0)) := by
    rw [hw3]
    have := heap_alloc_new (w.alloc (.cells #[.pointer (some ⟨b, 0, none⟩)] 43)) (.cells #[.int .i64 n] 3)
    exact blk_alloc (by simpa using this)
  have hpx : w3.heap[w.heap.size + 1 + 1]? = some (.cells #[.int .i64 0] 3 (0, 0)) := by
    rw [hw3]
    have := heap_alloc_new ((w.alloc (.cells #[.pointer (some ⟨b, 0, none⟩)] 43)).alloc (.cells #[.int .i64 n] 3)) (.cells #[.int .i64 0] 3)
    simpa using this
  have hc3 : Chg [b] w w3 := by rw [hw3]; exact (((Chg.refl [b] w).alloc _).alloc _).alloc _
  have hv3 : EyeV w3 v g l := hv.keepC hg hc3 (by simp; exact hgb)
  have hg3 := or_lt hg hc3
  obtain ⟨r, hr⟩ : ∃ r, r = eyeNum l bad n := ⟨_, rfl⟩
  have CR : Hid (Calls Tryz.prog 86 #[.pointer (some ⟨b, 0, none⟩), .func (.func 87) #[] #[.pointer (some ⟨w.heap.size + 1, 0, none⟩), .pointer (some ⟨w.heap.size, 0, none⟩), .pointer (some ⟨w.heap.size + 1 + 1, 0, none⟩)]] w3
      fun e w' => e = .returned (.tuple #[]) ∧ Hid (Chg [b, w.heap.size + 1 + 1] w3 w' ∧ EyeAt w' b g r.2.1 r.2.2 ∧ w'.heap[w.heap.size + 1 + 1]? = some (.cells #[.int .i64 r.1] 3 (0, 0)))) := by
    have hgb3 : b < w3.heap.size := blk_lt hb3
    by_cases hbad : bad = 0
    · subst hbad
      by_cases hlen : l.length < n
      · have hr' : r = (0, l, 2) := by rw [hr]; unfold eyeNum; rw [if_neg (by simp), if_pos hlen]
        obtain ⟨a, cap, rfl⟩ := hv3.slice
        refine (read_panic b _ 87 _ w3 enters1 a l.length cap rfl 2 hb3 [] (by simp) ?_).mono ?_
        · refine (step_short b _ _ _ a l.length cap _ n _ (blk_alloc (blk_alloc hb3)) (by omega) hlen (by omega) (by omega) (blk_alloc (blk_alloc hpw)) (blk_alloc (blk_alloc hpe))).mono ?_
          rintro e w' ⟨rfl, rfl⟩
          exact ⟨rfl, _, Chg.refl _ _, blk_alloc (blk_alloc hb3)⟩
        · rintro e w' ⟨rfl, hc, hh⟩
          refine ⟨rfl, hc.mono (by simp), ?_, ?_⟩
          · rw [hr']
            exact ⟨_, hh, hv3.keepC hg3 hc (by simp; exact hgb), hgb, or_lt hg3 hc, hll⟩
          · rw [hr']; exact hc.keep hpx (by simp; omega)
      · have hr' : r = ((beNum (l.take n) : Int), l.drop n, 0) := by rw [hr]; unfold eyeNum; rw [if_neg (by simp), if_neg hlen]
        rcases hv3 with ⟨rfl, rfl⟩ | ⟨o, cap, rfl, hlc, hcm, hcell⟩
        · simp at hlen; omega
        have hg4 : g < w.heap.size := by
          rcases hg with hg | hg
          · exact hg
          · cases hg
        obtain ⟨w5, hw5⟩ : ∃ w5, w5 = (w3.alloc (.cells #[.pointer (some ⟨b, 0, none⟩)] 43)).alloc (.cells #[.slice (some ⟨g, o, none⟩) l.length cap] 38) := ⟨_, rfl⟩
        have hc5 : Chg [] w3 w5 := by rw [hw5]; exact ((Chg.refl [] w3).alloc _).alloc _
        have hcell5 : ∀ i, i < l.length → w5.cell? ⟨g, o + i, none⟩ = some (bv (l.getD i 0)) := fun i hi => hc5.cell (hcell i hi) (by simp)
        have CS := step_ok b g o cap _ _ _ l _ n w5 (hc5.keep hb3 (by simp)) hgb hlc hcm hcell5 (by omega) (by omega) (by omega) (hc5.keep hpw (by simp)) (hc5.keep hpe (by simp)) (hc5.keep hpx (by simp)) (by omega)
        rw [hw5] at CS
        refine (read_ret b _ 87 _ w3 enters1 _ _ _ rfl hb3 _ CS).mono ?_
        rintro e w' ⟨rfl, w1, hq, rfl⟩
        rw [← hw5] at hq
        have hcq : Chg [b, w.heap.size + 1 + 1] w3 w1 := by
          rw [hq]
          exact ((hc5.mono (by simp)).setCell (p := ⟨b, 1, none⟩) (.inl (by simp)) _).setCell (p := ⟨w.heap.size + 1 + 1, 0, none⟩) (.inl (by simp)) _
        have hb1 : w1.heap[b]? = some (.cells #[.bool true, .slice (some ⟨g, if cap = n then o else o + n, none⟩) (l.length - n) (cap - n), .int .i64 0] 88 (0, 0)) := by
          rw [hq]; exact blk_sets (set_blk (hc5.keep hb3 (by simp))) (by omega)
        have hx1 : w1.heap[w.heap.size + 1 + 1]? = some (.cells #[.int .i64 (beNum (l.take n))] 3 (0, 0)) := by
          rw [hq]; exact set_blk (blk_sets (hc5.keep hpx (by simp)) (by omega))
        refine ⟨rfl, hcq.alloc _, ?_, ?_⟩
        · rw [hr']
          refine ⟨_, blk_alloc hb1, ?_, hgb, ?_, ?_⟩
          · exact (EyeV.dropped hlc hcm hcell (by omega)).keep ((hcq.alloc _).block g (by omega) (by simp; omega))
          · exact .inl (Nat.lt_of_lt_of_le (by omega) (hcq.alloc _).size)
          · show (l.drop n).length ≤ _
            rw [List.length_drop]; omega
        · rw [hr']; exact blk_alloc hx1
    · have hr' : r = (0, l, bad) := by rw [hr]; unfold eyeNum; rw [if_pos hbad]
      refine (read_done b v bad 87 _ w3 hb3 hbad).mono ?_
      rintro e w' ⟨rfl, rfl⟩
      rw [hr']
      refine ⟨rfl, (Chg.refl _ _).alloc _, ⟨v, blk_alloc hb3, hv3.keepC hg3 ((Chg.refl [] w3).alloc _) (by simp), hgb, or_lt hg3 ((Chg.refl [] w3).alloc _), hll⟩, blk_alloc hpx⟩
  rw [← hr]
  have HC := Lib.hid hc3
  have HW := Lib.hid hw3
  have hmf : ∀ (fn : Fn) (first cap : Array Value) (w : World), (Instr.makeFunc fn first cap).run Tryz.prog w = .ok (.func fn first cap) w := fun _ _ _ _ => rfl
  clear hb hv hb3 hpe hpw hpx hc3 hr hE hw3 hv3
  go_enter Tryz.func62, Tryz.ntmps62
  go_wp2_with fail
  rw [← HW.out]
  refine CR.out.mono ?_
  rintro e w4 ⟨rfl, H4⟩
  have x0 := blk_cell H4.out.2.2 0 _ rfl
  go_wp2
  go_ret
  exact ⟨rfl, H4.out.2.1, HC.out.trans H4.out.1 (by
    intro x hx
    simp at hx
    rcases hx with rfl | rfl
    · exact .inl (by simp)
    · exact .inr (by omega))⟩
end Go.Proofs.YtaiihklfeoeoeaaGreat.W

/- Package wire's eye: Fail, Left, NewEye, bytes.Clone. -/
namespace Go.Proofs.YtaiihklfeoeoeaaGreat.W
open Go.RowKit
set_option linter.unusedVariables false
set_option linter.unusedSimpArgs false

set_option maxHeartbeats 2000000 in
/-- Fail. -/
theorem efail_any (b g : Nat) (l : List UInt8) (bad : Int) (w : World) (h : EyeAt w b g l bad) :
    Calls Tryz.prog 65 #[.pointer (some ⟨b, 0, none⟩)] w fun e w' => e = .returned (.int .i64 bad) ∧ w = w' := by
  obtain ⟨v, hb, _, _, _, _⟩ := h
  have h0 := blk_cell hb 0 _ rfl
  have h2 := blk_cell hb 2 _ rfl
  clear hb
  go_enter Tryz.func65, Tryz.ntmps65
  go_wp2
  go_ret
  exact ⟨rfl, rfl⟩

set_option maxHeartbeats 2000000 in
set_option maxRecDepth 100000 in
/-- bytes.Clone. -/
theorem clone_any (v : Value) (l : List UInt8) (w : World) (h : BytesAt w v l) (hl : l.length ≤ 1000000000) :
    Calls Tryz.prog 38 #[v] w fun e w' => ∃ v', e = .returned v' ∧ BRow w' v' l ∧ (∀ g, v'.ownBlock = some g → w.heap.size ≤ g) ∧ Chg [] w w' := by
  obtain ⟨a, cap, rfl, h1, h2, h3⟩ := h
  cases a with
  | none =>
    obtain ⟨rfl, rfl⟩ : l = [] ∧ cap = 0 := by
      rcases h3 with h3 | ⟨g, o, h, _⟩
      · exact h3
      · cases h
    have hq : ∀ w, (binOp .eql 38 (.slice none 0 0) (.slice none 0 0)).run Tryz.prog w = .ok (.bool true) w := fun w => Lib.run_eql_slice_nil w 38 5 none 0 0 0 0 Tryz.underlying38
    go_enter Tryz.func38, Tryz.ntmps38
    go_wp2
    go_ret
    exact ⟨_, rfl, BRow.nil _, by simp [Value.ownBlock], Chg.refl _ _⟩
  | some ad =>
    have hB : BytesAt w (.slice (some ad) l.length cap) l := ⟨_, _, rfl, h1, h2, h3⟩
    have hr : BRow (w.alloc (.cells #[] 5)) (.slice (some ⟨w.heap.size, 0, none⟩) 0 0) [] := World.ownsRow_made w #[] 0 (Nat.zero_le _) (by unfold maxLen; omega) rfl
    have hc0 : Chg [] w (w.alloc (.cells #[] 5)) := (Chg.refl [] w).alloc _
    have hB1 : BytesAt (w.alloc (.cells #[] 5)) (.slice (some ad) l.length cap) l := by
      refine ⟨_, _, rfl, h1, h2, ?_⟩
      rcases h3 with h3 | ⟨g, o, he, hcell⟩
      · exact .inl h3
      · exact .inr ⟨g, o, he, fun i hi => hc0.cell (hcell i hi) (by simp)⟩
    have HB := Lib.hid hB1
    have HR := Lib.hid hr
    have HC := Lib.hid hc0
    have hq : ∀ w, (binOp .eql 38 (.slice (some ad) l.length cap) (.slice none 0 0)).run Tryz.prog w = .ok (.bool false) w := fun w => Lib.run_eql_slice_nil w 38 5 (some ad) _ _ 0 0 Tryz.underlying38
    clear hB hB1 hr hc0 h3
    go_enter Tryz.func38, Tryz.ntmps38
    go_wp2_with (at_builtin; refine wpList_appB rfl _ _ rfl (.slice (some ⟨w.heap.size, 0, none⟩) 0 0) [] rfl HR.out _ l rfl HB.out (by simp; omega) ?_; intro v1 w1 ho1 hg1 hat1)
    go_ret
    refine ⟨v1, rfl, by simpa using ho1, ?_, HC.out.grown hg1 (by simp [Value.ownBlock])⟩
    intro g hg
    rcases hat1 with h | h
    · rw [h] at hg; simp [Value.ownBlock] at hg; omega
    · rw [h] at hg; simp at hg; omega

set_option maxHeartbeats 2000000 in
set_option maxRecDepth 100000 in
/-- NewEye. -/
theorem neweye_any (v : Value) (l : List UInt8) (w : World) (h : BytesAt w v l) (hl : l.length ≤ 1000000) :
    Calls Tryz.prog 14 #[v] w fun e w' => ∃ b g, e = .returned (.pointer (some ⟨b, 0, none⟩)) ∧ EyeAt w' b g l 0 ∧ w.heap.size ≤ b ∧ w.heap.size ≤ g ∧ Chg [] w w' := by
  have CC := Lib.hid (clone_any v l w h (by omega))
  clear h
  go_enter Tryz.func14, Tryz.ntmps14
  go_wp2_with fail
  refine CC.out.mono ?_
  rintro e w1 ⟨v1, rfl, hr, hg, hc⟩
  have hsl : ∃ a cap, v1 = .slice a l.length cap := by
    obtain ⟨a, cap, h, _⟩ := hr.bytes
    exact ⟨a, cap, h⟩
  obtain ⟨a, cap, rfl⟩ := hsl
  have HR := Lib.hid hr
  have HG := Lib.hid hg
  have HC := Lib.hid hc
  clear hr hg hc CC
  go_wp2
  go_ret
  have hw : w.heap.size ≤ w1.heap.size := HC.out.size
  have hca := (Chg.refl [] w1).alloc (.cells #[.bool true, .slice a l.length cap, .int .i64 0] 88)
  cases a with
  | none =>
    have hn : (Value.slice none l.length cap = .slice none 0 0) ∧ l = [] := by
      rcases HR.out.2 with ⟨h1, h2⟩ | ⟨g, c, cur, h1, _⟩
      · exact ⟨h1, List.eq_nil_of_length_eq_zero h2⟩
      · cases h1
    exact ⟨w1.heap.size, w1.heap.size + 1, rfl, ⟨_, heap_alloc_new w1 _, .inl hn, by omega, .inr hn.1, hl⟩, hw, by omega, HC.out.alloc _⟩
  | some x =>
    have hx := HG.out x.block rfl
    have hl2 := HR.out.lt x.block rfl
    refine ⟨w1.heap.size, x.block, rfl, ⟨_, heap_alloc_new w1 _, ?_, by omega, .inl (by simp; omega), hl⟩, hw, hx, HC.out.alloc _⟩
    rcases HR.out.2 with ⟨h1, h2⟩ | ⟨g, c, cur, h1, _⟩
    · cases h1
    · obtain ⟨aa, cc, h3, h4, h5, h6⟩ := (HR.out.keep (fun g' hg' => hca.block g' (HR.out.lt g' hg') (by simp))).bytes
      obtain ⟨rfl, rfl⟩ : x = ⟨g, 0, none⟩ ∧ cap = c := by simpa using h1
      obtain ⟨rfl, rfl⟩ : some (⟨g, 0, none⟩ : Addr) = aa ∧ cap = cc := by simpa using h3
      refine .inr ⟨0, cap, rfl, h4, h5, ?_⟩
      rcases h6 with ⟨h6, _⟩ | ⟨g2, o2, h6, h7⟩
      · intro i hi
        rw [h6] at hi; simp at hi
      · obtain ⟨rfl, rfl⟩ : g = g2 ∧ 0 = o2 := by simpa using h6
        exact h7
end Go.Proofs.YtaiihklfeoeoeaaGreat.W

/- The pens of package wire and of the reference. -/
namespace Go.Proofs.YtaiihklfeoeoeaaGreat.W
open Go.RowKit
set_option linter.unusedVariables false
set_option linter.unusedSimpArgs false

def penAdd (l : List UInt8) (bad : Int) (m : List UInt8) : List UInt8 × Int :=
  if bad ≠ 0 then (l, bad) else if 65536 < l.length + m.length then (l, 3) else (l ++ m, 0)
def beBytes : Nat → Nat → List UInt8
  | 0, _ => []
  | n + 1, x => UInt8.ofNat (x / 256 ^ n) :: beBytes n x
theorem beBytes_len (n x : Nat) : (beBytes n x).length = n := by
  induction n with
  | zero => rfl
  | succ n ih => simp [beBytes, ih]
def penNum (l : List UInt8) (bad : Int) (x : Int) (n : Nat) : List UInt8 × Int :=
  if bad ≠ 0 then (l, bad) else if x < 0 ∨ ((256 ^ n : Nat) : Int) ≤ x then (l, 1) else penAdd l bad (beBytes n x.toNat)
def penBool (l : List UInt8) (bad : Int) (q : Bool) : List UInt8 × Int := penAdd l bad [if q then 1 else 0]

/-- A pen in block b: of type t, its bytes a row of our own in another block. -/
def PenAt (t : TypeId) (w : World) (b : Nat) (g : Option Nat) (l : List UInt8) (bad : Int) : Prop :=
  ∃ v, w.heap[b]? = some (.cells #[v, .int .i64 bad] t (0, 0)) ∧ BRow w v l ∧ v.ownBlock = g ∧ g ≠ some b ∧ l.length ≤ 65536
theorem PenAt.keep {t : TypeId} {w w' : World} {b : Nat} {g : Option Nat} {l : List UInt8} {bad : Int} {S : List Nat} (h : PenAt t w b g l bad) (hc : Chg S w w') (hb : b ∉ S) (hg : ∀ k, g = some k → k ∉ S) : PenAt t w' b g l bad := by
  obtain ⟨v, h1, h2, h3, h4, h5⟩ := h
  exact ⟨v, hc.keep h1 hb, h2.keep (fun k hk => hc.block k (h2.lt k hk) (hg k (h3.symm.trans hk))), h3, h4, h5⟩
theorem PenAt.lt {t : TypeId} {w : World} {b : Nat} {g : Option Nat} {l : List UInt8} {bad : Int} (h : PenAt t w b g l bad) : b < w.heap.size ∧ ∀ k, g = some k → k < w.heap.size := by
  obtain ⟨v, h1, h2, h3, h4, h5⟩ := h
  exact ⟨blk_lt h1, fun k hk => h2.lt k (h3.trans hk)⟩
/-- What writing with a pen leaves. -/
def Wrote (t : TypeId) (w w' : World) (b : Nat) (g : Option Nat) (r : List UInt8 × Int) : Prop :=
  ∃ g', PenAt t w' b g' r.1 r.2 ∧ (g' = g ∨ ∃ k, g' = some k ∧ w.heap.size ≤ k) ∧ Chg (b :: g.toList) w w'
theorem Wrote.same {t : TypeId} {w : World} {b : Nat} {g : Option Nat} {l : List UInt8} {bad : Int} (h : PenAt t w b g l bad) : Wrote t w w b g (l, bad) := ⟨g, h, .inl rfl, Chg.refl _ _⟩
theorem Wrote.trans {t : TypeId} {w w1 w2 : World} {b : Nat} {g : Option Nat} {r1 r2 : List UInt8 × Int} (h1 : Wrote t w w1 b g r1) (h2 : ∀ g1, PenAt t w1 b g1 r1.1 r1.2 → Wrote t w1 w2 b g1 r2) : Wrote t w w2 b g r2 := by
  obtain ⟨g1, hp, hg, hc⟩ := h1
  obtain ⟨g2, hp2, hg2, hc2⟩ := h2 g1 hp
  refine ⟨g2, hp2, ?_, hc.trans hc2 ?_⟩
  · rcases hg2 with rfl | ⟨k, rfl, hk⟩
    · exact hg
    · exact .inr ⟨k, rfl, Nat.le_trans hc.size hk⟩
  · intro x hx
    rcases List.mem_cons.1 hx with rfl | hx
    · exact .inl (List.mem_cons_self ..)
    · rcases hg with rfl | ⟨k, rfl, hk⟩
      · exact .inl (List.mem_cons_of_mem _ hx)
      · obtain rfl : x = k := by simpa using hx
        exact .inr hk
theorem PenAt.stored {t : TypeId} {w w1 : World} {b : Nat} {g : Option Nat} {l' : List UInt8} {bad : Int} {v v' : Value} (hb : w.heap[b]? = some (.cells #[v, .int .i64 bad] t (0, 0))) (hg : v.ownBlock = g) (hne : g ≠ some b)
    (hr : BRow w1 v' l') (hgr : w.grownBy w1 v.ownBlock) (hat : v'.ownBlock = v.ownBlock ∨ v'.ownBlock = some w.heap.size) (hl : l'.length ≤ 65536) : Wrote t w (w1.setCell ⟨b, 0, none⟩ v') b g (l', bad) := by
  have hbl := blk_lt hb
  have hb1 : w1.heap[b]? = some (.cells #[v, .int .i64 bad] t (0, 0)) := (hgr.block b hbl (fun e => hne (by rw [← hg]; exact e.symm))).trans hb
  have hne' : v'.ownBlock ≠ some b := by
    rcases hat with h | h
    · rw [h, hg]; exact hne
    · rw [h]; intro e; simp at e; omega
  refine ⟨v'.ownBlock, ⟨v', set_blk hb1, hr.keep (fun k hk => Below.heap_setCell w1 _ _ k (fun e => hne' (by rw [hk, e]))), rfl, hne', hl⟩, ?_, ?_⟩
  · rcases hat with h | h
    · exact .inl (h.trans hg)
    · exact .inr ⟨_, h, Nat.le_refl _⟩
  · refine ((Chg.refl _ w).grown hgr (fun k hk => .inl ?_)).setCell (p := ⟨b, 0, none⟩) (.inl (List.mem_cons_self ..)) _
    rw [hg] at hk; rw [hk]; simp
theorem BRow.slice {w : World} {v : Value} {l : List UInt8} (h : BRow w v l) : ∃ a cap, v = .slice a l.length cap := by
  obtain ⟨a, cap, h, _⟩ := h.bytes
  exact ⟨a, cap, h⟩

theorem PenAt.app {t : TypeId} {w w1 : World} {b : Nat} {g : Option Nat} {l m : List UInt8} {bad : Int} {v v' : Value} (hb : w.heap[b]? = some (.cells #[v, .int .i64 bad] t (0, 0))) (hg : v.ownBlock = g) (hne : g ≠ some b) (hlong : ¬ 65536 < l.length + m.length)
    (hr : BRow w1 v' (l ++ m)) (hgr : w.grownBy w1 v.ownBlock) (hat : v'.ownBlock = v.ownBlock ∨ v'.ownBlock = some w.heap.size) :
    Hid (Wrote t w (w1.setCell ⟨b, 0, none⟩ v') b g (l ++ m, bad)) ∧ w1.cell? ⟨b, 0, none⟩ = some v ∧ w1.frozen? ⟨b, 0, none⟩ = false ∧ ∃ a c, v' = .slice a (l.length + m.length) c := by
  have hb1 : w1.heap[b]? = some (.cells #[v, .int .i64 bad] t (0, 0)) := (hgr.block b (blk_lt hb) (fun e => hne (by rw [← hg]; exact e.symm))).trans hb
  refine ⟨PenAt.stored hb hg hne hr hgr hat (by rw [List.length_append]; omega), blk_cell hb1 0 _ rfl, blk_frozen hb1 0, ?_⟩
  obtain ⟨a, c, h⟩ := hr.slice
  exact ⟨a, c, by rw [h, List.length_append]⟩

set_option maxHeartbeats 2000000 in
set_option maxRecDepth 100000 in
theorem put_any (b : Nat) (g : Option Nat) (l : List UInt8) (bad : Int) (a : Option Addr) (cap : Nat) (m : List UInt8) (w : World) (h : PenAt 78 w b g l bad) (hm : BytesAt w (.slice a m.length cap) m) (hml : m.length ≤ 1000000) :
    Calls Tryz.prog 84 #[.pointer (some ⟨b, 0, none⟩), .int .i64 0, .slice a m.length cap] w fun e w' => e = .returned (.tuple #[]) ∧ Wrote 78 w w' b g (penAdd l bad m) := by
  have hP := Lib.hid h
  obtain ⟨v, hb, hr, hg, hne, hl⟩ := h
  have b0 := blk_cell hb 0 _ rfl
  have b1 := blk_cell hb 1 _ rfl
  have f0 := blk_frozen hb 0
  have f1 := blk_frozen hb 1
  have hbl := blk_lt hb
  by_cases hbad : bad = 0
  · subst hbad
    obtain ⟨av, cv, rfl⟩ := hr.slice
    by_cases hlong : 65536 < l.length + m.length
    · have HR : Hid (penAdd l 0 m = (l, 3)) := Lib.hid (by unfold penAdd; rw [if_neg (by simp), if_pos hlong])
      have HF : Hid (Wrote 78 w (w.setCell ⟨b, 1, none⟩ (.int .i64 3)) b g (l, 3)) := by
        have hc := (Chg.refl (b :: g.toList) w).setCell (p := ⟨b, 1, none⟩) (.inl (by simp)) (.int .i64 3)
        exact ⟨g, ⟨_, set_blk hb, hr.keep (fun k hk => Below.heap_setCell w _ _ k (fun e => hne (by rw [← hg, hk, e]))), hg, hne, hl⟩, .inl rfl, hc⟩
      have q1 : decide ((65536 : Int) - (l.length : Int) < (m.length : Int)) = true := by simp; omega
      have h3 : (65536 : Int) - (l.length : Int) < (m.length : Int) := by omega
      rw [HR.out]
      clear hb hr hm hg
      go_enter Tryz.func84, Tryz.ntmps84
      go_wp2
      go_end0
      exact ⟨rfl, HF.out⟩
    · have HR : Hid (penAdd l 0 m = (l ++ m, 0)) := Lib.hid (by unfold penAdd; rw [if_neg (by simp), if_neg hlong])
      have h3 : ¬ ((65536 : Int) - (l.length : Int) < (m.length : Int)) := by omega
      have HRow := Lib.hid hr
      have HB := Lib.hid hb
      have HG := Lib.hid hg
      have HM := Lib.hid hm
      rw [HR.out]
      clear hb hr hm hg
      go_enter Tryz.func84, Tryz.ntmps84
      go_wp2_with (at_builtin; refine wpList_appB rfl _ _ rfl _ l rfl HRow.out _ m rfl HM.out (by omega) ?_; intro v1 w1 ho1 hg1 hat1
                   obtain ⟨HF, d0, e0, a1, c1, rfl⟩ := PenAt.app HB.out HG.out hne hlong ho1 hg1 hat1
                   clear ho1 hg1 hat1)
      go_end0
      exact ⟨rfl, HF.out⟩
  · have HR : Hid (penAdd l bad m = (l, bad)) := Lib.hid (by unfold penAdd; rw [if_pos hbad])
    have q2 : (bad != 0) = true := by simp [hbad]
    rw [HR.out]
    clear hb hr hbad hm hg
    go_enter Tryz.func84, Tryz.ntmps84
    go_wp2
    go_end0
    exact ⟨rfl, Wrote.same hP.out⟩

set_option maxHeartbeats 2000000 in
set_option maxRecDepth 100000 in
theorem put_err (b : Nat) (g : Option Nat) (l : List UInt8) (bad x : Int) (v3 : Value) (w : World) (h : PenAt 78 w b g l bad) (hx : x ≠ 0) :
    Calls Tryz.prog 84 #[.pointer (some ⟨b, 0, none⟩), .int .i64 x, v3] w fun e w' => e = .returned (.tuple #[]) ∧ Wrote 78 w w' b g (l, if bad ≠ 0 then bad else x) := by
  have hP := Lib.hid h
  obtain ⟨v, hb, hr, hg, hne, hl⟩ := h
  have b1 := blk_cell hb 1 _ rfl
  have f1 := blk_frozen hb 1
  have hbl := blk_lt hb
  have q3 : (x != 0) = true := by simp [hx]
  by_cases hbad : bad = 0
  · subst hbad
    have HF : Hid (Wrote 78 w (w.setCell ⟨b, 1, none⟩ (.int .i64 x)) b g (l, x)) := by
      have hc := (Chg.refl (b :: g.toList) w).setCell (p := ⟨b, 1, none⟩) (.inl (by simp)) (.int .i64 x)
      exact ⟨g, ⟨_, set_blk hb, hr.keep (fun k hk => Below.heap_setCell w _ _ k (fun e => hne (by rw [← hg, hk, e]))), hg, hne, hl⟩, .inl rfl, hc⟩
    rw [if_neg (by simp)]
    clear hb hr hg hx
    go_enter Tryz.func84, Tryz.ntmps84
    go_wp2
    go_end0
    exact ⟨rfl, HF.out⟩
  · rw [if_pos hbad]
    have q2 : (bad != 0) = true := by simp [hbad]
    clear hb hr hbad hg hx
    go_enter Tryz.func84, Tryz.ntmps84
    go_wp2
    go_end0
    exact ⟨rfl, Wrote.same hP.out⟩

set_option maxHeartbeats 2000000 in
set_option maxRecDepth 100000 in
/-- The reference's add. -/
theorem radd_any (b : Nat) (g : Option Nat) (l : List UInt8) (bad : Int) (a : Option Addr) (cap : Nat) (m : List UInt8) (w : World) (h : PenAt 69 w b g l bad) (hm : BytesAt w (.slice a m.length cap) m) (hml : m.length ≤ 1000000) :
    Calls Tryz.prog 71 #[.pointer (some ⟨b, 0, none⟩), .slice a m.length cap] w fun e w' => e = .returned (.tuple #[]) ∧ Wrote 69 w w' b g (penAdd l bad m) := by
  have hP := Lib.hid h
  obtain ⟨v, hb, hr, hg, hne, hl⟩ := h
  have b0 := blk_cell hb 0 _ rfl
  have b1 := blk_cell hb 1 _ rfl
  have f0 := blk_frozen hb 0
  have f1 := blk_frozen hb 1
  have hbl := blk_lt hb
  by_cases hbad : bad = 0
  · subst hbad
    obtain ⟨av, cv, rfl⟩ := hr.slice
    by_cases hlong : 65536 < l.length + m.length
    · have HR : Hid (penAdd l 0 m = (l, 3)) := Lib.hid (by unfold penAdd; rw [if_neg (by simp), if_pos hlong])
      have HF : Hid (Wrote 69 w (w.setCell ⟨b, 1, none⟩ (.int .i64 3)) b g (l, 3)) := by
        have hc := (Chg.refl (b :: g.toList) w).setCell (p := ⟨b, 1, none⟩) (.inl (by simp)) (.int .i64 3)
        exact ⟨g, ⟨_, set_blk hb, hr.keep (fun k hk => Below.heap_setCell w _ _ k (fun e => hne (by rw [← hg, hk, e]))), hg, hne, hl⟩, .inl rfl, hc⟩
      have h3 : (65536 : Int) < (l.length : Int) + (m.length : Int) := by omega
      rw [HR.out]
      clear hb hr hm hg
      go_enter Tryz.func71, Tryz.ntmps71
      go_wp2
      go_end0
      exact ⟨rfl, HF.out⟩
    · have HR : Hid (penAdd l 0 m = (l ++ m, 0)) := Lib.hid (by unfold penAdd; rw [if_neg (by simp), if_neg hlong])
      have h3 : ¬ ((65536 : Int) < (l.length : Int) + (m.length : Int)) := by omega
      have HRow := Lib.hid hr
      have HB := Lib.hid hb
      have HG := Lib.hid hg
      have HM := Lib.hid hm
      rw [HR.out]
      clear hb hr hm hg
      go_enter Tryz.func71, Tryz.ntmps71
      go_wp2_with (at_builtin; refine wpList_appB rfl _ _ rfl _ l rfl HRow.out _ m rfl HM.out (by omega) ?_; intro v1 w1 ho1 hg1 hat1
                   obtain ⟨HF, d0, e0, a1, c1, rfl⟩ := PenAt.app HB.out HG.out hne hlong ho1 hg1 hat1
                   clear ho1 hg1 hat1)
      go_end0
      exact ⟨rfl, HF.out⟩
  · have HR : Hid (penAdd l bad m = (l, bad)) := Lib.hid (by unfold penAdd; rw [if_pos hbad])
    have q2 : (bad == 0) = false := by simp [hbad]
    rw [HR.out]
    clear hb hr hbad hm hg
    go_enter Tryz.func71, Tryz.ntmps71
    go_wp2
    go_end0
    exact ⟨rfl, Wrote.same hP.out⟩
end Go.Proofs.YtaiihklfeoeoeaaGreat.W

/- The pens' Num. -/
namespace Go.Proofs.YtaiihklfeoeoeaaGreat.W
open Go.RowKit
set_option linter.unusedVariables false
set_option linter.unusedSimpArgs false

theorem pow_wrap (n : Nat) (h : n ≤ 7) : ∃ M : Nat, M = 256 ^ n ∧ wrap64 ((2 : Int) ^ (8 * n)) = (M : Int) := by
  have hp : (256 : Nat) ^ n = 2 ^ (8 * n) := by rw [show (256 : Nat) = 2 ^ 8 from rfl, ← Nat.pow_mul]
  have hle : (2 : Nat) ^ (8 * n) ≤ 2 ^ 56 := Nat.pow_le_pow_right (by omega) (by omega)
  refine ⟨_, rfl, ?_⟩
  rw [hp]
  have : ((2 : Int) ^ (8 * n)) = ((2 ^ (8 * n) : Nat) : Int) := by push_cast; rfl
  rw [this]
  generalize (2 : Nat) ^ (8 * n) = z at *
  rw [wrap64]
  omega
theorem byte_of (x k : Nat) : bv (UInt8.ofNat (x / 256 ^ k)) = .int .u8 ((x : Int) / 2 ^ (8 * k) % 256) := by
  unfold bv
  rw [UInt8.toNat_ofNat', show (256 : Nat) ^ k = 2 ^ (8 * k) by rw [show (256 : Nat) = 2 ^ 8 from rfl, ← Nat.pow_mul]]
  congr 1
theorem one_byte (w : World) (c : UInt8) (v : Value) (hv : bv c = v) : BytesAt (w.alloc (.cells #[v] 5)) (.slice (some ⟨w.heap.size, 0, none⟩) 1 1) [c] := by
  refine ⟨_, 1, rfl, by simp, by unfold maxLen; omega, .inr ⟨_, 0, rfl, fun i hi => ?_⟩⟩
  have : i = 0 := by simpa using hi
  subst this
  have h := blk_cell (heap_alloc_new w (.cells #[v] 5)) 0 v rfl
  rw [hv.symm] at h
  rw [← hv]
  exact h
theorem Wrote.before {t : TypeId} {w0 w w' : World} {b : Nat} {g : Option Nat} {r : List UInt8 × Int} (h : Wrote t w w' b g r) (hc : Chg [] w0 w) : Wrote t w0 w' b g r := by
  obtain ⟨g', h1, h2, h3⟩ := h
  refine ⟨g', h1, ?_, (hc.mono (by simp)).trans h3 (fun x hx => .inl hx)⟩
  rcases h2 with h2 | ⟨k, h2, h4⟩
  · exact .inl h2
  · exact .inr ⟨k, h2, Nat.le_trans hc.size h4⟩

set_option maxHeartbeats 4000000 in
set_option maxRecDepth 100000 in
/-- Num. -/
theorem pnum_ok (b : Nat) (g : Option Nat) (l : List UInt8) (bad : Int) (x n : Nat) (w : World) (h : PenAt 78 w b g l bad) (h1 : 1 ≤ n) (h7 : n ≤ 7) (hx : x < 256 ^ n) :
    Calls Tryz.prog 59 #[.pointer (some ⟨b, 0, none⟩), .int .i64 x, .int .i64 n] w fun e w' => e = .returned (.tuple #[]) ∧ Wrote 78 w w' b g (penAdd l bad (beBytes n x)) := by
  have HP := Lib.hid h
  have hbl := h.lt.1
  have hp : (256 : Nat) ^ n = 2 ^ (8 * n) := by rw [show (256 : Nat) = 2 ^ 8 from rfl, ← Nat.pow_mul]
  have hq : (((x : Int) / 2 ^ (8 * n)) != 0) = false := by
    rw [bne_eq_false_iff_eq]
    have : x / 2 ^ (8 * n) = 0 := Nat.div_eq_of_lt (by rw [← hp]; exact hx)
    exact_mod_cast this
  have hx0 : (0 : Int) ≤ (x : Int) := by omega
  have HX := Lib.hid hx
  clear h hp hx
  go_enter Tryz.func59, Tryz.ntmps59
  go_wp2_with (go_at_call 83; refine (wmay_yes _ _ (by omega) (by omega)).mono ?_; rintro e w' ⟨rfl, rfl⟩)
  go_loopg [6, 7] n (fun g' s6 s7 wr => ∃ (m : Nat) (o : List UInt8), s7 = .int .i64 ((m : Int) - 1) ∧ m ≤ n ∧ m ≤ g' ∧ Hid (BRow wr s6 o) ∧ Hid (o ++ beBytes m x = beBytes n x) ∧ Chg [] w wr ∧ (∀ k, s6.ownBlock = some k → w.heap.size ≤ k) ∧ o.length + m ≤ 10)
  case atStart => exact ⟨n, [], rfl, by omega, by omega, BRow.nil _, Lib.hid (List.nil_append _), Chg.refl _ _, by simp [Value.ownBlock], by simp; omega⟩
  case round =>
    obtain ⟨m, o, rfl, hm, hmg, HR, HE, hc, hfr, hol⟩ := hrel
    have HC := Lib.hid hc
    have HF := Lib.hid hfr
    have hws := hc.size
    clear hc hfr
    cases m with
    | zero =>
      obtain ⟨a6, c6, rfl⟩ := HR.out.slice
      have ho : o = beBytes n x := by simpa [beBytes] using HE.out
      have CP := Lib.hid (put_any b g l bad a6 c6 o wr (HP.out.keep HC.out (by simp) (by simp)) HR.out.bytes (by omega))
      rw [ho] at CP
      have HO := Lib.hid ho
      have h00 : ((0 : Nat) : Int) - 1 = -1 := by omega
      rw [← ho] at CP
      clear ho
      go_wp2_with fail
      refine CP.out.mono ?_
      rintro e w2 ⟨rfl, HW⟩
      have HW2 := Lib.hid HW
      clear HW
      go_wp2
      go_end0
      rw [← HO.out]
      refine ⟨rfl, Wrote.before HW2.out HC.out⟩
    | succ k =>
      rw [show (((k + 1 : Nat) : Int) - 1) = (k : Int) from by omega]
      have hk0 : (0 : Int) ≤ (k : Int) := by omega
      have hv : bv (UInt8.ofNat (x / 256 ^ k)) = .int .u8 ((x : Int) / 2 ^ (8 * k) % 256) := byte_of x k
      have HB := Lib.hid (one_byte wr _ _ hv)
      have HE2 : Hid ((o ++ [UInt8.ofNat (x / 256 ^ k)]) ++ beBytes k x = beBytes n x) := Lib.hid (by rw [List.append_assoc]; exact HE.out)
      have HR2 := Lib.hid (HR.out.keep (w' := wr.alloc (.cells #[.int .u8 ((x : Int) / 2 ^ (8 * k) % 256)] 5)) (fun g hg => heap_alloc_old wr _ (HR.out.lt g hg)))
      clear hv
      go_wp2_with (at_builtin; refine wpList_appB rfl _ _ rfl _ o rfl HR2.out _ _ rfl HB.out (by simp; omega) ?_; intro v1 w1 ho1 hg1 hat1)
      go_roundg (gk - 1)
      case measure => omega
      case rel =>
        refine ⟨k, _, rfl, by omega, by omega, ho1, HE2.out, (HC.out.alloc _).grown hg1 (fun q hq => .inr (HF.out q hq)), ?_, by simp; omega⟩
        intro q hq
        rcases hat1 with h | h
        · exact HF.out q (h.symm.trans hq)
        · have : wr.heap.size + 1 = q := by
            have := h.symm.trans hq
            simpa using this
          omega

set_option maxHeartbeats 4000000 in
set_option maxRecDepth 100000 in
theorem pnum_bad (b : Nat) (g : Option Nat) (l : List UInt8) (bad : Int) (x : Int) (n : Nat) (w : World) (h : PenAt 78 w b g l bad) (h1 : 1 ≤ n) (h7 : n ≤ 7) (hx : x < 0 ∨ ((256 ^ n : Nat) : Int) ≤ x) :
    Calls Tryz.prog 59 #[.pointer (some ⟨b, 0, none⟩), .int .i64 x, .int .i64 n] w fun e w' => e = .returned (.tuple #[]) ∧ Wrote 78 w w' b g (l, if bad ≠ 0 then bad else 1) := by
  have CP := Lib.hid (put_err b g l bad 1 (.slice none 0 0) w h (by omega))
  generalize (if bad ≠ 0 then bad else (1 : Int)) = x1 at *
  clear h
  by_cases h0 : x < 0
  · clear hx
    go_enter Tryz.func59, Tryz.ntmps59
    go_wp2_with (go_at_call 83; refine (wmay_yes _ _ (by omega) (by omega)).mono ?_; rintro e w' ⟨rfl, rfl⟩)
    refine CP.out.mono ?_
    rintro e w2 ⟨rfl, HW⟩
    have HW2 := Lib.hid HW
    clear HW
    go_wp2
    refine bodyPost_ret (results_none rfl _ _ _) rfl ?_
    exact ⟨rfl, HW2.out⟩
  · have hp : (256 : Nat) ^ n = 2 ^ (8 * n) := by rw [show (256 : Nat) = 2 ^ 8 from rfl, ← Nat.pow_mul]
    obtain ⟨y, rfl⟩ := Int.eq_ofNat_of_zero_le (show 0 ≤ x by omega)
    have hy : 256 ^ n ≤ y := by omega
    have hq : (((y : Int) / 2 ^ (8 * n)) != 0) = true := by
      rw [bne_iff_ne]
      intro e
      have e' : y / 2 ^ (8 * n) = 0 := by exact_mod_cast e
      rw [Nat.div_eq_zero_iff] at e'
      have := Nat.two_pow_pos (8 * n)
      omega
    clear hp hx hy
    go_enter Tryz.func59, Tryz.ntmps59
    go_wp2_with (go_at_call 83; refine (wmay_yes _ _ (by omega) (by omega)).mono ?_; rintro e w' ⟨rfl, rfl⟩)
    refine CP.out.mono ?_
    rintro e w2 ⟨rfl, HW⟩
    have HW2 := Lib.hid HW
    clear HW
    go_wp2
    refine bodyPost_ret (results_none rfl _ _ _) rfl ?_
    exact ⟨rfl, HW2.out⟩

/-- Num. -/
theorem pnum_any (b : Nat) (g : Option Nat) (l : List UInt8) (bad : Int) (x width : Int) (w : World) (h : PenAt 78 w b g l bad) (h1 : 1 ≤ width) (h7 : width ≤ 7) :
    Calls Tryz.prog 59 #[.pointer (some ⟨b, 0, none⟩), .int .i64 x, .int .i64 width] w fun e w' => e = .returned (.tuple #[]) ∧ Wrote 78 w w' b g (penNum l bad x width.toNat) := by
  obtain ⟨n, rfl⟩ := Int.eq_ofNat_of_zero_le (show 0 ≤ width by omega)
  rw [Int.toNat_natCast]
  by_cases hx : x < 0 ∨ ((256 ^ n : Nat) : Int) ≤ x
  · have e : penNum l bad x n = (l, if bad ≠ 0 then bad else 1) := by
      unfold penNum
      rw [if_pos hx]
      split <;> rfl
    rw [e]
    exact pnum_bad b g l bad x n w h (by omega) (by omega) hx
  · obtain ⟨y, rfl⟩ := Int.eq_ofNat_of_zero_le (show 0 ≤ x by omega)
    have e : penNum l bad y n = penAdd l bad (beBytes n y) := by
      unfold penNum
      rw [if_neg hx, Int.toNat_natCast]
      split
      · unfold penAdd; rw [if_pos (by assumption)]
      · rfl
    rw [e]
    exact pnum_ok b g l bad y n w h (by omega) (by omega) (by omega)

set_option maxHeartbeats 4000000 in
set_option maxRecDepth 100000 in
/-- The reference's Num. -/
theorem rpnum_ok (b : Nat) (g : Option Nat) (l : List UInt8) (x n : Nat) (w : World) (h : PenAt 69 w b g l 0) (h1 : 1 ≤ n) (h7 : n ≤ 7) (hx : x < 256 ^ n) :
    Calls Tryz.prog 54 #[.pointer (some ⟨b, 0, none⟩), .int .i64 x, .int .i64 n] w fun e w' => e = .returned (.tuple #[]) ∧ Wrote 69 w w' b g (penAdd l 0 (beBytes n x)) := by
  have HP := Lib.hid h
  have hbl := h.lt.1
  obtain ⟨v, hb, _⟩ := h
  have b1 := blk_cell hb 1 _ rfl
  have hx0 : (0 : Int) ≤ (x : Int) := by omega
  have q1 : decide ((n : Int) < 1) = false := by simp; omega
  have q7 : decide ((7 : Int) < (n : Int)) = false := by simp; omega
  have q0 : decide ((x : Int) < 0) = false := by simp
  obtain ⟨M, hM, hw⟩ := pow_wrap n h7
  have hlt : (x : Int) < (M : Int) := by omega
  have hlt' : ¬ ((M : Int) ≤ (x : Int)) := by omega
  have f1 := blk_frozen hb 1
  clear hb hx hM
  go_enter Tryz.func54, Tryz.ntmps54
  go_wp2_with fail
  go_loopg [6, 7] n (fun g' s6 s7 wr => ∃ (m : Nat) (o : List UInt8), s7 = .int .i64 ((m : Int) - 1) ∧ m ≤ n ∧ m ≤ g' ∧ Hid (BRow wr s6 o) ∧ Hid (o ++ beBytes m x = beBytes n x) ∧ Chg [] w wr ∧ (∀ k, s6.ownBlock = some k → w.heap.size ≤ k) ∧ o.length + m ≤ 10)
  case atStart => exact ⟨n, [], rfl, by omega, by omega, BRow.nil _, Lib.hid (List.nil_append _), Chg.refl _ _, by simp [Value.ownBlock], by simp; omega⟩
  case round =>
    obtain ⟨m, o, rfl, hm, hmg, HR, HE, hc, hfr, hol⟩ := hrel
    have HC := Lib.hid hc
    have HF := Lib.hid hfr
    have hws := hc.size
    clear hc hfr
    cases m with
    | zero =>
      obtain ⟨a6, c6, rfl⟩ := HR.out.slice
      have ho : o = beBytes n x := by simpa [beBytes] using HE.out
      have CP := Lib.hid (radd_any b g l 0 a6 c6 o wr (HP.out.keep HC.out (by simp) (by simp)) HR.out.bytes (by omega))
      rw [ho] at CP
      have HO := Lib.hid ho
      have h00 : ((0 : Nat) : Int) - 1 = -1 := by omega
      rw [← ho] at CP
      clear ho
      go_wp2_with fail
      refine CP.out.mono ?_
      rintro e w2 ⟨rfl, HW⟩
      have HW2 := Lib.hid HW
      clear HW
      go_wp2
      go_end0
      rw [← HO.out]
      refine ⟨rfl, Wrote.before HW2.out HC.out⟩
    | succ k =>
      rw [show (((k + 1 : Nat) : Int) - 1) = (k : Int) from by omega]
      have hk0 : (0 : Int) ≤ (k : Int) := by omega
      have hv : bv (UInt8.ofNat (x / 256 ^ k)) = .int .u8 ((x : Int) / 2 ^ (8 * k) % 256) := byte_of x k
      have HB := Lib.hid (one_byte wr _ _ hv)
      have HE2 : Hid ((o ++ [UInt8.ofNat (x / 256 ^ k)]) ++ beBytes k x = beBytes n x) := Lib.hid (by rw [List.append_assoc]; exact HE.out)
      have HR2 := Lib.hid (HR.out.keep (w' := wr.alloc (.cells #[.int .u8 ((x : Int) / 2 ^ (8 * k) % 256)] 5)) (fun g hg => heap_alloc_old wr _ (HR.out.lt g hg)))
      clear hv
      go_wp2_with (at_builtin; refine wpList_appB rfl _ _ rfl _ o rfl HR2.out _ _ rfl HB.out (by simp; omega) ?_; intro v1 w1 ho1 hg1 hat1)
      go_roundg (gk - 1)
      case measure => omega
      case rel =>
        refine ⟨k, _, rfl, by omega, by omega, ho1, HE2.out, (HC.out.alloc _).grown hg1 (fun q hq => .inr (HF.out q hq)), ?_, by simp; omega⟩
        intro q hq
        rcases hat1 with h | h
        · exact HF.out q (h.symm.trans hq)
        · have : wr.heap.size + 1 = q := by
            have := h.symm.trans hq
            simpa using this
          omega

set_option maxHeartbeats 4000000 in
set_option maxRecDepth 100000 in
theorem rpnum_bad (b : Nat) (g : Option Nat) (l : List UInt8) (bad : Int) (x : Int) (n : Nat) (w : World) (h : PenAt 69 w b g l bad) (h1 : 1 ≤ n) (h7 : n ≤ 7) (hx : bad ≠ 0 ∨ x < 0 ∨ ((256 ^ n : Nat) : Int) ≤ x) :
    Calls Tryz.prog 54 #[.pointer (some ⟨b, 0, none⟩), .int .i64 x, .int .i64 n] w fun e w' => e = .returned (.tuple #[]) ∧ Wrote 69 w w' b g (l, if bad ≠ 0 then bad else 1) := by
  have hP := Lib.hid h
  obtain ⟨v, hb, hr, hg, hne, hl⟩ := h
  have b1 := blk_cell hb 1 _ rfl
  have f1 := blk_frozen hb 1
  have hbl := blk_lt hb
  by_cases hbad : bad = 0
  · subst hbad
    have HF : Hid (Wrote 69 w (w.setCell ⟨b, 1, none⟩ (.int .i64 1)) b g (l, 1)) := by
      have hc := (Chg.refl (b :: g.toList) w).setCell (p := ⟨b, 1, none⟩) (.inl (by simp)) (.int .i64 1)
      exact ⟨g, ⟨_, set_blk hb, hr.keep (fun k hk => Below.heap_setCell w _ _ k (fun e => hne (by rw [← hg, hk, e]))), hg, hne, hl⟩, .inl rfl, hc⟩
    rw [if_neg (by simp)]
    have q1 : decide ((n : Int) < 1) = false := by simp; omega
    have q7 : decide ((7 : Int) < (n : Int)) = false := by simp; omega
    obtain ⟨M, hM, hw⟩ := pow_wrap n h7
    rw [← hM] at hx
    have hx2 : x < 0 ∨ (M : Int) ≤ x := by
      rcases hx with h | h
      · exact absurd rfl h
      · exact h
    clear hb hr hM hx hg
    by_cases h0 : x < 0
    · have q0 : decide (x < 0) = true := by simpa using h0
      clear hx2
      go_enter Tryz.func54, Tryz.ntmps54
      go_wp2_with fail
      refine bodyPost_ret (results_none rfl _ _ _) rfl ?_
      exact ⟨rfl, HF.out⟩
    · have q0 : decide (x < 0) = false := by simpa using h0
      have hlt : (M : Int) ≤ x := by omega
      clear hx2
      go_enter Tryz.func54, Tryz.ntmps54
      go_wp2_with fail
      refine bodyPost_ret (results_none rfl _ _ _) rfl ?_
      exact ⟨rfl, HF.out⟩
  · rw [if_pos hbad]
    have q1 : (bad == 0) = false := by simp [hbad]
    have q2 : (bad != 0) = true := by simp [hbad]
    clear hb hr hbad hg hx
    go_enter Tryz.func54, Tryz.ntmps54
    go_wp2_with fail
    refine bodyPost_ret (results_none rfl _ _ _) rfl ?_
    exact ⟨rfl, Wrote.same hP.out⟩

/-- The reference's Num. -/
theorem rpnum_any (b : Nat) (g : Option Nat) (l : List UInt8) (bad : Int) (x width : Int) (w : World) (h : PenAt 69 w b g l bad) (h1 : 1 ≤ width) (h7 : width ≤ 7) :
    Calls Tryz.prog 54 #[.pointer (some ⟨b, 0, none⟩), .int .i64 x, .int .i64 width] w fun e w' => e = .returned (.tuple #[]) ∧ Wrote 69 w w' b g (penNum l bad x width.toNat) := by
  obtain ⟨n, rfl⟩ := Int.eq_ofNat_of_zero_le (show 0 ≤ width by omega)
  rw [Int.toNat_natCast]
  by_cases hx : bad ≠ 0 ∨ x < 0 ∨ ((256 ^ n : Nat) : Int) ≤ x
  · have e : penNum l bad x n = (l, if bad ≠ 0 then bad else 1) := by
      unfold penNum
      by_cases hb : bad ≠ 0
      · rw [if_pos hb, if_pos hb]
      · rw [if_neg hb, if_neg hb, if_pos (by rcases hx with h | h; exact absurd h hb; exact h)]
    rw [e]
    exact rpnum_bad b g l bad x n w h (by omega) (by omega) hx
  · obtain ⟨y, rfl⟩ := Int.eq_ofNat_of_zero_le (show 0 ≤ x by omega)
    obtain rfl : bad = 0 := by omega
    have e : penNum l 0 y n = penAdd l 0 (beBytes n y) := by
      unfold penNum
      rw [if_neg (by simp), if_neg (by omega), Int.toNat_natCast]
    rw [e]
    exact rpnum_ok b g l y n w h (by omega) (by omega) (by omega)

set_option maxHeartbeats 4000000 in
set_option maxRecDepth 100000 in
/-- Bytes, of a pen that has not failed. -/
theorem pbytes_any (b : Nat) (g : Option Nat) (l : List UInt8) (w : World) (h : PenAt 78 w b g l 0) :
    Calls Tryz.prog 34 #[.pointer (some ⟨b, 0, none⟩)] w fun e w' => ∃ v', e = .returned (.tuple #[v', .int .i64 0]) ∧ BRow w' v' l ∧ (∀ g, v'.ownBlock = some g → w.heap.size ≤ g) ∧ Chg [] w w' := by
  obtain ⟨v, hb, hr, hg, hne, hl⟩ := h
  obtain ⟨av, cv, rfl⟩ := hr.slice
  have b0 := blk_cell hb 0 _ rfl
  have b1 := blk_cell hb 1 _ rfl
  have CC := Lib.hid (clone_any _ l w hr.bytes (by omega))
  clear hb hr hg
  go_enter Tryz.func34, Tryz.ntmps34
  go_wp2_with fail
  refine CC.out.mono ?_
  rintro e w1 ⟨v1, rfl, h1, h2, h3⟩
  have H := Lib.hid (And.intro h1 (And.intro h2 h3))
  clear h1 h2 h3
  go_wp2
  go_ret2
  exact ⟨_, rfl, H.out⟩
end Go.Proofs.YtaiihklfeoeoeaaGreat.W

/- The reference's Copy. -/
namespace Go.Proofs.YtaiihklfeoeoeaaGreat.W
open Go.RowKit
set_option linter.unusedVariables false
set_option linter.unusedSimpArgs false

end Go.Proofs.YtaiihklfeoeoeaaGreat.W
