/- The reference's Make. -/
import Derived.Test.YtaiihklfeoeoeaaRT1
import Derived.Test.YtaiihklfeoeoeaaT7
import Derived.Deep.CutBlock
import Derived.Deep.DeepCutAuto
namespace Go.Proofs.Ytaiihklfeoeoeaa.W
open Go.RowKit
open Go.Proofs.Ytaiihklfeoeoeaa.NM
set_option linter.unusedVariables false
set_option linter.unusedSimpArgs false

theorem wpList_app2 {P : Program} {w : World} {ops : Array Oper} {rest : List Oper} {o : Oper} {a : Act} {Q : Exit → Act → World → Prop} (hgd : o.guard = none) (s x : Operand) (t : TypeId)
    (ho : o.op = .call { callee := .builtin .append, args := #[s, x], argTypes := #[t, t] })
    (base : Nat) {e : TypeId} {z : Value} {size bytes : Nat} (hE : El P t e z size bytes)
    (v : Value) (n : Nat) (xs : List Value) (hs : a.eval s = v) (hown : w.ownsRow base e size v n xs) (H : Nat) (hH : w.heap.size = H)
    (c : Nat) (news : Array Value) (hx : a.eval x = .slice (some ⟨H, 0, none⟩) 1 c) (hl : news.size = size) (h1 : ∀ u ∈ news.toList, u.oneCell' = true)
    (h63 : n + 1 ≤ maxLen) (hbytes : (n + 1) * bytes ≤ 140737488355328) (hbase : base ≤ w.heap.size)
    (h : ∀ v' w', w'.ownsRow base e size v' (n + 1) (xs ++ news.toList) → w.grownBy w' v.ownBlock → wpList P ops Q rest (a.put o.dst v') w') : wpList P ops Q (o :: rest) a (w.alloc (.cells news e)) := by
  subst hH
  exact wpList_app1 hgd s x t ho base hE v n xs hs hown c news hx hl h1 h63 hbytes hbase h
theorem elTh : El Try.prog 44 99 (.agg #[.int .i64 0, .int .i64 0, .string ByteArray.empty, .bool false]) 4 40 := El.mk Try.underlying44 (by kernel_rfl) rfl (by decide)
theorem thA_one (x : Th) : ∀ u ∈ ((thE x).toArray).toList, u.oneCell' = true := by simpa using thE_one x

/-- What doing with the reference's tree leaves. -/
def RDid (w w' : World) (b : Nat) (v : Value) (base : Nat) (T : PT) : Prop := ∃ v', RTOk w' b v' base T ∧ (v' = v ∨ ∀ g, v'.ownBlock = some g → w.heap.size ≤ g) ∧ Chg [b] w w'
theorem RDid.same {w w' : World} {b base : Nat} {v : Value} {T : PT} (h : RTOk w b v base T) (hc : Chg [] w w') : RDid w w' b v base T := ⟨v, h.keep0 hc, .inl rfl, hc.mono (by simp)⟩
theorem RDid.put {w wr : World} {b base : Nat} {v v5 : Value} {T U : PT} (h : RTOk w b v base T) (hB : Chg [] w wr) (hO : wr.ownsRow w.heap.size 99 4 v5 U.length (thEs U)) (hb0 : base ≤ w.heap.size) (hok : TOk U) : RDid w (wr.setCell ⟨b, 0, none⟩ v5) b v base U := by
  have hbl := h.lt
  have hb : wr.heap[b]? = some (.cells #[v] 46 (0, 0)) := hB.keep h.head (by simp)
  have hap : v5.ownBlock ≠ some b := fun e => by have := (World.ownsRow.lt hO b e).1; omega
  refine ⟨v5, ⟨?_, row_base (row_keep hO (fun g hg => Below.heap_setCell _ _ _ g (fun e => hap (by rw [hg, e])))) base (fun g hg => Nat.le_trans hb0 (World.ownsRow.lt hO g hg).1), hap, hok⟩, .inr (fun g hg => (World.ownsRow.lt hO g hg).1), (hB.mono (by simp)).setCell (.inl (by simp)) _⟩
  rw [set_blk hb]; rfl
def RMakePost (w : World) (b : Nat) (v : Value) (base : Nat) (r : (Nat × Int) × PT) (e : Ending) (w' : World) : Prop := e = .returned (.tuple #[.int .i64 (r.1.1 : Int), .int .i64 r.1.2]) ∧ RDid w w' b v base r.2
theorem split_root {s : List UInt8} (h : s ≠ [47]) : splitB s ≠ some [] := by
  intro e
  have := (split_some e).2.2
  exact h (by rw [← this]; rfl)
theorem make_tok {T : PT} (h : TOk T) {a : Nat} {la : List UInt8} {d : Bool} (hd : tIsDir T a = true) (hm : mayB la = true) (hk : tKid T a la = 0) (hl : ¬ 128 ≤ T.length + 1) : TOk (tIns ⟨tLeast 2 T, a, la, d⟩ T) := by
  have h1 := least_ge T 2
  have h2 := least_le T 2
  exact h.ins (y := ⟨tLeast 2 T, a, la, d⟩) (least_free T 2 h.rise (fun x hx => (h.nums x hx).1)) ⟨h1, by simp only; omega⟩ hd ((kid_zero h).1 hk) hm

/-- The tree under way: what has been put, and whether the new one was. -/
def insUp (y : Th) (T : PT) (k : Nat) (p : Bool) (acc : PT) : Prop := tIns y T = acc ++ (if p then T.drop k else tIns y (T.drop k)) ∧ acc.length = k + if p then 1 else 0
theorem insUp_zero (y : Th) (T : PT) : insUp y T 0 false [] := ⟨by simp, rfl⟩
theorem insUp_on {y : Th} {T : PT} {k : Nat} {acc : PT} {x : Th} (h : insUp y T k true acc) (hx : T[k]? = some x) : insUp y T (k + 1) true (acc ++ [x]) := by
  obtain ⟨h1, h2⟩ := h
  refine ⟨?_, by simp at h2 ⊢; omega⟩
  rw [h1, drop_at hx]; simp
theorem insUp_no {y : Th} {T : PT} {k : Nat} {acc : PT} {x : Th} (h : insUp y T k false acc) (hx : T[k]? = some x) (hn : ¬ y.ino < x.ino) : insUp y T (k + 1) false (acc ++ [x]) := by
  obtain ⟨h1, h2⟩ := h
  refine ⟨?_, by simp at h2 ⊢; omega⟩
  rw [h1, drop_at hx]
  simp only [Bool.false_eq_true, if_false]
  show acc ++ tIns y (x :: T.drop (k + 1)) = _
  rw [tIns, if_neg hn]; simp
theorem insUp_yes {y : Th} {T : PT} {k : Nat} {acc : PT} {x : Th} (h : insUp y T k false acc) (hx : T[k]? = some x) (hn : y.ino < x.ino) : insUp y T (k + 1) true (acc ++ [y] ++ [x]) := by
  obtain ⟨h1, h2⟩ := h
  refine ⟨?_, by simp at h2 ⊢; omega⟩
  rw [h1, drop_at hx]
  simp only [Bool.false_eq_true, if_false]
  show acc ++ tIns y (x :: T.drop (k + 1)) = _
  rw [tIns, if_pos hn]; simp
theorem insUp_end {y : Th} {T acc : PT} {p : Bool} (h : insUp y T T.length p acc) : tIns y T = if p then acc else acc ++ [y] := by
  rw [h.1]
  cases p <;> simp [tIns]
theorem least_hit {T : PT} {k n : Nat} {x : Th} (h : tLeast 2 T = tLeast n (T.drop k)) (hx : T[k]? = some x) (he : x.ino = n) : tLeast 2 T = tLeast (n + 1) (T.drop (k + 1)) := by
  rw [h, drop_at hx, tLeast, if_pos he]
theorem least_miss {T : PT} {k n : Nat} {x : Th} (h : tLeast 2 T = tLeast n (T.drop k)) (hx : T[k]? = some x) (he : x.ino ≠ n) : tLeast 2 T = n := by
  rw [h, drop_at hx, tLeast, if_neg he]
theorem least_end {T : PT} {n : Nat} (h : tLeast 2 T = tLeast n (T.drop T.length)) : tLeast 2 T = n := by
  rw [h]; simp [tLeast]
def nextIs (T : PT) (k n : Nat) : Bool := match T[k]? with | some x => x.ino == n | none => false

theorem below_alloc {w wr : World} {o : Obj} (h : Below (w.heap.size + 1) (w.alloc o) wr) : Chg [] w wr := by
  have e : (w.alloc o).heap.size = w.heap.size + 1 := by simp
  exact ((Chg.refl [] w).alloc o).trans (T := []) (Chg.of_below (by rw [e]; exact h)) (by simp)

theorem make_last {wo wr w7 : World} {b base : Nat} {v u v7 : Value} {T acc : PT} {X : Th} {o : Obj} {xs : List Value} (h : RTOk wo b v base T) (hbe : Below (wo.heap.size + 1) (wo.alloc o) wr) (hbs : wo.heap.size + 1 ≤ wr.heap.size)
    (ho : wr.ownsRow (wo.heap.size + 1) 99 4 u acc.length (thEs acc)) (ho7 : w7.ownsRow (wo.heap.size + 1) 99 4 v7 (acc.length + 1) (thEs acc ++ xs)) (hg7 : wr.grownBy w7 u.ownBlock) (hX : thE X = xs) (hE : tIns X T = acc ++ [X]) (hb0 : base ≤ wo.heap.size) (hok : TOk (tIns X T)) :
    w7.cell? ⟨b, 0, none⟩ = some v ∧ w7.frozen? ⟨b, 0, none⟩ = false ∧ b < w7.heap.size ∧ wo.heap.size < w7.heap.size ∧ (∃ a7 c7, v7 = .slice a7 (acc.length + 1) c7) ∧ Hid (RDid wo (w7.setCell ⟨b, 0, none⟩ v7) b v base (tIns X T)) := by
  have HO7 : w7.ownsRow (wo.heap.size + 1) 99 4 v7 (acc ++ [X]).length (thEs (acc ++ [X])) := by rw [thEs_app, thEs_one, List.length_append, hX]; exact ho7
  have HB7 := below_alloc (hbe.grown hg7 hbs (fun q hq => (World.ownsRow.lt ho q hq).1))
  have hb7 := HB7.keep h.head (by simp)
  refine ⟨blk_cell hb7 0 _ rfl, blk_frozen hb7 0, blk_lt hb7, by have := hg7.size; omega, ?_, Lib.hid (RDid.put h HB7 ?_ hb0 hok)⟩
  · obtain ⟨a7, c7, e, _⟩ := throw_own HO7
    exact ⟨a7, c7, by rw [e, List.length_append]; rfl⟩
  · rw [hE]
    exact row_base HO7 _ (fun g hg => by have := (World.ownsRow.lt HO7 g hg).1; omega)

set_option maxHeartbeats 8000000 in
set_option maxRecDepth 100000 in
theorem rmake_any (b base : Nat) (v : Value) (T : PT) (s : ByteArray) (d : Bool) (w : World) (h : RTOk w b v base T) (hs : s.size ≤ 1000) (hb0 : base ≤ w.heap.size) :
    Calls Try.prog 34 #[.pointer (some ⟨b, 0, none⟩), .string s, .bool d] w (RMakePost w b v base (tMake T s.data.toList d)) := by
  have H := Lib.hid h
  have HS := Lib.hid hs
  have hok := Lib.hid h.ok
  have hTl := tok_len' h.ok
  have hbl := h.lt
  clear h hs
  obtain ⟨Z, hZ⟩ : ∃ Z, tMake T s.data.toList d = Z := ⟨_, rfl⟩
  have HZ := Lib.hid hZ
  rw [hZ]
  clear hZ
  by_cases hr : s.data.toList = [47]
  · have HE : Hid (Z = ((0, 7), T)) := Lib.hid (by rw [← HZ.out]; unfold tMake; rw [if_pos hr])
    have hb : (s.toList == [47]) = true := by rw [root_str, decide_eq_true hr]
    clear hr
    go_enter Try.func34, Try.ntmps34
    go_wp2
    go_ret2
    rw [HE.out]
    exact ⟨rfl, RDid.same H.out (Chg.refl _ _)⟩
  · have hb : (s.toList == [47]) = false := by rw [root_str, decide_eq_false hr]
    have HX : Hid (Z = if (tPlace T s.data.toList).2.2 ≠ 0 then ((0, (tPlace T s.data.toList).2.2), T) else
        if tKid T (tPlace T s.data.toList).1 (tPlace T s.data.toList).2.1 ≠ 0 then ((0, 7), T) else if 128 ≤ T.length + 1 then ((0, 5), T) else
        ((tLeast 2 T, 0), tIns ⟨tLeast 2 T, (tPlace T s.data.toList).1, (tPlace T s.data.toList).2.1, d⟩ T)) := Lib.hid (by rw [← HZ.out]; unfold tMake; rw [if_neg hr])
    have HP := Lib.hid (rplace_any b base v T s w H.out HS.out (split_root hr))
    clear hr HZ
    have HO : Hid ((tPlace T s.data.toList).2.2 = 0 → tIsDir T (tPlace T s.data.toList).1 = true ∧ mayB (tPlace T s.data.toList).2.1 = true ∧ tHas T (tPlace T s.data.toList).1 = true) := Lib.hid place_ok
    generalize tPlace T s.data.toList = r at *
    obtain ⟨a, la, er⟩ := r
    simp only at HX HO
    by_cases h0 : er = 0
    · subst h0
      obtain ⟨o1, o2, o3⟩ := HO.out rfl
      have HD := Lib.hid o1
      have HM := Lib.hid o2
      have has := has_small hok.out o3
      have HX2 : Hid (Z = if tKid T a la ≠ 0 then ((0, 7), T) else if 128 ≤ T.length + 1 then ((0, 5), T) else ((tLeast 2 T, 0), tIns ⟨tLeast 2 T, a, la, d⟩ T)) := Lib.hid (by rw [HX.out, if_neg (by simp)])
      clear o1 o2 o3 HX HO
      go_enter Try.func34, Try.ntmps34
      go_wp2_with fail
      refine HP.out.mono ?_
      rintro e w1 ⟨rfl, hb1⟩
      have HB := Lib.hid hb1
      have H1 := Lib.hid (H.out.keep0 hb1)
      have hbl1 := Nat.lt_of_lt_of_le hbl hb1.size
      have hbase1 := Nat.le_trans hb0 hb1.size
      clear hb1 HP
      have CK := rkid_any b base v T a la w1 H1.out
      rw [kdI_nat] at CK
      have HCK := Lib.hid CK
      clear CK
      by_cases hk0 : tKid T a la = 0
      · have HK := Lib.hid hk0
        rw [hk0] at HCK
        have HX3 : Hid (Z = if 128 ≤ T.length + 1 then ((0, 5), T) else ((tLeast 2 T, 0), tIns ⟨tLeast 2 T, a, la, d⟩ T)) := Lib.hid (by rw [HX2.out, if_neg (by simp [hk0])])
        clear hk0 HX2
        obtain ⟨A, cap, hv, hcap, hrow⟩ := throw_own H1.out.rows
        subst hv
        have t0 : w1.cell? ⟨b, 0, none⟩ = some (.slice A T.length cap) := blk_cell H1.out.head 0 _ rfl
        have HR := Lib.hid hrow
        clear hrow
        go_wp2_with fail
        refine HCK.out.mono ?_
        rintro e w2 ⟨rfl, rfl⟩
        by_cases hfull : 128 ≤ T.length + 1
        · have HE : Hid (Z = ((0, 5), T)) := Lib.hid (by rw [HX3.out, if_pos hfull])
          have hz1 : 128 ≤ (T.length : Int) + 1 := by omega
          clear hfull
          go_wp2
          go_ret2
          rw [HE.out]
          exact ⟨rfl, RDid.same H.out HB.out⟩
        · have HE : Hid (Z = ((tLeast 2 T, 0), tIns ⟨tLeast 2 T, a, la, d⟩ T)) := Lib.hid (by rw [HX3.out, if_neg hfull])
          have HTK : Hid (TOk (tIns ⟨tLeast 2 T, a, la, d⟩ T)) := Lib.hid (make_tok hok.out HD.out HM.out HK.out hfull)
          have hz1 : ¬ 128 ≤ (T.length : Int) + 1 := by omega
          clear hfull HX3
          go_wp2
          go_loopg [11, 12] T.length (fun gh v11 v12 wr => ∃ (k n : Nat), v12 = .int .i64 k ∧ v11 = .int .i64 n ∧ n = k + 2 ∧ k ≤ T.length ∧ T.length ≤ k + gh ∧ Hid (tLeast 2 T = tLeast n (T.drop k)) ∧ wr = w1)
          case atStart => exact ⟨0, 2, rfl, rfl, rfl, by omega, by omega, Lib.hid (by simp), rfl⟩
          case round =>
            obtain ⟨k, n, rfl, rfl, hn, hk, hkg, HL, rfl⟩ := hrel
            have hnz : n ≤ k + 2 := by omega
            have hnk : k + 2 ≤ n := by omega
            clear hn
            obtain ⟨gg, hgg⟩ : ∃ gg : Bool, gg = nextIs T k n := ⟨_, rfl⟩
            have HGG := Lib.hid hgg
            clear hgg
            go_upto_region 12 with (fail)
            go_cut [59] (fun s59 wx => s59 = .bool gg ∧ wx = wr)
            case first =>
              by_cases hlt : k < T.length
              · obtain ⟨x, hx⟩ : ∃ x, T[k]? = some x := ⟨_, List.getElem?_eq_getElem hlt⟩
                obtain ⟨g, rfl, hg, hc⟩ : ∃ g, A = some ⟨g, 0, none⟩ ∧ g < wr.heap.size ∧ wr.cell? ⟨g, k * 4, none⟩ = some (.int .i64 (x.ino : Int)) := by
                  rcases HR.out with h0 | ⟨g, h1, h2, h3⟩
                  · rw [h0] at hlt; simp at hlt
                  · exact ⟨g, h1, h2, (h3 k x hx).1⟩
                obtain ⟨y, hy⟩ : ∃ y : Int, y = x.ino := ⟨_, rfl⟩
                rw [← hy] at hc
                have HG2 : Hid (gg = (y == (n : Int))) := Lib.hid (by
                  rw [HGG.out, hy]; unfold nextIs; rw [hx]
                  simp only
                  rw [Bool.eq_iff_iff]; simp; omega)
                have hkz : (k : Int) < (T.length : Int) := by omega
                clear hx hy
                cases hq : (y == (n : Int))
                all_goals
                  have HG3 := Lib.hid (HG2.out.trans hq)
                  go_wp2_with fail
                  go_meet
                  exact ⟨by rw [HG3.out], rfl⟩
              · have hkz : ¬ (k : Int) < (T.length : Int) := by omega
                have HG3 : Hid (gg = false) := Lib.hid (by rw [HGG.out]; unfold nextIs; rw [List.getElem?_eq_none (by omega)])
                go_wp2_with fail
                go_meet
                exact ⟨by rw [HG3.out], rfl⟩
            case rest =>
            obtain ⟨rfl, hwc⟩ := hcut
            rw [hwc]
            clear hwc
            cases hgv : gg with
            | true =>
              have HN : Hid (k < T.length ∧ tLeast 2 T = tLeast (n + 1) (T.drop (k + 1))) := Lib.hid (by
                rw [HGG.out] at hgv
                unfold nextIs at hgv
                cases hx : T[k]? with
                | none => rw [hx] at hgv; cases hgv
                | some x =>
                  rw [hx] at hgv
                  exact ⟨(List.getElem?_eq_some_iff.1 hx).1, least_hit HL.out hx (by simpa using hgv)⟩)
              have hlt := HN.out.1
              subst hgv
              go_wp2
              go_roundg (T.length - k - 1)
              case measure => omega
              case rel => exact ⟨k + 1, n + 1, by go_num, by go_num, by omega, by omega, by omega, Lib.hid HN.out.2, rfl⟩
            | false =>
              have HLE : Hid (tLeast 2 T = n) := Lib.hid (by
                rw [HGG.out] at hgv
                unfold nextIs at hgv
                cases hx : T[k]? with
                | none =>
                  obtain rfl : k = T.length := by have := List.getElem?_eq_none_iff.1 hx; omega
                  exact least_end HL.out
                | some x =>
                  rw [hx] at hgv
                  exact least_miss HL.out hx (by simpa using hgv))
              subst hgv
              have HE2 : Hid (Z = ((n, 0), tIns ⟨n, a, la, d⟩ T)) := Lib.hid (by rw [HE.out, HLE.out])
              have HTK2 : Hid (TOk (tIns ⟨n, a, la, d⟩ T)) := Lib.hid (by rw [← HLE.out]; exact HTK.out)
              clear HL HGG
              obtain ⟨wo, rfl⟩ : ∃ wo : World, wo = wr := ⟨_, rfl⟩
              obtain ⟨X, hX⟩ : ∃ X : Th, X = ⟨n, a, la, d⟩ := ⟨_, rfl⟩
              rw [← hX] at HE2 HTK2
              have HX := Lib.hid hX
              have hxn := heap_alloc_new wo (.cells #[.int .i64 (n : Int), .int .i64 (a : Int), .string ⟨la.toArray⟩, .bool d] 99)
              have HXN := Lib.hid hxn
              clear hxn hX
              obtain ⟨ob, hob⟩ : ∃ ob, ob = Obj.cells #[.int .i64 (n : Int), .int .i64 (a : Int), .string ⟨la.toArray⟩, .bool d] 99 := ⟨_, rfl⟩
              have HOB := Lib.hid hob
              clear hob
              go_wp2
              obtain ⟨gko, rfl⟩ : ∃ gko : Nat, gko = gk := ⟨_, rfl⟩
              go_loopg [13, 15, 16] T.length (fun gh v13 v15 v16 wx => ∃ (k : Nat) (p : Bool) (acc : PT), v16 = .int .i64 k ∧ v15 = .bool p ∧ k ≤ T.length ∧ T.length ≤ k + gh ∧ acc.length ≤ k + 1 ∧ Hid (insUp X T k p acc) ∧ Hid (wx.ownsRow (wo.heap.size + 1) 99 4 v13 acc.length (thEs acc)) ∧ Hid (Below (wo.heap.size + 1) (wo.alloc ob) wx))
              case atStart =>
                refine ⟨0, false, [], rfl, rfl, by omega, by omega, by simp, Lib.hid (insUp_zero _ _), Lib.hid (World.ownsRow_nil _ _ _ _), Lib.hid ?_⟩
                rw [HOB.out]; exact Below.refl _ _
              case round =>
                obtain ⟨k, p, acc, rfl, rfl, hk, hkg, hacc, HI, HO, HBE⟩ := hrel
                have hbs : wo.heap.size + 1 ≤ wr.heap.size := by have := HBE.out.size; rw [HOB.out] at this; simpa using this
                have HB2 := Lib.hid (below_alloc HBE.out)
                have hb9 := HB2.out.keep H1.out.head (by simp)
                have t0 : wr.cell? ⟨b, 0, none⟩ = some (.slice A T.length cap) := blk_cell hb9 0 _ rfl
                have t1 : wr.frozen? ⟨b, 0, none⟩ = false := blk_frozen hb9 0
                have t2 : b < wr.heap.size := by omega
                have hx9 : wr.heap[wo.heap.size]? = some (.cells #[.int .i64 (n : Int), .int .i64 (a : Int), .string ⟨la.toArray⟩, .bool d] 99 (0, 0)) := (HBE.out.block wo.heap.size (by omega)).trans (by rw [HOB.out]; exact HXN.out)
                have x0 := blk_cell hx9 0 _ rfl
                have x1 := blk_cell hx9 1 _ rfl
                have x2 := blk_cell hx9 2 _ rfl
                have x3 := blk_cell hx9 3 _ rfl
                have x4 : wo.heap.size < wr.heap.size := by omega
                have HXE : Hid ((thE X).toArray = #[.int .i64 (n : Int), .int .i64 (a : Int), .string ⟨la.toArray⟩, .bool d]) := Lib.hid (by rw [HX.out]; rfl)
                clear hb9 hx9
                by_cases hlt : k < T.length
                · obtain ⟨x, hx⟩ : ∃ x, T[k]? = some x := ⟨_, List.getElem?_eq_getElem hlt⟩
                  obtain ⟨g, rfl, hg, c0, c1, c2, c3⟩ : ∃ g, A = some ⟨g, 0, none⟩ ∧ g < wo.heap.size ∧ wr.cell? ⟨g, k * 4, none⟩ = some (.int .i64 (x.ino : Int)) ∧ wr.cell? ⟨g, k * 4 + 1, none⟩ = some (.int .i64 (x.dir : Int)) ∧
                      wr.cell? ⟨g, k * 4 + 2, none⟩ = some (.string ⟨x.name.toArray⟩) ∧ wr.cell? ⟨g, k * 4 + 3, none⟩ = some (.bool x.isDir) := by
                    rcases HR.out with h0 | ⟨g, h1, h2, h3⟩
                    · rw [h0] at hlt; simp at hlt
                    · obtain ⟨c0, c1, c2, c3⟩ := h3 k x hx
                      exact ⟨g, h1, h2, HB2.out.cell c0 (by simp), HB2.out.cell c1 (by simp), HB2.out.cell c2 (by simp), HB2.out.cell c3 (by simp)⟩
                  have hkz : (k : Int) < (T.length : Int) := by omega
                  have HGV : Hid (u13.ownBlock ≠ some g) := Lib.hid (fun e => by have := (World.ownsRow.lt HO.out _ e).1; omega)
                  have HBV : Hid (u13.ownBlock ≠ some b) := Lib.hid (fun e => by have := (World.ownsRow.lt HO.out _ e).1; omega)
                  have HNE : Hid (u13.ownBlock ≠ some wr.heap.size) := Lib.hid (fun e => by have := (World.ownsRow.lt HO.out _ e).2; omega)
                  obtain ⟨y, hy⟩ : ∃ y : Int, y = x.ino := ⟨_, rfl⟩
                  have HYE : Hid (thE x = [.int .i64 y, .int .i64 (x.dir : Int), .string ⟨x.name.toArray⟩, .bool x.isDir]) := Lib.hid (by rw [hy]; rfl)
                  rw [← hy] at c0
                  have HCE : Hid (n < x.ino ↔ (n : Int) < y) := Lib.hid (by rw [hy]; omega)
                  have HX9 := Lib.hid hx
                  clear hx hy
                  cases p with
                  | true =>
                    have HI2 := Lib.hid (insUp_on HI.out HX9.out)
                    go_wp2_with (at_builtin; refine wpList_app1 rfl _ _ _ rfl (wo.heap.size + 1) elTh _ _ _ rfl HO.out 1 #[.int .i64 y, .int .i64 (x.dir : Int), .string ⟨x.name.toArray⟩, .bool x.isDir] rfl rfl (by intro u hu; simp at hu; rcases hu with rfl | rfl | rfl | rfl <;> rfl) (by unfold maxLen; omega) (by omega) hbs ?_; intro v7 w7 ho7 hg7)
                    go_roundg (T.length - k - 1)
                    case measure => omega
                    case rel =>
                      refine ⟨k + 1, true, acc ++ [x], by go_num, rfl, by omega, by omega, by simp; omega, HI2, Lib.hid ?_, Lib.hid (HBE.out.grown hg7 hbs (fun q hq => (World.ownsRow.lt HO.out q hq).1))⟩
                      rw [thEs_app, thEs_one, List.length_append]
                      rw [HYE.out]; exact ho7
                  | false =>
                    have hacc2 : acc.length ≤ k := by have := HI.out.2; simp at this; omega
                    by_cases hq : (n : Int) < y
                    · have HI2 := Lib.hid (insUp_yes HI.out HX9.out (by rw [HX.out]; exact HCE.out.2 hq))
                      have HKX : Hid (∀ w7, wr.grownBy w7 u13.ownBlock → Chg [] wo w7) := Lib.hid (fun w7 hg7 => below_alloc (HBE.out.grown hg7 hbs (fun q hq => (World.ownsRow.lt HO.out q hq).1)))
                      have HCC := Lib.hid (And.intro c0 (And.intro c1 (And.intro c2 c3)))
                      go_wp2_with (first
                        | (at_builtin; refine wpList_app1 rfl _ _ _ rfl (wo.heap.size + 1) elTh _ _ _ rfl HO.out 1 #[.int .i64 (n : Int), .int .i64 (a : Int), .string ⟨la.toArray⟩, .bool d] rfl rfl (by intro u hu; simp at hu; rcases hu with rfl | rfl | rfl | rfl <;> rfl) (by unfold maxLen; omega) (by omega) hbs ?_; intro v7 w7 ho7 hg7
                           have z0 := hg7.cell HCC.out.1 (fun e => HGV.out e.symm)
                           have z1 := hg7.cell HCC.out.2.1 (fun e => HGV.out e.symm)
                           have z2 := hg7.cell HCC.out.2.2.1 (fun e => HGV.out e.symm)
                           have z3 := hg7.cell HCC.out.2.2.2 (fun e => HGV.out e.symm)
                           have z5 := hg7.cell t0 (fun e => HBV.out e.symm)
                           have z4 : wr.heap.size ≤ w7.heap.size := hg7.size
                           have HO7 := Lib.hid ho7
                           have HG7 := Lib.hid hg7
                           clear ho7 hg7)
                        | (at_builtin; refine wpList_app1 rfl _ _ _ rfl (wo.heap.size + 1) elTh _ _ _ rfl HO7.out 1 #[.int .i64 y, .int .i64 (x.dir : Int), .string ⟨x.name.toArray⟩, .bool x.isDir] rfl rfl (by intro u hu; simp at hu; rcases hu with rfl | rfl | rfl | rfl <;> rfl) (by unfold maxLen; omega) (by omega) (by omega) ?_; intro v8 w8 ho8 hg8))
                      go_roundg (T.length - k - 1)
                      case measure => omega
                      case rel =>
                        refine ⟨k + 1, true, acc ++ [X] ++ [x], by go_num, rfl, by omega, by omega, by simp; omega, HI2, Lib.hid ?_, Lib.hid ((HBE.out.grown HG7.out hbs (fun q hq => (World.ownsRow.lt HO.out q hq).1)).grown hg8 (by omega) (fun q hq => (World.ownsRow.lt HO7.out q hq).1))⟩
                        rw [thEs_app, thEs_app, thEs_one, thEs_one, List.length_append, List.length_append]
                        have e1 : thE X = [.int .i64 (n : Int), .int .i64 (a : Int), .string ⟨la.toArray⟩, .bool d] := by rw [HX.out]; rfl
                        rw [e1]
                        rw [HYE.out]; exact ho8
                    · have HI2 := Lib.hid (insUp_no HI.out HX9.out (by rw [HX.out]; exact fun h => hq (HCE.out.1 h)))
                      go_wp2_with (at_builtin; refine wpList_app1 rfl _ _ _ rfl (wo.heap.size + 1) elTh _ _ _ rfl HO.out 1 #[.int .i64 y, .int .i64 (x.dir : Int), .string ⟨x.name.toArray⟩, .bool x.isDir] rfl rfl (by intro u hu; simp at hu; rcases hu with rfl | rfl | rfl | rfl <;> rfl) (by unfold maxLen; omega) (by omega) hbs ?_; intro v7 w7 ho7 hg7)
                      go_roundg (T.length - k - 1)
                      case measure => omega
                      case rel =>
                        refine ⟨k + 1, false, acc ++ [x], by go_num, rfl, by omega, by omega, by simp; omega, HI2, Lib.hid ?_, Lib.hid (HBE.out.grown hg7 hbs (fun q hq => (World.ownsRow.lt HO.out q hq).1))⟩
                        rw [thEs_app, thEs_one, List.length_append]
                        rw [HYE.out]; exact ho7
                · obtain rfl : k = T.length := by omega
                  have HEND := Lib.hid (insUp_end HI.out)
                  cases p with
                  | true =>
                    have HP : Hid (RDid wo (wr.setCell ⟨b, 0, none⟩ u13) b (.slice A T.length cap) base (tIns X T)) := Lib.hid (by
                      have HEE : tIns X T = acc := HEND.out
                      refine RDid.put H1.out HB2.out ?_ hbase1 HTK2.out
                      rw [HEE]
                      exact row_base HO.out _ (fun g hg => by have := (World.ownsRow.lt HO.out g hg).1; omega))
                    obtain ⟨a5, c5, hv5, _⟩ := throw_own HO.out
                    subst hv5
                    go_wp2
                    go_ret2
                    rw [HE2.out]
                    obtain ⟨v', r1, r2, r3⟩ := HP.out
                    refine ⟨rfl, v', r1, ?_, (HB.out.mono (by simp)).trans r3 (by simp)⟩
                    rcases r2 with r2 | r2
                    · exact .inl r2
                    · exact .inr (fun g hg => Nat.le_trans HB.out.size (r2 g hg))
                  | false =>
                    have hacc2 : acc.length ≤ T.length := by have := HI.out.2; simp at this; omega
                    go_wp2_with (at_builtin; refine wpList_app1 rfl _ _ _ rfl (wo.heap.size + 1) elTh _ _ _ rfl HO.out 1 #[.int .i64 (n : Int), .int .i64 (a : Int), .string ⟨la.toArray⟩, .bool d] rfl rfl (by intro u hu; simp at hu; rcases hu with rfl | rfl | rfl | rfl <;> rfl) (by unfold maxLen; omega) (by omega) hbs ?_; intro v7 w7 ho7 hg7
                                 obtain ⟨r0, r1, r2, r3, ⟨a7, c7, rfl⟩, HP⟩ := make_last H1.out HBE.out hbs HO.out ho7 hg7 (by rw [HX.out]; rfl) HEND.out hbase1 HTK2.out
                                 clear ho7 hg7)
                    go_ret2
                    rw [HE2.out]
                    obtain ⟨v', r1, r2, r3⟩ := HP.out
                    refine ⟨rfl, v', r1, ?_, (HB.out.mono (by simp)).trans r3 (by simp)⟩
                    rcases r2 with r2 | r2
                    · exact .inl r2
                    · exact .inr (fun g hg => Nat.le_trans HB.out.size (r2 g hg))
      · have HE : Hid (Z = ((0, 7), T)) := Lib.hid (by rw [HX2.out, if_pos hk0])
        generalize tKid T a la = c at *
        have hc0 : ((c : Int) != 0) = true := by simp; omega
        clear hk0
        go_wp2_with fail
        refine HCK.out.mono ?_
        rintro e w2 ⟨rfl, rfl⟩
        go_wp2
        go_ret2
        rw [HE.out]
        exact ⟨rfl, RDid.same H.out HB.out⟩
    · have HE : Hid (Z = ((0, er), T)) := Lib.hid (by rw [HX.out, if_pos h0])
      have he0 : (er != 0) = true := by simpa using h0
      clear h0 HX HO
      go_enter Try.func34, Try.ntmps34
      go_wp2_with fail
      refine HP.out.mono ?_
      rintro e w1 ⟨rfl, hb1⟩
      have HB := Lib.hid hb1
      clear hb1
      go_wp2
      go_ret2
      rw [HE.out]
      exact ⟨rfl, RDid.same H.out HB.out⟩
end Go.Proofs.Ytaiihklfeoeoeaa.W
