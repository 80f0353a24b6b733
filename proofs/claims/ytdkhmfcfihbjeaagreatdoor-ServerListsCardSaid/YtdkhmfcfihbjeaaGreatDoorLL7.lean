/- Texts laid together. -/
import Derived.Test.YtdkhmfcfihbjeaaGreatDoorLL6
import Derived.Deep.DeepCutAuto
import Derived.Deep.CutBlock
import Derived.Test.YtdkhmfcfihbjeaaGreatDoorLL2
import Derived.Test.YtdkhmfcfihbjeaaGreatDoorLL3
import Derived.LoopTactic
import Derived.Test.YtdkhmfcfihbjeaaGreatDoorLL1
import Derived.Test.YtdkhmfcfihbjeaaGreatDoorLL4
import Derived.Test.YtdkhmfcfihbjeaaGreatDoorLL5
import Derived.Deep.MidRow
/- Requests that came in; the laws' Small and Request. -/
namespace Go.Proofs.YtdkhmfcfihbjeaaGreatDoor.W
open Go.RowKit Go.ChangeShapes Go.WideShapes
set_option linter.unusedVariables false
set_option linter.unusedSimpArgs false

structure RqIn (w : World) (r : Rq) (bv : Value) : Prop where
  came : Came w bv r.b
  long : r.b.length ≤ maxLen
  wk : okW r.k
  wx : okD r.x
instance : Inhabited (Rq × Value) := ⟨⟨0, ⟨0, 0, 0, 0⟩, []⟩, .slice none 0 0⟩
structure RqAt (w : World) (g p : Nat) (r : Rq × Value) : Prop where
  c0 : w.cell? ⟨g, p, none⟩ = some (.int .i64 r.1.k)
  c1 : w.cell? ⟨g, p + 1, none⟩ = some (.int .i64 r.1.x.c)
  c2 : w.cell? ⟨g, p + 2, none⟩ = some (.int .i64 r.1.x.l)
  c3 : w.cell? ⟨g, p + 3, none⟩ = some (.int .i64 r.1.x.n)
  c4 : w.cell? ⟨g, p + 4, none⟩ = some (.int .i64 r.1.x.i)
  c5 : w.cell? ⟨g, p + 5, none⟩ = some r.2
  inn : RqIn w r.1 r.2
def RqsAt (w : World) (a : Option Addr) (n : Nat) (f : Nat → Rq × Value) : Prop := n = 0 ∨ ∃ g o, a = some ⟨g, o, none⟩ ∧ ∀ i, i < n → RqAt w g (o + i * 6) (f i)
theorem RqIn.keep {w w' : World} {r : Rq} {bv : Value} (h : RqIn w r bv) (hc : Chg [] w w') : RqIn w' r bv := ⟨h.came.chg hc, h.long, h.wk, h.wx⟩
theorem RqAt.keep {w w' : World} {g p : Nat} {r : Rq × Value} (h : RqAt w g p r) (hc : Chg [] w w') : RqAt w' g p r :=
  ⟨hc.cell h.c0 (by simp), hc.cell h.c1 (by simp), hc.cell h.c2 (by simp), hc.cell h.c3 (by simp), hc.cell h.c4 (by simp), hc.cell h.c5 (by simp), h.inn.keep hc⟩
theorem RqsAt.keep {w w' : World} {a : Option Addr} {n : Nat} {f : Nat → Rq × Value} (h : RqsAt w a n f) (hc : Chg [] w w') : RqsAt w' a n f := by
  rcases h with h | ⟨g, o, rfl, h⟩
  · exact .inl h
  · exact .inr ⟨g, o, rfl, fun i hi => (h i hi).keep hc⟩
section
variable {H : Type} {enc : TypeId × Value → H} {w : World} {base : Nat} {held : Bool}
theorem fieldsQ : ∃ f0 f1 f2 : Field, Tryz.prog.underlying 42 = some (.struct #[f0, f1, f2]) ∧ f0.offset = 0 ∧ f1.offset = 1 ∧ f2.offset = 5 ∧
    Tryz.prog.underlying f0.type = some (.int .i64) ∧ f1.type = 38 ∧ f2.type = 30 ∧ Tryz.prog.cellsOf f0.type = 1 ∧ Tryz.prog.cellsOf f2.type = 1 :=
  ⟨_, _, _, Tryz.underlying42, rfl, rfl, rfl, by kernel_rfl, rfl, rfl, by kernel_rfl, by kernel_rfl⟩
theorem cellsQ : Tryz.prog.cellsOf 42 = 6 := by kernel_rfl
theorem open_rqc {fuel : Nat} {v0 v1 v2 v3 v4 v5 : Value} {x : DataW H × List MemPlace} (h : DataW.trod enc Tryz.prog w base (fun _ => true) held fuel 42 [v0, v1, v2, v3, v4, v5] = some x) : ∃ r : Rq, v0 = .int .i64 r.k ∧ v1 = .int .i64 r.x.c ∧ v2 = .int .i64 r.x.l ∧ v3 = .int .i64 r.x.n ∧ v4 = .int .i64 r.x.i ∧ RqIn w r v5 := by
  obtain ⟨f0, f1, f2, hs, o0, o1, o2, t0, t1, t2, c0, c2⟩ := fieldsQ
  obtain ⟨xs, k, hk, hxy, _, hxl, hf⟩ := DataW.trod_struct hs h
  match xs, hxl with
  | [y0, y1, y2], _ =>
    have g0 := hf 0 f0 rfl
    have g1 := hf 1 f1 rfl
    have g2 := hf 2 f2 rfl
    rw [t1] at g1
    simp [o0, o1, o2, c0, c2, cells_id] at g0 g1 g2
    rw [t2] at g2
    obtain ⟨z0, q0, _, z0w⟩ := DataW.trod_int t0 g0
    obtain ⟨y, hy, rfl, rfl, rfl, rfl⟩ := open_idc g1
    obtain ⟨z3, l3, q3, m3, ml⟩ := open_came g2
    simp at q0 q3
    subst q0; subst q3
    refine ⟨⟨z0, y, l3⟩, rfl, rfl, rfl, rfl, rfl, m3, ml, ?_, hy⟩
    first | exact z0w | exact z0w.1
set_option maxRecDepth 100000 in
theorem open_rqs {fuel : Nat} {cs : List Value} {x : DataW H × List MemPlace} (h : DataW.trod enc Tryz.prog w base (fun _ => true) held fuel 22 cs = some x) :
    (cs = [.slice none 0 0]) ∨ ∃ (a : Addr) (len cap : Nat) (f : Nat → Rq × Value), cs = [.slice (some a) len cap] ∧ len ≤ cap ∧ cap ≤ maxLen ∧ RqsAt w (some a) len f := by
  rcases Go.Deep.open_slice Tryz.underlying22 h with ⟨h0, _⟩ | ⟨a, len, cap, m, n, D, Pl, rfl, hb, hl, hm, hmm, hx, hel⟩
  · exact .inl h0
  · right
    have hlm : len ≤ m := by rw [hmm]; split <;> omega
    have each : ∀ i, i < len → ∃ r : Rq × Value, w.cell? (a.add (i * 6)) = some (.int .i64 r.1.k) ∧ w.cell? (a.add (i * 6 + 1)) = some (.int .i64 r.1.x.c) ∧ w.cell? (a.add (i * 6 + 2)) = some (.int .i64 r.1.x.l) ∧ w.cell? (a.add (i * 6 + 3)) = some (.int .i64 r.1.x.n) ∧
        w.cell? (a.add (i * 6 + 4)) = some (.int .i64 r.1.x.i) ∧ w.cell? (a.add (i * 6 + 5)) = some r.2 ∧ RqIn w r.1 r.2 := by
      intro i hi
      obtain ⟨cs', h1, h2⟩ := hel i (by omega)
      rw [cellsQ] at h1
      obtain ⟨_, hlen, hcell⟩ := World.cells?_some h1
      match cs', hlen with
      | [v0, v1, v2, v3, v4, v5], _ =>
        obtain ⟨y, rfl, rfl, rfl, rfl, rfl, hy⟩ := open_rqc h2
        have e0 := hcell 0 (by omega)
        have e1 := hcell 1 (by omega)
        have e2 := hcell 2 (by omega)
        have e3 := hcell 3 (by omega)
        have e4 := hcell 4 (by omega)
        have e5 := hcell 5 (by omega)
        rw [Go.Deep.add_add] at e0 e1 e2 e3 e4 e5
        exact ⟨(y, v5), by simpa using e0, by simpa using e1, by simpa using e2, by simpa using e3, by simpa using e4, by simpa using e5, hy⟩
    obtain ⟨f, hf⟩ := Go.Deep.choose_lt each
    refine ⟨a, len, cap, f, rfl, hl, hm, ?_⟩
    by_cases h0 : len = 0
    · exact .inl h0
    · right
      obtain ⟨g, o, spot⟩ := a
      have hc := (hf 0 (by omega)).1
      have hspot : spot = none := by simpa [Addr.add] using World.cell?_spot hc
      subst hspot
      refine ⟨g, o, rfl, fun i hi => ?_⟩
      obtain ⟨c0, c1, c2, c3, c4, c5, hy⟩ := hf i hi
      rw [add_none] at c0 c1 c2 c3 c4 c5
      exact ⟨c0, by simpa [Nat.add_assoc] using c1, by simpa [Nat.add_assoc] using c2, by simpa [Nat.add_assoc] using c3, by simpa [Nat.add_assoc] using c4, by simpa [Nat.add_assoc] using c5, hy⟩
end
def FewQ (n most : Nat) (f : Nat → Rq × Value) : Prop := n ≤ most ∧ ∀ i, i < n → (f i).1.b.length ≤ 600
set_option maxHeartbeats 8000000 in
set_option maxRecDepth 100000 in
theorem small20_any (a : Option Addr) (n cap most : Nat) (f : Nat → Rq × Value) (w : World) (h : RqsAt w a n f) (hm : most ≤ 1000) :
    Calls Tryz.prog 10 #[.slice a n cap, .int .i64 (most : Int)] w fun e w' => (e = .returned (.bool true) ∧ FewQ n most f ∨ e = .returned (.bool false)) ∧ w = w' := by
  by_cases hn : n ≤ most
  · have hz : ¬ (most : Int) < (n : Int) := by omega
    have HD := Lib.hid h
    clear h
    go_enter Tryz.func10, Tryz.ntmps10
    go_wp2
    go_loopg [5] n (fun g' s5 wr => ∃ k : Nat, s5 = .int .i64 k ∧ k ≤ n ∧ n ≤ k + g' ∧ w = wr ∧ Hid (∀ i, i < k → (f i).1.b.length ≤ 600))
    case atStart => exact ⟨0, rfl, by omega, by omega, rfl, Lib.hid (fun i hi => by omega)⟩
    case round =>
      obtain ⟨k, rfl, hk, hkg, rfl, HF⟩ := hrel
      by_cases hlt : k < n
      · obtain ⟨g, o, rfl, hc⟩ : ∃ g o, a = some ⟨g, o, none⟩ ∧ ∀ i, i < n → RqAt w g (o + i * 6) (f i) := by
          rcases HD.out with h | h
          · omega
          · exact h
        have hd := hc k hlt
        have c6 := hd.c5
        obtain ⟨a4, q4, e4⟩ := hd.inn.came.1.slice
        have hll := hd.inn.long
        rw [e4] at c6
        clear hc hd e4
        have hkz : (k : Int) < (n : Int) := by omega
        have hkz1 : (k : Int).toNat = k := by omega
        obtain ⟨l4, h4⟩ : ∃ l4, l4 = (f k).1.b.length := ⟨_, rfl⟩
        rw [← h4] at c6 hll
        have H4 := Lib.hid h4
        have hl5 : l4 ≤ 9223372036854775807 := by unfold maxLen at hll; omega
        clear h4
        by_cases hsb : l4 ≤ 600
        · have hz4 : ¬ (600 : Int) < (l4 : Int) := by omega
          go_wp2
          go_roundg (gk - 1)
          case measure => omega
          case rel => exact ⟨k + 1, by go_num, by omega, by omega, rfl, Lib.hid (fun i hi => by
            by_cases hik : i = k
            · subst hik; rw [← H4.out]; exact hsb
            · exact HF.out i (by omega))⟩
        · have hz4 : (600 : Int) < (l4 : Int) := by omega
          go_wp2
          go_ret
          exact ⟨.inr rfl, rfl⟩
      · have hkn : k = n := by omega
        go_wp2
        go_ret
        exact ⟨.inl ⟨rfl, hn, fun i hi => HF.out i (by omega)⟩, rfl⟩
  · have hz : (most : Int) < (n : Int) := by omega
    clear h
    go_enter Tryz.func10, Tryz.ntmps10
    go_wp2
    go_ret
    exact ⟨.inr rfl, rfl⟩
theorem ret_rq1 {fn : Func} {p : Tmp} (h : fn.results = #[.cell p 40]) (tmps : Array Value) {w : World} {b t : Nat} {r : Rq} {bv : Value} (hp : tmps.getD p undef = .pointer (some ⟨b, 0, none⟩)) (hb : w.heap[b]? = some (.cells (rqL r bv).toArray t (0, 0))) :
    (results fn tmps).run Tryz.prog w = .ok (rqV r bv) w := by
  have hl := run_loadVar_row (P := Tryz.prog) w b t 40 (rqL r bv).toArray (0, 0) _ hb Tryz.underlying40 rfl (rq_size _ _)
  have he : (results fn tmps).run Tryz.prog w = ((asAddr (tmps.getD p undef)).run Tryz.prog w).andThen fun a w₁ => (loadVar 40 a).run Tryz.prog w₁ := by
    simp only [results, h]
    simp [Sem.run_bind, Result.andThen]
  rw [he, hp]
  simp only [asAddr, Sem.run_pure, Result.andThen_ok, hl]
  rfl
set_option maxHeartbeats 4000000 in
set_option maxRecDepth 100000 in
/-- Request: the reference's as ours. -/
theorem request20_any (r : Rq) (a : Option Addr) (n c : Nat) (w : World) : Calls Tryz.prog 13 #[.agg #[.int .i64 r.k, .int .i64 r.x.c, .int .i64 r.x.l, .int .i64 r.x.n, .int .i64 r.x.i, .slice a n c]] w fun e w' => e = .returned (.agg #[.int .i64 r.k, .int .i64 r.x.c, .int .i64 r.x.l, .int .i64 r.x.n, .int .i64 r.x.i, .slice a n c]) ∧ Chg [] w w' := by
  obtain ⟨k, ⟨xc, xl, xn, xi⟩, b⟩ := r
  dsimp only
  have HC := Lib.hid (((Chg.refl [] w).alloc (.cells #[.int .i64 k, .int .i64 xc, .int .i64 xl, .int .i64 xn, .int .i64 xi, .slice a n c] 42)).alloc (.cells #[.int .i64 k, .int .i64 xc, .int .i64 xl, .int .i64 xn, .int .i64 xi, .slice a n c] 40))
  have HX : Hid (((w.alloc (.cells #[.int .i64 k, .int .i64 xc, .int .i64 xl, .int .i64 xn, .int .i64 xi, .slice a n c] 42)).alloc (.cells #[.int .i64 k, .int .i64 xc, .int .i64 xl, .int .i64 xn, .int .i64 xi, .slice a n c] 40)).heap[w.heap.size + 1]? = some (.cells #[.int .i64 k, .int .i64 xc, .int .i64 xl, .int .i64 xn, .int .i64 xi, .slice a n c] 40 (0, 0))) := Lib.hid (heap_at (by simp))
  go_enter Tryz.func13, Tryz.ntmps13
  go_wp2_with fail
  refine bodyPost_ret (ret_rq1 (r := ⟨k, ⟨xc, xl, xn, xi⟩, b⟩) (bv := .slice a n c) rfl _ rfl HX.out) rfl ⟨rfl, HC.out⟩
end Go.Proofs.YtdkhmfcfihbjeaaGreatDoor.W

/- Package server: Get changes nothing. -/
namespace Go.Proofs.YtdkhmfcfihbjeaaGreatDoor.W
open Go.RowKit
set_option linter.unusedVariables false
set_option linter.unusedSimpArgs false
section
variable {G U : List Nat} {z q p : Nat} {t : Sto}
theorem doMid2_late {w w2 w3 : World} {r : Rq} {bv : Value} {o : Rp} {t' : Sto} {a a' : Option Addr} {n n' c c' : Nat} (hE : Begins G w w2 z q p U t r bv) (h : SvAt G w z q p U t) (hb : BytesAt w3 (.slice a n c) o.b)
    (hn : ∀ k, (Value.slice a n c).ownBlock = some k → w2.drew.heap.size ≤ k) (ho : w3.ownsRow w2.drew.heap.size 38 4 (.slice a' n' c') o.ids.length (o.ids.flatMap idE)) (hs : Std ([w.heap.size + 1] ++ G) w2.drew w3 q p U t') (hc3 : Chg [] w2.drew w3) :
    DoMid G w w2 q p U o t' w3.heap.size ((w3.alloc (.cells #[.int .i64 0, .slice none 0 0, .slice none 0 0, .int .i64 0, .bool false] 32)).setCells w3.heap.size 0 (rpL o.e (.slice a n c) (.slice a' n' c') o.room o.whole)) ∧ Chg [] w2 ((w3.alloc (.cells #[.int .i64 0, .slice none 0 0, .slice none 0 0, .int .i64 0, .bool false] 32)).setCells w3.heap.size 0 (rpL o.e (.slice a n c) (.slice a' n' c') o.room o.whole)) := by
  refine ⟨doMid_late hE h hb hn ho hs, (((Chg.refl [] w2).drew.trans hc3 (by simp)).alloc _).setCells (.inr ?_) _⟩
  exact hc3.size
theorem doMid2_early {w w2 w3 : World} {r : Rq} {bv : Value} {o : Rp} {t' : Sto} {a a' : Option Addr} {n n' c c' : Nat} (hE : Begins G w w2 z q p U t r bv) (h : SvAt G w z q p U t) (hb : BytesAt w3 (.slice a n c) o.b)
    (hn : ∀ k, (Value.slice a n c).ownBlock = some k → (w2.alloc (.cells #[.int .i64 0, .slice none 0 0, .slice none 0 0, .int .i64 0, .bool false] 32)).drew.heap.size ≤ k) (ho : w3.ownsRow (w2.alloc (.cells #[.int .i64 0, .slice none 0 0, .slice none 0 0, .int .i64 0, .bool false] 32)).drew.heap.size 38 4 (.slice a' n' c') o.ids.length (o.ids.flatMap idE))
    (hs : Std ([w2.heap.size] ++ ([w.heap.size + 1] ++ G)) (w2.alloc (.cells #[.int .i64 0, .slice none 0 0, .slice none 0 0, .int .i64 0, .bool false] 32)).drew w3 q p U t') (hc3 : Chg [] (w2.alloc (.cells #[.int .i64 0, .slice none 0 0, .slice none 0 0, .int .i64 0, .bool false] 32)).drew w3) :
    DoMid G w w2 q p U o t' w2.heap.size (w3.setCells w2.heap.size 0 (rpL o.e (.slice a n c) (.slice a' n' c') o.room o.whole)) ∧ Chg [] w2 (w3.setCells w2.heap.size 0 (rpL o.e (.slice a n c) (.slice a' n' c') o.room o.whole)) := by
  exact ⟨doMid_early hE h hb hn ho hs, ((((Chg.refl [] w2).alloc _).drew).trans hc3 (by simp)).setCells (.inr (Nat.le_refl _)) _⟩
end
section
variable {X Y : List Nat} {w0 w w' : World} {z q p : Nat} {t t' : Sto}
end
end Go.Proofs.YtdkhmfcfihbjeaaGreatDoor.W

/- Package server: Info changes nothing. -/
namespace Go.Proofs.YtdkhmfcfihbjeaaGreatDoor.W
open Go.RowKit
set_option linter.unusedVariables false
set_option linter.unusedSimpArgs false
section
variable {G U : List Nat} {z q p : Nat} {t : Sto}
set_option maxHeartbeats 4000000 in
set_option maxRecDepth 100000 in
theorem svinfo5_any (r : Rq) (bv : Value) (w : World) (h : SvAt G w z q p U t) (hb : ∃ a n c, bv = .slice a n c) :
    Calls Tryz.prog 86 #[.pointer (some ⟨z, 0, none⟩), rqV r bv] w (fun e w' => DeedPost G w q p U ⟨0, [], [], (t.room : Int), t.whole⟩ t e w' ∧ Chg [] w w') := by
  have HE0 := Lib.hid (h.begins r bv)
  obtain ⟨w2, hw2⟩ : ∃ w2, w2 = (w.alloc (.cells (rqL r bv).toArray 40)).alloc (.cells zeroRp 32) := ⟨_, rfl⟩
  rw [← hw2] at HE0
  have HE := Lib.hid HE0.out.drew
  have c0 := blk_cell HE0.out.head 0 _ rfl
  have c00 := blk_cell h.head 0 _ rfl
  obtain ⟨B, hB⟩ : ∃ B, B = w.heap.size := ⟨_, rfl⟩
  have hrq := HE0.out.rq
  rw [← hB] at hrq
  have q1 := blk_cell hrq 1 _ rfl
  have q2 := blk_cell hrq 2 _ rfl
  have q3 := blk_cell hrq 3 _ rfl
  have q4 := blk_cell hrq 4 _ rfl
  have q5 := blk_cell hrq 5 _ rfl
  have HRP := Lib.hid HE0.out.rp
  rw [← hB] at HRP
  have HH := Lib.hid h
  have HW2 := Lib.hid hw2
  have HB := Lib.hid hB
  have CR := Lib.hid (stroom_any q p U t w2.drew HE.out.st)
  have CWH := Lib.hid (stwhole_any q p U t w2.drew HE.out.st)
  obtain ⟨rm, hrm⟩ : ∃ rm, rm = t.room := ⟨_, rfl⟩
  obtain ⟨wh, hwh⟩ : ∃ wh, wh = t.whole := ⟨_, rfl⟩
  rw [← hrm] at CR
  rw [← hwh] at CWH
  rw [← hrm, ← hwh]
  clear hrm hwh
  obtain ⟨k, ⟨xc, xl, xn, xi⟩, b⟩ := r
  obtain ⟨ba, bn, bc, hbv⟩ := hb
  subst hbv
  clear hw2 hB hrq HE0 h
  unfold rqV rqL
  unfold rqL at HW2
  try dsimp only at q1 q2 q3 q4 q5

  rw [show zeroRp = #[.int .i64 0, .slice none 0 0, .slice none 0 0, .int .i64 0, .bool false] from rfl] at HW2
  have c0L := c0
  rw [HW2.out] at c0L
  go_enter Tryz.func86, Tryz.ntmps86
  go_wp2_with fail
  clear c0L
  rw [← HB.out]
  rw [← HW2.out]

  have hz3 := HE.out.rp
  rw [← HB.out] at hz3
  have HZ := Lib.hid (five_set hz3 (.int .i64 0) (.slice none 0 0) (.slice none 0 0) (.int .i64 (rm : Int)) (.bool wh))
  have HTH := Lib.hid (five_there hz3 _ rfl)
  have HS := Lib.hid (HE.out.calm HH.out (Chg.refl [] _) (rpL 0 (.slice none 0 0) (.slice none 0 0) (rm : Int) wh))
  rw [← HB.out] at HS
  clear hz3
  refine wp_region_L [(4, fun w' => w'.cell? ⟨z, 0, none⟩ = some (.pointer (some ⟨q, 0, none⟩))), (9, fun w' => w'.cell? ⟨z, 0, none⟩ = some (.pointer (some ⟨q, 0, none⟩)))] (by kernel_rfl) ?_ (fun hHeld => ?_)
  · exact (HoldC.cons (c0) (HoldC.cons (c0) HoldC.nil))
  refine wpAnyL_take (i := 0) (oi := _) (v := ?_) rfl (by kernel_rfl) (by kernel_rfl) (by kernel_rfl) (by kernel_rfl) (by kernel_rfl) (fun _ _ _ h => h) (Or.inl ⟨by rfl, ?_⟩) (by assumption) (fun hNew => ?_)
  rotate_left
  · intro w _
    go_simp
    try with_reducible rfl
  clear hHeld
  have hHeld := hNew
  clear hNew
  try simp only [List.getElem_toArray, List.getElem_cons_succ, List.getElem_cons_zero, Act.put, List.setIfInBounds_toArray, List.set_cons_zero, List.set_cons_succ]
  refine wpAnyL_take (i := 1) (oi := _) (v := ?_) rfl (by kernel_rfl) (by kernel_rfl) (by kernel_rfl) (by kernel_rfl) (by kernel_rfl) (fun _ _ _ h => h) (Or.inl ⟨by rfl, ?_⟩) (by assumption) (fun hNew => ?_)
  rotate_left
  · intro w _
    go_simp
    try with_reducible rfl
  clear hHeld
  have hHeld := hNew
  clear hNew
  try simp only [List.getElem_toArray, List.getElem_cons_succ, List.getElem_cons_zero, Act.put, List.setIfInBounds_toArray, List.set_cons_zero, List.set_cons_succ]
  refine wpAnyL_take (i := 2) (oi := _) (v := ?_) rfl (by kernel_rfl) (by kernel_rfl) (by kernel_rfl) (by kernel_rfl) (by kernel_rfl) (fun _ _ _ h => h) (Or.inl ⟨by rfl, ?_⟩) (by assumption) (fun hNew => ?_)
  rotate_left
  · intro w _
    go_simp
    try with_reducible rfl
  clear hHeld
  have hHeld := hNew
  clear hNew
  try simp only [List.getElem_toArray, List.getElem_cons_succ, List.getElem_cons_zero, Act.put, List.setIfInBounds_toArray, List.set_cons_zero, List.set_cons_succ]
  refine wpAnyL_take (i := 5) (oi := _) (v := ?_) rfl (by kernel_rfl) (by kernel_rfl) (by kernel_rfl) (by kernel_rfl) (by kernel_rfl) (fun _ _ _ h => h) (Or.inl ⟨by rfl, ?_⟩) (by assumption) (fun hNew => ?_)
  rotate_left
  · intro w _
    go_simp
    try with_reducible rfl
  clear hHeld
  have hHeld := hNew
  clear hNew
  try simp only [List.getElem_toArray, List.getElem_cons_succ, List.getElem_cons_zero, Act.put, List.setIfInBounds_toArray, List.set_cons_zero, List.set_cons_succ]
  refine wpAnyL_take (i := 6) (oi := _) (v := ?_) rfl (by kernel_rfl) (by kernel_rfl) (by kernel_rfl) (by kernel_rfl) (by kernel_rfl) (fun _ _ _ h => h) (Or.inl ⟨by rfl, ?_⟩) (by assumption) (fun hNew => ?_)
  rotate_left
  · intro w _
    go_simp
    try with_reducible rfl
  clear hHeld
  have hHeld := hNew
  clear hNew
  try simp only [List.getElem_toArray, List.getElem_cons_succ, List.getElem_cons_zero, Act.put, List.setIfInBounds_toArray, List.set_cons_zero, List.set_cons_succ]
  refine wpAnyL_take (i := 7) (oi := _) (v := ?_) rfl (by kernel_rfl) (by kernel_rfl) (by kernel_rfl) (by kernel_rfl) (by kernel_rfl) (fun _ _ _ h => h) (Or.inl ⟨by rfl, ?_⟩) (by assumption) (fun hNew => ?_)
  rotate_left
  · intro w _
    go_simp
    try with_reducible rfl
  clear hHeld
  have hHeld := hNew
  clear hNew
  try simp only [List.getElem_toArray, List.getElem_cons_succ, List.getElem_cons_zero, Act.put, List.setIfInBounds_toArray, List.set_cons_zero, List.set_cons_succ]
  refine wpAnyL_load 0 (i := 3) (oi := _) (v := ?_) rfl rfl (by kernel_rfl) (by kernel_rfl) (by kernel_rfl) (by kernel_rfl) (by kernel_rfl) (by kernel_rfl) (fun _ _ _ h => h) (Or.inl ⟨by rfl, ?_⟩) (by assumption) (fun hNew => ?_)
  rotate_left
  · intro w hSw
    (try dsimp only at hSw)
    go_simp
    try with_reducible rfl
  clear hHeld
  have hHeld := hNew
  clear hNew
  try simp only [List.getElem_toArray, List.getElem_cons_succ, List.getElem_cons_zero, Act.put, List.setIfInBounds_toArray, List.set_cons_zero, List.set_cons_succ]
  refine wpAnyL_load 1 (i := 8) (oi := _) (v := ?_) rfl rfl (by kernel_rfl) (by kernel_rfl) (by kernel_rfl) (by kernel_rfl) (by kernel_rfl) (by kernel_rfl) (fun _ _ _ h => h) (Or.inl ⟨by rfl, ?_⟩) (by assumption) (fun hNew => ?_)
  rotate_left
  · intro w hSw
    (try dsimp only at hSw)
    go_simp
    try with_reducible rfl
  clear hHeld
  have hHeld := hNew
  clear hNew
  try simp only [List.getElem_toArray, List.getElem_cons_succ, List.getElem_cons_zero, Act.put, List.setIfInBounds_toArray, List.set_cons_zero, List.set_cons_succ]
  refine wpAnyL_ready (rs := [4]) (by kernel_rfl) (by simp) ?_
  refine AllReadyL.cons (o := _) rfl (fun K hK => ?_) AllReadyL.nil
  try simp only [List.getElem_toArray, List.getElem_cons_succ, List.getElem_cons_zero]
  go_simp
  refine CR.out.mono ?_
  rintro e w' ⟨rfl, hq⟩
  subst hq
  clear hHeld
  refine hK.out _ _ ?_ (fun hHeld => ?_)
  · exact (HoldC.past (by kernel_rfl) (HoldC.cons (c0) HoldC.nil))
  clear hK K
  try simp only [List.getElem_toArray, List.getElem_cons_succ, List.getElem_cons_zero, Act.put, List.setIfInBounds_toArray, List.set_cons_zero, List.set_cons_succ]
  refine wpAnyL_ready (rs := [9]) (by kernel_rfl) (by simp) ?_
  refine AllReadyL.cons (o := _) rfl (fun K hK => ?_) AllReadyL.nil
  try simp only [List.getElem_toArray, List.getElem_cons_succ, List.getElem_cons_zero]
  go_simp
  refine CWH.out.mono ?_
  rintro e w' ⟨rfl, hq⟩
  subst hq
  clear hHeld
  refine hK.out _ _ ?_ (fun hHeld => ?_)
  · exact (HoldC.past (by kernel_rfl) (HoldC.past (by kernel_rfl) HoldC.nil))
  clear hK K
  try simp only [List.getElem_toArray, List.getElem_cons_succ, List.getElem_cons_zero, Act.put, List.setIfInBounds_toArray, List.set_cons_zero, List.set_cons_succ]
  refine wpAnyL_take (i := 10) (oi := _) (v := ?_) rfl (by kernel_rfl) (by kernel_rfl) (by kernel_rfl) (by kernel_rfl) (by kernel_rfl) (fun _ _ _ h => h) (Or.inl ⟨by rfl, ?_⟩) (by assumption) (fun hNew => ?_)
  rotate_left
  · intro w _
    go_simp
    try with_reducible rfl
  clear hHeld
  have hHeld := hNew
  clear hNew
  try simp only [List.getElem_toArray, List.getElem_cons_succ, List.getElem_cons_zero, Act.put, List.setIfInBounds_toArray, List.set_cons_zero, List.set_cons_succ]
  refine wpAnyL_ready (rs := [11]) (by kernel_rfl) (by simp) ?_
  refine AllReadyL.cons (o := _) rfl (fun K hK => ?_) AllReadyL.nil
  try simp only [List.getElem_toArray, List.getElem_cons_succ, List.getElem_cons_zero]
  rw [if_pos (by rfl)]
  refine wp_store_mid 32 (.tmp 4) (.tmp 15) (by rfl) (B + 1) 0 (rpL 0 (.slice none 0 0) (.slice none 0 0) (rm : Int) wh).toArray (by rfl) (by rfl) HTH.out (rp_size _ _ _ _ _) (rp_all _ _ _ _ _ _ _ _ _) ?_
  clear hHeld
  refine hK.out _ _ ?_ (fun hHeld => ?_)
  · exact (HoldC.past (by kernel_rfl) (HoldC.past (by kernel_rfl) HoldC.nil))
  clear hK K
  try simp only [List.getElem_toArray, List.getElem_cons_succ, List.getElem_cons_zero, Act.put, List.setIfInBounds_toArray, List.set_cons_zero, List.set_cons_succ]
  refine wpAnyL_done (by kernel_rfl) ?_ _
  clear hHeld
  go_wp2
  exact bodyPost_ret (ret_rp rfl _ rfl HZ.out) rfl ⟨⟨_, rfl, ⟨.slice none 0 0, .slice none 0 0, rfl, BytesAt.nil _, by simp [Value.ownBlock], World.ownsRow_nil _ _ _ _⟩, HS.out⟩, HE.out.chg.setCells (.inr (by rw [HB.out]; omega)) (rpL 0 (.slice none 0 0) (.slice none 0 0) (rm : Int) wh)⟩

theorem sdeed5_any (r : Rq) (bv : Value) (w : World) (h : SvAt G w z q p U t) (h2 : r.k = 5) (hx : okD r.x) (hb : BytesAt w bv r.b) :
    Calls Tryz.prog (deedN r.k) #[.pointer (some ⟨z, 0, none⟩), rqV r bv] w (fun e w' => DeedPost G w q p U (t.step r).1 (t.step r).2 e w' ∧ Chg [] w w') := by
  have hbs : ∃ a n c, bv = .slice a n c := by obtain ⟨a, c, e⟩ := hb.slice; exact ⟨a, _, c, e⟩
  obtain ⟨k, x, b⟩ := r
  dsimp only at h2
  subst h2
  exact svinfo5_any _ bv w h hbs
set_option maxHeartbeats 8000000 in
set_option maxRecDepth 100000 in
theorem svdo5_any (r : Rq) (bv : Value) (w : World) (h : SvAt G w z q p U t) (h2 : r.k = 5) (hx : okD r.x) (hb : BytesAt w bv r.b) (hbU : r.b ≠ [] → ∀ k, bv.ownBlock = some k → k ∉ U) (hbl : r.b.length ≤ 1000000) (hn : 1 ≤ t.s.d.n) (ho : t.s.d.ops ≤ 800000000) (hw : t.s.d.since.length ≤ 800000) :
    Calls Tryz.prog 12 #[.pointer (some ⟨z, 0, none⟩), rqV r bv] w (fun e w' => DoPost G w q p U (t.run r) e w' ∧ Chg [] w w') := by
  have HE0 := Lib.hid (h.begins r bv)
  obtain ⟨w2, hw2⟩ : ∃ w2, w2 = (w.alloc (.cells (rqL r bv).toArray 40)).alloc (.cells zeroRp 32) := ⟨_, rfl⟩
  rw [← hw2] at HE0
  have hst2 := h.st.keep0 HE0.out.chg
  have CDK := Lib.hid (stdisk_any w2 hst2)
  have CDD := Lib.hid hst2.dead
  have c0 := blk_cell HE0.out.head 0 _ rfl
  obtain ⟨B, hB⟩ : ∃ B, B = w.heap.size := ⟨_, rfl⟩
  have hrq := HE0.out.rq
  rw [← hB] at hrq
  have HRP := Lib.hid HE0.out.rp
  rw [← hB] at HRP
  have HH := Lib.hid h
  have HBY := Lib.hid (hb.chg HE0.out.chg (by simp))
  have HBU := Lib.hid hbU
  have HXO := Lib.hid hx
  have HW2 := Lib.hid hw2
  have HB := Lib.hid hB
  have HLIM := Lib.hid (And.intro hbl (And.intro hn (And.intro ho hw)))
  have HRUN : Hid (t.run r = if t.s.d.dead then ((noRp, 14), t) else if (t.step r).2.s.d.dead then ((noRp, 14), (t.step r).2) else (((t.step r).1, 0), (t.step r).2)) := Lib.hid rfl
  obtain ⟨R, hR⟩ : ∃ R, R = t.run r := ⟨_, rfl⟩
  rw [← hR] at HRUN
  rw [← hR]
  obtain ⟨k, ⟨xc, xl, xn, xi⟩, b⟩ := r
  have HK2 := Lib.hid (show k = 5 from h2)
  clear h2
  obtain ⟨ba, bc, hbv⟩ := hb.slice
  subst hbv
  obtain ⟨q0, ⟨q1, q2, q3, q4⟩, q5⟩ := rq_cells hrq
  have HRQ := Lib.hid hrq
  unfold rqV rqL
  unfold rqL at HW2
  rw [show zeroRp = #[.int .i64 0, .slice none 0 0, .slice none 0 0, .int .i64 0, .bool false] from rfl] at HW2
  have c0L := c0
  rw [HW2.out] at c0L
  clear hw2 hB hrq h hx hb hbU hst2 hR hn ho hw hbl
  go_enter Tryz.func12, Tryz.ntmps12
  go_wp2_with fail
  clear c0L
  rw [← HB.out, ← HW2.out]
  refine CDK.out.mono ?_
  rintro e w' ⟨rfl, hq⟩
  subst hq
  go_wp2_with fail
  refine CDD.out.mono ?_
  rintro e w' ⟨rfl, hq⟩
  subst hq
  cases hdd : t.s.d.dead
  · rw [hdd] at HRUN
    rw [if_neg (by simp)] at HRUN
    go_upto_region 3 with (fail)
    go_cut [6] (fun s6 wx => ∃ C, s6 = .pointer (some ⟨C, 0, none⟩) ∧ Hid (DoMid G w w2 q p U (t.step ⟨k, ⟨xc, xl, xn, xi⟩, b⟩).1 (t.step ⟨k, ⟨xc, xl, xn, xi⟩, b⟩).2 C wx ∧ Chg [] w2 wx))
    case first =>
      have hent := deed_enters k
      have hG1 : SvAt ([w.heap.size + 1] ++ G) w2.drew z q p U t := HH.out.mid HE0.out
      have CPY := Lib.hid (sdeed5_any ⟨k, ⟨xc, xl, xn, xi⟩, b⟩ (.slice ba b.length bc) w2.drew hG1 HK2.out HXO.out (HBY.out.keep (fun _ _ => rfl)))
      have hcX : Chg [] w2 (w2.alloc (.cells #[.int .i64 0, .slice none 0 0, .slice none 0 0, .int .i64 0, .bool false] 32)).drew := ((Chg.refl [] w2).alloc _).drew
      have hG2 : SvAt ([w2.heap.size] ++ ([w.heap.size + 1] ++ G)) (w2.alloc (.cells #[.int .i64 0, .slice none 0 0, .slice none 0 0, .int .i64 0, .bool false] 32)).drew z q p U t := (hG1.add (w2 := (w2.alloc (.cells #[.int .i64 0, .slice none 0 0, .slice none 0 0, .int .i64 0, .bool false] 32)).drew) ⟨hcX.os, hcX.tape, hcX.output, hcX.size, hcX.block⟩ (by
        rw [show w2.drew.heap.size = w2.heap.size from rfl]
        show w2.heap.size < (w2.alloc _).heap.size
        simp))
      have CPX := Lib.hid (sdeed5_any ⟨k, ⟨xc, xl, xn, xi⟩, b⟩ (.slice ba b.length bc) _ hG2 HK2.out HXO.out (HBY.out.chg hcX (by simp)))
      obtain ⟨r0, ⟨r1, r2, r3, r4⟩, r5⟩ := rq_cells (hcX.keep HRQ.out (by simp))
      unfold rqV rqL at CPX CPY
      clear hG1 hG2
      have HCX := Lib.hid hcX
      clear hcX
      go_wp2_with fail
      refine wp_region_L [(2, fun w' => w'.cell? ⟨B, 0, none⟩ = some (.int .i64 k)), (5, fun w' => (w'.cell? ⟨B, 0, none⟩ = some (.int .i64 k) ∧ w'.cell? ⟨B, 1, none⟩ = some (.int .i64 xc) ∧ w'.cell? ⟨B, 2, none⟩ = some (.int .i64 xl) ∧ w'.cell? ⟨B, 3, none⟩ = some (.int .i64 xn) ∧ w'.cell? ⟨B, 4, none⟩ = some (.int .i64 xi) ∧ w'.cell? ⟨B, 5, none⟩ = some (.slice ba b.length bc)))] (by kernel_rfl) ?_ (fun hHeld => ?_)
      · exact (HoldC.cons (q0) (HoldC.cons (⟨q0, q1, q2, q3, q4, q5⟩) HoldC.nil))
      refine wpAnyL_take (i := 0) (oi := _) (v := ?_) rfl (by kernel_rfl) (by kernel_rfl) (by kernel_rfl) (by kernel_rfl) (by kernel_rfl) (fun _ _ _ h => h) (Or.inl ⟨by rfl, ?_⟩) (by assumption) (fun hNew => ?_)
      rotate_left
      · intro w _
        go_simp
        try with_reducible rfl
      clear hHeld
      have hHeld := hNew
      clear hNew
      try simp only [List.getElem_toArray, List.getElem_cons_succ, List.getElem_cons_zero, Act.put, List.setIfInBounds_toArray, List.set_cons_zero, List.set_cons_succ]
      refine wpAnyL_take (i := 3) (oi := _) (v := ?_) rfl (by kernel_rfl) (by kernel_rfl) (by kernel_rfl) (by kernel_rfl) (by kernel_rfl) (fun _ _ _ h => h) (Or.inl ⟨by rfl, ?_⟩) (by assumption) (fun hNew => ?_)
      rotate_left
      · intro w _
        go_simp
        try with_reducible rfl
      clear hHeld
      have hHeld := hNew
      clear hNew
      try simp only [List.getElem_toArray, List.getElem_cons_succ, List.getElem_cons_zero, Act.put, List.setIfInBounds_toArray, List.set_cons_zero, List.set_cons_succ]
      refine wpAnyL_load 0 (i := 1) (oi := _) (v := ?_) rfl rfl (by kernel_rfl) (by kernel_rfl) (by kernel_rfl) (by kernel_rfl) (by kernel_rfl) (by kernel_rfl) (fun _ _ _ h => h) (Or.inl ⟨by rfl, ?_⟩) (by assumption) (fun hNew => ?_)
      rotate_left
      · intro w hSw
        (try dsimp only at hSw)
        go_simp
        try with_reducible rfl
      clear hHeld
      have hHeld := hNew
      clear hNew
      try simp only [List.getElem_toArray, List.getElem_cons_succ, List.getElem_cons_zero, Act.put, List.setIfInBounds_toArray, List.set_cons_zero, List.set_cons_succ]
      refine wpAnyL_load 1 (i := 4) (oi := _) (v := ?_) rfl rfl (by kernel_rfl) (by kernel_rfl) (by kernel_rfl) (by kernel_rfl) (by kernel_rfl) (by kernel_rfl) (fun _ _ _ h => h) (Or.inl ⟨by rfl, ?_⟩) (by assumption) (fun hNew => ?_)
      rotate_left
      · intro w hSw
        (try dsimp only at hSw)
        go_simp
        try with_reducible rfl
      clear hHeld
      have hHeld := hNew
      clear hNew
      try simp only [List.getElem_toArray, List.getElem_cons_succ, List.getElem_cons_zero, Act.put, List.setIfInBounds_toArray, List.set_cons_zero, List.set_cons_succ]
      refine wpAnyL_ready (rs := [2, 6]) (by kernel_rfl) (by simp) ?_
      refine AllReadyL.cons (o := _) rfl (fun K hK => ?_) (AllReadyL.cons (o := _) rfl (fun K hK => ?_) AllReadyL.nil)
      · try simp only [List.getElem_toArray, List.getElem_cons_succ, List.getElem_cons_zero]
        go_simp
        refine (deedof_any k w2.drew).mono ?_
        rintro e w' ⟨rfl, hq⟩
        subst hq
        clear hHeld
        refine hK.out _ _ ?_ (fun hHeld => ?_)
        · exact (HoldC.past (by kernel_rfl) (HoldC.cons (⟨q0, q1, q2, q3, q4, q5⟩) HoldC.nil))
        clear hK K
        try simp only [List.getElem_toArray, List.getElem_cons_succ, List.getElem_cons_zero, Act.put, List.setIfInBounds_toArray, List.set_cons_zero, List.set_cons_succ]
        refine wpAnyL_ready (rs := [5, 6]) (by kernel_rfl) (by simp) ?_
        refine AllReadyL.cons (o := _) rfl (fun K hK => ?_) (AllReadyL.cons (o := _) rfl (fun K hK => ?_) AllReadyL.nil)
        · try simp only [List.getElem_toArray, List.getElem_cons_succ, List.getElem_cons_zero]
          go_simp
          refine CPY.out.mono ?_
          rintro e w3 ⟨⟨v3, rfl, hr3, hs3⟩, hc3⟩
          obtain ⟨bv3, iv3, rfl, hb3, hn3, ho3⟩ := hr3
          obtain ⟨a3, c3, rfl⟩ := hb3.slice
          obtain ⟨a4, n4, c4, rfl⟩ : ∃ a n c, iv3 = .slice a n c := by
            rcases ho3.2 with ⟨h1, h2⟩ | ⟨g, cap, cur, h1, _⟩
            · exact ⟨none, 0, 0, h1⟩
            · exact ⟨_, _, cap, h1⟩
          have HM := Lib.hid (doMid2_late HE0.out HH.out hb3 hn3 ho3 hs3 hc3)
          clear hb3 hn3 ho3 hs3 hc3
          clear hHeld
          refine hK.out _ _ ?_ (fun hHeld => ?_)
          · exact (HoldC.past (by kernel_rfl) (HoldC.past (by kernel_rfl) HoldC.nil))
          clear hK K
          try simp only [List.getElem_toArray, List.getElem_cons_succ, List.getElem_cons_zero, Act.put, List.setIfInBounds_toArray, List.set_cons_zero, List.set_cons_succ]
          refine wpAnyL_ready (rs := [6]) (by kernel_rfl) (by simp) ?_
          refine AllReadyL.cons (o := _) rfl (fun K hK => ?_) AllReadyL.nil
          try simp only [List.getElem_toArray, List.getElem_cons_succ, List.getElem_cons_zero]
          go_simp
          obtain ⟨w4, hw4⟩ : ∃ w4, w4 = w3.alloc (.cells #[.int .i64 0, .slice none 0 0, .slice none 0 0, .int .i64 0, .bool false] 32) := ⟨_, rfl⟩
          rw [← hw4]
          have HW4 := Lib.hid hw4
          have hz4 : w4.heap[w3.heap.size]? = some (.cells #[.int .i64 0, .slice none 0 0, .slice none 0 0, .int .i64 0, .bool false] 32 (0, 0)) := by rw [hw4]; exact heap_alloc_new w3 _
          have HTH := Lib.hid (five_there hz4 _ rfl)
          clear hw4 hz4
          clear hHeld
          refine hK.out _ _ ?_ (fun hHeld => ?_)
          · exact (HoldC.past (by kernel_rfl) (HoldC.past (by kernel_rfl) HoldC.nil))
          clear hK K
          try simp only [List.getElem_toArray, List.getElem_cons_succ, List.getElem_cons_zero, Act.put, List.setIfInBounds_toArray, List.set_cons_zero, List.set_cons_succ]
          refine wpAnyL_ready (rs := [7]) (by kernel_rfl) (by simp) ?_
          refine AllReadyL.cons (o := _) rfl (fun K hK => ?_) AllReadyL.nil
          try simp only [List.getElem_toArray, List.getElem_cons_succ, List.getElem_cons_zero]
          rw [if_pos (by rfl)]
          refine wp_store_mid 32 (.tmp 6) (.tmp 30) (by rfl) w3.heap.size 0 (rpL (t.step ⟨k, ⟨xc, xl, xn, xi⟩, b⟩).1.e (.slice a3 (t.step ⟨k, ⟨xc, xl, xn, xi⟩, b⟩).1.b.length c3) (.slice a4 n4 c4) (t.step ⟨k, ⟨xc, xl, xn, xi⟩, b⟩).1.room (t.step ⟨k, ⟨xc, xl, xn, xi⟩, b⟩).1.whole).toArray (by rfl) (by rfl) HTH.out (rp_size _ _ _ _ _) (rp_all _ _ _ _ _ _ _ _ _) ?_
          clear hHeld
          refine hK.out _ _ ?_ (fun hHeld => ?_)
          · exact (HoldC.past (by kernel_rfl) (HoldC.past (by kernel_rfl) HoldC.nil))
          clear hK K
          try simp only [List.getElem_toArray, List.getElem_cons_succ, List.getElem_cons_zero, Act.put, List.setIfInBounds_toArray, List.set_cons_zero, List.set_cons_succ]
          refine wpAnyL_done (by kernel_rfl) ?_ _
          clear hHeld
          go_wp2_with fail
          go_meet
          exact ⟨_, rfl, by rw [HW4.out]; exact HM⟩
        · try simp only [List.getElem_toArray, List.getElem_cons_succ, List.getElem_cons_zero]
          go_simp
          clear hHeld
          refine hK.out _ _ ?_ (fun hHeld => ?_)
          · exact (HoldC.past (by kernel_rfl) (HoldC.cons (⟨r0, r1, r2, r3, r4, r5⟩) HoldC.nil))
          clear hK K
          try simp only [List.getElem_toArray, List.getElem_cons_succ, List.getElem_cons_zero, Act.put, List.setIfInBounds_toArray, List.set_cons_zero, List.set_cons_succ]
          refine wpAnyL_ready (rs := [5]) (by kernel_rfl) (by simp) ?_
          refine AllReadyL.cons (o := _) rfl (fun K hK => ?_) AllReadyL.nil
          try simp only [List.getElem_toArray, List.getElem_cons_succ, List.getElem_cons_zero]
          go_simp
          refine CPX.out.mono ?_
          rintro e w3 ⟨⟨v3, rfl, hr3, hs3⟩, hc3⟩
          obtain ⟨bv3, iv3, rfl, hb3, hn3, ho3⟩ := hr3
          obtain ⟨a3, c3, rfl⟩ := hb3.slice
          obtain ⟨a4, n4, c4, rfl⟩ : ∃ a n c, iv3 = .slice a n c := by
            rcases ho3.2 with ⟨h1, h2⟩ | ⟨g, cap, cur, h1, _⟩
            · exact ⟨none, 0, 0, h1⟩
            · exact ⟨_, _, cap, h1⟩
          have HM := Lib.hid (doMid2_early HE0.out HH.out hb3 hn3 ho3 hs3 hc3)
          have hz4 := hs3.blk (show (w2.alloc (.cells #[.int .i64 0, .slice none 0 0, .slice none 0 0, .int .i64 0, .bool false] 32)).drew.heap[w2.heap.size]? = some (.cells #[.int .i64 0, .slice none 0 0, .slice none 0 0, .int .i64 0, .bool false] 32 (0, 0)) from heap_alloc_new w2 _) (fun hm => by have := HH.out.st.lim _ hm; have := HE0.out.chg.size; omega)
          have HTH := Lib.hid (five_there hz4 _ rfl)
          clear hb3 hn3 ho3 hs3 hc3 hz4
          clear hHeld
          refine hK.out _ _ ?_ (fun hHeld => ?_)
          · exact (HoldC.past (by kernel_rfl) (HoldC.past (by kernel_rfl) HoldC.nil))
          clear hK K
          try simp only [List.getElem_toArray, List.getElem_cons_succ, List.getElem_cons_zero, Act.put, List.setIfInBounds_toArray, List.set_cons_zero, List.set_cons_succ]
          refine wpAnyL_ready (rs := [7]) (by kernel_rfl) (by simp) ?_
          refine AllReadyL.cons (o := _) rfl (fun K hK => ?_) AllReadyL.nil
          try simp only [List.getElem_toArray, List.getElem_cons_succ, List.getElem_cons_zero]
          rw [if_pos (by rfl)]
          refine wp_store_mid 32 (.tmp 6) (.tmp 30) (by rfl) w2.heap.size 0 (rpL (t.step ⟨k, ⟨xc, xl, xn, xi⟩, b⟩).1.e (.slice a3 (t.step ⟨k, ⟨xc, xl, xn, xi⟩, b⟩).1.b.length c3) (.slice a4 n4 c4) (t.step ⟨k, ⟨xc, xl, xn, xi⟩, b⟩).1.room (t.step ⟨k, ⟨xc, xl, xn, xi⟩, b⟩).1.whole).toArray (by rfl) (by rfl) HTH.out (rp_size _ _ _ _ _) (rp_all _ _ _ _ _ _ _ _ _) ?_
          clear hHeld
          refine hK.out _ _ ?_ (fun hHeld => ?_)
          · exact (HoldC.past (by kernel_rfl) (HoldC.past (by kernel_rfl) HoldC.nil))
          clear hK K
          try simp only [List.getElem_toArray, List.getElem_cons_succ, List.getElem_cons_zero, Act.put, List.setIfInBounds_toArray, List.set_cons_zero, List.set_cons_succ]
          refine wpAnyL_done (by kernel_rfl) ?_ _
          clear hHeld
          go_wp2_with fail
          go_meet
          exact ⟨_, rfl, HM⟩
      · try simp only [List.getElem_toArray, List.getElem_cons_succ, List.getElem_cons_zero]
        go_simp
        clear hHeld
        refine hK.out _ _ ?_ (fun hHeld => ?_)
        · exact (HoldC.cons (r0) (HoldC.cons (⟨r0, r1, r2, r3, r4, r5⟩) HoldC.nil))
        clear hK K
        try simp only [List.getElem_toArray, List.getElem_cons_succ, List.getElem_cons_zero, Act.put, List.setIfInBounds_toArray, List.set_cons_zero, List.set_cons_succ]
        refine wpAnyL_ready (rs := [2]) (by kernel_rfl) (by simp) ?_
        refine AllReadyL.cons (o := _) rfl (fun K hK => ?_) AllReadyL.nil
        try simp only [List.getElem_toArray, List.getElem_cons_succ, List.getElem_cons_zero]
        go_simp
        refine (deedof_any k _).mono ?_
        rintro e w' ⟨rfl, hq⟩
        subst hq
        clear hHeld
        refine hK.out _ _ ?_ (fun hHeld => ?_)
        · exact (HoldC.past (by kernel_rfl) (HoldC.cons (⟨r0, r1, r2, r3, r4, r5⟩) HoldC.nil))
        clear hK K
        try simp only [List.getElem_toArray, List.getElem_cons_succ, List.getElem_cons_zero, Act.put, List.setIfInBounds_toArray, List.set_cons_zero, List.set_cons_succ]
        refine wpAnyL_ready (rs := [5]) (by kernel_rfl) (by simp) ?_
        refine AllReadyL.cons (o := _) rfl (fun K hK => ?_) AllReadyL.nil
        try simp only [List.getElem_toArray, List.getElem_cons_succ, List.getElem_cons_zero]
        go_simp
        refine CPX.out.mono ?_
        rintro e w3 ⟨⟨v3, rfl, hr3, hs3⟩, hc3⟩
        obtain ⟨bv3, iv3, rfl, hb3, hn3, ho3⟩ := hr3
        obtain ⟨a3, c3, rfl⟩ := hb3.slice
        obtain ⟨a4, n4, c4, rfl⟩ : ∃ a n c, iv3 = .slice a n c := by
          rcases ho3.2 with ⟨h1, h2⟩ | ⟨g, cap, cur, h1, _⟩
          · exact ⟨none, 0, 0, h1⟩
          · exact ⟨_, _, cap, h1⟩
        have HM := Lib.hid (doMid2_early HE0.out HH.out hb3 hn3 ho3 hs3 hc3)
        have hz4 := hs3.blk (show (w2.alloc (.cells #[.int .i64 0, .slice none 0 0, .slice none 0 0, .int .i64 0, .bool false] 32)).drew.heap[w2.heap.size]? = some (.cells #[.int .i64 0, .slice none 0 0, .slice none 0 0, .int .i64 0, .bool false] 32 (0, 0)) from heap_alloc_new w2 _) (fun hm => by have := HH.out.st.lim _ hm; have := HE0.out.chg.size; omega)
        have HTH := Lib.hid (five_there hz4 _ rfl)
        clear hb3 hn3 ho3 hs3 hc3 hz4
        clear hHeld
        refine hK.out _ _ ?_ (fun hHeld => ?_)
        · exact (HoldC.past (by kernel_rfl) (HoldC.past (by kernel_rfl) HoldC.nil))
        clear hK K
        try simp only [List.getElem_toArray, List.getElem_cons_succ, List.getElem_cons_zero, Act.put, List.setIfInBounds_toArray, List.set_cons_zero, List.set_cons_succ]
        refine wpAnyL_ready (rs := [7]) (by kernel_rfl) (by simp) ?_
        refine AllReadyL.cons (o := _) rfl (fun K hK => ?_) AllReadyL.nil
        try simp only [List.getElem_toArray, List.getElem_cons_succ, List.getElem_cons_zero]
        rw [if_pos (by rfl)]
        refine wp_store_mid 32 (.tmp 6) (.tmp 30) (by rfl) w2.heap.size 0 (rpL (t.step ⟨k, ⟨xc, xl, xn, xi⟩, b⟩).1.e (.slice a3 (t.step ⟨k, ⟨xc, xl, xn, xi⟩, b⟩).1.b.length c3) (.slice a4 n4 c4) (t.step ⟨k, ⟨xc, xl, xn, xi⟩, b⟩).1.room (t.step ⟨k, ⟨xc, xl, xn, xi⟩, b⟩).1.whole).toArray (by rfl) (by rfl) HTH.out (rp_size _ _ _ _ _) (rp_all _ _ _ _ _ _ _ _ _) ?_
        clear hHeld
        refine hK.out _ _ ?_ (fun hHeld => ?_)
        · exact (HoldC.past (by kernel_rfl) (HoldC.past (by kernel_rfl) HoldC.nil))
        clear hK K
        try simp only [List.getElem_toArray, List.getElem_cons_succ, List.getElem_cons_zero, Act.put, List.setIfInBounds_toArray, List.set_cons_zero, List.set_cons_succ]
        refine wpAnyL_done (by kernel_rfl) ?_ _
        clear hHeld
        go_wp2_with fail
        go_meet
        exact ⟨_, rfl, HM⟩
    case rest =>
    obtain ⟨C, rfl, HM⟩ := hcut
    obtain ⟨⟨a3, n3, c3, a4, n4, c4, hC, hbC, hoC, hown, hs, hCA, hCw⟩, hcM⟩ := HM.out
    have HCE : Hid (∀ u, Chg [] w (wc.setCells (B + 1) 0 u)) := Lib.hid (fun u => ((HE0.out.chg.trans hcM (by simp)).setCells (.inr (by rw [HB.out]; omega)) u))
    clear hcM
    have HZA := Lib.hid (hs.blk HE0.out.rp HE0.out.out)
    rw [← HB.out] at HZA
    have HZC := Lib.hid hC
    have HBC := Lib.hid hbC
    have HOC := Lib.hid hoC
    have HOW := Lib.hid hown
    have HSS := Lib.hid hs
    have hzz := blk_cell (hs.blk HE0.out.head HH.out.out) 0 _ rfl
    obtain ⟨U', a1, a2, a3'⟩ := hs
    have CDK2 := Lib.hid (stdisk_any wc a1)
    have CDD2 := Lib.hid a1.dead
    have HE1 := HE0
    clear hC hbC hoC hown a1 a2 a3' CDK CDD c0 q0 q1 q2 q3 q4 q5 HM hCA hCw
    obtain ⟨o, ho⟩ : ∃ o, o = t.step ⟨k, ⟨xc, xl, xn, xi⟩, b⟩ := ⟨_, rfl⟩
    rw [← ho] at HRUN HZC HBC HOC HSS CDD2
    clear ho
    obtain ⟨⟨oe, ob, oi, orm, ow⟩, t'⟩ := o
    dsimp only at HZC HBC HOC HSS CDD2
    go_wp2_with fail
    refine CDK2.out.mono ?_
    rintro e w' ⟨rfl, hq⟩
    subst hq
    go_wp2_with fail
    refine CDD2.out.mono ?_
    rintro e w' ⟨rfl, hq⟩
    subst hq
    clear hzz CDK2 CDD2
    cases hd2 : t'.s.d.dead
    · rw [if_neg (by rw [hd2]; simp)] at HRUN
      obtain ⟨⟨p0, p1, p2, p3, p4⟩, g0, g1, g2, g3, g4⟩ := five_cells HZC.out
      obtain ⟨⟨m0, m1, m2, m3, m4⟩, f0, f1, f2, f3, f4⟩ := five_cells HZA.out
      have HZ := Lib.hid (five_set HZA.out (.int .i64 oe) (.slice a3 n3 c3) (.slice a4 n4 c4) (.int .i64 orm) (.bool ow))
      have HS := Lib.hid (HE0.out.ends HH.out HSS.out (rpL oe (.slice a3 n3 c3) (.slice a4 n4 c4) orm ow))
      rw [← HB.out] at HS
      have HBX : Hid (BytesAt (wc.setCells (B + 1) 0 (rpL oe (.slice a3 n3 c3) (.slice a4 n4 c4) orm ow)) (.slice a3 n3 c3) ob ∧ (wc.setCells (B + 1) 0 (rpL oe (.slice a3 n3 c3) (.slice a4 n4 c4) orm ow)).ownsRow w.heap.size 38 4 (.slice a4 n4 c4) oi.length (oi.flatMap idE)) := Lib.hid (by
        have hc : Chg [B + 1] wc (wc.setCells (B + 1) 0 (rpL oe (.slice a3 n3 c3) (.slice a4 n4 c4) orm ow)) := (Chg.refl _ wc).setCells (.inl (by simp)) _
        have hB := HB.out
        refine ⟨HBC.out.chg hc (fun k hk hm => ?_), row_keep HOC.out (fun g hg => hc.block g (World.ownsRow.lt HOC.out g hg).2 (fun hm => ?_))⟩
        · exact (HOW.out k (.inl hk)).2 (by rw [List.mem_singleton.1 hm, hB])
        · exact (HOW.out g (.inr hg)).2 (by rw [List.mem_singleton.1 hm, hB]))
      go_wp2_with fail
      refine bodyPost_ret (ret_rp2 rfl _ rfl rfl HZ.out) rfl ?_
      rw [HRUN.out]
      exact ⟨⟨_, rfl, ⟨.slice a3 n3 c3, .slice a4 n4 c4, rfl, HBX.out.1, fun k hk => (HOW.out k (.inl hk)).1, HBX.out.2⟩, HS.out⟩, HCE.out (rpL oe (.slice a3 n3 c3) (.slice a4 n4 c4) orm ow)⟩
    · rw [if_pos (by rw [hd2])] at HRUN
      obtain ⟨⟨m0, m1, m2, m3, m4⟩, f0, f1, f2, f3, f4⟩ := five_cells HZA.out
      have HZ := Lib.hid (five_set HZA.out (.int .i64 0) (.slice none 0 0) (.slice none 0 0) (.int .i64 0) (.bool false))
      have HS := Lib.hid (HE0.out.ends HH.out HSS.out (rpL 0 (.slice none 0 0) (.slice none 0 0) 0 false))
      rw [← HB.out] at HS
      go_wp2_with fail
      refine bodyPost_ret (ret_rp2 rfl _ rfl rfl HZ.out) rfl ?_
      rw [HRUN.out]
      exact ⟨⟨_, rfl, RpAt.err 0, HS.out⟩, HCE.out (rpL 0 (.slice none 0 0) (.slice none 0 0) 0 false)⟩
  · rw [hdd] at HRUN
    rw [if_pos rfl] at HRUN
    have hz := HRP.out
    obtain ⟨⟨m0, m1, m2, m3, m4⟩, f0, f1, f2, f3, f4⟩ := five_cells hz
    have HZ := Lib.hid (five_set hz (.int .i64 0) (.slice none 0 0) (.slice none 0 0) (.int .i64 0) (.bool false))
    have HS := Lib.hid (HE0.out.calm HH.out (Chg.refl [] w2) (rpL 0 (.slice none 0 0) (.slice none 0 0) 0 false))
    rw [← HB.out] at HS
    clear hz
    go_wp2_with fail
    refine bodyPost_ret (ret_rp2 rfl _ rfl rfl HZ.out) rfl ?_
    rw [HRUN.out]
    exact ⟨⟨_, rfl, RpAt.err 0, HS.out⟩, HE0.out.chg.setCells (.inr (by rw [HB.out]; omega)) (rpL 0 (.slice none 0 0) (.slice none 0 0) 0 false)⟩
end
section
variable {X Y : List Nat} {w0 w w' : World} {z q p : Nat} {t t' : Sto}
/-- Info, its outcome told: nothing that was is written. -/
def ToldIs (X : List Nat) (w0 w : World) (z q p : Nat) (o : Rp) (code : Int) (t' : Sto) (e : Ending) (w' : World) : Prop := ∃ a c a' c', e = .returned (.tuple #[.agg #[.int .i64 o.e, .slice a o.b.length c, .slice a' o.ids.length c', .int .i64 o.room, .bool o.whole], .int .i64 code]) ∧
  BytesAt w' (.slice a o.b.length c) o.b ∧ (∀ k, (Value.slice a o.b.length c).ownBlock = some k → w.heap.size ≤ k) ∧ OwnS X w0 w' z q p t' ∧ Chg [] w w'
theorem own_told {o : Rp} {code : Int} (h : OwnS X w0 w z q p t) (x : Id) (hrun : t.run ⟨5, x, []⟩ = ((o, code), t')) (hx : okD x) (hn : 1 ≤ t.s.d.n) (ho : t.s.d.ops ≤ 800000000) (hw : t.s.d.since.length ≤ 800000) :
    Calls Tryz.prog 12 #[.pointer (some ⟨z, 0, none⟩), .agg #[.int .i64 5, .int .i64 x.c, .int .i64 x.l, .int .i64 x.n, .int .i64 x.i, .slice none 0 0]] w (ToldIs X w0 w z q p o code t') := by
  obtain ⟨U, h1, h2⟩ := h.sv
  have hsz := h.chg.size
  refine (svdo5_any ⟨5, x, []⟩ (.slice none 0 0) w h1 rfl hx (BytesAt.nil _) (fun hne => absurd rfl hne) (by simp) hn ho hw).mono ?_
  rw [hrun]
  rintro e w' ⟨⟨v, rfl, ⟨bv', iv', rfl, hb', hn', hi'⟩, hs⟩, hc⟩
  obtain ⟨U', b1, b2, b3⟩ := h1.did hs
  obtain ⟨a, c, rfl⟩ := hb'.slice
  obtain ⟨a', c', rfl⟩ : ∃ a c, iv' = .slice a o.ids.length c := by
    rcases hi'.2 with ⟨h1, h2⟩ | ⟨g, cap, cur, h1, _⟩
    · exact ⟨none, 0, by rw [h1]; rw [show o.ids.length = 0 from h2]⟩
    · exact ⟨_, cap, h1⟩
  refine ⟨a, c, a', c', rfl, hb', hn', ⟨⟨U', b1, fun y hy => ?_⟩, h.chg.trans hc (by simp), h.newz, h.outz⟩, hc⟩
  rcases b2 y hy with h3 | h3
  · exact h2 y h3
  · omega
end
end Go.Proofs.YtdkhmfcfihbjeaaGreatDoor.W

/- The reference's disk in memory; op. -/
namespace Go.Proofs.YtdkhmfcfihbjeaaGreatDoor.W
open Go.RowKit
set_option linter.unusedVariables false
set_option linter.unusedSimpArgs false

def rrows (n : Nat) (nv lv av wv : Value) (NV LV AV WV : List Value) : List RowD := [⟨30, 1, nv, n, NV⟩, ⟨30, 1, lv, n, LV⟩, ⟨3, 1, av, AV.length, AV⟩, ⟨30, 1, wv, WV.length, WV⟩]
def rcs (d : DS) (nv lv av wv : Value) : Array Value := #[nv, lv, av, wv, .int .i64 (d.ops : Int), .int .i64 d.fuse, .bool d.dead]
/-- The reference's disk in block m; V: what may be written; F: all its blocks. -/
structure RDiskOk (w : World) (m : Nat) (V F : List Nat) (d : DS) (nv lv av wv : Value) (NV LV AV WV : List Value) : Prop where
  obj : ObjAt w m 134 (rcs d nv lv av wv) (rrows d.n nv lv av wv NV LV AV WV)
  now : ∀ k, k < d.n → (d.now k).length = 64 ∧ BytesAt w (NV.getD k undef) (d.now k) ∧ ∀ g, (NV.getD k undef).ownBlock = some g → g ∈ F ∧ g ∉ V
  lasts : ∀ c ∈ LV, No8 c
  ats : (∀ c ∈ AV, No8 c) ∧ AV.length ≤ d.since.length
  wrote : (∀ c ∈ WV, No8 c) ∧ WV.length ≤ d.since.length
  few : d.n ≤ 4160
  fuse : -1 ≤ d.fuse ∧ d.fuse ≤ 9223372036854775807
  mem : V = blks m (rrows d.n nv lv av wv NV LV AV WV)
  no8 : ∀ x ∈ V, NoU8 w x
  sub : ∀ x ∈ V, x ∈ F
  lim : ∀ x ∈ F, x < w.heap.size
def RDiskAt (w : World) (m : Nat) (V F : List Nat) (d : DS) : Prop := ∃ nv lv av wv NV LV AV WV, RDiskOk w m V F d nv lv av wv NV LV AV WV
theorem RDiskAt.keep {w w' : World} {m : Nat} {V F T : List Nat} {d : DS} (h : RDiskAt w m V F d) (hc : Chg T w w') (ha : ∀ x ∈ F, x ∉ T) : RDiskAt w' m V F d := by
  obtain ⟨nv, lv, av, wv, NV, LV, AV, WV, h⟩ := h
  refine ⟨nv, lv, av, wv, NV, LV, AV, WV, h.obj.keep hc (fun x hx => ha x (h.sub x (by rw [h.mem]; exact hx))), fun k hk => ?_, h.lasts, h.ats, h.wrote, h.few, h.fuse, h.mem, fun x hx => (h.no8 x hx).keep (hc.block x (h.lim x (h.sub x hx)) (ha x (h.sub x hx))), h.sub, fun x hx => Nat.lt_of_lt_of_le (h.lim x hx) hc.size⟩
  obtain ⟨h1, h2, h3⟩ := h.now k hk
  exact ⟨h1, h2.chg hc (fun g hg => ha g (h3 g hg).1), h3⟩
theorem RDiskOk.keep0 {w w' : World} {m : Nat} {V F : List Nat} {d : DS} {nv lv av wv : Value} {NV LV AV WV : List Value} (h : RDiskOk w m V F d nv lv av wv NV LV AV WV) (hc : Chg [] w w') : RDiskOk w' m V F d nv lv av wv NV LV AV WV := by
  refine ⟨h.obj.keep hc (by simp), fun k hk => ?_, h.lasts, h.ats, h.wrote, h.few, h.fuse, h.mem, fun x hx => (h.no8 x hx).keep (hc.block x (h.lim x (h.sub x hx)) (by simp)), h.sub, fun x hx => Nat.lt_of_lt_of_le (h.lim x hx) hc.size⟩
  obtain ⟨h1, h2, h3⟩ := h.now k hk
  exact ⟨h1, h2.chg hc (by simp), h3⟩
theorem RDiskAt.lim {w : World} {m : Nat} {V F : List Nat} {d : DS} (h : RDiskAt w m V F d) : (∀ x ∈ F, x < w.heap.size) ∧ (∀ x ∈ V, x ∈ F) ∧ ∀ x ∈ V, NoU8 w x := by
  obtain ⟨nv, lv, av, wv, NV, LV, AV, WV, h⟩ := h
  exact ⟨h.lim, h.sub, h.no8⟩
/-- What doing with it leaves. -/
def RDid (w w' : World) (m : Nat) (V F : List Nat) (d : DS) : Prop := ∃ V' F', RDiskAt w' m V' F' d ∧ (∀ x ∈ V', x ∈ V ∨ w.heap.size ≤ x) ∧ (∀ x ∈ F', x ∈ F ∨ w.heap.size ≤ x) ∧ Chg V w w'
theorem RDid.same {w : World} {m : Nat} {V F : List Nat} {d : DS} (h : RDiskAt w m V F d) : RDid w w m V F d := ⟨V, F, h, fun x hx => .inl hx, fun x hx => .inl hx, Chg.refl _ _⟩
theorem RDid.glue {w w1 w2 : World} {m : Nat} {V F V1 F1 : List Nat} {d : DS} (hv : ∀ x ∈ V1, x ∈ V ∨ w.heap.size ≤ x) (hf : ∀ x ∈ F1, x ∈ F ∨ w.heap.size ≤ x) (hc : Chg V w w1) (h : RDid w1 w2 m V1 F1 d) : RDid w w2 m V F d := by
  obtain ⟨V2, F2, b1, b2, b3, b4⟩ := h
  refine ⟨V2, F2, b1, fun x hx => ?_, fun x hx => ?_, hc.trans b4 hv⟩
  · rcases b2 x hx with h | h
    · exact hv x h
    · exact .inr (Nat.le_trans hc.size h)
  · rcases b3 x hx with h | h
    · exact hf x h
    · exact .inr (Nat.le_trans hc.size h)
theorem RDid.pre {w0 w w' : World} {m : Nat} {V F : List Nat} {d : DS} (hc : Chg [] w0 w) (h : RDid w w' m V F d) : RDid w0 w' m V F d := RDid.glue (fun x hx => .inl hx) (fun x hx => .inl hx) (hc.mono (by simp)) h
theorem RDid.trans {w w1 w2 : World} {m : Nat} {V F : List Nat} {d1 d2 : DS} (h1 : RDid w w1 m V F d1) (h2 : ∀ V1 F1, RDiskAt w1 m V1 F1 d1 → RDid w1 w2 m V1 F1 d2) : RDid w w2 m V F d2 := by
  obtain ⟨V1, F1, a1, a2, a3, a4⟩ := h1
  exact RDid.glue a2 a3 a4 (h2 V1 F1 a1)
theorem RDiskOk.head {w : World} {m : Nat} {V F : List Nat} {d : DS} {nv lv av wv : Value} {NV LV AV WV : List Value} (h : RDiskOk w m V F d nv lv av wv NV LV AV WV) : w.heap[m]? = some (.cells #[nv, lv, av, wv, .int .i64 (d.ops : Int), .int .i64 d.fuse, .bool d.dead] 134 (0, 0)) := h.obj.head
/-- A store into a counter. -/
theorem RDiskOk.put {w w' : World} {m : Nat} {V F : List Nat} {d d' : DS} {nv lv av wv : Value} {NV LV AV WV : List Value} (h : RDiskOk w m V F d nv lv av wv NV LV AV WV) (hc : Chg [m] w w') (hn : NoU8 w' m)
    (hh : w'.heap[m]? = some (.cells (rcs d' nv lv av wv) 134 (0, 0))) (e1 : d'.n = d.n) (e2 : d'.now = d.now) (e3 : d'.since = d.since) (e5 : -1 ≤ d'.fuse ∧ d'.fuse ≤ 9223372036854775807) : RDid w w' m V F d' := by
  have hmV : m ∈ V := by rw [h.mem]; exact blks_head
  have hNV : ∀ k, k < d.n → ∀ g, (NV.getD k undef).ownBlock = some g → g ∉ [m] := fun k hk g hg hm => (h.now k hk).2.2 g hg |>.2 (by rw [List.mem_singleton.1 hm]; exact hmV)
  refine ⟨V, F, ⟨nv, lv, av, wv, NV, LV, AV, WV, ⟨hh, fun r hr => ?_, by rw [e1]; exact h.obj.apart⟩, fun k hk => ?_, h.lasts, by rw [e3]; exact h.ats, by rw [e3]; exact h.wrote, by rw [e1]; exact h.few, e5, by rw [e1]; exact h.mem, fun x hx => ?_, h.sub, fun x hx => Nat.lt_of_lt_of_le (h.lim x hx) hc.size⟩, fun x hx => .inl hx, fun x hx => .inl hx, hc.mono (fun x hx => .inl (by rw [List.mem_singleton.1 hx]; exact hmV))⟩
  · rw [e1] at hr
    exact row_keep (h.obj.rows r hr) (fun g hg => hc.block g (World.ownsRow.lt (h.obj.rows r hr) g hg).2 (by
      intro hm
      exact h.obj.row_ne hr hg (List.mem_singleton.1 hm)))
  · rw [e1] at hk
    rw [e2]
    obtain ⟨h1, h2, h3⟩ := h.now k hk
    exact ⟨h1, h2.chg hc (hNV k hk), h3⟩
  · by_cases hxm : x = m
    · rw [hxm]; exact hn
    · exact (h.no8 x hx).keep (hc.block x (h.lim x (h.sub x hx)) (by simp; exact hxm))

end Go.Proofs.YtdkhmfcfihbjeaaGreatDoor.W

/- The reference's disk: its fields are set. -/
namespace Go.Proofs.YtdkhmfcfihbjeaaGreatDoor.W
open Go.RowKit
set_option linter.unusedVariables false
set_option linter.unusedSimpArgs false

/-- A field that is a row is another row: grown, or new. -/
theorem ObjAt.field {w w2 : World} {p t : Nat} {cs : Array Value} {a b : List RowD} {r r' : RowD} (h : ObjAt w p t cs (a ++ r :: b)) (j : Nat) (hg : w.grownBy w2 r.v.ownBlock) (hrow : r'.At w2)
    (hat : ∀ k, r'.v.ownBlock = some k → r.v.ownBlock = some k ∨ w.heap.size ≤ k) : ObjAt (w2.setCell ⟨p, j, none⟩ r'.v) p t (cs.setIfInBounds j r'.v) (a ++ r' :: b) ∧ (∀ x ∈ blks p (a ++ r' :: b), x ∈ blks p (a ++ r :: b) ∨ w.heap.size ≤ x) ∧ Chg (blks p (a ++ r :: b)) w (w2.setCell ⟨p, j, none⟩ r'.v) := by
  obtain ⟨g1, g2, g3⟩ := h.grow hg hrow hat
  exact ⟨g1.setHead j r'.v, g2, g3.setCell (p := ⟨p, j, none⟩) (.inl blks_head) _⟩
theorem RDiskOk.turn {w w3 : World} {m : Nat} {V F : List Nat} {d d' : DS} {nv lv av wv av' wv' : Value} {NV LV AV WV AV' WV' : List Value} (h : RDiskOk w m V F d nv lv av wv NV LV AV WV)
    (hobj : ObjAt w3 m 134 (rcs d' nv lv av' wv') (rrows d'.n nv lv av' wv' NV LV AV' WV')) (hb : ∀ x ∈ blks m (rrows d'.n nv lv av' wv' NV LV AV' WV'), x ∈ V ∨ w.heap.size ≤ x) (hc : Chg V w w3)
    (h8 : ∀ x ∈ blks m (rrows d'.n nv lv av' wv' NV LV AV' WV'), NoU8 w3 x) (en : d'.n = d.n) (enow : d'.now = d.now) (ef : d'.fuse = d.fuse) (hA : (∀ c ∈ AV', No8 c) ∧ AV'.length ≤ d'.since.length) (hW : (∀ c ∈ WV', No8 c) ∧ WV'.length ≤ d'.since.length) :
    RDiskOk w3 m (blks m (rrows d'.n nv lv av' wv' NV LV AV' WV')) (F ++ blks m (rrows d'.n nv lv av' wv' NV LV AV' WV')) d' nv lv av' wv' NV LV AV' WV' := by
  refine ⟨hobj, fun k hk => ?_, h.lasts, hA, hW, by rw [en]; exact h.few, by rw [ef]; exact h.fuse, rfl, h8, fun x hx => List.mem_append_right _ hx, fun x hx => ?_⟩
  · rw [en] at hk
    rw [enow]
    obtain ⟨h1, h2, h3⟩ := h.now k hk
    refine ⟨h1, h2.chg hc (fun g hg => (h3 g hg).2), fun g hg => ⟨List.mem_append_left _ (h3 g hg).1, fun hm => ?_⟩⟩
    rcases hb g hm with h4 | h4
    · exact (h3 g hg).2 h4
    · have := h.lim g (h3 g hg).1; omega
  · rcases List.mem_append.1 hx with hx | hx
    · exact Nat.lt_of_lt_of_le (h.lim x hx) hc.size
    · exact hobj.lim x hx
theorem RDiskOk.row {w : World} {m : Nat} {V F : List Nat} {d : DS} {nv lv av wv : Value} {NV LV AV WV : List Value} (h : RDiskOk w m V F d nv lv av wv NV LV AV WV) : w.ownsRow 0 30 1 nv d.n NV ∧ w.ownsRow 0 30 1 lv d.n LV ∧ w.ownsRow 0 3 1 av AV.length AV ∧ w.ownsRow 0 30 1 wv WV.length WV :=
  ⟨h.obj.rows _ (by simp [rrows] : (⟨30, 1, nv, d.n, NV⟩ : RowD) ∈ _), h.obj.rows _ (by simp [rrows] : (⟨30, 1, lv, d.n, LV⟩ : RowD) ∈ _), h.obj.rows _ (by simp [rrows] : (⟨3, 1, av, AV.length, AV⟩ : RowD) ∈ _), h.obj.rows _ (by simp [rrows] : (⟨30, 1, wv, WV.length, WV⟩ : RowD) ∈ _)⟩
theorem RDiskOk.in {w : World} {m : Nat} {V F : List Nat} {d : DS} {nv lv av wv : Value} {NV LV AV WV : List Value} (h : RDiskOk w m V F d nv lv av wv NV LV AV WV) : m ∈ V ∧ (∀ x, nv.ownBlock = some x → x ∈ V) ∧ (∀ x, lv.ownBlock = some x → x ∈ V) ∧ (∀ x, av.ownBlock = some x → x ∈ V) ∧ ∀ x, wv.ownBlock = some x → x ∈ V := by
  rw [h.mem]
  refine ⟨blks_head, fun x hx => ?_, fun x hx => ?_, fun x hx => ?_, fun x hx => ?_⟩
  · exact blks_row (r := ⟨30, 1, nv, d.n, NV⟩) (by simp [rrows]) hx
  · exact blks_row (r := ⟨30, 1, lv, d.n, LV⟩) (by simp [rrows]) hx
  · exact blks_row (r := ⟨3, 1, av, AV.length, AV⟩) (by simp [rrows]) hx
  · exact blks_row (r := ⟨30, 1, wv, WV.length, WV⟩) (by simp [rrows]) hx
theorem ObjAt.other_ne {w : World} {p t : Nat} {cs : Array Value} {a b : List RowD} {r q : RowD} (h : ObjAt w p t cs (a ++ r :: b)) (hq : q ∈ a ∨ q ∈ b) {x : Nat} (hx : q.v.ownBlock = some x) : r.v.ownBlock ≠ some x := fun hr => by
  have hnd := (List.nodup_cons.1 h.apart).2
  rw [List.filterMap_append, List.filterMap_cons, hr] at hnd
  simp only at hnd
  have hd := List.nodup_append.1 hnd
  rcases hq with hq | hq
  · exact hd.2.2 x (List.mem_filterMap.2 ⟨q, hq, hx⟩) x (List.mem_cons_self ..) rfl
  · exact (List.nodup_cons.1 hd.2.1).1 (List.mem_filterMap.2 ⟨q, hq, hx⟩)
/-- No byte comes into an object's blocks. -/
theorem ObjAt.field8 {w w2 : World} {p t : Nat} {cs : Array Value} {a b : List RowD} {r r' : RowD} (h : ObjAt w p t cs (a ++ r :: b)) (h8 : ∀ x ∈ blks p (a ++ r :: b), NoU8 w x) (j : Nat) (hg : w.grownBy w2 r.v.ownBlock)
    (hat : ∀ k, r'.v.ownBlock = some k → r.v.ownBlock = some k ∨ w.heap.size ≤ k) (h8' : ∀ x, r'.v.ownBlock = some x → NoU8 w2 x) (hu : No8 r'.v) : ∀ x ∈ blks p (a ++ r' :: b), NoU8 (w2.setCell ⟨p, j, none⟩ r'.v) x := fun x hx => by
  have hmr : r ∈ a ++ r :: b := List.mem_append_right _ (List.mem_cons_self ..)
  have hpl := blk_lt h.head
  have hp2 : w2.heap[p]? = w.heap[p]? := hg.block p hpl (fun e => h.row_ne hmr e.symm rfl)
  have hset : ∀ x, x ≠ p → (w2.setCell ⟨p, j, none⟩ r'.v).heap[x]? = w2.heap[x]? := fun x hx => Below.heap_setCell w2 ⟨p, j, none⟩ _ x hx
  have hother : ∀ q, q ∈ a ∨ q ∈ b → q ∈ a ++ r :: b → q.v.ownBlock = some x → NoU8 (w2.setCell ⟨p, j, none⟩ r'.v) x := fun q hq hm he => by
    have h1 := h.row_ne hm he
    have h2 := h.other_ne hq he
    have h3 := h.lim x (blks_row hm he)
    exact (h8 x (blks_row hm he)).keep ((hset x h1).trans (hg.block x h3 (fun e => h2 e.symm)))
  rcases mem_blks hx with rfl | ⟨q, hq, he⟩
  · exact ((h8 x blks_head).keep hp2).set (Nat.lt_of_lt_of_le hpl hg.size) hu
  · rcases List.mem_append.1 hq with hq | hq
    · exact hother q (.inl hq) (List.mem_append_left _ hq) he
    · rcases List.mem_cons.1 hq with rfl | hq
      · have hxp : x ≠ p := fun e => by
          rcases hat x he with h1 | h1
          · exact h.row_ne hmr h1 e
          · omega
        exact (h8' x he).keep (hset x hxp)
      · exact hother q (.inr hq) (List.mem_append_right _ (List.mem_cons_of_mem _ hq)) he
/-- At grows. -/
theorem RDiskOk.at {w w2 : World} {m : Nat} {V F : List Nat} {d : DS} {nv lv av wv : Value} {NV LV AV WV : List Value} (h : RDiskOk w m V F d nv lv av wv NV LV AV WV) (x : Nat × List UInt8) (u : Value) (g cap : Nat) (hg : w.grownBy w2 av.ownBlock)
    (hrow : w2.ownsRow 0 3 1 (.slice (some ⟨g, 0, none⟩) (AV.length + 1) cap) (AV.length + 1) (AV ++ [u])) (hat : av.ownBlock = some g ∨ g = w.heap.size) (h8 : NoU8 w2 g) (hu : No8 u) :
    ∃ V' F', RDiskOk (w2.setCell ⟨m, 2, none⟩ (.slice (some ⟨g, 0, none⟩) (AV.length + 1) cap)) m V' F' { d with since := d.since ++ [x] } nv lv (.slice (some ⟨g, 0, none⟩) (AV.length + 1) cap) wv NV LV (AV ++ [u]) WV ∧
      (∀ x ∈ V', x ∈ V ∨ w.heap.size ≤ x) ∧ (∀ x ∈ F', x ∈ F ∨ w.heap.size ≤ x) ∧ Chg V w (w2.setCell ⟨m, 2, none⟩ (.slice (some ⟨g, 0, none⟩) (AV.length + 1) cap)) := by
  have hloc : ∀ k, (Value.slice (some ⟨g, 0, none⟩) (AV.length + 1) cap).ownBlock = some k → av.ownBlock = some k ∨ w.heap.size ≤ k := fun k hk => by
    obtain rfl : g = k := by simpa [Value.ownBlock] using hk
    rcases hat with h4 | h4
    · exact .inl h4
    · exact .inr (by omega)
  have hobj : ObjAt w m 134 (rcs d nv lv av wv) ([⟨30, 1, nv, d.n, NV⟩, ⟨30, 1, lv, d.n, LV⟩] ++ (⟨3, 1, av, AV.length, AV⟩ : RowD) :: [⟨30, 1, wv, WV.length, WV⟩]) := h.obj
  obtain ⟨o1, o2, o3⟩ := hobj.field (r' := ⟨3, 1, .slice (some ⟨g, 0, none⟩) (AV.length + 1) cap, (AV ++ [u]).length, AV ++ [u]⟩) 2 hg (by
    show w2.ownsRow 0 3 1 (.slice (some ⟨g, 0, none⟩) (AV.length + 1) cap) (AV ++ [u]).length (AV ++ [u])
    rw [List.length_append]
    exact hrow) hloc
  have hV : V = blks m (rrows d.n nv lv av wv NV LV AV WV) := h.mem
  have hV' : ∀ x ∈ blks m (rrows d.n nv lv (.slice (some ⟨g, 0, none⟩) (AV.length + 1) cap) wv NV LV (AV ++ [u]) WV), x ∈ V ∨ w.heap.size ≤ x := fun x hx => by rw [hV]; exact o2 x hx
  have hc : Chg V w (w2.setCell ⟨m, 2, none⟩ (.slice (some ⟨g, 0, none⟩) (AV.length + 1) cap)) := by rw [hV]; exact o3
  refine ⟨_, _, h.turn (d' := { d with since := d.since ++ [x] }) o1 hV' hc (hobj.field8 (fun y hy => h.no8 y (by rw [h.mem]; exact hy)) 2 hg (r' := ⟨3, 1, .slice (some ⟨g, 0, none⟩) (AV.length + 1) cap, (AV ++ [u]).length, AV ++ [u]⟩) hloc (fun y hy => by
    obtain rfl : g = y := by simpa [Value.ownBlock] using hy
    exact h8) no8_slice) rfl rfl rfl ⟨fun c hc => ?_, by simp; exact h.ats.2⟩ ⟨h.wrote.1, by simp; exact Nat.le_succ_of_le h.wrote.2⟩, hV', fun y hy => ?_, hc⟩
  · rcases List.mem_append.1 hc with hc | hc
    · exact h.ats.1 c hc
    · rw [List.mem_singleton.1 hc]; exact hu
  · rcases List.mem_append.1 hy with hy | hy
    · exact .inl hy
    · rcases hV' y hy with h4 | h4
      · exact .inl (h.sub y h4)
      · exact .inr h4
/-- Wrote grows, behind At. -/
theorem RDiskOk.more {w w2 : World} {m : Nat} {V F : List Nat} {d : DS} {nv lv av wv : Value} {NV LV AV WV : List Value} (h : RDiskOk w m V F d nv lv av wv NV LV AV WV) (u : Value) (g cap : Nat) (hg : w.grownBy w2 wv.ownBlock)
    (hrow : w2.ownsRow 0 30 1 (.slice (some ⟨g, 0, none⟩) (WV.length + 1) cap) (WV.length + 1) (WV ++ [u])) (hat : wv.ownBlock = some g ∨ g = w.heap.size) (h8 : NoU8 w2 g) (hu : No8 u) (hl : WV.length + 1 ≤ d.since.length) :
    RDid w (w2.setCell ⟨m, 3, none⟩ (.slice (some ⟨g, 0, none⟩) (WV.length + 1) cap)) m V F d := by
  have hloc : ∀ k, (Value.slice (some ⟨g, 0, none⟩) (WV.length + 1) cap).ownBlock = some k → wv.ownBlock = some k ∨ w.heap.size ≤ k := fun k hk => by
    obtain rfl : g = k := by simpa [Value.ownBlock] using hk
    rcases hat with h4 | h4
    · exact .inl h4
    · exact .inr (by omega)
  have hobj : ObjAt w m 134 (rcs d nv lv av wv) ([⟨30, 1, nv, d.n, NV⟩, ⟨30, 1, lv, d.n, LV⟩, ⟨3, 1, av, AV.length, AV⟩] ++ (⟨30, 1, wv, WV.length, WV⟩ : RowD) :: []) := h.obj
  obtain ⟨o1, o2, o3⟩ := hobj.field (r' := ⟨30, 1, .slice (some ⟨g, 0, none⟩) (WV.length + 1) cap, (WV ++ [u]).length, WV ++ [u]⟩) 3 hg (by
    show w2.ownsRow 0 30 1 (.slice (some ⟨g, 0, none⟩) (WV.length + 1) cap) (WV ++ [u]).length (WV ++ [u])
    rw [List.length_append]
    exact hrow) hloc
  have hV : V = blks m (rrows d.n nv lv av wv NV LV AV WV) := h.mem
  have hV' : ∀ x ∈ blks m (rrows d.n nv lv av (.slice (some ⟨g, 0, none⟩) (WV.length + 1) cap) NV LV AV (WV ++ [u])), x ∈ V ∨ w.heap.size ≤ x := fun x hx => by rw [hV]; exact o2 x hx
  have hc : Chg V w (w2.setCell ⟨m, 3, none⟩ (.slice (some ⟨g, 0, none⟩) (WV.length + 1) cap)) := by rw [hV]; exact o3
  refine ⟨_, _, ⟨_, _, _, _, _, _, _, _, h.turn (d' := d) o1 hV' hc (hobj.field8 (fun y hy => h.no8 y (by rw [h.mem]; exact hy)) 3 hg (r' := ⟨30, 1, .slice (some ⟨g, 0, none⟩) (WV.length + 1) cap, (WV ++ [u]).length, WV ++ [u]⟩) hloc (fun y hy => by
    obtain rfl : g = y := by simpa [Value.ownBlock] using hy
    exact h8) no8_slice) rfl rfl rfl h.ats ⟨fun c hc => ?_, by simp; exact hl⟩⟩, hV', fun y hy => ?_, hc⟩
  · rcases List.mem_append.1 hc with hc | hc
    · exact h.wrote.1 c hc
    · rw [List.mem_singleton.1 hc]; exact hu
  · rcases List.mem_append.1 hy with hy | hy
    · exact .inl hy
    · rcases hV' y hy with h4 | h4
      · exact .inl (h.sub y h4)
      · exact .inr h4
/-- A sector that lasts is another. -/
theorem RDiskOk.last {w : World} {m : Nat} {V F : List Nat} {d : DS} {nv lv av wv : Value} {NV LV AV WV : List Value} (h : RDiskOk w m V F d nv lv av wv NV LV AV WV) (k g cap : Nat) (u : Value) (hk : k < d.n) (hlv : lv = .slice (some ⟨g, 0, none⟩) d.n cap) (hu : No8 u) :
    RDiskOk (w.setCell ⟨g, k, none⟩ u) m V F d nv lv av wv NV (LV.set k u) AV WV ∧ Chg V w (w.setCell ⟨g, k, none⟩ u) := by
  have hgV : g ∈ V := h.in.2.2.1 g (by rw [hlv]; rfl)
  have hc : Chg [g] w (w.setCell ⟨g, k, none⟩ u) := (Chg.refl _ w).setCell (p := ⟨g, k, none⟩) (.inl (by simp)) _
  have hcV : Chg V w (w.setCell ⟨g, k, none⟩ u) := hc.mono (fun x hx => .inl (by rw [List.mem_singleton.1 hx]; exact hgV))
  have hrows := h.row
  have hne : ∀ (r : RowD), r ∈ [(⟨30, 1, nv, d.n, NV⟩ : RowD), ⟨3, 1, av, AV.length, AV⟩, ⟨30, 1, wv, WV.length, WV⟩] → r.v.ownBlock ≠ some g := fun r hr he => by
    have hobj : ObjAt w m 134 (rcs d nv lv av wv) ([⟨30, 1, nv, d.n, NV⟩] ++ (⟨30, 1, lv, d.n, LV⟩ : RowD) :: [⟨3, 1, av, AV.length, AV⟩, ⟨30, 1, wv, WV.length, WV⟩]) := h.obj
    refine hobj.other_ne (q := r) ?_ he (by rw [hlv]; rfl)
    simp only [List.mem_cons, List.mem_nil_iff, or_false] at hr ⊢
    exact hr
  have hmg : m ≠ g := fun e => h.obj.row_ne (r := ⟨30, 1, lv, d.n, LV⟩) (by simp [rrows]) (k := g) (by rw [hlv]; rfl) e.symm
  refine ⟨⟨⟨hc.keep h.obj.head (by simp; exact hmg), fun r hr => ?_, h.obj.apart⟩, fun j hj => ?_, fun c hc => ?_, h.ats, h.wrote, h.few, h.fuse, h.mem, fun x hx => ?_, h.sub, fun x hx => Nat.lt_of_lt_of_le (h.lim x hx) hc.size⟩, hcV⟩
  · simp only [rrows, List.mem_cons, List.mem_nil_iff, or_false] at hr
    by_cases hrl : r = ⟨30, 1, lv, d.n, LV.set k u⟩
    · subst hrl
      show (w.setCell ⟨g, k, none⟩ u).ownsRow 0 30 1 lv d.n (LV.set k u)
      have h1 := hrows.2.1
      rw [hlv] at h1 ⊢
      exact row_set h1 k u (by omega)
    · have hmem : r ∈ rrows d.n nv lv av wv NV LV AV WV := by
        rcases hr with rfl | rfl | rfl | rfl
        · simp [rrows]
        · exact absurd rfl hrl
        · simp [rrows]
        · simp [rrows]
      have hr' : r ∈ [(⟨30, 1, nv, d.n, NV⟩ : RowD), ⟨3, 1, av, AV.length, AV⟩, ⟨30, 1, wv, WV.length, WV⟩] := by
        rcases hr with rfl | rfl | rfl | rfl
        · simp
        · exact absurd rfl hrl
        · simp
        · simp
      exact row_keep (h.obj.rows r hmem) (fun y hy => hc.block y (World.ownsRow.lt (h.obj.rows r hmem) y hy).2 (by
        intro hm
        rw [List.mem_singleton.1 hm] at hy
        exact hne r hr' hy))
  · obtain ⟨h1, h2, h3⟩ := h.now j hj
    exact ⟨h1, h2.chg hcV (fun x hx => (h3 x hx).2), h3⟩
  · rcases List.mem_or_eq_of_mem_set hc with hc | hc
    · exact h.lasts c hc
    · rw [hc]; exact hu
  · by_cases hxg : x = g
    · rw [hxg]
      exact (h.no8 g hgV).set (h.lim g (h.sub g hgV)) hu
    · exact (h.no8 x hx).keep (hc.block x (h.lim x (h.sub x hx)) (by simp; exact hxg))
/-- Nothing waits any more. -/
theorem RDiskOk.calm {w : World} {m : Nat} {V F : List Nat} {d : DS} {nv lv av wv : Value} {NV LV AV WV : List Value} (h : RDiskOk w m V F d nv lv av wv NV LV AV WV) (la : Nat → List UInt8) :
    RDid w ((w.setCell ⟨m, 2, none⟩ (.slice none 0 0)).setCell ⟨m, 3, none⟩ (.slice none 0 0)) m V F { d with lasts := la, since := [] } := by
  have hobj : ObjAt w m 134 (rcs d nv lv av wv) ([⟨30, 1, nv, d.n, NV⟩, ⟨30, 1, lv, d.n, LV⟩] ++ (⟨3, 1, av, AV.length, AV⟩ : RowD) :: [⟨30, 1, wv, WV.length, WV⟩]) := h.obj
  have hg0 : ∀ r, w.grownBy w r := fun r => ⟨rfl, rfl, rfl, Nat.le_refl _, fun _ _ _ => rfl⟩
  obtain ⟨o1, o2, o3⟩ := hobj.field (r' := ⟨3, 1, .slice none 0 0, 0, []⟩) 2 (hg0 _) (World.ownsRow_nil _ _ _ _) (fun k hk => by cases hk)
  have o8 := hobj.field8 (fun y hy => h.no8 y (by rw [h.mem]; exact hy)) 2 (hg0 _) (r' := ⟨3, 1, .slice none 0 0, 0, []⟩) (fun k hk => by cases hk) (fun y hy => by cases hy) no8_slice
  have hV : V = blks m (rrows d.n nv lv av wv NV LV AV WV) := h.mem
  have o3 : Chg V w (w.setCell ⟨m, 2, none⟩ (.slice none 0 0)) := by rw [hV]; exact o3
  have hV1 : ∀ x ∈ blks m (rrows d.n nv lv (.slice none 0 0) wv NV LV [] WV), x ∈ V ∨ w.heap.size ≤ x := fun x hx => by rw [hV]; exact o2 x hx
  have h1 := h.turn (d' := d) (av' := .slice none 0 0) (wv' := wv) (AV' := []) (WV' := WV) o1 hV1 o3 o8 rfl rfl rfl ⟨by simp, by simp⟩ h.wrote
  have hw1 : (w.setCell ⟨m, 2, none⟩ (.slice none 0 0)).heap.size = w.heap.size := by simp [World.setCell]
  generalize w.setCell ⟨m, 2, none⟩ (.slice none 0 0) = w1 at *
  have hobj1 : ObjAt w1 m 134 (rcs d nv lv (.slice none 0 0) wv) ([⟨30, 1, nv, d.n, NV⟩, ⟨30, 1, lv, d.n, LV⟩, ⟨3, 1, .slice none 0 0, ([] : List Value).length, []⟩] ++ (⟨30, 1, wv, WV.length, WV⟩ : RowD) :: []) := h1.obj
  have hg1 : ∀ r, w1.grownBy w1 r := fun r => ⟨rfl, rfl, rfl, Nat.le_refl _, fun _ _ _ => rfl⟩
  obtain ⟨q1, q2, q3⟩ := hobj1.field (r' := ⟨30, 1, .slice none 0 0, 0, []⟩) 3 (hg1 _) (World.ownsRow_nil _ _ _ _) (fun k hk => by cases hk)
  have q8 := hobj1.field8 (fun y hy => h1.no8 y hy) 3 (hg1 _) (r' := ⟨30, 1, .slice none 0 0, 0, []⟩) (fun k hk => by cases hk) (fun y hy => by cases hy) no8_slice
  have q2' : ∀ x ∈ blks m (rrows d.n nv lv (.slice none 0 0) (.slice none 0 0) NV LV [] []), x ∈ blks m (rrows d.n nv lv (.slice none 0 0) wv NV LV [] WV) ∨ w1.heap.size ≤ x := q2
  have h2 := h1.turn (d' := { d with lasts := la, since := [] }) (av' := .slice none 0 0) (wv' := .slice none 0 0) (AV' := []) (WV' := []) q1 q2' q3 q8 rfl rfl rfl ⟨by simp, by simp⟩ ⟨by simp, by simp⟩
  have hV2 : ∀ x ∈ blks m (rrows d.n nv lv (.slice none 0 0) (.slice none 0 0) NV LV [] []), x ∈ V ∨ w.heap.size ≤ x := fun x hx => by
    rcases q2' x hx with h4 | h4
    · exact hV1 x h4
    · exact .inr (by omega)
  refine ⟨_, _, ⟨_, _, _, _, _, _, _, _, h2⟩, hV2, fun x hx => ?_, o3.trans q3 hV1⟩
  have hin : ∀ x, x ∈ V ∨ w.heap.size ≤ x → x ∈ F ∨ w.heap.size ≤ x := fun x hx => hx.imp (h.sub x) id
  rcases List.mem_append.1 hx with hx | hx
  · rcases List.mem_append.1 hx with hx | hx
    · exact .inl hx
    · exact hin x (hV1 x hx)
  · exact hin x (hV2 x hx)
end Go.Proofs.YtdkhmfcfihbjeaaGreatDoor.W

/- The reference's disk: Write. -/
namespace Go.Proofs.YtdkhmfcfihbjeaaGreatDoor.W
open Go.RowKit
set_option linter.unusedVariables false
set_option linter.unusedSimpArgs false

end Go.Proofs.YtdkhmfcfihbjeaaGreatDoor.W

/- The reference's disk: Write of whatever disk, Sync, Image. -/
namespace Go.Proofs.YtdkhmfcfihbjeaaGreatDoor.W
open Go.RowKit
set_option linter.unusedVariables false
set_option linter.unusedSimpArgs false

theorem RDiskOk.form {w : World} {m : Nat} {V F : List Nat} {d : DS} {nv lv av wv : Value} {NV LV AV WV : List Value} (h : RDiskOk w m V F d nv lv av wv NV LV AV WV) (hn : 0 < d.n) :
    (∃ g cap, nv = .slice (some ⟨g, 0, none⟩) d.n cap) ∧ ∃ g cap, lv = .slice (some ⟨g, 0, none⟩) d.n cap := by
  constructor
  · rcases h.row.1.2 with ⟨_, h0⟩ | ⟨g, cap, cur, h1, _⟩
    · omega
    · exact ⟨g, cap, h1⟩
  · rcases h.row.2.1.2 with ⟨_, h0⟩ | ⟨g, cap, cur, h1, _⟩
    · omega
    · exact ⟨g, cap, h1⟩
theorem own_cell {w : World} {base e g n cap : Nat} {xs : List Value} (h : w.ownsRow base e 1 (.slice (some ⟨g, 0, none⟩) n cap) n xs) (k : Nat) (hk : k < n) : xs.length = n ∧ w.cell? ⟨g, k, none⟩ = some (xs.getD k undef) ∧ w.frozen? ⟨g, k, none⟩ = false ∧ g < w.heap.size := by
  have hl : xs.length = n := by have := h.1; omega
  refine ⟨hl, ?_, ?_, (World.ownsRow.lt h g rfl).2⟩
  · have := h.cells (g := g) rfl k xs[k] (List.getElem?_eq_getElem (by omega))
    rw [add_none, Nat.zero_add] at this
    rw [this, List.getD_eq_getElem?_getD, List.getElem?_eq_getElem (by omega)]
    rfl
  · rcases h.2 with ⟨h1, _⟩ | ⟨g', cap', cur, hv, _, hg, _⟩
    · cases h1
    · obtain rfl : g = g' := by simp at hv; exact hv.1
      exact blk_frozen hg k

end Go.Proofs.YtdkhmfcfihbjeaaGreatDoor.W

/- The reference's slots in memory. -/
namespace Go.Proofs.YtdkhmfcfihbjeaaGreatDoor.W
open Go.RowKit
set_option linter.unusedVariables false
set_option linter.unusedSimpArgs false

def qcell (x : SRow × Value) : List Value := [.bool x.1.used, x.2, .int .i64 (x.1.n : Int)]
def qcells (R : List (SRow × Value)) : List Value := R.flatMap qcell
theorem qcells_at : ∀ (R : List (SRow × Value)) (i j : Nat) (x : SRow × Value), R[i]? = some x → j < 3 → (qcells R)[i * 3 + j]? = (qcell x)[j]?
  | [], i, j, x, h, _ => by simp at h
  | y :: R, i, j, x, h, hj => by
    have e : qcells (y :: R) = qcell y ++ qcells R := rfl
    have hy : (qcell y).length = 3 := rfl
    rw [e]
    cases i with
    | zero =>
      simp at h; subst h
      rw [Nat.zero_mul, Nat.zero_add, List.getElem?_append_left (by omega)]
    | succ i =>
      rw [List.getElem?_append_right (by omega), hy, show (i + 1) * 3 + j - 3 = i * 3 + j by omega]
      exact qcells_at R i j x (by simpa using h) hj
theorem qcells_set : ∀ (R : List (SRow × Value)) (i : Nat) (x : SRow × Value), i < R.length → qcells (R.set i x) = (((qcells R).set (i * 3) (.bool x.1.used)).set (i * 3 + 1) x.2).set (i * 3 + 2) (.int .i64 (x.1.n : Int))
  | [], i, x, h => by simp at h
  | y :: R, i, x, h => by
    have e : ∀ z, qcells (z :: R) = qcell z ++ qcells R := fun _ => rfl
    cases i with
    | zero => rw [List.set_cons_zero, e, e]; rfl
    | succ i =>
      have ih := qcells_set R i x (by simpa using h)
      have e2 : qcells (y :: R.set i x) = qcell y ++ qcells (R.set i x) := rfl
      rw [List.set_cons_succ, e2, ih, e]
      have h3 : (qcell y).length = 3 := rfl
      rw [List.set_append_right _ _ (by omega), List.set_append_right _ _ (by omega), List.set_append_right _ _ (by omega), h3, show (i + 1) * 3 - 3 = i * 3 by omega, show (i + 1) * 3 + 1 - 3 = i * 3 + 1 by omega, show (i + 1) * 3 + 2 - 3 = i * 3 + 2 by omega]
def rowQ (rv : Value) (R : List (SRow × Value)) : RowD := ⟨168, 3, rv, R.length, qcells R⟩

/-- The reference's slots in block q over its disk in block m; W: what may be written; A: all their blocks. -/
structure RSlotsOk (w : World) (q m : Nat) (V F W A : List Nat) (s : SS) (rv : Value) (R : List (SRow × Value)) : Prop where
  obj : ObjAt w q 166 #[.pointer (some ⟨m, 0, none⟩), .int .i64 (s.first : Int), rv] [rowQ rv R]
  disk : RDiskAt w m V F s.d
  rows : R.map (·.1) = s.rows
  sep : ∀ x ∈ blks q [rowQ rv R], x ∉ F
  keys : ∀ x ∈ R, BytesAt w x.2 x.1.key ∧ ∀ g, x.2.ownBlock = some g → g ∈ A ∧ g ∉ W
  mem : W = V ++ blks q [rowQ rv R]
  no8 : ∀ x ∈ blks q [rowQ rv R], NoU8 w x
  aF : ∀ x ∈ F, x ∈ A
  aB : ∀ x ∈ blks q [rowQ rv R], x ∈ A
  lim : ∀ x ∈ A, x < w.heap.size
  ok : s.Ok
def RSlotsAt (w : World) (q m : Nat) (W A : List Nat) (s : SS) : Prop := ∃ V F rv R, RSlotsOk w q m V F W A s rv R
theorem RSlotsOk.sub {w : World} {q m : Nat} {V F W A : List Nat} {s : SS} {rv : Value} {R : List (SRow × Value)} (h : RSlotsOk w q m V F W A s rv R) : (∀ x ∈ V, x ∈ W) ∧ (∀ x ∈ blks q [rowQ rv R], x ∈ W) ∧ (∀ x ∈ W, x ∈ A) ∧ (∀ x ∈ W, NoU8 w x) ∧ (∀ x ∈ V, x ∈ F) := by
  obtain ⟨hl, hs, h8⟩ := h.disk.lim
  refine ⟨fun x hx => by rw [h.mem]; exact List.mem_append_left _ hx, fun x hx => by rw [h.mem]; exact List.mem_append_right _ hx, fun x hx => ?_, fun x hx => ?_, hs⟩
  · rw [h.mem] at hx
    rcases List.mem_append.1 hx with hx | hx
    · exact h.aF x (hs x hx)
    · exact h.aB x hx
  · rw [h.mem] at hx
    rcases List.mem_append.1 hx with hx | hx
    · exact h8 x hx
    · exact h.no8 x hx
theorem RSlotsOk.keep {w w' : World} {q m : Nat} {V F W A T : List Nat} {s : SS} {rv : Value} {R : List (SRow × Value)} (h : RSlotsOk w q m V F W A s rv R) (hc : Chg T w w') (ha : ∀ x ∈ A, x ∉ T) : RSlotsOk w' q m V F W A s rv R := by
  refine ⟨h.obj.keep hc (fun x hx => ha x (h.aB x hx)), h.disk.keep hc (fun x hx => ha x (h.aF x hx)), h.rows, h.sep, fun x hx => ?_, h.mem, fun x hx => (h.no8 x hx).keep (hc.block x (h.lim x (h.aB x hx)) (ha x (h.aB x hx))), h.aF, h.aB, fun x hx => Nat.lt_of_lt_of_le (h.lim x hx) hc.size, h.ok⟩
  obtain ⟨h1, h2⟩ := h.keys x hx
  exact ⟨h1.chg hc (fun k hk => ha k (h2 k hk).1), h2⟩
theorem RSlotsAt.keep {w w' : World} {q m : Nat} {W A T : List Nat} {s : SS} (h : RSlotsAt w q m W A s) (hc : Chg T w w') (ha : ∀ x ∈ A, x ∉ T) : RSlotsAt w' q m W A s := by
  obtain ⟨V, F, rv, R, h⟩ := h
  exact ⟨V, F, rv, R, h.keep hc ha⟩
theorem RSlotsAt.lim {w : World} {q m : Nat} {W A : List Nat} {s : SS} (h : RSlotsAt w q m W A s) : (∀ x ∈ A, x < w.heap.size) ∧ (∀ x ∈ W, x ∈ A) ∧ ∀ x ∈ W, NoU8 w x := by
  obtain ⟨V, F, rv, R, h⟩ := h
  exact ⟨h.lim, h.sub.2.2.1, h.sub.2.2.2.1⟩
/-- What doing with them leaves. -/
def RSid (w w' : World) (q m : Nat) (W A : List Nat) (s : SS) : Prop := ∃ W' A', RSlotsAt w' q m W' A' s ∧ (∀ x ∈ W', x ∈ W ∨ w.heap.size ≤ x) ∧ (∀ x ∈ A', x ∈ A ∨ w.heap.size ≤ x) ∧ Chg W w w'
theorem RSid.same {w : World} {q m : Nat} {W A : List Nat} {s : SS} (h : RSlotsAt w q m W A s) : RSid w w q m W A s := ⟨W, A, h, fun x hx => .inl hx, fun x hx => .inl hx, Chg.refl _ _⟩
theorem RSid.glue {w w1 w2 : World} {q m : Nat} {W A W1 A1 : List Nat} {s : SS} (hv : ∀ x ∈ W1, x ∈ W ∨ w.heap.size ≤ x) (hf : ∀ x ∈ A1, x ∈ A ∨ w.heap.size ≤ x) (hc : Chg W w w1) (h : RSid w1 w2 q m W1 A1 s) : RSid w w2 q m W A s := by
  obtain ⟨V2, F2, b1, b2, b3, b4⟩ := h
  refine ⟨V2, F2, b1, fun x hx => ?_, fun x hx => ?_, hc.trans b4 hv⟩
  · rcases b2 x hx with h | h
    · exact hv x h
    · exact .inr (Nat.le_trans hc.size h)
  · rcases b3 x hx with h | h
    · exact hf x h
    · exact .inr (Nat.le_trans hc.size h)
theorem RSid.pre {w0 w w' : World} {q m : Nat} {W A : List Nat} {s : SS} (hc : Chg [] w0 w) (h : RSid w w' q m W A s) : RSid w0 w' q m W A s := RSid.glue (fun x hx => .inl hx) (fun x hx => .inl hx) (hc.mono (by simp)) h
theorem RSid.post {w w1 w' : World} {q m : Nat} {W A : List Nat} {s : SS} (h : RSid w w1 q m W A s) (hc : Chg [] w1 w') : RSid w w' q m W A s := by
  obtain ⟨W1, A1, a1, a2, a3, a4⟩ := h
  exact ⟨W1, A1, a1.keep hc (by simp), a2, a3, a4.trans hc (by simp)⟩
theorem RSid.trans {w w1 w2 : World} {q m : Nat} {W A : List Nat} {s1 s2 : SS} (h1 : RSid w w1 q m W A s1) (h2 : ∀ W1 A1, RSlotsAt w1 q m W1 A1 s1 → RSid w1 w2 q m W1 A1 s2) : RSid w w2 q m W A s2 := by
  obtain ⟨V1, F1, a1, a2, a3, a4⟩ := h1
  exact RSid.glue a2 a3 a4 (h2 V1 F1 a1)
/-- The disk has been worked on. -/
theorem RSlotsOk.did {w w' : World} {q m : Nat} {V F W A : List Nat} {s : SS} {rv : Value} {R : List (SRow × Value)} {d : DS} (h : RSlotsOk w q m V F W A s rv R) (hd : RDid w w' m V F d) (hn : d.n = s.d.n) : RSid w w' q m W A { s with d := d } := by
  obtain ⟨V', F', b1, b2, b3, b4⟩ := hd
  obtain ⟨s1, s2, s3, s4, s5⟩ := h.sub
  have hbV : ∀ x ∈ blks q [rowQ rv R], x ∉ V := fun x hx hm => h.sep x hx (s5 x hm)
  have hsz := b4.size
  refine ⟨V' ++ blks q [rowQ rv R], A ++ F', ⟨V', F', rv, R, h.obj.keep b4 hbV, b1, h.rows, fun x hx hm => ?_, fun x hx => ?_, rfl, fun x hx => (h.no8 x hx).keep (b4.block x (h.obj.lim x hx) (hbV x hx)), fun x hx => List.mem_append_right _ hx, fun x hx => List.mem_append_left _ (h.aB x hx), fun x hx => ?_, ⟨by show s.first + 8 * s.rows.length ≤ d.n; rw [hn]; exact h.ok.room, h.ok.rows⟩⟩, fun x hx => ?_, fun x hx => ?_, b4.mono (fun x hx => .inl (s1 x hx))⟩
  · rcases b3 x hm with h1 | h1
    · exact h.sep x hx h1
    · have := h.obj.lim x hx; omega
  · obtain ⟨k1, k2⟩ := h.keys x hx
    refine ⟨k1.chg b4 (fun k hk hm => (k2 k hk).2 (s1 k hm)), fun g hg => ⟨List.mem_append_left _ (k2 g hg).1, fun hm => ?_⟩⟩
    rcases List.mem_append.1 hm with hm | hm
    · rcases b2 g hm with h1 | h1
      · exact (k2 g hg).2 (s1 g h1)
      · have := h.lim g (k2 g hg).1; omega
    · exact (k2 g hg).2 (s2 g hm)
  · rcases List.mem_append.1 hx with hx | hx
    · exact Nat.lt_of_lt_of_le (h.lim x hx) hsz
    · exact b1.lim.1 x hx
  · rcases List.mem_append.1 hx with hx | hx
    · exact (b2 x hx).imp (s1 x) id
    · exact .inl (s2 x hx)
  · rcases List.mem_append.1 hx with hx | hx
    · exact .inl hx
    · exact (b3 x hx).imp (h.aF x) id
theorem RSlotsOk.len {w : World} {q m : Nat} {V F W A : List Nat} {s : SS} {rv : Value} {R : List (SRow × Value)} (h : RSlotsOk w q m V F W A s rv R) : R.length = s.rows.length := by rw [← h.rows, List.length_map]
theorem RSlotsOk.few {w : World} {q m : Nat} {V F W A : List Nat} {s : SS} {rv : Value} {R : List (SRow × Value)} (h : RSlotsOk w q m V F W A s rv R) : s.first + 8 * s.rows.length ≤ s.d.n ∧ s.d.n ≤ 4160 := by
  obtain ⟨_, _, _, _, _, _, _, _, hd⟩ := h.disk
  exact ⟨h.ok.room, hd.few⟩
theorem RSlotsOk.row {w : World} {q m : Nat} {V F W A : List Nat} {s : SS} {rv : Value} {R : List (SRow × Value)} (h : RSlotsOk w q m V F W A s rv R) : w.ownsRow 0 168 3 rv R.length (qcells R) := h.obj.rows _ (List.mem_singleton.2 rfl)
theorem RSlotsOk.form {w : World} {q m : Nat} {V F W A : List Nat} {s : SS} {rv : Value} {R : List (SRow × Value)} (h : RSlotsOk w q m V F W A s rv R) : ∃ a cap, rv = .slice a s.rows.length cap ∧ s.rows.length ≤ cap := by
  rw [← h.len]
  rcases h.row.2 with ⟨h1, h2⟩ | ⟨g, cap, cur, h1, _, _, h3, h4, _⟩
  · exact ⟨none, 0, by rw [h1, h2], by omega⟩
  · exact ⟨_, cap, h1, h3⟩
/-- A row that is there. -/
theorem RSlotsOk.at {w : World} {q m : Nat} {V F W A : List Nat} {s : SS} {rv : Value} {R : List (SRow × Value)} (h : RSlotsOk w q m V F W A s rv R) (i : Nat) (hi : i < s.rows.length) :
    ∃ g cap kv, rv = .slice (some ⟨g, 0, none⟩) s.rows.length cap ∧ s.rows.length ≤ cap ∧ cap ≤ maxLen ∧ w.cell? ⟨g, i * 3, none⟩ = some (.bool (s.rows.getD i noRow).used) ∧
      w.cell? ⟨g, i * 3 + 1, none⟩ = some kv ∧ w.cell? ⟨g, i * 3 + 2, none⟩ = some (.int .i64 ((s.rows.getD i noRow).n : Int)) ∧ BytesAt w kv (s.rows.getD i noRow).key ∧ ∀ k, kv.ownBlock = some k → k ∈ A ∧ k ∉ W := by
  have hl := h.len
  have hr := h.row
  have hiR : i < R.length := by omega
  have hri : s.rows.getD i noRow = (R[i]).1 := by
    rw [← h.rows, List.getD_eq_getElem?_getD, List.getElem?_map, List.getElem?_eq_getElem hiR]; rfl
  rcases hr.2 with ⟨h1, h2⟩ | ⟨g, cap, cur, h1, _, _, h3, h4, _⟩
  · omega
  · subst h1
    have hcell : ∀ j, j < 3 → ∀ u, (qcell R[i])[j]? = some u → w.cell? ⟨g, i * 3 + j, none⟩ = some u := fun j hj u hu => by
      have := hr.cells (g := g) rfl (i * 3 + j) u (by rw [qcells_at R i j R[i] (List.getElem?_eq_getElem hiR) hj]; exact hu)
      rwa [add_none, Nat.zero_add] at this
    refine ⟨g, cap, (R[i]).2, by rw [hl], by omega, h4, ?_, ?_, ?_, ?_⟩
    · rw [hri]; exact hcell 0 (by omega) _ rfl
    · exact hcell 1 (by omega) _ rfl
    · rw [hri]; exact hcell 2 (by omega) _ rfl
    · rw [hri]; exact h.keys _ (List.getElem_mem hiR)
theorem RSlotsOk.there {w : World} {q m : Nat} {V F W A : List Nat} {s : SS} {rv : Value} {R : List (SRow × Value)} (h : RSlotsOk w q m V F W A s rv R) (i : Nat) (hi : i < s.rows.length) (g cap : Nat) (hrv : rv = .slice (some ⟨g, 0, none⟩) s.rows.length cap) : w.there g (i * 3) 3 := by
  have hl := h.len
  rcases h.row.2 with ⟨h1, h2⟩ | ⟨g', cap', cur, h1, _, hb, h3, h4, h5, _⟩
  · omega
  · rw [hrv] at h1
    obtain ⟨rfl, -, rfl⟩ : g = g' ∧ s.rows.length = R.length ∧ cap = cap' := by simpa using h1
    intro j hj
    have hlt : i * 3 + j < cur.size := by
      have : (i + 1) * 3 ≤ cap * 3 := Nat.mul_le_mul_right _ (by omega)
      omega
    exact ⟨by rw [blk_cell hb _ _ (Array.getElem?_eq_getElem hlt)]; rfl, blk_frozen hb _⟩
theorem NoU8.set3 {w : World} {g i : Nat} {a b c : Value} (h : NoU8 w g) (hl : g < w.heap.size) (ha : No8 a) (hb : No8 b) (hc : No8 c) : NoU8 (w.setCells g i [a, b, c]) g := by
  have s1 : (w.setCell ⟨g, i, none⟩ a).heap.size = w.heap.size := by simp [World.setCell]
  have s2 : ((w.setCell ⟨g, i, none⟩ a).setCell ⟨g, i + 1, none⟩ b).heap.size = w.heap.size := by simp [World.setCell]
  exact ((h.set hl ha).set (by rw [s1]; exact hl) hb).set (by rw [s2]; exact hl) hc
/-- A row is set. -/
theorem RSlotsOk.setRow {w : World} {q m : Nat} {V F W A : List Nat} {s : SS} {rv : Value} {R : List (SRow × Value)} {N : Nat} (h : RSlotsOk w q m V F W A s rv R) (i : Nat) (hi : i < s.rows.length) (g cap : Nat) (hrv : rv = .slice (some ⟨g, 0, none⟩) s.rows.length cap)
    (r : SRow) (kv : Value) (hk : BytesAt w kv r.key) (hkU : ∀ k, kv.ownBlock = some k → k < w.heap.size ∧ k ∉ W) (hkA : ∀ k, kv.ownBlock = some k → k ∉ A → N ≤ k) (hN : N ≤ w.heap.size) (hr : r.n ≤ 448 ∧ r.key.length ≤ 40) :
    ∃ A', RSlotsAt (w.setCells g (i * 3) [.bool r.used, kv, .int .i64 (r.n : Int)]) q m W A' { s with rows := s.rows.set i r } ∧ (∀ x ∈ A', x ∈ A ∨ N ≤ x) ∧ Chg W w (w.setCells g (i * 3) [.bool r.used, kv, .int .i64 (r.n : Int)]) := by
  have hl := h.len
  obtain ⟨s1, s2, s3, s4, s5⟩ := h.sub
  have hC : Chg [g] w (w.setCells g (i * 3) [.bool r.used, kv, .int .i64 (r.n : Int)]) := (Chg.refl _ _).setCells (.inl (by simp)) _
  have hob : rv.ownBlock = some g := by rw [hrv]; rfl
  have hgb : g ∈ blks q [rowQ rv R] := blks_row (r := rowQ rv R) (List.mem_singleton.2 rfl) hob
  have hgW := s2 g hgb
  have hrow := h.row
  have hR' : (rowQ rv (R.set i (r, kv))).At (w.setCells g (i * 3) [.bool r.used, kv, .int .i64 (r.n : Int)]) := by
    show (w.setCells g (i * 3) [.bool r.used, kv, .int .i64 (r.n : Int)]).ownsRow 0 168 3 rv (R.set i (r, kv)).length (qcells (R.set i (r, kv)))
    rw [List.length_set, qcells_set R i _ (by omega)]
    rw [hrv, ← hl] at hrow ⊢
    exact row_set (row_set (row_set hrow (i * 3) _ (by omega)) (i * 3 + 1) _ (by omega)) (i * 3 + 2) _ (by omega)
  have hgr := ObjAt.grow (a := []) (b := []) h.obj (r' := rowQ rv (R.set i (r, kv))) (by rw [show (rowQ rv R).v.ownBlock = some g from hob]; exact hC.grownBy) hR' (fun k hk => .inl hk)
  have h8 := (h.no8 g hgb).set3 (i := i * 3) (h.obj.lim g hgb) (no8_bool (x := r.used)) hk.no8 (no8_i64 (x := (r.n : Int)))
  generalize w.setCells g (i * 3) [.bool r.used, kv, .int .i64 (r.n : Int)] = X at *
  have hgu : ∀ x ∈ [g], x ∈ W := fun x hx => (List.mem_singleton.1 hx) ▸ hgW
  have hnot : ∀ k, k ∉ W → k ∉ [g] := fun k hk hm => hk (hgu k hm)
  refine ⟨A ++ kv.ownBlock.toList, ⟨V, F, rv, R.set i (r, kv), hgr.1, h.disk.keep hC (fun x hx hm => ?_), ?_, h.sep, fun x hx => ?_, h.mem, fun x hx => ?_, fun x hx => List.mem_append_left _ (h.aF x hx), fun x hx => List.mem_append_left _ (h.aB x hx), fun x hx => ?_, ⟨?_, fun x hx => ?_⟩⟩, fun x hx => ?_, hC.mono (fun x hx => .inl (hgu x hx))⟩
  · exact h.sep _ hgb (by rw [← List.mem_singleton.1 hm]; exact hx)
  · rw [List.map_set, h.rows]
  · rcases List.mem_or_eq_of_mem_set hx with hx | rfl
    · obtain ⟨k1, k2⟩ := h.keys x hx
      exact ⟨k1.chg hC (fun k hk => hnot k (k2 k hk).2), fun g' hg' => ⟨List.mem_append_left _ (k2 g' hg').1, (k2 g' hg').2⟩⟩
    · exact ⟨hk.chg hC (fun k hk => hnot k (hkU k hk).2), fun g' hg' => ⟨List.mem_append_right _ (by rw [hg']; simp), (hkU g' hg').2⟩⟩
  · by_cases hxg : x = g
    · rw [hxg]; exact h8
    · exact (h.no8 x hx).keep (hC.block x (h.obj.lim x hx) (by simp; exact hxg))
  · rcases List.mem_append.1 hx with hx | hx
    · exact Nat.lt_of_lt_of_le (h.lim x hx) hC.size
    · exact Nat.lt_of_lt_of_le (hkU x (by simpa using hx)).1 hC.size
  · show s.first + 8 * (s.rows.set i r).length ≤ s.d.n
    rw [List.length_set]
    exact h.ok.room
  · rcases List.mem_or_eq_of_mem_set hx with hx | rfl
    · exact h.ok.rows x hx
    · exact hr
  · rcases List.mem_append.1 hx with hx | hx
    · exact .inl hx
    · by_cases hA : x ∈ A
      · exact .inl hA
      · exact .inr (hkA x (by simpa using hx) hA)
end Go.Proofs.YtdkhmfcfihbjeaaGreatDoor.W

/- The reference's slots: Free, Find. -/
namespace Go.Proofs.YtdkhmfcfihbjeaaGreatDoor.W
open Go.RowKit
set_option linter.unusedVariables false
set_option linter.unusedSimpArgs false

end Go.Proofs.YtdkhmfcfihbjeaaGreatDoor.W

/- The reference's eye: Num. -/
namespace Go.Proofs.YtdkhmfcfihbjeaaGreatDoor.W
open Go.RowKit
set_option linter.unusedVariables false
set_option linter.unusedSimpArgs false

def REyeV (w : World) (v : Value) (g : Nat) (l : List UInt8) : Prop :=
  (l = [] ∧ ∃ a cap, v = .slice a 0 cap) ∨ ∃ o cap, v = .slice (some ⟨g, o, none⟩) l.length cap ∧ l.length ≤ cap ∧ cap ≤ maxLen ∧ g < w.heap.size ∧ ∀ i, i < l.length → w.cell? ⟨g, o + i, none⟩ = some (bv (l.getD i 0))
theorem REyeV.keepC {w w' : World} {v : Value} {g : Nat} {l : List UInt8} {S : List Nat} (h : REyeV w v g l) (hc : Chg S w w') (hn : g ∉ S) : REyeV w' v g l := by
  rcases h with h | ⟨o, cap, rfl, h1, h2, h3, hcell⟩
  · exact .inl h
  · exact .inr ⟨o, cap, rfl, h1, h2, Nat.lt_of_lt_of_le h3 hc.size, fun i hi => hc.cell (hcell i hi) hn⟩
theorem REyeV.slice {w : World} {v : Value} {g : Nat} {l : List UInt8} (h : REyeV w v g l) : ∃ a cap, v = .slice a l.length cap := by
  rcases h with ⟨rfl, a, cap, rfl⟩ | ⟨o, cap, rfl, _⟩
  · exact ⟨_, _, rfl⟩
  · exact ⟨_, _, rfl⟩
/-- The reference's eye in block b, its bytes in block g. -/
def REyeAt (w : World) (b g : Nat) (l : List UInt8) (bad : Int) : Prop :=
  ∃ v, w.heap[b]? = some (.cells #[v, .int .i64 bad] 127 (0, 0)) ∧ REyeV w v g l ∧ g ≠ b ∧ l.length ≤ 1000000
theorem REyeAt.keep {w w' : World} {b g : Nat} {l : List UInt8} {bad : Int} {S : List Nat} (h : REyeAt w b g l bad) (hc : Chg S w w') (hb : b ∉ S) (hg : g ∉ S) : REyeAt w' b g l bad := by
  obtain ⟨v, h1, h2, h3, h4⟩ := h
  exact ⟨v, hc.keep h1 hb, h2.keepC hc hg, h3, h4⟩
theorem REyeV.dropped {w : World} {g o cap n : Nat} {l : List UInt8} (hl : l.length ≤ cap) (hc : cap ≤ maxLen) (hg : g < w.heap.size) (hcell : ∀ i, i < l.length → w.cell? ⟨g, o + i, none⟩ = some (bv (l.getD i 0))) (hn : n ≤ l.length) :
    REyeV w (.slice (some ⟨g, if cap = n then o else o + n, none⟩) (l.length - n) (cap - n)) g (l.drop n) := by
  right
  have hdl : (l.drop n).length = l.length - n := List.length_drop ..
  refine ⟨if cap = n then o else o + n, cap - n, by rw [hdl], by omega, by omega, hg, fun i hi => ?_⟩
  have h2 : ¬ (cap = n) := by omega
  rw [if_neg h2, getD_drop, Nat.add_assoc]
  exact hcell (n + i) (by omega)

set_option maxHeartbeats 4000000 in
set_option maxRecDepth 100000 in
theorem rnum_ok (b g o cap : Nat) (l : List UInt8) (n : Nat) (w : World) (h : w.heap[b]? = some (.cells #[.slice (some ⟨g, o, none⟩) l.length cap, .int .i64 0] 127 (0, 0)))
    (hl : l.length ≤ cap) (hc : cap ≤ maxLen) (hcell : ∀ i, i < l.length → w.cell? ⟨g, o + i, none⟩ = some (bv (l.getD i 0))) (h1 : 1 ≤ n) (h7 : n ≤ 7) (hn : n ≤ l.length) (hll : l.length ≤ 1000000) :
    Calls Tryz.prog 59 #[.pointer (some ⟨b, 0, none⟩), .int .i64 n] w fun e w' => e = .returned (.int .i64 (beNum (l.take n))) ∧
      w' = w.setCell ⟨b, 0, none⟩ (.slice (some ⟨g, if cap = n then o else o + n, none⟩) (l.length - n) (cap - n)) := by
  have b0 := blk_cell h 0 _ rfl
  have b1 := blk_cell h 1 _ rfl
  have f0 := blk_frozen h 0
  have hbl := blk_lt h
  have HC := Lib.hid hcell
  have HL := Lib.hid hl
  unfold maxLen at hc
  have hcapn : n ≤ cap := by omega
  have hn1 : ¬ ((n : Int) < 1) := by omega
  have hn7 : ¬ ((7 : Int) < (n : Int)) := by omega
  have q1 : decide ((n : Int) < 1) = false := by simpa using hn1
  have q7 : decide ((7 : Int) < (n : Int)) = false := by simpa using hn7
  have ql : decide (l.length < n) = false := by simp; omega
  clear h hcell
  obtain rfl | hcn := Decidable.em (n = cap)
  all_goals
    try (have hcn' : ¬ (cap = n) := fun h => hcn h.symm)
    try clear hcn
    go_enter Tryz.func59, Tryz.ntmps59
    go_wp2
    go_loop [5, 6] (fun x i => ∃ k : Nat, k ≤ n ∧ i = .int .i64 k ∧ x = .int .i64 (beNum (l.take k))) (fun _ i => n - (intOf i).toNat)
    case atStart => exact ⟨0, Nat.zero_le _, rfl, rfl⟩
    case round =>
      obtain ⟨k, hk, rfl, rfl⟩ := hrel
      by_cases hlt : k < n
      · have hcl := HC.out k (by omega)
        have hb := beNum_take_le l k (by omega)
        have hkz : (k : Int) < (n : Int) := by omega
        have hkl : (k : Int) < (l.length : Int) := by omega
        have hkz1 : (k : Int).toNat = k := by omega
        obtain ⟨c, hcc⟩ : ∃ c, c = l.getD k 0 := ⟨_, rfl⟩
        rw [← hcc] at hcl
        have hc8 := c.toNat_lt
        have HX : Hid (beNum (l.take (k + 1)) = beNum (l.take k) * 256 + c.toNat) := Lib.hid (by rw [take_snocU l k (by omega), beNum_snoc, hcc])
        clear hcc
        obtain ⟨x, hx⟩ : ∃ x, x = beNum (l.take k) := ⟨_, rfl⟩
        rw [← hx] at hb HX ⊢
        clear hx
        unfold bv at hcl
        have hor : bits .or .i64 ((x : Int) * 256) (c.toNat : Int) = ((x * 256 + c.toNat : Nat) : Int) := by
          have := i64_or_nat (x * 256) c.toNat (by omega) (by omega)
          rw [or_byte] at this
          simpa using this
        go_wp2
        go_round
        case rel => exact ⟨k + 1, by omega, by go_num, by rw [HX.out]; go_num⟩
        case measure => simp [intOf]; omega
      · have hk9 : k = n := by omega
        have HK := Lib.hid hk9
        clear hk9
        go_wp2
        go_ret
        exact ⟨by rw [HK.out]; rfl, rfl⟩

set_option maxHeartbeats 2000000 in
set_option maxRecDepth 100000 in
theorem rnum_short (b : Nat) (a : Option Addr) (L cap : Nat) (n : Nat) (w : World) (h : w.heap[b]? = some (.cells #[.slice a L cap, .int .i64 0] 127 (0, 0)))
    (h1 : 1 ≤ n) (h7 : n ≤ 7) (hn : L < n) :
    Calls Tryz.prog 59 #[.pointer (some ⟨b, 0, none⟩), .int .i64 n] w fun e w' => e = .returned (.int .i64 0) ∧ w' = w.setCell ⟨b, 1, none⟩ (.int .i64 2) := by
  have b0 := blk_cell h 0 _ rfl
  have b1 := blk_cell h 1 _ rfl
  have f1 := blk_frozen h 1
  have hbl := blk_lt h
  have q1 : decide ((n : Int) < 1) = false := by simp; omega
  have q7 : decide ((7 : Int) < (n : Int)) = false := by simp; omega
  have ql : decide (L < n) = true := by simp; omega
  clear h
  go_enter Tryz.func59, Tryz.ntmps59
  go_wp2
  go_ret
  exact ⟨rfl, rfl⟩

set_option maxHeartbeats 2000000 in
set_option maxRecDepth 100000 in
theorem rnum_bad (b : Nat) (v : Value) (bad n : Int) (w : World) (h : w.heap[b]? = some (.cells #[v, .int .i64 bad] 127 (0, 0))) (hb : bad ≠ 0) :
    Calls Tryz.prog 59 #[.pointer (some ⟨b, 0, none⟩), .int .i64 n] w fun e w' => e = .returned (.int .i64 0) ∧ w = w' := by
  have b1 := blk_cell h 1 _ rfl
  have hbl := blk_lt h
  have q1 : (bad == 0) = false := by simp [hb]
  have q2 : (bad != 0) = true := by simp [hb]
  clear h hb
  go_enter Tryz.func59, Tryz.ntmps59
  go_wp2
  go_ret
  exact ⟨rfl, rfl⟩

/-- The reference's Num. -/
theorem rnum_any (b g : Nat) (l : List UInt8) (bad : Int) (width : Int) (w : World) (h : REyeAt w b g l bad) (h1 : 1 ≤ width) (h7 : width ≤ 7) :
    Calls Tryz.prog 59 #[.pointer (some ⟨b, 0, none⟩), .int .i64 width] w fun e w' => e = .returned (.int .i64 (eyeNum l bad width.toNat).1) ∧
      REyeAt w' b g (eyeNum l bad width.toNat).2.1 (eyeNum l bad width.toNat).2.2 ∧ Chg [b] w w' := by
  obtain ⟨n, rfl⟩ := Int.eq_ofNat_of_zero_le (show 0 ≤ width by omega)
  rw [Int.toNat_natCast]
  have hE := h
  obtain ⟨v, hb, hv, hgb, hll⟩ := h
  by_cases hbad : bad = 0
  · subst hbad
    by_cases hlen : l.length < n
    · obtain ⟨a, cap, rfl⟩ := hv.slice
      rw [show eyeNum l 0 n = (0, l, 2) by unfold eyeNum; rw [if_neg (by simp), if_pos hlen]]
      refine (rnum_short b a _ cap n w hb (by omega) (by omega) hlen).mono ?_
      rintro e w' ⟨rfl, rfl⟩
      have hc := (Chg.refl [b] w).setCell (p := ⟨b, 1, none⟩) (.inl (by simp)) (.int .i64 2)
      exact ⟨rfl, ⟨_, set_blk hb, hv.keepC hc (by simp; exact hgb), hgb, hll⟩, hc⟩
    · rw [show eyeNum l 0 n = ((beNum (l.take n) : Int), l.drop n, 0) by unfold eyeNum; rw [if_neg (by simp), if_neg hlen]]
      rcases hv with ⟨rfl, _⟩ | ⟨o, cap, rfl, hlc, hcm, hg, hcell⟩
      · simp at hlen; omega
      refine (rnum_ok b g o cap l n w hb hlc hcm hcell (by omega) (by omega) (by omega) hll).mono ?_
      rintro e w' ⟨rfl, rfl⟩
      have hc := (Chg.refl [b] w).setCell (p := ⟨b, 0, none⟩) (.inl (by simp)) (.slice (some ⟨g, if cap = n then o else o + n, none⟩) (l.length - n) (cap - n))
      exact ⟨rfl, ⟨_, set_blk hb, (REyeV.dropped hlc hcm hg hcell (by omega)).keepC hc (by simp; exact hgb), hgb, by show (l.drop n).length ≤ _; rw [List.length_drop]; omega⟩, hc⟩
  · rw [show eyeNum l bad n = (0, l, bad) by unfold eyeNum; rw [if_pos hbad]]
    refine (rnum_bad b v bad n w hb hbad).mono ?_
    rintro e w' ⟨rfl, rfl⟩
    exact ⟨rfl, hE, Chg.refl _ _⟩

end Go.Proofs.YtdkhmfcfihbjeaaGreatDoor.W

/- The reference's eye: Raw. -/
namespace Go.Proofs.YtdkhmfcfihbjeaaGreatDoor.W
open Go.RowKit
set_option linter.unusedVariables false
set_option linter.unusedSimpArgs false

theorem REyeV.bytes {w : World} {v : Value} {g : Nat} {l : List UInt8} (h : REyeV w v g l) : ∃ a cap, v = .slice a l.length cap ∧ (l = [] ∨ ∃ o, a = some ⟨g, o, none⟩ ∧ l.length ≤ cap ∧ cap ≤ maxLen ∧ g < w.heap.size ∧ ∀ i, i < l.length → w.cell? ⟨g, o + i, none⟩ = some (bv (l.getD i 0))) := by
  rcases h with ⟨rfl, a, cap, rfl⟩ | ⟨o, cap, rfl, h1, h2, h3, hc⟩
  · exact ⟨a, cap, rfl, .inl rfl⟩
  · exact ⟨_, cap, rfl, .inr ⟨o, rfl, h1, h2, h3, hc⟩⟩

end Go.Proofs.YtdkhmfcfihbjeaaGreatDoor.W

/- The reference's noughts. -/
namespace Go.Proofs.YtdkhmfcfihbjeaaGreatDoor.W
open Go.RowKit
set_option linter.unusedVariables false
set_option linter.unusedSimpArgs false

end Go.Proofs.YtdkhmfcfihbjeaaGreatDoor.W

/- The reference's readHead. -/
namespace Go.Proofs.YtdkhmfcfihbjeaaGreatDoor.W
open Go.RowKit
set_option linter.unusedVariables false
set_option linter.unusedSimpArgs false

end Go.Proofs.YtdkhmfcfihbjeaaGreatDoor.W

/- The reference's slots: Get. -/
namespace Go.Proofs.YtdkhmfcfihbjeaaGreatDoor.W
open Go.RowKit
set_option linter.unusedVariables false
set_option linter.unusedSimpArgs false

/-- What is read of the disk. -/
theorem RDiskAt.read {w : World} {m : Nat} {V F : List Nat} {d : DS} (h : RDiskAt w m V F d) :
    w.cell? ⟨m, 6, none⟩ = some (.bool d.dead) ∧ d.n ≤ 4160 ∧ ∃ a cap, w.cell? ⟨m, 0, none⟩ = some (.slice a d.n cap) ∧ ∀ k, k < d.n → ∃ g ax cx, a = some ⟨g, 0, none⟩ ∧ w.cell? ⟨g, k, none⟩ = some (.slice ax 64 cx) ∧ BytesAt w (.slice ax 64 cx) (d.now k) ∧ (d.now k).length = 64 := by
  obtain ⟨nv, lv, av, wv, NV, LV, AV, WV, H⟩ := h
  have hrow := H.row.1
  have c0 : w.cell? ⟨m, 0, none⟩ = some nv := blk_cell H.head 0 _ rfl
  refine ⟨blk_cell H.head 6 _ rfl, H.few, ?_⟩
  by_cases hn : 0 < d.n
  · obtain ⟨⟨gn, cn, hnv⟩, _⟩ := H.form hn
    refine ⟨_, cn, by rw [c0, hnv], fun k hk => ?_⟩
    rw [hnv] at hrow
    obtain ⟨hNl, k0, _, _⟩ := own_cell hrow k hk
    obtain ⟨b1, b2, b3⟩ := H.now k hk
    obtain ⟨ax, cx, hx⟩ := b2.slice
    rw [b1] at hx
    rw [hx] at k0 b2
    exact ⟨gn, ax, cx, rfl, k0, b2, b1⟩
  · rcases hrow.2 with ⟨h1, h2⟩ | ⟨g, cap, cur, h1, _⟩
    · exact ⟨none, 0, by rw [c0, h1]; simp; omega, fun k hk => by omega⟩
    · exact ⟨_, cap, by rw [c0, h1], fun k hk => by omega⟩

end Go.Proofs.YtdkhmfcfihbjeaaGreatDoor.W

/- The reference's store: plainly; in memory; unkey. -/
namespace Go.Proofs.YtdkhmfcfihbjeaaGreatDoor.W
open Go.RowKit
set_option linter.unusedVariables false
set_option linter.unusedSimpArgs false

/-! ### Plainly -/
/-! ### In memory -/
structure RStOk (w : World) (q sp m : Nat) (W A : List Nat) (t : Sto) : Prop where
  head : w.heap[q]? = some (.cells #[.pointer (some ⟨m, 0, none⟩), .pointer (some ⟨sp, 0, none⟩), .bool t.whole] 141 (0, 0))
  slots : RSlotsAt w sp m W A t.s
  out : q ∉ A
  ok : keysOk t.s.rows
/-- The reference's store in block q, its disk in block m; U: what may be written; B: all its blocks. -/
def RStAt (w : World) (q m : Nat) (U B : List Nat) (t : Sto) : Prop := ∃ sp W A, RStOk w q sp m W A t ∧ U = q :: W ∧ B = q :: A
theorem RStOk.lt {w : World} {q sp m : Nat} {W A : List Nat} {t : Sto} (h : RStOk w q sp m W A t) : (∀ x ∈ q :: A, x < w.heap.size) ∧ (∀ x ∈ q :: W, x ∈ q :: A) ∧ ∀ x ∈ q :: W, NoU8 w x := by
  obtain ⟨h1, h2, h3⟩ := h.slots.lim
  refine ⟨fun x hx => ?_, fun x hx => ?_, fun x hx => ?_⟩
  · rcases List.mem_cons.1 hx with rfl | hx
    · exact blk_lt h.head
    · exact h1 x hx
  · rcases List.mem_cons.1 hx with rfl | hx
    · simp
    · exact List.mem_cons_of_mem _ (h2 x hx)
  · rcases List.mem_cons.1 hx with rfl | hx
    · exact NoU8.mk h.head (no8_list (by simp [no8_ptr, no8_bool]))
    · exact h3 x hx
theorem RStAt.lim {w : World} {q m : Nat} {U B : List Nat} {t : Sto} (h : RStAt w q m U B t) : (∀ x ∈ B, x < w.heap.size) ∧ (∀ x ∈ U, x ∈ B) ∧ ∀ x ∈ U, NoU8 w x := by
  obtain ⟨sp, W, A, h, rfl, rfl⟩ := h
  exact h.lt
theorem RStOk.keep {w w' : World} {q sp m : Nat} {W A T : List Nat} {t : Sto} (h : RStOk w q sp m W A t) (hc : Chg T w w') (ha : ∀ x ∈ q :: A, x ∉ T) : RStOk w' q sp m W A t :=
  ⟨hc.keep h.head (ha q (by simp)), h.slots.keep hc (fun x hx => ha x (List.mem_cons_of_mem _ hx)), h.out, h.ok⟩
theorem RStAt.keep {w w' : World} {q m : Nat} {U B T : List Nat} {t : Sto} (h : RStAt w q m U B t) (hc : Chg T w w') (ha : ∀ x ∈ B, x ∉ T) : RStAt w' q m U B t := by
  obtain ⟨sp, W, A, h, rfl, rfl⟩ := h
  exact ⟨sp, W, A, h.keep hc ha, rfl, rfl⟩
/-- What doing with it leaves. -/
def RStd (w w' : World) (q m : Nat) (U B : List Nat) (t : Sto) : Prop := ∃ U' B', RStAt w' q m U' B' t ∧ (∀ x ∈ U', x ∈ U ∨ w.heap.size ≤ x) ∧ (∀ x ∈ B', x ∈ B ∨ w.heap.size ≤ x) ∧ Chg U w w'
theorem RStd.same {w : World} {q m : Nat} {U B : List Nat} {t : Sto} (h : RStAt w q m U B t) : RStd w w q m U B t := ⟨U, B, h, fun x hx => .inl hx, fun x hx => .inl hx, Chg.refl _ _⟩
theorem RStd.glue {w w1 w2 : World} {q m : Nat} {U B U1 B1 : List Nat} {t : Sto} (hv : ∀ x ∈ U1, x ∈ U ∨ w.heap.size ≤ x) (hf : ∀ x ∈ B1, x ∈ B ∨ w.heap.size ≤ x) (hc : Chg U w w1) (h : RStd w1 w2 q m U1 B1 t) : RStd w w2 q m U B t := by
  obtain ⟨V2, F2, b1, b2, b3, b4⟩ := h
  refine ⟨V2, F2, b1, fun x hx => ?_, fun x hx => ?_, hc.trans b4 hv⟩
  · rcases b2 x hx with h | h
    · exact hv x h
    · exact .inr (Nat.le_trans hc.size h)
  · rcases b3 x hx with h | h
    · exact hf x h
    · exact .inr (Nat.le_trans hc.size h)
theorem RStd.pre {w0 w w' : World} {q m : Nat} {U B : List Nat} {t : Sto} (hc : Chg [] w0 w) (h : RStd w w' q m U B t) : RStd w0 w' q m U B t := RStd.glue (fun x hx => .inl hx) (fun x hx => .inl hx) (hc.mono (by simp)) h
theorem RStd.post {w w1 w' : World} {q m : Nat} {U B : List Nat} {t : Sto} (h : RStd w w1 q m U B t) (hc : Chg [] w1 w') : RStd w w' q m U B t := by
  obtain ⟨W1, A1, a1, a2, a3, a4⟩ := h
  exact ⟨W1, A1, a1.keep hc (by simp), a2, a3, a4.trans hc (by simp)⟩
/-- The slots have been worked on. -/
theorem RStOk.did {w w' : World} {q sp m : Nat} {W A : List Nat} {t : Sto} {s : SS} (h : RStOk w q sp m W A t) (hd : RSid w w' sp m W A s) (hk : keysOk s.rows) : RStd w w' q m (q :: W) (q :: A) { t with s := s } := by
  obtain ⟨W', A', a1, a2, a3, a4⟩ := hd
  have hl := h.lt
  have hq : q < w.heap.size := hl.1 q (by simp)
  have hW : q ∉ W := fun hm => h.out (h.slots.lim.2.1 q hm)
  refine ⟨q :: W', q :: A', ⟨sp, W', A', ⟨a4.keep h.head hW, a1, fun hm => ?_, hk⟩, rfl, rfl⟩, fun x hx => ?_, fun x hx => ?_, a4.mono (fun x hx => .inl (List.mem_cons_of_mem _ hx))⟩
  · rcases a3 q hm with h4 | h4
    · exact h.out h4
    · omega
  · rcases List.mem_cons.1 hx with rfl | hx
    · exact .inl (by simp)
    · rcases a2 x hx with h4 | h4
      · exact .inl (List.mem_cons_of_mem _ h4)
      · exact .inr h4
  · rcases List.mem_cons.1 hx with rfl | hx
    · exact .inl (by simp)
    · rcases a3 x hx with h4 | h4
      · exact .inl (List.mem_cons_of_mem _ h4)
      · exact .inr h4
theorem RStOk.cells {w : World} {q sp m : Nat} {W A : List Nat} {t : Sto} (h : RStOk w q sp m W A t) : w.cell? ⟨q, 0, none⟩ = some (.pointer (some ⟨m, 0, none⟩)) ∧ w.cell? ⟨q, 1, none⟩ = some (.pointer (some ⟨sp, 0, none⟩)) ∧ w.cell? ⟨q, 2, none⟩ = some (.bool t.whole) :=
  ⟨blk_cell h.head 0 _ rfl, blk_cell h.head 1 _ rfl, blk_cell h.head 2 _ rfl⟩
/-! ### unkey -/
/-- An eye of the reference that is read while an id is filled in block N. -/
structure REyeNew (w0 w : World) (b g N : Nat) (x : Id) (r : Int × List UInt8 × Int) : Prop where
  eye : REyeAt w b g r.2.1 r.2.2
  chg : Chg [] w0 w
  own : w0.heap.size ≤ b
  blk : w.heap[N]? = some (.cells (idC x) 38 (0, 0))
  own2 : w0.heap.size ≤ N
  ne : N ≠ b ∧ N ≠ g
theorem REyeNew.num {w0 w : World} {b g N : Nat} {x : Id} {r : Int × List UInt8 × Int} (h : REyeNew w0 w b g N x r) (n : Nat) (h1 : 1 ≤ n) (h7 : n ≤ 7) (r' : Int × List UInt8 × Int) (hr : r' = eyeNum r.2.1 r.2.2 n) :
    Calls Tryz.prog 59 #[.pointer (some ⟨b, 0, none⟩), .int .i64 n] w fun e w' => e = .returned (.int .i64 r'.1) ∧ REyeNew w0 w' b g N x r' := by
  subst hr
  refine (rnum_any b g r.2.1 r.2.2 n w h.eye (by omega) (by omega)).mono ?_
  rintro e w' ⟨rfl, h2, h3⟩
  refine ⟨rfl, h2, h.chg.trans h3 (fun x hx => .inr ?_), h.own, h3.keep h.blk (by simpa using h.ne.1), h.own2, h.ne⟩
  rw [List.mem_singleton.1 hx]; exact h.own
theorem REyeNew.set {w0 w : World} {b g N : Nat} {x y : Id} {r : Int × List UInt8 × Int} (h : REyeNew w0 w b g N x r) (j : Nat) (u : Value) (hy : (idC x).setIfInBounds j u = idC y) : REyeNew w0 (w.setCell ⟨N, j, none⟩ u) b g N y r := by
  have hc : Chg [N] w (w.setCell ⟨N, j, none⟩ u) := (Chg.refl [N] w).setCell (p := ⟨N, j, none⟩) (.inl (by simp)) u
  refine ⟨h.eye.keep hc (by simpa using Ne.symm h.ne.1) (by simpa using Ne.symm h.ne.2), h.chg.setCell (p := ⟨N, j, none⟩) (.inr h.own2) u, h.own, ?_, h.own2, h.ne⟩
  rw [← hy]; exact set_blk h.blk
theorem REyeNew.cells {w0 w : World} {b g N : Nat} {a c d e : Int} {r : Int × List UInt8 × Int} (h : REyeNew w0 w b g N ⟨a, c, d, e⟩ r) : (w.cell? ⟨N, 0, none⟩ = some (.int .i64 a) ∧ w.cell? ⟨N, 1, none⟩ = some (.int .i64 c) ∧ w.cell? ⟨N, 2, none⟩ = some (.int .i64 d) ∧ w.cell? ⟨N, 3, none⟩ = some (.int .i64 e)) ∧
    w.frozen? ⟨N, 0, none⟩ = false ∧ w.frozen? ⟨N, 1, none⟩ = false ∧ w.frozen? ⟨N, 2, none⟩ = false ∧ w.frozen? ⟨N, 3, none⟩ = false :=
  ⟨id_cells h.blk, blk_frozen h.blk 0, blk_frozen h.blk 1, blk_frozen h.blk 2, blk_frozen h.blk 3⟩
end Go.Proofs.YtdkhmfcfihbjeaaGreatDoor.W

/- The reference's slots: Clear. -/
namespace Go.Proofs.YtdkhmfcfihbjeaaGreatDoor.W
open Go.RowKit
set_option linter.unusedVariables false
set_option linter.unusedSimpArgs false

/-- What a change of the slots answers. -/
def RSidPost (w : World) (q m : Nat) (W A : List Nat) (r : Int × SS) (e : Ending) (w' : World) : Prop := e = .returned (.int .i64 r.1) ∧ RSid w w' q m W A r.2
theorem RSidPost.same {w : World} {q m : Nat} {W A : List Nat} {s : SS} {c : Int} (h : RSlotsAt w q m W A s) : RSidPost w q m W A (c, s) (.returned (.int .i64 c)) w := ⟨rfl, RSid.same h⟩
end Go.Proofs.YtdkhmfcfihbjeaaGreatDoor.W

/- The reference's padded. -/
namespace Go.Proofs.YtdkhmfcfihbjeaaGreatDoor.W
open Go.RowKit
set_option linter.unusedVariables false
set_option linter.unusedSimpArgs false

/-- Sectors in a row of rows. -/
structure PadAt (w0 w : World) (v : Value) (b : List UInt8) (j : Nat) (PV : List Value) : Prop where
  row : w.ownsRow 0 30 1 v j PV
  secs : ∀ k, k < j → BytesAt w (PV.getD k undef) (secAt b k) ∧ ∀ g, (PV.getD k undef).ownBlock = some g → w0.heap.size ≤ g ∧ v.ownBlock ≠ some g
  new : ∀ g, v.ownBlock = some g → w0.heap.size ≤ g
theorem PadAt.keep {w0 w w' : World} {v : Value} {b : List UInt8} {j : Nat} {PV : List Value} (h : PadAt w0 w v b j PV) (hc : Chg [] w w') : PadAt w0 w' v b j PV :=
  ⟨row_keep h.row (fun g hg => hc.block g (World.ownsRow.lt h.row g hg).2 (by simp)), fun k hk => ⟨(h.secs k hk).1.chg hc (by simp), (h.secs k hk).2⟩, h.new⟩
end Go.Proofs.YtdkhmfcfihbjeaaGreatDoor.W

/- The reference's slots: Put. -/
namespace Go.Proofs.YtdkhmfcfihbjeaaGreatDoor.W
open Go.RowKit
set_option linter.unusedVariables false
set_option linter.unusedSimpArgs false

theorem PadAt.form {w0 w : World} {v : Value} {b : List UInt8} {j : Nat} {PV : List Value} (h : PadAt w0 w v b j PV) : ∃ a cap, v = .slice a j cap := by
  rcases h.row.2 with ⟨h1, h2⟩ | ⟨g, cap, cur, h1, _⟩
  · exact ⟨none, 0, by rw [h1, h2]⟩
  · exact ⟨_, cap, h1⟩
theorem PadAt.at {w0 w : World} {v : Value} {b : List UInt8} {j : Nat} {PV : List Value} (h : PadAt w0 w v b j PV) (k : Nat) (hk : k < j) : ∃ g cap ax cx, v = .slice (some ⟨g, 0, none⟩) j cap ∧ w.cell? ⟨g, k, none⟩ = some (.slice ax 64 cx) ∧ BytesAt w (.slice ax 64 cx) (secAt b k) ∧ ∀ x, (Value.slice ax 64 cx).ownBlock = some x → w0.heap.size ≤ x := by
  rcases h.row.2 with ⟨h1, h2⟩ | ⟨g, cap, cur, h1, _⟩
  · omega
  · have hr := h.row
    rw [h1] at hr
    obtain ⟨_, k0, _⟩ := own_cell hr k hk
    obtain ⟨b1, b2⟩ := h.secs k hk
    obtain ⟨ax, cx, hx⟩ := b1.slice
    rw [secAt_len] at hx
    rw [hx] at k0 b1 b2
    exact ⟨g, cap, ax, cx, h1, k0, b1, fun x hx => (b2 x hx).1⟩
end Go.Proofs.YtdkhmfcfihbjeaaGreatDoor.W

/- The reference's store: Get, Put. -/
namespace Go.Proofs.YtdkhmfcfihbjeaaGreatDoor.W
open Go.RowKit
set_option linter.unusedVariables false
set_option linter.unusedSimpArgs false

end Go.Proofs.YtdkhmfcfihbjeaaGreatDoor.W

/- The reference's store: Delete, Room. -/
namespace Go.Proofs.YtdkhmfcfihbjeaaGreatDoor.W
open Go.RowKit
set_option linter.unusedVariables false
set_option linter.unusedSimpArgs false

/-- The rows of the reference's slots, to be read. -/
structure RLook (w : World) (sp : Nat) (s : SS) (a : Option Addr) (cap : Nat) : Prop where
  c2 : w.cell? ⟨sp, 2, none⟩ = some (.slice a s.rows.length cap)
  few : s.rows.length ≤ 1000
  big : s.rows.length ≤ cap
  row : ∀ i, i < s.rows.length → ∃ g kv, a = some ⟨g, 0, none⟩ ∧ w.cell? ⟨g, i * 3, none⟩ = some (.bool (s.rows.getD i noRow).used) ∧ w.cell? ⟨g, i * 3 + 1, none⟩ = some kv ∧ BytesAt w kv (s.rows.getD i noRow).key ∧ (s.rows.getD i noRow).key.length ≤ 40
theorem RSlotsAt.look {w : World} {sp m : Nat} {W A : List Nat} {s : SS} (h : RSlotsAt w sp m W A s) : ∃ a cap, RLook w sp s a cap := by
  obtain ⟨V, F, rv, R, H⟩ := h
  obtain ⟨a, cap, hrv, hcap⟩ := H.form
  have hfew := H.few
  refine ⟨a, cap, by rw [← hrv]; exact blk_cell H.obj.head 2 _ rfl, by omega, hcap, fun i hi => ?_⟩
  obtain ⟨g, cap', kv, h1, h2, _, h3, h4, _, h5, _⟩ := H.at i hi
  rw [hrv] at h1
  obtain ⟨rfl, _, _⟩ := Value.slice.inj h1
  refine ⟨g, kv, rfl, h3, h4, h5, ?_⟩
  rw [List.getD_eq_getElem?_getD, List.getElem?_eq_getElem hi]
  exact (H.ok.rows _ (List.getElem_mem hi)).2
theorem RLook.keep {w w' : World} {sp m : Nat} {W A : List Nat} {s : SS} {a : Option Addr} {cap : Nat} (h : RLook w sp s a cap) (hc : Chg [] w w') : RLook w' sp s a cap :=
  ⟨hc.cell h.c2 (by simp), h.few, h.big, fun i hi => by
    obtain ⟨g, kv, h1, h2, h3, h4, h5⟩ := h.row i hi
    exact ⟨g, kv, h1, hc.cell h2 (by simp), hc.cell h3 (by simp), h4.chg hc (by simp), h5⟩⟩

end Go.Proofs.YtdkhmfcfihbjeaaGreatDoor.W

/- The reference's List, plainly. -/
namespace Go.Proofs.YtdkhmfcfihbjeaaGreatDoor.W
open Go.RowKit
set_option linter.unusedVariables false
set_option linter.unusedSimpArgs false

def firstsTo (rows : List SRow) (i : Nat) : List Id := ((List.range i).filter (isFirst rows)).map (fun j => unId (rows.getD j noRow).key)
theorem firstsTo_succ (rows : List SRow) (i : Nat) : firstsTo rows (i + 1) = firstsTo rows i ++ if isFirst rows i then [unId (rows.getD i noRow).key] else [] := by
  unfold firstsTo
  rw [List.range_succ, List.filter_append, List.map_append]
  congr 1
  by_cases h : isFirst rows i = true
  · rw [if_pos h]; simp [h]
  · rw [if_neg h]; simp [h]
/-- What is known of the list so far. -/
structure Sorted (rows : List SRow) (i : Nat) (L : List Id) : Prop where
  rise : L.Pairwise idLt
  mem : ∀ x, x ∈ L ↔ x ∈ firstsTo rows i
  len : L.length ≤ i
theorem Sorted.zero (rows : List SRow) : Sorted rows 0 [] := ⟨List.Pairwise.nil, fun x => by simp [firstsTo], Nat.le_refl _⟩
theorem Sorted.skip {rows : List SRow} {i : Nat} {L : List Id} (h : Sorted rows i L) (hf : isFirst rows i = false) : Sorted rows (i + 1) L :=
  ⟨h.rise, fun x => by rw [firstsTo_succ, hf, h.mem]; simp, by have := h.len; omega⟩
theorem Sorted.fresh {rows : List SRow} (hk : keysOk rows) {i : Nat} (hi : i < rows.length) {L : List Id} (h : Sorted rows i L) (hf : isFirst rows i = true) : unId (rows.getD i noRow).key ∉ L := by
  intro hm
  have := (h.mem _).1 hm
  unfold firstsTo at this
  obtain ⟨j, hj, he⟩ := List.mem_map.1 this
  obtain ⟨h1, h2⟩ := List.mem_filter.1 hj
  have hji := List.mem_range.1 h1
  obtain ⟨hju, _⟩ := mem_isFirst.1 h2
  obtain ⟨hiu, hi3⟩ := mem_isFirst.1 hf
  have e1 := (un_back (hk _ (row_mem (show j < rows.length by omega)) hju)).2
  have e2 := (un_back (hk _ (row_mem hi) hiu)).2
  exact hi3 j hji ⟨hju, by rw [e1, e2, he]⟩
theorem Sorted.put {rows : List SRow} (hk : keysOk rows) {i : Nat} (hi : i < rows.length) {L : List Id} (h : Sorted rows i L) (hf : isFirst rows i = true) {k : Nat} (hkL : k ≤ L.length) (hgt : ∀ x ∈ L.drop k, idLt (unId (rows.getD i noRow).key) x)
    (hlt : ∀ x, 0 < k → L[k - 1]? = some x → ¬ idLt (unId (rows.getD i noRow).key) x) : Sorted rows (i + 1) (L.take k ++ unId (rows.getD i noRow).key :: L.drop k) := by
  have hfr := h.fresh hk hi hf
  obtain ⟨y, hy⟩ : ∃ y, y = unId (rows.getD i noRow).key := ⟨_, rfl⟩
  rw [← hy] at hgt hlt hfr ⊢
  have hsplit : L = L.take k ++ L.drop k := (List.take_append_drop k L).symm
  have hpw := h.rise
  have hlow : ∀ x ∈ L.take k, idLt x y := fun x hx => by
    have hxL : x ∈ L := List.mem_of_mem_take hx
    have hk0 : 0 < k := by
      rcases Nat.eq_zero_or_pos k with h0 | h0
      · rw [h0] at hx; simp at hx
      · exact h0
    obtain ⟨z, hz⟩ : ∃ z, L[k - 1]? = some z := ⟨_, List.getElem?_eq_getElem (by omega)⟩
    have h1 := hlt z hk0 hz
    have hzL : z ∈ L := List.mem_of_getElem? hz
    have hzy : idLt z y := by
      rcases idLt_or y z with h2 | h2 | h2
      · exact absurd h2 h1
      · rw [h2] at hfr; exact absurd hzL hfr
      · exact h2
    obtain ⟨j, hj, rfl⟩ := List.mem_iff_getElem.1 hx
    rw [List.length_take] at hj
    rw [List.getElem_take]
    by_cases hjk : j = k - 1
    · subst hjk
      have : L[k - 1] = z := by rw [List.getElem?_eq_getElem (by omega)] at hz; exact Option.some.inj hz
      rw [this]; exact hzy
    · have hlt2 := (List.pairwise_iff_getElem.1 hpw) j (k - 1) (by omega) (by omega) (by omega)
      have : L[k - 1] = z := by rw [List.getElem?_eq_getElem (by omega)] at hz; exact Option.some.inj hz
      rw [this] at hlt2
      exact idLt_trans hlt2 hzy
  refine ⟨?_, fun x => ?_, ?_⟩
  · rw [List.pairwise_append]
    rw [hsplit, List.pairwise_append] at hpw
    refine ⟨hpw.1, List.pairwise_cons.2 ⟨hgt, hpw.2.1⟩, fun a ha b hb => ?_⟩
    rcases List.mem_cons.1 hb with rfl | hb
    · exact hlow a ha
    · exact hpw.2.2 a ha b hb
  · rw [firstsTo_succ, if_pos hf, ← hy, List.mem_append, List.mem_append, ← h.mem]
    constructor
    · rintro (hx | hx)
      · exact .inl (List.mem_of_mem_take hx)
      · rcases List.mem_cons.1 hx with rfl | hx
        · exact .inr (by simp)
        · exact .inl (List.mem_of_mem_drop hx)
    · rintro (hx | hx)
      · rw [hsplit] at hx
        rcases List.mem_append.1 hx with hx | hx
        · exact .inl hx
        · exact .inr (List.mem_cons_of_mem _ hx)
      · rw [List.mem_singleton.1 hx]
        exact .inr (by simp)
  · have := h.len
    simp only [List.length_append, List.length_take, List.length_cons, List.length_drop]
    omega
theorem Sorted.done {t : Sto} (hk : keysOk t.s.rows) {L : List Id} (h : Sorted t.s.rows t.s.rows.length L) : L = t.ids := by
  have hn : L.Nodup := h.rise.imp (fun hab e => by rw [e] at hab; exact idLt_irrefl _ hab)
  have h1 : L.mergeSort leI = L := List.mergeSort_of_pairwise (h.rise.imp (fun hab => (leI_iff _ _).2 (.inl hab)))
  rw [← h1]
  exact sortedI_eq hn (firsts_nodup hk) (fun x => h.mem x)
/-! ### A row of ids that is set -/
end Go.Proofs.YtdkhmfcfihbjeaaGreatDoor.W

/- StoreOrder: ids that came in; Less; plainly. -/
namespace Go.Proofs.YtdkhmfcfihbjeaaGreatDoor.W
open Go.RowKit Go.ChangeShapes Go.WideShapes
set_option linter.unusedVariables false
set_option linter.unusedSimpArgs false

/-- Ids that came in. -/
def IdsIn (w : World) (a : Option Addr) (n : Nat) (f : Nat → Id) : Prop :=
  n = 0 ∨ ∃ g o, a = some ⟨g, o, none⟩ ∧ ∀ i, i < n → okD (f i) ∧ w.cell? ⟨g, o + i * 4, none⟩ = some (.int .i64 (f i).c) ∧ w.cell? ⟨g, o + i * 4 + 1, none⟩ = some (.int .i64 (f i).l) ∧ w.cell? ⟨g, o + i * 4 + 2, none⟩ = some (.int .i64 (f i).n) ∧ w.cell? ⟨g, o + i * 4 + 3, none⟩ = some (.int .i64 (f i).i)
theorem IdsIn.keep {w w' : World} {a : Option Addr} {n : Nat} {f : Nat → Id} (h : IdsIn w a n f) (hc : Chg [] w w') : IdsIn w' a n f := by
  rcases h with h | ⟨g, o, rfl, h⟩
  · exact .inl h
  · refine .inr ⟨g, o, rfl, fun i hi => ?_⟩
    obtain ⟨h1, h2, h3, h4, h5⟩ := h i hi
    exact ⟨h1, hc.cell h2 (by simp), hc.cell h3 (by simp), hc.cell h4 (by simp), hc.cell h5 (by simp)⟩
section
variable {H : Type} {enc : TypeId × Value → H} {w : World} {base : Nat} {held : Bool}
end
/-! ### Plainly -/
structure Ord (t : Sto) (F : Frag) (f : Nat → Id) (j : Nat) : Prop where
  kept : Kept t F
  one : ∀ x b, F x = some b → b = [1]
  has : ∀ i, i < j → mayId (f i) = true → F (f i) = some [1]
  room : 12 ≤ t.room + j
  small : t.s.d.ops ≤ 97 + 20 * j ∧ t.s.d.since.length = 0
theorem Ord.step {t : Sto} {F : Frag} {f : Nat → Id} {j : Nat} (h : Ord t F f j) (hj : j < 12) : ∃ F', Ord (t.put (f j) [1]).2 F' f (j + 1) := by
  obtain ⟨o1, o2, _⟩ := t.put_ok (f j) [1]
  have hsm := h.small
  cases hm : mayId (f j) with
  | false =>
    obtain ⟨_, h2⟩ := h.kept.put_bad (b := [1]) (.inl hm)
    refine ⟨F, ?_⟩
    rw [h2]
    refine ⟨h.kept, h.one, fun i hi hmi => ?_, by have := h.room; omega, by omega, hsm.2⟩
    rcases Nat.lt_or_ge i j with h3 | h3
    · exact h.has i h3 hmi
    · obtain rfl : i = j := by omega
      rw [hm] at hmi; cases hmi
  | true =>
    cases hF : F (f j) with
    | some b =>
      have hb := h.one _ _ hF
      have h2 := h.kept.put_there hF [1] (by simp)
      refine ⟨F, ?_⟩
      rw [h2]
      refine ⟨h.kept, h.one, fun i hi hmi => ?_, by have := h.room; show 12 ≤ t.room + (j + 1); omega, by show t.s.d.ops ≤ _; omega, hsm.2⟩
      rcases Nat.lt_or_ge i j with h3 | h3
      · exact h.has i h3 hmi
      · obtain rfl : i = j := by omega
        rw [hF, hb]
    | none =>
      have hr := h.room
      obtain ⟨p1, p2, p3⟩ := h.kept.put_new hm hF (b := [1]) (by simp) (by omega)
      refine ⟨_, p2, fun x b hx => ?_, fun i hi hmi => ?_, by omega, by omega, by rw [p2.since]; rfl⟩
      · unfold setF at hx
        split at hx
        · exact (Option.some.inj hx).symm
        · exact h.one _ _ hx
      · by_cases e : f i = f j
        · rw [e, setF_self]
        · rw [setF_other _ _ e]
          rcases Nat.lt_or_ge i j with h3 | h3
          · exact h.has i h3 hmi
          · obtain rfl : i = j := by omega
            exact absurd rfl e
theorem Ord.new : ∃ t d, (DS.new 97).format = ((0, some t), d) ∧ ∀ f, Ord t (fun _ => none) f 0 := by
  obtain ⟨t, d, h1, h2, h3, h4, h5, h6, _⟩ := Kept.new 97 (by omega)
  refine ⟨t, d, h1, fun f => ⟨h2, fun x b h => (by cases h), fun i hi => (by omega), ?_, by rw [h3]; omega, by rw [h2.since]; rfl⟩⟩
  unfold Sto.room
  rw [h4]
  decide
end Go.Proofs.YtdkhmfcfihbjeaaGreatDoor.W

/- The reference's List. -/
namespace Go.Proofs.YtdkhmfcfihbjeaaGreatDoor.W
open Go.RowKit Go.Sort
set_option linter.unusedVariables false
set_option linter.unusedSimpArgs false

theorem wpList_app1L {P : Program} {w : World} {ops : Array Oper} {rest : List Oper} {o : Oper} {a : Act} {Q : Exit → Act → World → Prop} (hgd : o.guard = none) (s x : Operand) (t : TypeId)
    (ho : o.op = .call { callee := .builtin .append, args := #[s, x], argTypes := #[t, t] })
    (base : Nat) {e : TypeId} {z : Value} {size bytes : Nat} (hE : El P t e z size bytes)
    (v : Value) (n : Nat) (xs : List Value) (hs : a.eval s = v) (hown : w.ownsRow base e size v n xs)
    (c : Nat) (news : Array Value) (hx : a.eval x = .slice (some ⟨w.heap.size, 0, none⟩) 1 c) (hl : news.size = size) (h1 : ∀ u ∈ news.toList, u.oneCell' = true)
    (h63 : n + 1 ≤ maxLen) (hbytes : (n + 1) * bytes ≤ 140737488355328) (hbase : base ≤ w.heap.size)
    (h : ∀ g cap w', w'.ownsRow base e size (.slice (some ⟨g, 0, none⟩) (n + 1) cap) (n + 1) (xs ++ news.toList) → w.grownBy w' v.ownBlock → (v.ownBlock = some g ∨ g = w.heap.size + 1) → wpList P ops Q rest (a.put o.dst (.slice (some ⟨g, 0, none⟩) (n + 1) cap)) w') : wpList P ops Q (o :: rest) a (w.alloc (.cells news e)) := by
  obtain ⟨ht, ⟨i, hi, hz, hsize, hby⟩, hzs, hsz⟩ := hE
  refine wpList_append_lies _ hgd s x t ho base e i z size bytes ht hi hz hsize hby hzs hsz v n xs hs (hown.alloc _) ⟨w.heap.size, 0, none⟩ 1 c news.toList hx (by simpa using hl) (World.news_of_block (heap_alloc_new w _)) h1 (by omega) h63 hbytes (by simp; omega) (w.heap.size + 1) (by simp) ?_
  intro g cap w' h2 h3 h4 _
  exact h g cap w' h2 (grownBy_trans (World.grownBy_alloc w _ _) h3) h4

end Go.Proofs.YtdkhmfcfihbjeaaGreatDoor.W

/- SameIds; the law's looks. -/
namespace Go.Proofs.YtdkhmfcfihbjeaaGreatDoor.W
open Go.RowKit
set_option linter.unusedVariables false
set_option linter.unusedSimpArgs false
variable {G : List Nat}

/-- A slice of ids, to be read. -/
def IdRow (w : World) (v : Value) (l : List Id) : Prop := ∃ a cap, v = .slice a l.length cap ∧ ∀ j, j < l.length → ∃ g x, a = some ⟨g, 0, none⟩ ∧ l[j]? = some x ∧ w.cell? ⟨g, j * 4, none⟩ = some (.int .i64 x.c) ∧ w.cell? ⟨g, j * 4 + 1, none⟩ = some (.int .i64 x.l) ∧ w.cell? ⟨g, j * 4 + 2, none⟩ = some (.int .i64 x.n) ∧ w.cell? ⟨g, j * 4 + 3, none⟩ = some (.int .i64 x.i)
theorem IdRow.of {w : World} {base : Nat} {v : Value} {l : List Id} (h : w.ownsRow base 38 4 v l.length (l.flatMap idE)) : IdRow w v l := by
  rcases h.2 with ⟨h1, h2⟩ | ⟨g, cap, cur, h1, _⟩
  · exact ⟨none, 0, by rw [h1, h2], fun j hj => by omega⟩
  · refine ⟨_, cap, h1, fun j hj => ⟨g, l[j], rfl, List.getElem?_eq_getElem hj, ?_⟩⟩
    rw [h1] at h
    exact id_row h j hj _ (List.getElem?_eq_getElem hj)
theorem IdRow.keep {w w' : World} {v : Value} {l : List Id} (h : IdRow w v l) (hc : Chg [] w w') : IdRow w' v l := by
  obtain ⟨a, cap, h1, h2⟩ := h
  refine ⟨a, cap, h1, fun j hj => ?_⟩
  obtain ⟨g, x, k1, k2, m0, m1, m2, m3⟩ := h2 j hj
  exact ⟨g, x, k1, k2, hc.cell m0 (by simp), hc.cell m1 (by simp), hc.cell m2 (by simp), hc.cell m3 (by simp)⟩

end Go.Proofs.YtdkhmfcfihbjeaaGreatDoor.W

/- ServerLists, plainly; rows of ids. -/
namespace Go.Proofs.YtdkhmfcfihbjeaaGreatDoor.W
open Go.RowKit
set_option linter.unusedVariables false
set_option linter.unusedSimpArgs false
theorem eqin_id (x y : Id) (hx : okD x) (hy : okD y) (w : World) : (Op.equalIn 10000 38 (idV x) (idV y)).run Tryz.prog w = .ok (decide (x = y)) w := by
  have h := eq_id x y hx hy w
  rw [run_eql_struct] at h
  cases hr : (Op.equalIn 10000 38 (idV x) (idV y)).run Tryz.prog w with
  | ok r w' =>
    rw [hr] at h
    simp [Result.andThen] at h
    obtain ⟨rfl, rfl⟩ := h
    rfl
  | _ => rw [hr] at h; simp [Result.andThen] at h
theorem thereB_succ (H : List Id) (j : Nat) {y : Id} (hy : H[j]? = some y) (x : Id) : thereB (H.take (j + 1)) x = (thereB (H.take j) x || decide (y = x)) := by
  obtain ⟨hj, rfl⟩ := List.getElem?_eq_some_iff.1 hy
  unfold thereB
  rw [List.take_succ_eq_append_getElem hj, List.any_append]
  simp
theorem filt_succ (H : List Id) (j : Nat) {y : Id} (hy : H[j]? = some y) (P : Id → Bool) : (H.take (j + 1)).filter P = (H.take j).filter P ++ if P y = true then [y] else [] := by
  obtain ⟨hj, rfl⟩ := List.getElem?_eq_some_iff.1 hy
  rw [List.take_succ_eq_append_getElem hj, List.filter_append]
  by_cases h : P H[j] = true
  · rw [if_pos h]; simp [h]
  · rw [if_neg h]; simp [h]
/-- A row of ids, new since w0. -/
def IRow (w0 w : World) (v : Value) (l : List Id) : Prop := w.ownsRow w0.heap.size 38 4 v l.length (l.flatMap idE)
theorem IRow.snoc {w0 w w' : World} {v v' : Value} {l : List Id} {y : Id} (hc : Chg [] w0 w) (h : IRow w0 w v l) (h2 : w'.ownsRow w0.heap.size 38 4 v' (l.length + 1) (l.flatMap idE ++ (idC y).toList)) (hg : w.grownBy w' v.ownBlock) : IRow w0 w' v' (l ++ [y]) ∧ Chg [] w0 w' := by
  refine ⟨?_, hc.grown hg (fun k hk => .inr (World.ownsRow.lt h k hk).1)⟩
  unfold IRow
  rw [List.length_append, List.flatMap_append]
  exact h2
theorem IRow.keep {w0 w w' : World} {v : Value} {l : List Id} (h : IRow w0 w v l) (hb : ∀ g, v.ownBlock = some g → w'.heap[g]? = w.heap[g]?) : IRow w0 w' v l := row_keep h hb
theorem IRow.drew {w0 w : World} {v : Value} {l : List Id} (h : IRow w0 w v l) (n : Nat) : IRow w0 (w.drewN n) v l := row_keep h (fun _ _ => rfl)
/-- How the law's round goes on: the row of those kept, laid anew. -/
theorem lists_next {X : List Nat} {w1 w6 w' : World} {z q p : Nat} {t : Sto} {v : Value} {l : List Id} (ho : OwnS X w1 w6 z q p t) (hc : Chg [] w6 w') (h : IRow w6 w' v l) : OwnS v.ownBlock.toList w1 w' z q p t ∧ IRow w1 w' v l := by
  refine ⟨ho.add hc (fun x hx => ?_), row_base h w1.heap.size (fun g hg => Nat.le_trans ho.chg.size (World.ownsRow.lt h g hg).1)⟩
  have := World.ownsRow.lt h x (by simpa using hx)
  exact ⟨.inr this.1, this.2⟩
theorem ListsAt.run {t : Sto} {H : List Id} {k : Nat} (h : ListsAt t H k) (r : Rq) : t.run r = (((t.step r).1, 0), (t.step r).2) := by
  obtain ⟨F, h1, _⟩ := h.keep
  exact h1.run r
theorem ListsAt.lim {t : Sto} {H : List Id} {k : Nat} (h : ListsAt t H k) (hk : k ≤ 50) : 1 ≤ t.s.d.n ∧ t.s.d.ops ≤ 800000000 ∧ t.s.d.since.length ≤ 800000 := by
  obtain ⟨F, h1, _⟩ := h.keep
  refine ⟨by rw [h.small.2]; omega, by have := h.small.1; omega, by rw [h1.since]; simp⟩
theorem ListsAt.few {t : Sto} {H : List Id} {k : Nat} (h : ListsAt t H k) : H.length ≤ 12 := by have := h.len; omega
theorem ListsAt.list {t : Sto} {H : List Id} {k : Nat} (h : ListsAt t H k) : t.run ⟨4, ⟨0, 0, 0, 0⟩, []⟩ = ((⟨0, [], t.ids, 0, false⟩, 0), t) := by rw [h.run, step4]
theorem ListsAt.info {t : Sto} {H : List Id} {k : Nat} (h : ListsAt t H k) : t.run ⟨5, ⟨0, 0, 0, 0⟩, []⟩ = ((⟨0, [], [], 12 - (H.length : Int), t.whole⟩, 0), t) := by
  rw [h.run, step5]
  have := h.ends.2.1
  have := h.few
  rw [show ((t.room : Nat) : Int) = 12 - (H.length : Int) by omega]
theorem ListsAt.idsok {t : Sto} {H : List Id} {k : Nat} (h : ListsAt t H k) : ∀ x ∈ t.ids, okD x := by
  obtain ⟨F, h1, _⟩ := h.keep
  intro x hx
  exact may_okD (Sto.ids_may h1.kept.keys hx)
theorem next_ok {H : List Id} {r : Rq} {e : Int} (h : ∀ y ∈ H, okD y) (hx : okD r.x) : ∀ y ∈ nextH H r e, okD y := by
  intro y hy
  unfold nextH at hy
  rcases List.mem_append.1 hy with hy | hy
  · exact h y (List.mem_filter.1 hy).1
  · split at hy
    · rw [List.mem_singleton.1 hy]; exact hx
    · cases hy
end Go.Proofs.YtdkhmfcfihbjeaaGreatDoor.W

/- ServerLists: the walk. -/
namespace Go.Proofs.YtdkhmfcfihbjeaaGreatDoor.W
open Go.RowKit
set_option linter.unusedVariables false
set_option linter.unusedSimpArgs false

set_option maxHeartbeats 32000000 in
set_option maxRecDepth 100000 in
theorem lists20_any (a : Option Addr) (n cap : Nat) (f : Nat → Rq × Value) (w : World) (h : RqsAt w a n f) : Calls Tryz.prog 3 #[.slice a n cap] w fun e w' => e = .returned (.bool true) ∧ Chg [] w w' := by
  obtain ⟨t0, d, hfm, hln⟩ := ListsAt.new
  have HIN0 := Lib.hid h
  have HFM := Lib.hid hfm
  have HLN := Lib.hid hln
  have CW := Lib.hid (awake20_any w)
  clear h hfm hln
  go_enter Tryz.func3, Tryz.ntmps3
  go_wp2_with fail
  refine CW.out.mono ?_
  rintro e w1 ⟨rfl, hc1⟩
  have HC1 := Lib.hid hc1
  have HIN := Lib.hid (HIN0.out.keep hc1)
  have CSM := Lib.hid (small20_any a n cap 50 f w1 HIN.out (by omega))
  clear hc1 CW HIN0
  go_wp2_with fail
  refine CSM.out.mono ?_
  rintro e w' ⟨he, hq⟩
  subst hq
  rcases he with ⟨he, hfew⟩ | he
  rotate_left
  · subst he
    go_wp2_with fail
    go_ret
    exact ⟨rfl, HC1.out⟩
  subst he
  have HFEW := Lib.hid hfew
  have hn50 : n ≤ 50 := hfew.1
  have CN := Lib.hid (own_newS (Chg.refl [] w1) 97 (by omega) (by omega) HFM.out)
  clear hfew CSM
  go_wp2_with fail
  refine CN.out.mono ?_
  rintro e w3 ⟨z, q, p, rfl, ho3⟩
  have HO3 := Lib.hid ho3
  clear ho3 CN
  go_wp2_with fail
  go_loopg [5, 6, 7, 8, 9, 10, 11] n (fun g' s5 s6 s7 s8 s9 s10 s11 wr => ∃ (i : Nat) (t : Sto) (H : List Id), s6 = .int .i64 (i : Int) ∧ i ≤ n ∧ n ≤ i + g' ∧ Hid (ListsAt t H i ∧ OwnS s5.ownBlock.toList w1 wr z q p t ∧ IRow w1 wr s5 H ∧ ∀ y ∈ H, okD y))
  case atStart => exact ⟨0, t0, [], rfl, by omega, by omega, Lib.hid ⟨HLN.out, HO3.out, World.ownsRow_nil _ _ _ _, by simp⟩⟩
  case round =>
    obtain ⟨i, t, H, rfl, hi, hig, HR⟩ := hrel
    have hi50 : i ≤ 50 := by omega
    obtain ⟨hla, hot, hhv, hok⟩ := HR.out
    obtain ⟨ah, ch, rfl, -⟩ := IdRow.of hhv
    have HLA := Lib.hid hla
    have HOT := Lib.hid hot
    have HHV := Lib.hid hhv
    have HOK := Lib.hid hok
    obtain ⟨nH, hnH⟩ : ∃ nH, nH = H.length := ⟨_, rfl⟩
    have hn12 : nH ≤ 12 := by rw [hnH]; exact hla.few
    rw [← hnH] at HOT HHV ⊢
    have HNH := Lib.hid hnH
    clear HO3 HR hla hot hhv hok hnH
    by_cases hlt : i < n
    · have hiz : (i : Int) < (n : Int) := by omega
      have hiz1 : (i : Int).toNat = i := by omega
      obtain ⟨g, o, rfl, hcs⟩ : ∃ g o, a = some ⟨g, o, none⟩ ∧ ∀ i, i < n → RqAt w1 g (o + i * 6) (f i) := by
        rcases HIN.out with h | h
        · omega
        · exact h
      have hd := hcs i hlt
      have hfb := HFEW.out.2 i hlt
      obtain ⟨y, hy⟩ : ∃ y, y = f i := ⟨_, rfl⟩
      rw [← hy] at hd hfb
      clear hy hcs
      obtain ⟨⟨rk, ⟨xc, xl, xn, xi⟩, b⟩, bv⟩ := y
      obtain ⟨ba, bc, hbv⟩ := hd.inn.came.1.slice
      dsimp only at hbv
      subst hbv
      have HIQ := Lib.hid hd.inn
      have HD1 := Lib.hid hd
      obtain ⟨c0, c1, c2, c3, c4, c5, -⟩ := hd.keep HOT.out.chg
      clear hd
      dsimp only at c0 c1 c2 c3 c4 c5 hfb
      have CQ := Lib.hid (request20_any ⟨rk, ⟨xc, xl, xn, xi⟩, b⟩ ba b.length bc wr)
      dsimp only at CQ
      go_wp2_with fail
      refine CQ.out.mono ?_
      rintro e w4 ⟨rfl, hc4⟩
      have hi4 := HIQ.out.keep (HOT.out.chg.trans hc4 (by simp))
      have HST := Lib.hid (HLA.out.step ⟨rk, ⟨xc, xl, xn, xi⟩, b⟩)
      have hrun := HLA.out.run ⟨rk, ⟨xc, xl, xn, xi⟩, b⟩
      obtain ⟨oo, hoo⟩ : ∃ oo, oo = t.step ⟨rk, ⟨xc, xl, xn, xi⟩, b⟩ := ⟨_, rfl⟩
      rw [← hoo] at hrun HST
      clear hoo
      obtain ⟨⟨oe, ob, oi, orm, ow⟩, t'⟩ := oo
      dsimp only at hrun HST
      have CD := Lib.hid (own_doI (HOT.out.keep0 hc4) ⟨rk, ⟨xc, xl, xn, xi⟩, b⟩ (.slice ba b.length bc) hrun hi4.wx hi4.came.1 (fun hne kk hkk => .inl (HIQ.out.came.2 hne kk hkk)) (by show b.length ≤ _; omega) (HLA.out.lim hi50).1 (HLA.out.lim hi50).2.1 (HLA.out.lim hi50).2.2)
      dsimp only at CD
      have HC4 := Lib.hid hc4
      clear hc4 hi4 hrun CQ c0 c1 c2 c3 c4 c5
      go_wp2_with fail
      refine CD.out.mono ?_
      rintro e w5 ⟨a9, c9, a10, c10, he, -, -, -, ho5, hk5⟩
      dsimp only at he
      subst he
      obtain ⟨w6, hw6⟩ : ∃ w6, w6 = w5.alloc (.cells #[.int .i64 oe, .slice a9 ob.length c9, .slice a10 oi.length c10, .int .i64 orm, .bool ow] 32) := ⟨_, rfl⟩
      have hcA : Chg [] w5 w6 := by rw [hw6]; exact (Chg.refl _ _).alloc _
      have hbA : w6.heap[w5.heap.size]? = some (.cells #[.int .i64 oe, .slice a9 ob.length c9, .slice a10 oi.length c10, .int .i64 orm, .bool ow] 32 (0, 0)) := by rw [hw6]; exact heap_alloc_new w5 _
      have HO6 := Lib.hid (ho5.keep0 hcA)
      have HH6 : Hid (IdRow w6 (.slice ah H.length ch) H) := Lib.hid (by
        have h1 : IRow w1 w6 (.slice ah nH ch) H := HHV.out.keep (fun g hg => by
          have hl := (World.ownsRow.lt HHV.out g hg).2
          have hl4 := HC4.out.size
          have hl5 := hk5 g (by simpa using hg)
          exact (hcA.block g (by rcases Nat.lt_or_ge g w5.heap.size with h | h; · exact h
                                 · exfalso
                                   have h5 : w5.heap[g]? = none := Array.getElem?_eq_none h
                                   rw [h5] at hl5
                                   have h4 : g < w4.heap.size := by omega
                                   rw [Array.getElem?_eq_getElem h4] at hl5
                                   cases hl5) (by simp)).trans (hl5.trans (HC4.out.block g hl (by simp))))
        rw [HNH.out] at h1
        exact IdRow.of h1)
      have HXC : Hid (∀ w', Chg [] w6 w' → w'.cell? ⟨g, o + i * 6, none⟩ = some (.int .i64 rk) ∧ (w'.cell? ⟨g, o + i * 6 + 1, none⟩ = some (.int .i64 xc) ∧ w'.cell? ⟨g, o + i * 6 + 2, none⟩ = some (.int .i64 xl) ∧ w'.cell? ⟨g, o + i * 6 + 3, none⟩ = some (.int .i64 xn) ∧ w'.cell? ⟨g, o + i * 6 + 4, none⟩ = some (.int .i64 xi)) ∧ w'.cell? ⟨w5.heap.size, 0, none⟩ = some (.int .i64 oe)) := Lib.hid (fun w' hc => by
        have hd := HD1.out.keep (HO6.out.chg.trans hc (by simp))
        exact ⟨hd.c0, ⟨hd.c1, hd.c2, hd.c3, hd.c4⟩, blk_cell (hc.keep hbA (by simp)) 0 _ rfl⟩)
      have hxo : okD ⟨xc, xl, xn, xi⟩ := HIQ.out.wx
      obtain ⟨KB, hKB⟩ : ∃ KB, KB = keepB ⟨rk, ⟨xc, xl, xn, xi⟩, b⟩ oe := ⟨_, rfl⟩
      have HKB := Lib.hid hKB
      have HW6 := Lib.hid hw6
      clear ho5 hk5 hcA hbA hw6 hKB CD
      go_wp2_with fail
      rw [← HW6.out]
      obtain ⟨gko, rfl⟩ : ∃ gko : Nat, gko = gk := ⟨_, rfl⟩
      go_loopg [9, 10, 11] nH (fun g' s9 s10 s11 wr => ∃ (j : Nat), s11 = .int .i64 (j : Int) ∧ s10 = .bool (thereB (H.take j) ⟨xc, xl, xn, xi⟩) ∧ j ≤ nH ∧ nH ≤ j + g' ∧ Hid (Chg [] w6 wr ∧ IRow w6 wr s9 ((H.take j).filter KB)))
      case atStart => exact ⟨0, rfl, rfl, by omega, by omega, Lib.hid ⟨Chg.refl _ _, World.ownsRow_nil _ _ _ _⟩⟩
      case round =>
        obtain ⟨j, rfl, rfl, hj, hjg, HJ⟩ := hrel
        have HJC := Lib.hid HJ.out.1
        have HJR := Lib.hid HJ.out.2
        clear HJ
        by_cases hjl : j < nH
        · have hjH : j < H.length := Nat.lt_of_lt_of_eq hjl HNH.out
          have hjz : (j : Int) < (nH : Int) := by omega
          have hjz1 : (j : Int).toNat = j := by omega
          obtain ⟨g2, ⟨yc, yl, yn, yi⟩, ha2, hy, m0, m1, m2, m3⟩ : ∃ g2 y, ah = some ⟨g2, 0, none⟩ ∧ H[j]? = some y ∧ w6.cell? ⟨g2, j * 4, none⟩ = some (.int .i64 y.c) ∧ w6.cell? ⟨g2, j * 4 + 1, none⟩ = some (.int .i64 y.l) ∧ w6.cell? ⟨g2, j * 4 + 2, none⟩ = some (.int .i64 y.n) ∧ w6.cell? ⟨g2, j * 4 + 3, none⟩ = some (.int .i64 y.i) := by
            obtain ⟨a', c', e1, e2⟩ := HH6.out
            obtain ⟨rfl, -, -⟩ := Value.slice.inj e1
            exact e2 j hjH
          subst ha2
          dsimp only at m0 m1 m2 m3
          have HMC : Hid (∀ w', Chg [] w6 w' → w'.cell? ⟨g2, j * 4, none⟩ = some (.int .i64 yc) ∧ w'.cell? ⟨g2, j * 4 + 1, none⟩ = some (.int .i64 yl) ∧ w'.cell? ⟨g2, j * 4 + 2, none⟩ = some (.int .i64 yn) ∧ w'.cell? ⟨g2, j * 4 + 3, none⟩ = some (.int .i64 yi)) := Lib.hid (fun w' hc => ⟨hc.cell m0 (by simp), hc.cell m1 (by simp), hc.cell m2 (by simp), hc.cell m3 (by simp)⟩)
          have hyo : okD ⟨yc, yl, yn, yi⟩ := HOK.out _ (List.mem_of_getElem? hy)
          have HTH := Lib.hid (thereB_succ H j hy ⟨xc, xl, xn, xi⟩)
          have HFS := Lib.hid (filt_succ H j hy KB)
          have hkl : ((H.take j).filter KB).length ≤ 12 := Nat.le_trans (List.length_filter_le _ _) (by rw [List.length_take]; omega)
          obtain ⟨K, hK⟩ : ∃ K, K = (H.take j).filter KB := ⟨_, rfl⟩
          rw [← hK] at HJR HFS hkl
          obtain ⟨ak, ck, rfl, -⟩ := IdRow.of HJR.out
          clear m0 m1 m2 m3 hy hjH hK
          obtain ⟨m0, m1, m2, m3⟩ := HMC.out wr HJC.out
          obtain ⟨x0, ⟨x1, x2, x3, x4⟩, x5⟩ := HXC.out wr HJC.out
          generalize thereB (H.take j) ⟨xc, xl, xn, xi⟩ = bt at *
          have HNE0 := fun w => eqin_id ⟨yc, yl, yn, yi⟩ ⟨xc, xl, xn, xi⟩ hyo hxo w
          obtain ⟨de, hde⟩ : ∃ de, de = decide ((⟨yc, yl, yn, yi⟩ : Id) = ⟨xc, xl, xn, xi⟩) := ⟨_, rfl⟩
          obtain ⟨kb, hkb⟩ : ∃ kb, kb = KB ⟨yc, yl, yn, yi⟩ := ⟨_, rfl⟩
          have HKY : Hid (kb = (!de || (decide (rk ≠ 3) || decide (oe ≠ 0)))) := Lib.hid (by rw [hkb, HKB.out, hde]; unfold keepB; simp [decide_not])
          rw [← hde] at HTH HNE0
          rw [← hkb] at HFS
          clear hde hkb
          unfold idV idC at HNE0
          dsimp only at HNE0
          have HNEH := Lib.hid HNE0
          clear HNE0
          go_wp2_with fail
          go_cut [10] (fun s10 wx => s10 = .bool (bt || de) ∧ ∃ nd, wx = wr.drewN nd)
          case first =>
            have HNE := HNEH.out
            cases bt
            · go_quiet (fail)
              go_wp2_with fail
              go_meet
              exact ⟨rfl, _, rfl⟩
            · go_quiet (fail)
              go_wp2_with fail
              go_meet
              exact ⟨rfl, _, rfl⟩
          case rest =>
          obtain ⟨rfl, nd, hwc⟩ := hcut
          have HJC1 : Hid (Chg [] w6 wc) := Lib.hid (by rw [hwc]; exact HJC.out.drewN nd)
          have HJR1 : Hid (IRow w6 wc (.slice ak K.length ck) K) := Lib.hid (by rw [hwc]; exact HJR.out.drew nd)
          clear hwc m0 m1 m2 m3 x0 x1 x2 x3 x4 x5 HJC HJR
          obtain ⟨wq, hwq⟩ : ∃ wq, wq = wc := ⟨_, rfl⟩
          rw [← hwq] at HJC1 HJR1 ⊢
          clear hwq
          obtain ⟨m0, m1, m2, m3⟩ := HMC.out wq HJC1.out
          obtain ⟨x0, ⟨x1, x2, x3, x4⟩, x5⟩ := HXC.out wq HJC1.out
          go_upto_region 21 with (fail)
          go_cut [93] (fun s93 wx => s93 = .bool kb ∧ ∃ nd, wx = wq.drewN nd)
          case first =>
            have HNE := HNEH.out
            cases de
            · go_quiet (fail)
              go_wp2_with fail
              go_meet
              exact ⟨by rw [HKY.out]; rfl, _, rfl⟩
            · by_cases hk3 : rk = 3
              · have qk : (rk != 3) = false := by simp [hk3]
                by_cases he0 : oe = 0
                · have qe : (oe != 0) = false := by simp [he0]
                  have HK : Hid (kb = false) := Lib.hid (by rw [HKY.out]; simp [hk3, he0])
                  clear hk3 he0
                  go_quiet (fail)
                  go_wp2_with fail
                  go_meet
                  exact ⟨by rw [HK.out], _, rfl⟩
                · have qe : (oe != 0) = true := by simp [he0]
                  have HK : Hid (kb = true) := Lib.hid (by rw [HKY.out]; simp [he0])
                  clear hk3 he0
                  go_quiet (fail)
                  go_wp2_with fail
                  go_meet
                  exact ⟨by rw [HK.out], _, rfl⟩
              · have qk : (rk != 3) = true := by simp [hk3]
                have HK : Hid (kb = true) := Lib.hid (by rw [HKY.out]; simp [hk3])
                clear hk3
                go_quiet (fail)
                go_wp2_with fail
                go_meet
                exact ⟨by rw [HK.out], _, rfl⟩
          case rest =>
          obtain ⟨rfl, nd2, hwc2⟩ := hcut
          have HJC2 : Hid (Chg [] w6 wc) := Lib.hid (by rw [hwc2]; exact HJC1.out.drewN nd2)
          have HJR2 : Hid (IRow w6 wc (.slice ak K.length ck) K) := Lib.hid (by rw [hwc2]; exact HJR1.out.drew nd2)
          clear hwc2 m0 m1 m2 m3 x0 x1 x2 x3 x4 x5 HJC1 HJR1 HKY HNEH
          obtain ⟨wv, hwv⟩ : ∃ wv, wv = wc := ⟨_, rfl⟩
          rw [← hwv] at HJC2 HJR2 ⊢
          clear hwv
          obtain ⟨m0, m1, m2, m3⟩ := HMC.out wv HJC2.out
          cases kb
          · rw [if_neg (by simp), List.append_nil] at HFS
            clear m0 m1 m2 m3
            go_wp2_with fail
            go_roundg (gk - 1)
            case measure => omega
            case rel => exact ⟨j + 1, by go_num, by rw [HTH.out], by omega, by omega, Lib.hid ⟨HJC2.out, by rw [HFS.out]; exact HJR2.out⟩⟩
          · rw [if_pos rfl] at HFS
            have hbs := HJC2.out.size
            have hro : wv.ownsRow w6.heap.size 38 4 (.slice ak K.length ck) K.length (K.flatMap idE) := HJR2.out
            go_wp2_with (at_builtin; refine wpList_app1L rfl _ _ _ rfl w6.heap.size elIds _ _ _ rfl hro 1 #[.int .i64 yc, .int .i64 yl, .int .i64 yn, .int .i64 yi] rfl rfl (by intro u hu; simp at hu; rcases hu with rfl | rfl | rfl | rfl <;> rfl) (by unfold maxLen; omega) (by omega) hbs ?_; intro g7 cap7 w7 ho7 hg7 hat7)
            have HEN := Lib.hid (HJR2.out.snoc (y := ⟨yc, yl, yn, yi⟩) HJC2.out ho7 hg7)
            clear ho7 hg7 hat7 hbs m0 m1 m2 m3
            go_roundg (gk - 1)
            case measure => omega
            case rel => exact ⟨j + 1, by go_num, by rw [HTH.out], by omega, by omega, Lib.hid ⟨HEN.out.2, by rw [HFS.out]; exact HEN.out.1⟩⟩
        · have hjn : j = nH := by omega
          have hjz : ¬ (j : Int) < (nH : Int) := by omega
          have htk : H.take j = H := List.take_of_length_le (by have := HNH.out; omega)
          rw [htk] at HJR ⊢
          obtain ⟨x0, ⟨x1, x2, x3, x4⟩, x5⟩ := HXC.out wr HJC.out
          have hkl : (H.filter KB).length ≤ 12 := Nat.le_trans (List.length_filter_le _ _) (by have := HNH.out; omega)
          have HNX : Hid (nextH H ⟨rk, ⟨xc, xl, xn, xi⟩, b⟩ oe = H.filter KB ++ if rk = 1 ∧ oe = 0 ∧ thereB H ⟨xc, xl, xn, xi⟩ = false then [⟨xc, xl, xn, xi⟩] else []) := Lib.hid (by rw [HKB.out]; rfl)
          have HNO : Hid (∀ y ∈ nextH H ⟨rk, ⟨xc, xl, xn, xi⟩, b⟩ oe, okD y) := Lib.hid (next_ok HOK.out hxo)
          clear htk
          obtain ⟨K, hK⟩ : ∃ K, K = H.filter KB := ⟨_, rfl⟩
          rw [← hK] at HJR HNX hkl
          obtain ⟨ak, ck, rfl, -⟩ := IdRow.of HJR.out
          obtain ⟨bt, hbt⟩ : ∃ bt, bt = thereB H ⟨xc, xl, xn, xi⟩ := ⟨_, rfl⟩
          rw [← hbt] at HNX ⊢
          clear hK hbt
          by_cases hk1 : rk = 1
          · by_cases he0 : oe = 0
            · have qe : (oe == 0) = true := by simp [he0]
              have qk : (rk == 1) = true := by simp [hk1]
              cases bt
              · rw [if_pos ⟨hk1, he0, rfl⟩] at HNX
                have hbs := HJC.out.size
                have hro : wr.ownsRow w6.heap.size 38 4 (.slice ak K.length ck) K.length (K.flatMap idE) := HJR.out
                go_wp2_with (at_builtin; refine wpList_app1L rfl _ _ _ rfl w6.heap.size elIds _ _ _ rfl hro 1 #[.int .i64 xc, .int .i64 xl, .int .i64 xn, .int .i64 xi] rfl rfl (by intro u hu; simp at hu; rcases hu with rfl | rfl | rfl | rfl <;> rfl) (by unfold maxLen; omega) (by omega) hbs ?_; intro g7 cap7 w7 ho7 hg7 hat7)
                have HEN := Lib.hid (HJR.out.snoc (y := ⟨xc, xl, xn, xi⟩) HJC.out ho7 hg7)
                clear ho7 hg7 hat7 hbs
                have HEX := Lib.hid (lists_next HO6.out HEN.out.2 HEN.out.1)
                go_roundg (gko - 1)
                case measure => omega
                case rel => exact ⟨i + 1, t', nextH H ⟨rk, ⟨xc, xl, xn, xi⟩, b⟩ oe, by go_num, by omega, by omega, Lib.hid ⟨HST.out, HEX.out.1, by rw [HNX.out]; exact HEX.out.2, HNO.out⟩⟩
              · rw [if_neg (by simp), List.append_nil] at HNX
                have HEX := Lib.hid (lists_next HO6.out HJC.out HJR.out)
                go_wp2_with fail
                go_roundg (gko - 1)
                case measure => omega
                case rel => exact ⟨i + 1, t', nextH H ⟨rk, ⟨xc, xl, xn, xi⟩, b⟩ oe, by go_num, by omega, by omega, Lib.hid ⟨HST.out, HEX.out.1, by rw [HNX.out]; exact HEX.out.2, HNO.out⟩⟩
            · have qe : (oe == 0) = false := by simp [he0]
              have qk : (rk == 1) = true := by simp [hk1]
              rw [if_neg (fun hh => he0 hh.2.1), List.append_nil] at HNX
              have HEX := Lib.hid (lists_next HO6.out HJC.out HJR.out)
              go_wp2_with fail
              go_roundg (gko - 1)
              case measure => omega
              case rel => exact ⟨i + 1, t', nextH H ⟨rk, ⟨xc, xl, xn, xi⟩, b⟩ oe, by go_num, by omega, by omega, Lib.hid ⟨HST.out, HEX.out.1, by rw [HNX.out]; exact HEX.out.2, HNO.out⟩⟩
          · have qk : (rk == 1) = false := by simp [hk1]
            rw [if_neg (fun hh => hk1 hh.1), List.append_nil] at HNX
            have HEX := Lib.hid (lists_next HO6.out HJC.out HJR.out)
            go_wp2_with fail
            go_roundg (gko - 1)
            case measure => omega
            case rel => exact ⟨i + 1, t', nextH H ⟨rk, ⟨xc, xl, xn, xi⟩, b⟩ oe, by go_num, by omega, by omega, Lib.hid ⟨HST.out, HEX.out.1, by rw [HNX.out]; exact HEX.out.2, HNO.out⟩⟩
    · have hiz : ¬ (i : Int) < (n : Int) := by omega
      have CL := Lib.hid (own_doI HOT.out ⟨4, ⟨0, 0, 0, 0⟩, []⟩ (.slice none 0 0) HLA.out.list (by decide) (BytesAt.nil _) (by simp) (by simp) (HLA.out.lim hi50).1 (HLA.out.lim hi50).2.1 (HLA.out.lim hi50).2.2)
      dsimp only at CL
      go_wp2_with fail
      refine CL.out.mono ?_
      rintro e w4 ⟨a4, c4, a5, c5, he, -, -, hi4, ho4, hk4⟩
      dsimp only at he hi4
      subst he
      obtain ⟨w5, hw5⟩ : ∃ w5, w5 = w4.alloc (.cells #[.int .i64 0, .slice a4 0 c4, .slice a5 t.ids.length c5, .int .i64 0, .bool false] 32) := ⟨_, rfl⟩
      have hcA : Chg [] w4 w5 := by rw [hw5]; exact (Chg.refl _ _).alloc _
      have hbA : w5.heap[w4.heap.size]? = some (.cells #[.int .i64 0, .slice a4 0 c4, .slice a5 t.ids.length c5, .int .i64 0, .bool false] 32 (0, 0)) := by rw [hw5]; exact heap_alloc_new w4 _
      have HO5 := Lib.hid (ho4.keep0 hcA)
      have HH4 : Hid (IRow w1 w4 (.slice ah nH ch) H) := Lib.hid (HHV.out.keep (fun g hg => hk4 g (by simpa using hg)))
      have HH5 : Hid (IdRow w5 (.slice ah nH ch) H) := Lib.hid (by
        have h1 := HH4.out
        rw [HNH.out] at h1 ⊢
        exact (IdRow.of h1).keep hcA)
      have HI5 := Lib.hid ((IdRow.of hi4).keep hcA)
      have HA5 := Lib.hid hbA
      have CI := Lib.hid (own_told HO5.out ⟨0, 0, 0, 0⟩ HLA.out.info (by decide) (HLA.out.lim hi50).1 (HLA.out.lim hi50).2.1 (HLA.out.lim hi50).2.2)
      dsimp only at CI
      rw [← HNH.out] at CI
      have hil : t.ids.length = nH := HLA.out.ends.1.trans HNH.out.symm
      have HIN2 := Lib.hid HLA.out.ends.2.2
      have HIO := Lib.hid HLA.out.idsok
      obtain ⟨I, hI⟩ : ∃ I, I = t.ids := ⟨_, rfl⟩
      rw [← hI] at HIN2 HIO hil HI5 HA5 hw5 ⊢
      clear hi4 ho4 hk4 hcA hbA hI CL HH4
      rw [hil] at HI5 HA5 hw5 ⊢
      have HW5 := Lib.hid hw5
      have HIL := Lib.hid hil
      clear hil hw5
      go_wp2_with fail
      rw [← HW5.out]
      refine CI.out.mono ?_
      rintro e w6 ⟨a6, c6, a7, c7, he, -, -, ho6, hc6⟩
      dsimp only at he
      subst he
      have hcB : Chg [] w6 (w6.alloc (.cells #[.int .i64 0, .slice a6 0 c6, .slice a7 0 c7, .int .i64 (12 - (nH : Int)), .bool t.whole] 32)) := (Chg.refl _ _).alloc _
      have hI := heap_alloc_new w6 (.cells #[.int .i64 0, .slice a6 0 c6, .slice a7 0 c7, .int .i64 (12 - (nH : Int)), .bool t.whole] 32)
      obtain ⟨w7, hw7⟩ : ∃ w7, w7 = w6.alloc (.cells #[.int .i64 0, .slice a6 0 c6, .slice a7 0 c7, .int .i64 (12 - (nH : Int)), .bool t.whole] 32) := ⟨_, rfl⟩
      rw [← hw7] at hcB hI
      have HC57 : Hid (Chg [] w5 w7) := Lib.hid (hc6.trans hcB (by simp))
      have HCF : Hid (Chg [] w w7) := Lib.hid ((HC1.out.trans ho6.chg (by simp)).trans hcB (by simp))
      have hA := HC57.out.keep HA5.out (by simp)
      have k2 := blk_cell hA 2 _ rfl
      have i3 := blk_cell hI 3 _ rfl
      have HA7 := Lib.hid hA
      have HH7 := Lib.hid (HH5.out.keep HC57.out)
      have HI7 := Lib.hid (HI5.out.keep HC57.out)
      have HW7 := Lib.hid hw7
      clear hcB hI hA hw7 ho6 hc6 CI
      have q0 : (decide ((nH : Int) = nH)) = true := decide_eq_true rfl
      go_upto_region 28 with (fail)
      rw [← HW7.out]
      go_wp2_with fail
      go_loopg [16, 17, 18] nH (fun g' s16 s17 s18 wr => ∃ i : Nat, s16 = .int .i64 (i : Int) ∧ i ≤ nH ∧ nH ≤ i + g' ∧ Hid (Chg [] w7 wr))
      case atStart => exact ⟨0, rfl, by omega, by omega, Lib.hid (Chg.refl _ _)⟩
      case round =>
        obtain ⟨i, rfl, hi, hig, HC⟩ := hrel
        clear k2 i3
        by_cases hlt : i < nH
        · have hiz : (i : Int) < (nH : Int) := by omega
          have hiz1 : (i : Int).toNat = i := by omega
          obtain ⟨g1, ⟨xc, xl, xn, xi⟩, ha1, hx, p0, p1, p2, p3⟩ : ∃ g y, ah = some ⟨g, 0, none⟩ ∧ H[i]? = some y ∧ w7.cell? ⟨g, i * 4, none⟩ = some (.int .i64 y.c) ∧ w7.cell? ⟨g, i * 4 + 1, none⟩ = some (.int .i64 y.l) ∧ w7.cell? ⟨g, i * 4 + 2, none⟩ = some (.int .i64 y.n) ∧ w7.cell? ⟨g, i * 4 + 3, none⟩ = some (.int .i64 y.i) := by
            obtain ⟨a', c', e1, e2⟩ := HH7.out
            obtain ⟨rfl, -, -⟩ := Value.slice.inj e1
            exact e2 i (by have := HNH.out; omega)
          subst ha1
          dsimp only at p0 p1 p2 p3
          have HXC : Hid (∀ w', Chg [] w7 w' → w'.cell? ⟨g1, i * 4, none⟩ = some (.int .i64 xc) ∧ w'.cell? ⟨g1, i * 4 + 1, none⟩ = some (.int .i64 xl) ∧ w'.cell? ⟨g1, i * 4 + 2, none⟩ = some (.int .i64 xn) ∧ w'.cell? ⟨g1, i * 4 + 3, none⟩ = some (.int .i64 xi)) := Lib.hid (fun w' hc => ⟨hc.cell p0 (by simp), hc.cell p1 (by simp), hc.cell p2 (by simp), hc.cell p3 (by simp)⟩)
          have hxo : okD ⟨xc, xl, xn, xi⟩ := HOK.out _ (List.mem_of_getElem? hx)
          have HXT : Hid (thereB I ⟨xc, xl, xn, xi⟩ = true) := Lib.hid (thereB_iff.2 (HIN2.out _ (List.mem_of_getElem? hx)))
          clear p0 p1 p2 p3 hx
          go_wp2_with fail
          obtain ⟨wo, hwo⟩ : ∃ wo : World, wo = wr := ⟨_, rfl⟩
          rw [← hwo] at HC ⊢
          clear hwo
          obtain ⟨gko, rfl⟩ : ∃ gko : Nat, gko = gk := ⟨_, rfl⟩
          go_loopg [17, 18] nH (fun g' s17 s18 wr => ∃ k : Nat, s18 = .int .i64 (k : Int) ∧ s17 = .bool (thereB (I.take k) ⟨xc, xl, xn, xi⟩) ∧ k ≤ nH ∧ nH ≤ k + g' ∧ Hid (Chg [] w7 wr))
          case atStart => exact ⟨0, rfl, rfl, by omega, by omega, HC⟩
          case round =>
            obtain ⟨k, rfl, rfl, hk, hkg, HC2⟩ := hrel
            have k2 := blk_cell (HC2.out.keep HA7.out (by simp)) 2 _ rfl
            by_cases hkl : k < nH
            · have hkz : (k : Int) < (nH : Int) := by omega
              have hkz1 : (k : Int).toNat = k := by omega
              obtain ⟨g2, ⟨yc, yl, yn, yi⟩, ha2, hy, m0, m1, m2, m3⟩ : ∃ g y, a5 = some ⟨g, 0, none⟩ ∧ I[k]? = some y ∧ w7.cell? ⟨g, k * 4, none⟩ = some (.int .i64 y.c) ∧ w7.cell? ⟨g, k * 4 + 1, none⟩ = some (.int .i64 y.l) ∧ w7.cell? ⟨g, k * 4 + 2, none⟩ = some (.int .i64 y.n) ∧ w7.cell? ⟨g, k * 4 + 3, none⟩ = some (.int .i64 y.i) := by
                obtain ⟨a', c', e1, e2⟩ := HI7.out
                obtain ⟨rfl, -, -⟩ := Value.slice.inj e1
                exact e2 k (by have := HIL.out; omega)
              subst ha2
              dsimp only at m0 m1 m2 m3
              replace m0 := HC2.out.cell m0 (by simp)
              replace m1 := HC2.out.cell m1 (by simp)
              replace m2 := HC2.out.cell m2 (by simp)
              replace m3 := HC2.out.cell m3 (by simp)
              obtain ⟨x0, x1, x2, x3⟩ := HXC.out wr HC2.out
              have hyo : okD ⟨yc, yl, yn, yi⟩ := HIO.out _ (List.mem_of_getElem? hy)
              have HTH := Lib.hid (thereB_succ I k hy ⟨xc, xl, xn, xi⟩)
              have HNE := fun w => eqin_id ⟨yc, yl, yn, yi⟩ ⟨xc, xl, xn, xi⟩ hyo hxo w
              obtain ⟨de, hde⟩ : ∃ de, de = decide ((⟨yc, yl, yn, yi⟩ : Id) = ⟨xc, xl, xn, xi⟩) := ⟨_, rfl⟩
              rw [← hde] at HTH HNE
              unfold idV idC at HNE
              dsimp only at HNE
              generalize thereB (I.take k) ⟨xc, xl, xn, xi⟩ = bt at *
              clear hde hy
              cases bt
              · go_wp2_with fail
                go_quiet (fail)
                go_wp2_with fail
                go_roundg (gk - 1)
                case measure => omega
                case rel => exact ⟨k + 1, by go_num, by rw [HTH.out]; rfl, by omega, by omega, Lib.hid (HC2.out.drewN nq)⟩
              · go_wp2_with fail
                go_quiet (fail)
                go_wp2_with fail
                go_roundg (gk - 1)
                case measure => omega
                case rel => exact ⟨k + 1, by go_num, by rw [HTH.out]; rfl, by omega, by omega, Lib.hid (HC2.out.drewN nq)⟩
            · have hkz : ¬ (k : Int) < (nH : Int) := by omega
              have htk : I.take k = I := List.take_of_length_le (by have := HIL.out; omega)
              rw [htk, HXT.out]
              clear htk
              go_wp2_with fail
              go_roundg (gko - 1)
              case measure => omega
              case rel => exact ⟨i + 1, by go_num, by omega, by omega, HC2⟩
        · have hiz : ¬ (i : Int) < (nH : Int) := by omega
          have HE : Hid (Chg [] w wr) := Lib.hid (HCF.out.trans HC.out (by simp))
          go_wp2_with fail
          go_ret
          exact ⟨rfl, HE.out⟩
end Go.Proofs.YtdkhmfcfihbjeaaGreatDoor.W

/- ServerLists: what the row asks. -/
namespace Go.Proofs.YtdkhmfcfihbjeaaGreatDoor.serverLists
set_option linter.unusedVariables false
open Go.RowKit Go.ChangeShapes Go.WideShapes
set_option maxRecDepth 100000 in
theorem walk {H : Type} {enc : TypeId × Value → H} {held : Bool} {base b0 : Nat} (v0 : Value) (d0 : DataW H) (p0 : List MemPlace) (X : World) (h0 : Value.okWide Tryz.prog X .any b0 22 v0) (k0 : DataW.Trod enc Tryz.prog X base (fun _ => true) held 22 v0 d0 p0) : Calls Tryz.prog 3 #[v0] X fun e w' => e = .returned (.bool true) ∧ Below X.heap.size X w' := by
  obtain ⟨a, n, cap, rfl⟩ := okWide_slice Tryz.underlying22 h0
  obtain ⟨f, hn, hin⟩ : ∃ f, n ≤ maxLen ∧ Go.Proofs.YtdkhmfcfihbjeaaGreatDoor.W.RqsAt X a n f := by
    obtain ⟨fuel, hf⟩ := k0
    rcases Go.Proofs.YtdkhmfcfihbjeaaGreatDoor.W.open_rqs hf with hcs | ⟨x, l, c, f, hcs, hl, hm, hd⟩
    · simp [Value.cells] at hcs
      obtain ⟨rfl, rfl, rfl⟩ := hcs
      exact ⟨fun _ => default, by unfold maxLen; omega, .inl rfl⟩
    · simp [Value.cells] at hcs
      obtain ⟨rfl, rfl, rfl⟩ := hcs
      exact ⟨f, Nat.le_trans hl hm, hd⟩
  exact (Go.Proofs.YtdkhmfcfihbjeaaGreatDoor.W.lists20_any a n cap f X hin).mono fun e w' ⟨h1, h2⟩ => ⟨h1, h2.below (by simp)⟩
end Go.Proofs.YtdkhmfcfihbjeaaGreatDoor.serverLists
