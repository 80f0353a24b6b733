/- Texts laid together. -/
import Derived.Test.YtbkajnjboipbhaaGreatDoorNP8
import Derived.Test.YtbkajnjboipbhaaGreatDoorNP7
import Derived.Test.YtbkajnjboipbhaaGreatDoorNP6
import Derived.Test.YtbkajnjboipbhaaGreatDoorNP2
import Derived.Test.YtbkajnjboipbhaaGreatDoorNP3
import Derived.Deep.DeepCutAuto
import Derived.Deep.CutBlock
/- A slice of deeds that came in: rows of seven cells, an id among them, the last a slice of bytes. -/
namespace Go.Proofs.YtbkajnjboipbhaaGreatDoor.W
open Go.RowKit Go.ChangeShapes Go.WideShapes
set_option linter.unusedVariables false
set_option linter.unusedSimpArgs false

structure Dd where
  k : Int
  n : Int
  x : Id
  bv : Value
  b : List UInt8
instance : Inhabited Dd := ⟨⟨0, 0, ⟨0, 0, 0, 0⟩, .slice none 0 0, []⟩⟩
structure DdAt (w : World) (g p : Nat) (r : Dd) : Prop where
  c0 : w.cell? ⟨g, p, none⟩ = some (.int .i64 r.k)
  c1 : w.cell? ⟨g, p + 1, none⟩ = some (.int .i64 r.n)
  c2 : w.cell? ⟨g, p + 2, none⟩ = some (.int .i64 r.x.c)
  c3 : w.cell? ⟨g, p + 3, none⟩ = some (.int .i64 r.x.l)
  c4 : w.cell? ⟨g, p + 4, none⟩ = some (.int .i64 r.x.n)
  c5 : w.cell? ⟨g, p + 5, none⟩ = some (.int .i64 r.x.i)
  c6 : w.cell? ⟨g, p + 6, none⟩ = some r.bv
  came : Came w r.bv r.b
  long : r.b.length ≤ maxLen
  wk : (Lit.int .i64 r.k).wf = true
  wn : (Lit.int .i64 r.n).wf = true
  wx : okD r.x
def DeedsAt (w : World) (a : Option Addr) (n : Nat) (f : Nat → Dd) : Prop := n = 0 ∨ ∃ g o, a = some ⟨g, o, none⟩ ∧ ∀ i, i < n → DdAt w g (o + i * 7) (f i)
theorem DdAt.keep {w w' : World} {g p : Nat} {r : Dd} (h : DdAt w g p r) (hc : Chg [] w w') : DdAt w' g p r :=
  ⟨hc.cell h.c0 (by simp), hc.cell h.c1 (by simp), hc.cell h.c2 (by simp), hc.cell h.c3 (by simp), hc.cell h.c4 (by simp), hc.cell h.c5 (by simp), hc.cell h.c6 (by simp), h.came.chg hc, h.long, h.wk, h.wn, h.wx⟩
theorem DeedsAt.keep {w w' : World} {a : Option Addr} {n : Nat} {f : Nat → Dd} (h : DeedsAt w a n f) (hc : Chg [] w w') : DeedsAt w' a n f := by
  rcases h with h | ⟨g, o, rfl, h⟩
  · exact .inl h
  · exact .inr ⟨g, o, rfl, fun i hi => (h i hi).keep hc⟩
section
variable {H : Type} {enc : TypeId × Value → H} {w : World} {base : Nat} {held : Bool}
theorem fieldsD : ∃ f0 f1 f2 f3 : Field, Tryz.prog.underlying 52 = some (.struct #[f0, f1, f2, f3]) ∧ f0.offset = 0 ∧ f1.offset = 1 ∧ f2.offset = 2 ∧ f3.offset = 6 ∧
    Tryz.prog.underlying f0.type = some (.int .i64) ∧ Tryz.prog.underlying f1.type = some (.int .i64) ∧ f2.type = 25 ∧ f3.type = 27 ∧
    Tryz.prog.cellsOf f0.type = 1 ∧ Tryz.prog.cellsOf f1.type = 1 ∧ Tryz.prog.cellsOf f3.type = 1 :=
  ⟨_, _, _, _, Tryz.underlying52, rfl, rfl, rfl, rfl, by kernel_rfl, by kernel_rfl, rfl, rfl, by kernel_rfl, by kernel_rfl, by kernel_rfl⟩
theorem cellsD : Tryz.prog.cellsOf 52 = 7 := by kernel_rfl
set_option maxRecDepth 100000 in
theorem open_deeds {fuel : Nat} {cs : List Value} {x : DataW H × List MemPlace} (h : DataW.trod enc Tryz.prog w base (fun _ => true) held fuel 48 cs = some x) :
    (cs = [.slice none 0 0]) ∨ ∃ (a : Addr) (len cap : Nat) (f : Nat → Dd), cs = [.slice (some a) len cap] ∧ len ≤ cap ∧ cap ≤ maxLen ∧ DeedsAt w (some a) len f := by
  rcases Go.Deep.open_slice Tryz.underlying48 h with ⟨h0, _⟩ | ⟨a, len, cap, m, n, D, Pl, rfl, hb, hl, hm, hmm, hx, hel⟩
  · exact .inl h0
  · right
    have hlm : len ≤ m := by rw [hmm]; split <;> omega
    obtain ⟨f0, f1, f2, f3, hs, o0, o1, o2, o3, t0, t1, t2, t3, c0, c1, c3⟩ := fieldsD
    have each : ∀ i, i < len → ∃ r : Dd, w.cell? (a.add (i * 7)) = some (.int .i64 r.k) ∧ w.cell? (a.add (i * 7 + 1)) = some (.int .i64 r.n) ∧ w.cell? (a.add (i * 7 + 2)) = some (.int .i64 r.x.c) ∧ w.cell? (a.add (i * 7 + 3)) = some (.int .i64 r.x.l) ∧ w.cell? (a.add (i * 7 + 4)) = some (.int .i64 r.x.n) ∧
        w.cell? (a.add (i * 7 + 5)) = some (.int .i64 r.x.i) ∧ w.cell? (a.add (i * 7 + 6)) = some r.bv ∧ Came w r.bv r.b ∧ r.b.length ≤ maxLen ∧ (Lit.int .i64 r.k).wf = true ∧ (Lit.int .i64 r.n).wf = true ∧ okD r.x := by
      intro i hi
      obtain ⟨cs', h1, h2⟩ := hel i (by omega)
      rw [cellsD] at h1
      obtain ⟨_, hlen, hcell⟩ := World.cells?_some h1
      obtain ⟨xs, k, hk, hxy, _, hxl, hf⟩ := DataW.trod_struct hs h2
      match xs, hxl, cs', hlen with
      | [y0, y1, y2, y3], _, [v0, v1, v2, v3, v4, v5, v6], _ =>
        have g0 := hf 0 f0 rfl
        have g1 := hf 1 f1 rfl
        have g2 := hf 2 f2 rfl
        have g3 := hf 3 f3 rfl
        rw [t2] at g2
        simp [o0, o1, o2, o3, c0, c1, c3, cells_id] at g0 g1 g2 g3
        rw [t3] at g3
        have e0 := hcell 0 (by omega)
        have e1 := hcell 1 (by omega)
        have e2 := hcell 2 (by omega)
        have e3 := hcell 3 (by omega)
        have e4 := hcell 4 (by omega)
        have e5 := hcell 5 (by omega)
        have e6 := hcell 6 (by omega)
        rw [Go.Deep.add_add] at e0 e1 e2 e3 e4 e5 e6
        obtain ⟨z0, q0, _, z0w⟩ := DataW.trod_int t0 g0
        obtain ⟨z1, q1, _, z1w⟩ := DataW.trod_int t1 g1
        obtain ⟨y, hy, rfl, rfl, rfl, rfl⟩ := open_idc g2
        obtain ⟨z3, l3, q3, m3, ml⟩ := open_came g3
        simp at q0 q1 q3
        subst q0; subst q1; subst q3
        refine ⟨⟨z0, z1, y, v6, l3⟩, by simpa using e0, by simpa using e1, by simpa using e2, by simpa using e3, by simpa using e4, by simpa using e5, by simpa using e6, m3, ml, ?_, ?_, hy⟩
        · first | exact z0w | exact z0w.1
        · first | exact z1w | exact z1w.1
    obtain ⟨f, hf⟩ := Go.Deep.choose_lt each
    refine ⟨a, len, cap, f, rfl, hl, hm, ?_⟩
    by_cases h0 : len = 0
    · exact .inl h0
    · right
      obtain ⟨g, o, spot⟩ := a
      have hc := (hf 0 (by omega)).1
      have hspot : spot = none := by simpa [Addr.add] using World.cell?_spot hc
      subst hspot
      refine ⟨g, o, rfl, fun i hi => ?_⟩
      obtain ⟨c0, c1, c2, c3, c4, c5, c6, c7, c8, c9, ca, cb⟩ := hf i hi
      rw [add_none] at c0 c1 c2 c3 c4 c5 c6
      exact ⟨c0, by simpa [Nat.add_assoc] using c1, by simpa [Nat.add_assoc] using c2, by simpa [Nat.add_assoc] using c3, by simpa [Nat.add_assoc] using c4, by simpa [Nat.add_assoc] using c5, by simpa [Nat.add_assoc] using c6, c7, c8, c9, ca, cb⟩
end
end Go.Proofs.YtbkajnjboipbhaaGreatDoor.W

/- The laws' Room; Ops; plain steps. -/
namespace Go.Proofs.YtbkajnjboipbhaaGreatDoor.W
open Go.RowKit
set_option linter.unusedVariables false
set_option linter.unusedSimpArgs false

def Few (n most : Nat) (f : Nat → Dd) : Prop := n ≤ most ∧ ∀ i, i < n → (f i).b.length ≤ 600
set_option maxHeartbeats 8000000 in
set_option maxRecDepth 100000 in
theorem room6_any (a : Option Addr) (n cap most : Nat) (f : Nat → Dd) (w : World) (h : DeedsAt w a n f) (hm : most ≤ 1000) :
    Calls Tryz.prog 24 #[.slice a n cap, .int .i64 (most : Int)] w fun e w' => (e = .returned (.bool true) ∧ Few n most f ∨ e = .returned (.bool false)) ∧ w = w' := by
  by_cases hn : n ≤ most
  · have hz : ¬ (most : Int) < (n : Int) := by omega
    have HD := Lib.hid h
    clear h
    go_enter Tryz.func24, Tryz.ntmps24
    go_wp2
    go_loopg [5] n (fun g' s5 wr => ∃ k : Nat, s5 = .int .i64 k ∧ k ≤ n ∧ n ≤ k + g' ∧ w = wr ∧ Hid (∀ i, i < k → (f i).b.length ≤ 600))
    case atStart => exact ⟨0, rfl, by omega, by omega, rfl, Lib.hid (fun i hi => by omega)⟩
    case round =>
      obtain ⟨k, rfl, hk, hkg, rfl, HF⟩ := hrel
      by_cases hlt : k < n
      · obtain ⟨g, o, rfl, hc⟩ : ∃ g o, a = some ⟨g, o, none⟩ ∧ ∀ i, i < n → DdAt w g (o + i * 7) (f i) := by
          rcases HD.out with h | h
          · omega
          · exact h
        have hd := hc k hlt
        have c6 := hd.c6
        obtain ⟨a4, q4, e4⟩ := hd.came.1.slice
        have hll := hd.long
        rw [e4] at c6
        clear hc hd e4
        have hkz : (k : Int) < (n : Int) := by omega
        have hkz1 : (k : Int).toNat = k := by omega
        obtain ⟨l4, h4⟩ : ∃ l4, l4 = (f k).b.length := ⟨_, rfl⟩
        rw [← h4] at c6 hll
        have H4 := Lib.hid h4
        have hl5 : l4 ≤ 9223372036854775807 := by unfold maxLen at hll; omega
        clear h4
        by_cases hsb : l4 ≤ 600
        · have hz4 : ¬ (600 : Int) < (l4 : Int) := by omega
          go_wp2
          go_roundg (gk - 1)
          case measure => omega
          case rel => exact ⟨k + 1, by go_num, by omega, by omega, rfl, Lib.hid (fun i hi => by
            by_cases hik : i = k
            · subst hik; rw [← H4.out]; exact hsb
            · exact HF.out i (by omega))⟩
        · have hz4 : (600 : Int) < (l4 : Int) := by omega
          go_wp2
          go_ret
          exact ⟨.inr rfl, rfl⟩
      · have hkn : k = n := by omega
        go_wp2
        go_ret
        exact ⟨.inl ⟨rfl, hn, fun i hi => HF.out i (by omega)⟩, rfl⟩
  · have hz : (most : Int) < (n : Int) := by omega
    clear h
    go_enter Tryz.func24, Tryz.ntmps24
    go_wp2
    go_ret
    exact ⟨.inr rfl, rfl⟩

/-- A store of known fragments, after any Put. -/
theorem Kept.put_any {t : Sto} {F : Frag} (h : Kept t F) (x : Id) (b : List UInt8) : (∃ F', Kept (t.put x b).2 F') ∧ ((t.put x b).1 = 0 → (t.put x b).2.put x b = (0, (t.put x b).2)) := by
  by_cases hbad : mayId x = false ∨ 448 < b.length
  · obtain ⟨h1, h2⟩ := h.put_bad hbad
    exact ⟨⟨F, by rw [h2]; exact h⟩, fun h0 => absurd h0 h1⟩
  · have hm : mayId x = true := by
      cases hh : mayId x with
      | true => rfl
      | false => exact absurd (.inl hh) hbad
    have hl : b.length ≤ 448 := by
      rcases Nat.lt_or_ge 448 b.length with h1 | h1
      · exact absurd (.inr h1) hbad
      · exact h1
    cases hF : F x with
    | some c =>
      have e := h.put_there hF b hl
      rw [e]
      refine ⟨⟨F, h⟩, fun h0 => ?_⟩
      dsimp only at h0 ⊢
      rw [e]
      by_cases hc : c = b
      · rw [if_pos hc]
      · rw [if_neg hc] at h0; simp at h0
    | none =>
      by_cases hr : 0 < t.room
      · obtain ⟨p1, p2, p3⟩ := h.put_new hm hF hl hr
        refine ⟨⟨_, p2⟩, fun _ => ?_⟩
        rw [p2.put_there (setF_self _ _ _) b hl, if_pos rfl]
      · have e := h.put_full hm hF hl (by omega)
        rw [e]
        exact ⟨⟨F, h⟩, fun h0 => by simp at h0⟩
theorem Kept.del_any {t : Sto} {F : Frag} (h : Kept t F) (x : Id) : (∃ F', Kept (t.del x).2 F') ∧ ((t.del x).1 = 0 → (t.del x).2.del x = (0, (t.del x).2)) := by
  cases hm : mayId x with
  | false =>
    have e := Kept.del_bad (t := t) hm
    rw [e]
    exact ⟨⟨F, h⟩, fun h0 => by simp at h0⟩
  | true =>
    obtain ⟨d1, d2, _, _, _, _⟩ := h.del hm
    refine ⟨⟨_, d2⟩, fun _ => ?_⟩
    obtain ⟨e1, e2, e3, e4, _, _⟩ := d2.del hm
    exact Prod.ext e1 (e4 (setF_self _ _ _))
theorem Sto.del_rows (t : Sto) (x : Id) {F : Frag} (h : Kept t F) : (t.del x).2.s.rows.length = t.s.rows.length := by
  cases hm : mayId x with
  | false => rw [Kept.del_bad hm]
  | true => exact (h.del hm).2.2.2.2.2
structure AgainAt (t : Sto) (i : Nat) : Prop where
  kept : ∃ F, Kept t F
  rows : t.s.rows.length = 8
  small : t.s.d.ops ≤ 100 + 60 * i
theorem AgainAt.zero {t : Sto} {i : Nat} (h : AgainAt t i) : t.s.d.since.length = 0 := by obtain ⟨F, hF⟩ := h.kept; rw [hF.since]; rfl
theorem AgainAt.new : ∃ t d, (DS.new 65).format = ((0, some t), d) ∧ AgainAt t 0 := by
  obtain ⟨t, d, h1, h2, h3, h4, h5, h6, _⟩ := Kept.new 65 (by omega)
  exact ⟨t, d, h1, ⟨_, h2⟩, by rw [h4, List.length_replicate], by rw [h3]; omega⟩
theorem AgainAt.put {t : Sto} {i : Nat} (h : AgainAt t i) (x : Id) (b : List UInt8) : AgainAt (t.put x b).2 (i + 1) ∧ ((t.put x b).1 = 0 → (t.put x b).2.put x b = (0, (t.put x b).2)) := by
  obtain ⟨F, hF⟩ := h.kept
  obtain ⟨h1, h2⟩ := hF.put_any x b
  obtain ⟨o1, _, _, o4, _⟩ := t.put_ok x b
  have := h.small
  exact ⟨⟨h1, by rw [o4, h.rows], by omega⟩, h2⟩
theorem AgainAt.del {t : Sto} {i : Nat} (h : AgainAt t i) (x : Id) : AgainAt (t.del x).2 (i + 1) ∧ ((t.del x).1 = 0 → (t.del x).2.del x = (0, (t.del x).2)) := by
  obtain ⟨F, hF⟩ := h.kept
  obtain ⟨h1, h2⟩ := hF.del_any x
  obtain ⟨o1, _⟩ := t.del_ok x
  have hr := h.rows
  have := h.small
  exact ⟨⟨h1, by rw [t.del_rows x hF, hr], by omega⟩, h2⟩
theorem AgainAt.next {t : Sto} {i : Nat} (h : AgainAt t i) : AgainAt t (i + 1) := ⟨h.kept, h.rows, by have := h.small; omega⟩
end Go.Proofs.YtbkajnjboipbhaaGreatDoor.W

/- The reference's NewDisk. -/
namespace Go.Proofs.YtbkajnjboipbhaaGreatDoor.W
open Go.RowKit
set_option linter.unusedVariables false
set_option linter.unusedSimpArgs false

def ncs (nv lv : Value) : Array Value := #[nv, lv, .slice none 0 0, .slice none 0 0, .int .i64 0, .int .i64 (-1), .bool false]
def nrows (nv lv : Value) (NV LV : List Value) : List RowD := [⟨27, 1, nv, NV.length, NV⟩, ⟨27, 1, lv, LV.length, LV⟩, ⟨3, 1, .slice none 0 0, 0, []⟩, ⟨27, 1, .slice none 0 0, 0, []⟩]
/-- A disk that grows. -/
structure NewAt (w0 w : World) (m : Nat) (nv lv : Value) (NV LV : List Value) : Prop where
  obj : ObjAt w m 78 (ncs nv lv) (nrows nv lv NV LV)
  now : ∀ c ∈ NV, BytesAt w c (zeros 64) ∧ ∀ g, c.ownBlock = some g → w0.heap.size ≤ g
  lasts : ∀ c ∈ LV, No8 c
  no8 : ∀ x ∈ blks m (nrows nv lv NV LV), NoU8 w x
  new : ∀ x ∈ blks m (nrows nv lv NV LV), w0.heap.size ≤ x
  chg : Chg [] w0 w
theorem zeros_ne : zeros 64 ≠ [] := by simp [zeros]
theorem NewAt.row {w0 w : World} {m : Nat} {nv lv : Value} {NV LV : List Value} (h : NewAt w0 w m nv lv NV LV) : w.ownsRow 0 27 1 nv NV.length NV ∧ w.ownsRow 0 27 1 lv LV.length LV :=
  ⟨h.obj.rows ⟨27, 1, nv, NV.length, NV⟩ (by simp [nrows]), h.obj.rows ⟨27, 1, lv, LV.length, LV⟩ (by simp [nrows])⟩
theorem NewAt.row8 {w0 w : World} {m : Nat} {nv lv : Value} {NV LV : List Value} (h : NewAt w0 w m nv lv NV LV) : (∀ x, nv.ownBlock = some x → NoU8 w x) ∧ (∀ x, lv.ownBlock = some x → NoU8 w x) ∧ (∀ c ∈ NV, No8 c) :=
  ⟨fun x hx => h.no8 x (blks_row (r := ⟨27, 1, nv, NV.length, NV⟩) (by simp [nrows]) hx), fun x hx => h.no8 x (blks_row (r := ⟨27, 1, lv, LV.length, LV⟩) (by simp [nrows]) hx), fun c hc => (h.now c hc).1.no8⟩
theorem NewAt.keep {w0 w w' : World} {m : Nat} {nv lv : Value} {NV LV : List Value} (h : NewAt w0 w m nv lv NV LV) (hc : Chg [] w w') : NewAt w0 w' m nv lv NV LV :=
  ⟨h.obj.keep hc (by simp), fun c hm => ⟨(h.now c hm).1.chg hc (by simp), (h.now c hm).2⟩, h.lasts, fun x hx => (h.no8 x hx).keep (hc.block x (h.obj.lim x hx) (by simp)), h.new, h.chg.trans hc (by simp)⟩
theorem NewAt.put {w0 w w3 : World} {m : Nat} {nv lv nv' lv' : Value} {NV LV NV' LV' : List Value} (h : NewAt w0 w m nv lv NV LV) (ho : ObjAt w3 m 78 (ncs nv' lv') (nrows nv' lv' NV' LV'))
    (hb : ∀ x ∈ blks m (nrows nv' lv' NV' LV'), x ∈ blks m (nrows nv lv NV LV) ∨ w.heap.size ≤ x) (hc : Chg (blks m (nrows nv lv NV LV)) w w3) (h8 : ∀ x ∈ blks m (nrows nv' lv' NV' LV'), NoU8 w3 x)
    (hN : ∀ c ∈ NV', c ∈ NV ∨ (BytesAt w c (zeros 64) ∧ ∀ g, c.ownBlock = some g → w0.heap.size ≤ g)) (hL : ∀ c ∈ LV', No8 c) : NewAt w0 w3 m nv' lv' NV' LV' := by
  refine ⟨ho, fun c hm => ?_, hL, h8, fun x hx => ?_, h.chg.trans hc (fun x hx => .inr (h.new x hx))⟩
  · have h1 : BytesAt w c (zeros 64) ∧ ∀ g, c.ownBlock = some g → w0.heap.size ≤ g := by
      rcases hN c hm with h1 | h1
      · exact h.now c h1
      · exact h1
    exact ⟨h1.1.chg hc (fun g hg hgm => (h.no8 g hgm).not_bytes c _ h1.1 zeros_ne hg), h1.2⟩
  · rcases hb x hx with h1 | h1
    · exact h.new x h1
    · exact Nat.le_trans h.chg.size h1
theorem NewAt.put0 {w0 w w2 : World} {m : Nat} {nv lv : Value} {NV LV : List Value} (h : NewAt w0 w m nv lv NV LV) (u : Value) (g cap : Nat) (hg : w.grownBy w2 nv.ownBlock)
    (hrow : w2.ownsRow 0 27 1 (.slice (some ⟨g, 0, none⟩) (NV.length + 1) cap) (NV.length + 1) (NV ++ [u])) (hat : nv.ownBlock = some g ∨ g = w.heap.size) (h8 : NoU8 w2 g)
    (hu : BytesAt w u (zeros 64)) (hun : ∀ g, u.ownBlock = some g → w0.heap.size ≤ g) : NewAt w0 (w2.setCell ⟨m, 0, none⟩ (.slice (some ⟨g, 0, none⟩) (NV.length + 1) cap)) m (.slice (some ⟨g, 0, none⟩) (NV.length + 1) cap) lv (NV ++ [u]) LV := by
  have hloc : ∀ k, (Value.slice (some ⟨g, 0, none⟩) (NV.length + 1) cap).ownBlock = some k → nv.ownBlock = some k ∨ w.heap.size ≤ k := fun k hk => by
    obtain rfl : g = k := by simpa [Value.ownBlock] using hk
    rcases hat with h4 | h4
    · exact .inl h4
    · exact .inr (by omega)
  have hobj : ObjAt w m 78 (ncs nv lv) ([] ++ (⟨27, 1, nv, NV.length, NV⟩ : RowD) :: [⟨27, 1, lv, LV.length, LV⟩, ⟨3, 1, .slice none 0 0, 0, []⟩, ⟨27, 1, .slice none 0 0, 0, []⟩]) := h.obj
  obtain ⟨o1, o2, o3⟩ := hobj.field (r' := ⟨27, 1, .slice (some ⟨g, 0, none⟩) (NV.length + 1) cap, (NV ++ [u]).length, NV ++ [u]⟩) 0 hg (by
    show w2.ownsRow 0 27 1 (.slice (some ⟨g, 0, none⟩) (NV.length + 1) cap) (NV ++ [u]).length (NV ++ [u])
    rw [List.length_append]
    exact hrow) hloc
  have o8 := hobj.field8 h.no8 0 hg (r' := ⟨27, 1, .slice (some ⟨g, 0, none⟩) (NV.length + 1) cap, (NV ++ [u]).length, NV ++ [u]⟩) hloc (fun y hy => by
    obtain rfl : g = y := by simpa [Value.ownBlock] using hy
    exact h8) no8_slice
  exact h.put o1 o2 o3 o8 (fun c hc => by
    rcases List.mem_append.1 hc with hc | hc
    · exact .inl hc
    · rw [List.mem_singleton.1 hc]; exact .inr ⟨hu, hun⟩) h.lasts
theorem NewAt.put1 {w0 w w2 : World} {m : Nat} {nv lv : Value} {NV LV : List Value} (h : NewAt w0 w m nv lv NV LV) (u : Value) (g cap : Nat) (hg : w.grownBy w2 lv.ownBlock)
    (hrow : w2.ownsRow 0 27 1 (.slice (some ⟨g, 0, none⟩) (LV.length + 1) cap) (LV.length + 1) (LV ++ [u])) (hat : lv.ownBlock = some g ∨ g = w.heap.size) (h8 : NoU8 w2 g)
    (hu : No8 u) : NewAt w0 (w2.setCell ⟨m, 1, none⟩ (.slice (some ⟨g, 0, none⟩) (LV.length + 1) cap)) m nv (.slice (some ⟨g, 0, none⟩) (LV.length + 1) cap) NV (LV ++ [u]) := by
  have hloc : ∀ k, (Value.slice (some ⟨g, 0, none⟩) (LV.length + 1) cap).ownBlock = some k → lv.ownBlock = some k ∨ w.heap.size ≤ k := fun k hk => by
    obtain rfl : g = k := by simpa [Value.ownBlock] using hk
    rcases hat with h4 | h4
    · exact .inl h4
    · exact .inr (by omega)
  have hobj : ObjAt w m 78 (ncs nv lv) ([⟨27, 1, nv, NV.length, NV⟩] ++ (⟨27, 1, lv, LV.length, LV⟩ : RowD) :: [⟨3, 1, .slice none 0 0, 0, []⟩, ⟨27, 1, .slice none 0 0, 0, []⟩]) := h.obj
  obtain ⟨o1, o2, o3⟩ := hobj.field (r' := ⟨27, 1, .slice (some ⟨g, 0, none⟩) (LV.length + 1) cap, (LV ++ [u]).length, LV ++ [u]⟩) 1 hg (by
    show w2.ownsRow 0 27 1 (.slice (some ⟨g, 0, none⟩) (LV.length + 1) cap) (LV ++ [u]).length (LV ++ [u])
    rw [List.length_append]
    exact hrow) hloc
  have o8 := hobj.field8 h.no8 1 hg (r' := ⟨27, 1, .slice (some ⟨g, 0, none⟩) (LV.length + 1) cap, (LV ++ [u]).length, LV ++ [u]⟩) hloc (fun y hy => by
    obtain rfl : g = y := by simpa [Value.ownBlock] using hy
    exact h8) no8_slice
  exact h.put o1 o2 o3 o8 (fun c hc => .inl hc) (fun c hc => by
    rcases List.mem_append.1 hc with hc | hc
    · exact h.lasts c hc
    · rw [List.mem_singleton.1 hc]; exact hu)
/-- What NewDisk leaves. -/
def RNewly (w w' : World) (m : Nat) (V F : List Nat) (d : DS) : Prop := RDiskAt w' m V F d ∧ (∀ x ∈ F, w.heap.size ≤ x) ∧ Chg [] w w'
theorem NewAt.done {w0 w : World} {m n : Nat} {nv lv : Value} {NV LV : List Value} (h : NewAt w0 w m nv lv NV LV) (hN : NV.length = n) (hL : LV.length = n) (hn : n ≤ 4160) : ∃ V F, RNewly w0 w m V F (DS.new n) := by
  have hrows : nrows nv lv NV LV = rrows n nv lv (.slice none 0 0) (.slice none 0 0) NV LV [] [] := by unfold nrows rrows; rw [hN, hL]; rfl
  refine ⟨blks m (nrows nv lv NV LV), blks m (nrows nv lv NV LV) ++ NV.flatMap (fun c => c.ownBlock.toList), ⟨nv, lv, .slice none 0 0, .slice none 0 0, NV, LV, [], [], ?_⟩, fun x hx => ?_, h.chg⟩
  · refine ⟨?_, fun k hk => ?_, h.lasts, ⟨by simp, by simp⟩, ⟨by simp, by simp⟩, hn, ⟨by simp [DS.new], by simp [DS.new]⟩, by rw [hrows]; rfl, h.no8, fun x hx => List.mem_append_left _ hx, fun x hx => ?_⟩
    · have := h.obj
      rw [hrows] at this
      exact this
    · have hk : k < n := hk
      have hm : NV.getD k undef ∈ NV := by rw [List.getD_eq_getElem?_getD, List.getElem?_eq_getElem (by omega)]; exact List.getElem_mem _
      obtain ⟨b1, b2⟩ := h.now _ hm
      refine ⟨by simp [DS.new, zeros], b1, fun g hg => ⟨List.mem_append_right _ (List.mem_flatMap.2 ⟨_, hm, by rw [hg]; simp⟩), fun hgm => (h.no8 g hgm).not_bytes _ _ b1 zeros_ne hg⟩⟩
    · rcases List.mem_append.1 hx with hx | hx
      · exact h.obj.lim x hx
      · obtain ⟨c, hc, hx⟩ := List.mem_flatMap.1 hx
        exact (h.now c hc).1.lt zeros_ne x (by simpa using hx)
  · rcases List.mem_append.1 hx with hx | hx
    · exact h.new x hx
    · obtain ⟨c, hc, hx⟩ := List.mem_flatMap.1 hx
      exact (h.now c hc).2 x (by simpa using hx)
theorem new_at (w : World) : NewAt w (w.alloc (.cells (ncs (.slice none 0 0) (.slice none 0 0)) 78)) w.heap.size (.slice none 0 0) (.slice none 0 0) [] [] := by
  have hh := heap_alloc_new w (.cells (ncs (.slice none 0 0) (.slice none 0 0)) 78)
  have hb : blks w.heap.size (nrows (.slice none 0 0) (.slice none 0 0) [] []) = [w.heap.size] := rfl
  refine ⟨⟨hh, fun r hr => ?_, by rw [hb]; simp⟩, by simp, by simp, fun x hx => ?_, fun x hx => ?_, (Chg.refl _ _).alloc _⟩
  · simp only [nrows, List.mem_cons, List.mem_nil_iff, or_false] at hr
    rcases hr with rfl | rfl | rfl | rfl <;> exact World.ownsRow_nil _ _ _ _
  · rw [hb] at hx
    rw [List.mem_singleton.1 hx]
    refine NoU8.mk hh (no8_list (l := [_, _, _, _, _, _, _]) ?_)
    intro c hc
    simp only [List.mem_cons, List.mem_nil_iff, or_false] at hc
    rcases hc with rfl | rfl | rfl | rfl | rfl | rfl | rfl <;> (intro z; simp)
  · rw [hb] at hx
    rw [List.mem_singleton.1 hx]
    exact Nat.le_refl _
def NewPost (w : World) (n : Nat) (e : Ending) (w' : World) : Prop := ∃ m V F, e = .returned (.tuple #[.pointer (some ⟨m, 0, none⟩), .int .i64 0]) ∧ RNewly w w' m V F (DS.new n)

set_option maxHeartbeats 8000000 in
set_option maxRecDepth 100000 in
theorem rnewdisk_any (n : Nat) (wA : World) (h2 : 2 ≤ n) (hm : n ≤ 4160) : Calls Tryz.prog 39 #[.int .i64 (n : Int)] wA (NewPost wA n) := by
  have q1 : decide ((n : Int) < 2) = false := decide_eq_false (by omega)
  have q2 : decide ((n : Int) > 4160) = false := decide_eq_false (by omega)
  have hmk := make_64
  obtain ⟨i3, hi3, hz3, hs3, hy3⟩ := info_parts facts_bytes
  have I3 := Lib.hid (And.intro hi3 (And.intro hz3 (And.intro hs3 hy3)))
  obtain ⟨m, hmm⟩ : ∃ m, m = wA.heap.size := ⟨_, rfl⟩
  have HM := Lib.hid hmm
  have HN0 := Lib.hid (new_at wA)
  clear hi3 hz3 hs3 hy3 hmm
  go_enter Tryz.func39, Tryz.ntmps39
  go_wp2_with fail
  rw [← HM.out]
  go_loopg [5] n (fun g' s5 wr => ∃ (i : Nat), s5 = .int .i64 (i : Int) ∧ i ≤ n ∧ n ≤ i + g' ∧ Hid (∃ nv lv NV LV, NewAt wA wr m nv lv NV LV ∧ NV.length = i ∧ LV.length = i))
  case atStart => exact ⟨0, rfl, by omega, by omega, Lib.hid ⟨_, _, _, _, by rw [HM.out]; exact HN0.out, rfl, rfl⟩⟩
  case round =>
    obtain ⟨i, rfl, hi, hig, HR⟩ := hrel
    by_cases hlt : i < n
    · have hiz : (i : Int) < (n : Int) := by omega
      obtain ⟨nv, lv, NV, LV, H, hNl, hLl⟩ := HR.out
      have e0 : wr.cell? ⟨m, 0, none⟩ = some nv := blk_cell H.obj.head 0 _ rfl
      have HH := Lib.hid H
      have HL := Lib.hid (And.intro hNl hLl)
      clear H hNl hLl
      go_wp2_with fail
      refine wp_region_L [(10, fun w' => w'.cell? ⟨m, 0, none⟩ = some nv)] (by kernel_rfl) ?_ (fun hHeld => ?_)
      · exact (HoldC.cons (e0) HoldC.nil)
      refine wpAnyL_take (i := 0) (oi := _) (v := ?_) rfl (by kernel_rfl) (by kernel_rfl) (by kernel_rfl) (by kernel_rfl) (by kernel_rfl) (fun _ _ _ h => h) (Or.inl ⟨by rfl, ?_⟩) (by assumption) (fun hNew => ?_)
      rotate_left
      · intro w _
        go_simp
        try with_reducible rfl
      clear hHeld
      have hHeld := hNew
      clear hNew
      try simp only [List.getElem_toArray, List.getElem_cons_succ, List.getElem_cons_zero, Act.put, List.setIfInBounds_toArray, List.set_cons_zero, List.set_cons_succ]
      refine wpAnyL_take (i := 1) (oi := _) (v := ?_) rfl (by kernel_rfl) (by kernel_rfl) (by kernel_rfl) (by kernel_rfl) (by kernel_rfl) (fun _ _ _ h => h) (Or.inl ⟨by rfl, ?_⟩) (by assumption) (fun hNew => ?_)
      rotate_left
      · intro w _
        go_simp
        try with_reducible rfl
      clear hHeld
      have hHeld := hNew
      clear hNew
      try simp only [List.getElem_toArray, List.getElem_cons_succ, List.getElem_cons_zero, Act.put, List.setIfInBounds_toArray, List.set_cons_zero, List.set_cons_succ]
      refine wpAnyL_take (i := 2) (oi := _) (v := ?_) rfl (by kernel_rfl) (by kernel_rfl) (by kernel_rfl) (by kernel_rfl) (by kernel_rfl) (fun _ _ _ h => h) (Or.inl ⟨by rfl, ?_⟩) (by assumption) (fun hNew => ?_)
      rotate_left
      · intro w _
        go_simp
        try with_reducible rfl
      clear hHeld
      have hHeld := hNew
      clear hNew
      try simp only [List.getElem_toArray, List.getElem_cons_succ, List.getElem_cons_zero, Act.put, List.setIfInBounds_toArray, List.set_cons_zero, List.set_cons_succ]
      refine wpAnyL_take (i := 3) (oi := _) (v := ?_) rfl (by kernel_rfl) (by kernel_rfl) (by kernel_rfl) (by kernel_rfl) (by kernel_rfl) (fun _ _ _ h => h) (Or.inl ⟨by rfl, ?_⟩) (by assumption) (fun hNew => ?_)
      rotate_left
      · intro w _
        go_simp
        try with_reducible rfl
      clear hHeld
      have hHeld := hNew
      clear hNew
      try simp only [List.getElem_toArray, List.getElem_cons_succ, List.getElem_cons_zero, Act.put, List.setIfInBounds_toArray, List.set_cons_zero, List.set_cons_succ]
      refine wpAnyL_load 0 (i := 4) (oi := _) (v := ?_) rfl rfl (by kernel_rfl) (by kernel_rfl) (by kernel_rfl) (by kernel_rfl) (by kernel_rfl) (by kernel_rfl) (fun _ _ _ h => h) (Or.inl ⟨by rfl, ?_⟩) (by assumption) (fun hNew => ?_)
      rotate_left
      · intro w hSw
        (try dsimp only at hSw)
        go_simp
        try with_reducible rfl
      clear hHeld
      have hHeld := hNew
      clear hNew
      try simp only [List.getElem_toArray, List.getElem_cons_succ, List.getElem_cons_zero, Act.put, List.setIfInBounds_toArray, List.set_cons_zero, List.set_cons_succ]
      refine wpAnyL_ready (rs := [5]) (by kernel_rfl) (by simp) ?_
      refine AllReadyL.cons (o := _) rfl (fun K hK => ?_) AllReadyL.nil
      try simp only [List.getElem_toArray, List.getElem_cons_succ, List.getElem_cons_zero]
      go_simp
      obtain ⟨z, hz⟩ : ∃ z, z = wr.heap.size := ⟨_, rfl⟩
      have HZ := Lib.hid hz
      try rw [← hz]
      obtain ⟨w1, hw1⟩ : ∃ w1, w1 = (wr.alloc (.cells Z64 5)).drew := ⟨_, rfl⟩
      rw [← hw1]
      have hc1 : Chg [] wr w1 := by rw [hw1]; exact ((Chg.refl [] wr).alloc _).drew
      have hB1 : BytesAt w1 (.slice (some ⟨z, 0, none⟩) 64 64) (zeros 64) := (row_of_block (w := w1) (N := z) (l := zeros 64) (by rw [hw1, hz]; exact heap_alloc_new wr _) (by simp [zeros, maxLen])).bytes
      have HB1 := Lib.hid hB1
      have HC1 := Lib.hid hc1
      have e1 := hc1.cell e0 (by simp)
      have hcA : Chg [] w1 (w1.alloc (.cells #[.slice (some ⟨z, 0, none⟩) 64 64] 27)) := (Chg.refl _ _).alloc _
      have H2 := Lib.hid ((HH.out.keep hc1).keep hcA)
      have HB2 := Lib.hid (hB1.chg hcA (by simp))
      have e2 := hcA.cell e1 (by simp)
      have HNW := Lib.hid (news_one (w := w1) (e := 27) (u := .slice (some ⟨z, 0, none⟩) 64 64) rfl)
      have hil : NV.length + 1 ≤ 4161 := by have := HL.out.1; omega
      have hzz : (zeros 64).length = 64 := by simp [zeros]
      have HZ0 : Hid (wA.heap.size ≤ z) := Lib.hid (by rw [hz]; exact HH.out.chg.size)
      clear hB1 hc1 hcA hz hw1
      clear hHeld
      refine hK.out _ _ ?_ (fun hHeld => ?_)
      · exact (HoldC.cons (e1) HoldC.nil)
      clear hK K
      try simp only [List.getElem_toArray, List.getElem_cons_succ, List.getElem_cons_zero, Act.put, List.setIfInBounds_toArray, List.set_cons_zero, List.set_cons_succ]
      refine wpAnyL_ready (rs := [6]) (by kernel_rfl) (by simp) ?_
      refine AllReadyL.cons (o := _) rfl (fun K hK => ?_) AllReadyL.nil
      try simp only [List.getElem_toArray, List.getElem_cons_succ, List.getElem_cons_zero]
      go_simp
      clear hHeld
      refine hK.out _ _ ?_ (fun hHeld => ?_)
      · exact (HoldC.cons (e2) HoldC.nil)
      clear hK K
      try simp only [List.getElem_toArray, List.getElem_cons_succ, List.getElem_cons_zero, Act.put, List.setIfInBounds_toArray, List.set_cons_zero, List.set_cons_succ]
      refine wpAnyL_ready (rs := [7]) (by kernel_rfl) (by simp) ?_
      refine AllReadyL.cons (o := _) rfl (fun K hK => ?_) AllReadyL.nil
      try simp only [List.getElem_toArray, List.getElem_cons_succ, List.getElem_cons_zero]
      try rw [if_pos (by rfl)]
      refine wp_append_no8 (.tmp 23) (.tmp 25) 76 (by rfl) 27 i3 (.slice none 0 0) 1 24 Tryz.underlying76 I3.out.1 I3.out.2.1 I3.out.2.2.1 I3.out.2.2.2 rfl (by omega) (one_z8 rfl no8_slice) nv NV.length NV (by rfl) H2.out.row.1 H2.out.row8.2.2 H2.out.row8.1 ⟨w1.heap.size, 0, none⟩ 1 (by rfl) [.slice (some ⟨z, 0, none⟩) 64 64] rfl HNW.out (fun u hu => by rw [List.mem_singleton.1 hu]; rfl) (fun u hu => by rw [List.mem_singleton.1 hu]; exact no8_slice) (by unfold maxLen; omega) (by omega) ?_
      intro g5 cap5 w5 hrow hg hat hlt5 h8
      have hm5 : w5.heap[m]? = _ := (hg.block m (blk_lt H2.out.obj.head) (fun e => H2.out.obj.row_ne (r := ⟨27, 1, nv, NV.length, NV⟩) (by simp [nrows]) e.symm rfl)).trans H2.out.obj.head
      have p6 := blk_cell hm5 0 _ rfl
      have p7 := blk_frozen hm5 0
      have p8 := blk_lt hm5
      have H3 := Lib.hid (H2.out.put0 (.slice (some ⟨z, 0, none⟩) 64 64) g5 cap5 hg hrow hat h8 HB2.out (fun g hg => by
        obtain rfl : z = g := by simpa [Value.ownBlock] using hg
        exact HZ0.out))
      clear hrow hg hat hlt5 h8 hm5
      clear hHeld
      refine hK.out _ _ ?_ (fun hHeld => ?_)
      · exact (HoldC.cons (p6) HoldC.nil)
      clear hK K
      try simp only [List.getElem_toArray, List.getElem_cons_succ, List.getElem_cons_zero, Act.put, List.setIfInBounds_toArray, List.set_cons_zero, List.set_cons_succ]
      refine wpAnyL_take (i := 8) (oi := _) (v := ?_) rfl (by kernel_rfl) (by kernel_rfl) (by kernel_rfl) (by kernel_rfl) (by kernel_rfl) (fun _ _ _ h => h) (Or.inl ⟨by rfl, ?_⟩) (by assumption) (fun hNew => ?_)
      rotate_left
      · intro w _
        go_simp
        try with_reducible rfl
      clear hHeld
      have hHeld := hNew
      clear hNew
      try simp only [List.getElem_toArray, List.getElem_cons_succ, List.getElem_cons_zero, Act.put, List.setIfInBounds_toArray, List.set_cons_zero, List.set_cons_succ]
      refine wpAnyL_take (i := 9) (oi := _) (v := ?_) rfl (by kernel_rfl) (by kernel_rfl) (by kernel_rfl) (by kernel_rfl) (by kernel_rfl) (fun _ _ _ h => h) (Or.inl ⟨by rfl, ?_⟩) (by assumption) (fun hNew => ?_)
      rotate_left
      · intro w _
        go_simp
        try with_reducible rfl
      clear hHeld
      have hHeld := hNew
      clear hNew
      try simp only [List.getElem_toArray, List.getElem_cons_succ, List.getElem_cons_zero, Act.put, List.setIfInBounds_toArray, List.set_cons_zero, List.set_cons_succ]
      refine wpAnyL_ready (rs := [10]) (by kernel_rfl) (by simp) ?_
      refine AllReadyL.cons (o := _) rfl (fun K hK => ?_) AllReadyL.nil
      try simp only [List.getElem_toArray, List.getElem_cons_succ, List.getElem_cons_zero]
      go_simp
      clear hHeld
      refine hK.out _ _ ?_ (fun hHeld => ?_)
      · exact (HoldC.past (by kernel_rfl) HoldC.nil)
      clear hK K
      try simp only [List.getElem_toArray, List.getElem_cons_succ, List.getElem_cons_zero, Act.put, List.setIfInBounds_toArray, List.set_cons_zero, List.set_cons_succ]
      refine wpAnyL_done (by kernel_rfl) ?_ _
      clear hHeld
      generalize w5.setCell ⟨m, 0, none⟩ (.slice (some ⟨g5, 0, none⟩) (NV.length + 1) cap5) = w6 at *
      clear p6 p7 p8 e0 e1 e2
      have H4 : Hid (∃ nv2 NV2, NewAt wA w6 m nv2 lv NV2 LV ∧ NV2.length = i + 1) := Lib.hid ⟨_, _, H3.out, by have := HL.out.1; simp; exact this⟩
      have HL2 := Lib.hid HL.out.2
      clear HH H2 H3 HB1 HC1 HB2 HNW HZ0 hil
      obtain ⟨nv2, NV2, H5, hN2⟩ := H4.out
      have e0 : w6.cell? ⟨m, 1, none⟩ = some lv := blk_cell H5.obj.head 1 _ rfl
      have HN2 := Lib.hid hN2
      clear H4
      have H4 := Lib.hid H5
      clear H5 hN2
      go_wp2_with fail
      refine wp_region_L [(10, fun w' => w'.cell? ⟨m, 1, none⟩ = some lv)] (by kernel_rfl) ?_ (fun hHeld => ?_)
      · exact (HoldC.cons (e0) HoldC.nil)
      refine wpAnyL_take (i := 0) (oi := _) (v := ?_) rfl (by kernel_rfl) (by kernel_rfl) (by kernel_rfl) (by kernel_rfl) (by kernel_rfl) (fun _ _ _ h => h) (Or.inl ⟨by rfl, ?_⟩) (by assumption) (fun hNew => ?_)
      rotate_left
      · intro w _
        go_simp
        try with_reducible rfl
      clear hHeld
      have hHeld := hNew
      clear hNew
      try simp only [List.getElem_toArray, List.getElem_cons_succ, List.getElem_cons_zero, Act.put, List.setIfInBounds_toArray, List.set_cons_zero, List.set_cons_succ]
      refine wpAnyL_take (i := 1) (oi := _) (v := ?_) rfl (by kernel_rfl) (by kernel_rfl) (by kernel_rfl) (by kernel_rfl) (by kernel_rfl) (fun _ _ _ h => h) (Or.inl ⟨by rfl, ?_⟩) (by assumption) (fun hNew => ?_)
      rotate_left
      · intro w _
        go_simp
        try with_reducible rfl
      clear hHeld
      have hHeld := hNew
      clear hNew
      try simp only [List.getElem_toArray, List.getElem_cons_succ, List.getElem_cons_zero, Act.put, List.setIfInBounds_toArray, List.set_cons_zero, List.set_cons_succ]
      refine wpAnyL_take (i := 2) (oi := _) (v := ?_) rfl (by kernel_rfl) (by kernel_rfl) (by kernel_rfl) (by kernel_rfl) (by kernel_rfl) (fun _ _ _ h => h) (Or.inl ⟨by rfl, ?_⟩) (by assumption) (fun hNew => ?_)
      rotate_left
      · intro w _
        go_simp
        try with_reducible rfl
      clear hHeld
      have hHeld := hNew
      clear hNew
      try simp only [List.getElem_toArray, List.getElem_cons_succ, List.getElem_cons_zero, Act.put, List.setIfInBounds_toArray, List.set_cons_zero, List.set_cons_succ]
      refine wpAnyL_take (i := 3) (oi := _) (v := ?_) rfl (by kernel_rfl) (by kernel_rfl) (by kernel_rfl) (by kernel_rfl) (by kernel_rfl) (fun _ _ _ h => h) (Or.inl ⟨by rfl, ?_⟩) (by assumption) (fun hNew => ?_)
      rotate_left
      · intro w _
        go_simp
        try with_reducible rfl
      clear hHeld
      have hHeld := hNew
      clear hNew
      try simp only [List.getElem_toArray, List.getElem_cons_succ, List.getElem_cons_zero, Act.put, List.setIfInBounds_toArray, List.set_cons_zero, List.set_cons_succ]
      refine wpAnyL_load 0 (i := 4) (oi := _) (v := ?_) rfl rfl (by kernel_rfl) (by kernel_rfl) (by kernel_rfl) (by kernel_rfl) (by kernel_rfl) (by kernel_rfl) (fun _ _ _ h => h) (Or.inl ⟨by rfl, ?_⟩) (by assumption) (fun hNew => ?_)
      rotate_left
      · intro w hSw
        (try dsimp only at hSw)
        go_simp
        try with_reducible rfl
      clear hHeld
      have hHeld := hNew
      clear hNew
      try simp only [List.getElem_toArray, List.getElem_cons_succ, List.getElem_cons_zero, Act.put, List.setIfInBounds_toArray, List.set_cons_zero, List.set_cons_succ]
      refine wpAnyL_ready (rs := [5]) (by kernel_rfl) (by simp) ?_
      refine AllReadyL.cons (o := _) rfl (fun K hK => ?_) AllReadyL.nil
      try simp only [List.getElem_toArray, List.getElem_cons_succ, List.getElem_cons_zero]
      go_simp
      obtain ⟨zb, hz⟩ : ∃ zb, zb = w6.heap.size := ⟨_, rfl⟩
      have HZ := Lib.hid hz
      try rw [← hz]
      obtain ⟨w1b, hw1⟩ : ∃ w1b, w1b = (w6.alloc (.cells Z64 5)).drew := ⟨_, rfl⟩
      rw [← hw1]
      have hc1 : Chg [] w6 w1b := by rw [hw1]; exact ((Chg.refl [] w6).alloc _).drew
      have hB1 : BytesAt w1b (.slice (some ⟨zb, 0, none⟩) 64 64) (zeros 64) := (row_of_block (w := w1b) (N := zb) (l := zeros 64) (by rw [hw1, hz]; exact heap_alloc_new w6 _) (by simp [zeros, maxLen])).bytes
      have HB1 := Lib.hid hB1
      have HC1 := Lib.hid hc1
      have e1 := hc1.cell e0 (by simp)
      have hcA : Chg [] w1b (w1b.alloc (.cells #[.slice (some ⟨zb, 0, none⟩) 64 64] 27)) := (Chg.refl _ _).alloc _
      have H2 := Lib.hid ((H4.out.keep hc1).keep hcA)
      have HB2 := Lib.hid (hB1.chg hcA (by simp))
      have e2 := hcA.cell e1 (by simp)
      have HNW := Lib.hid (news_one (w := w1b) (e := 27) (u := .slice (some ⟨zb, 0, none⟩) 64 64) rfl)
      have hil : LV.length + 1 ≤ 4161 := by have := HL.out.2; omega
      have hzz : (zeros 64).length = 64 := by simp [zeros]
      have HZ0 : Hid (wA.heap.size ≤ zb) := Lib.hid (by rw [hz]; exact H4.out.chg.size)
      clear hB1 hc1 hcA hz hw1
      clear hHeld
      refine hK.out _ _ ?_ (fun hHeld => ?_)
      · exact (HoldC.cons (e1) HoldC.nil)
      clear hK K
      try simp only [List.getElem_toArray, List.getElem_cons_succ, List.getElem_cons_zero, Act.put, List.setIfInBounds_toArray, List.set_cons_zero, List.set_cons_succ]
      refine wpAnyL_ready (rs := [6]) (by kernel_rfl) (by simp) ?_
      refine AllReadyL.cons (o := _) rfl (fun K hK => ?_) AllReadyL.nil
      try simp only [List.getElem_toArray, List.getElem_cons_succ, List.getElem_cons_zero]
      go_simp
      clear hHeld
      refine hK.out _ _ ?_ (fun hHeld => ?_)
      · exact (HoldC.cons (e2) HoldC.nil)
      clear hK K
      try simp only [List.getElem_toArray, List.getElem_cons_succ, List.getElem_cons_zero, Act.put, List.setIfInBounds_toArray, List.set_cons_zero, List.set_cons_succ]
      refine wpAnyL_ready (rs := [7]) (by kernel_rfl) (by simp) ?_
      refine AllReadyL.cons (o := _) rfl (fun K hK => ?_) AllReadyL.nil
      try simp only [List.getElem_toArray, List.getElem_cons_succ, List.getElem_cons_zero]
      try rw [if_pos (by rfl)]
      refine wp_append_no8 (.tmp 33) (.tmp 35) 76 (by rfl) 27 i3 (.slice none 0 0) 1 24 Tryz.underlying76 I3.out.1 I3.out.2.1 I3.out.2.2.1 I3.out.2.2.2 rfl (by omega) (one_z8 rfl no8_slice) lv LV.length LV (by rfl) H2.out.row.2 H2.out.lasts H2.out.row8.2.1 ⟨w1b.heap.size, 0, none⟩ 1 (by rfl) [.slice (some ⟨zb, 0, none⟩) 64 64] rfl HNW.out (fun u hu => by rw [List.mem_singleton.1 hu]; rfl) (fun u hu => by rw [List.mem_singleton.1 hu]; exact no8_slice) (by unfold maxLen; omega) (by omega) ?_
      intro g5b cap5b w5b hrow hg hat hlt5 h8
      have hm5 : w5b.heap[m]? = _ := (hg.block m (blk_lt H2.out.obj.head) (fun e => H2.out.obj.row_ne (r := ⟨27, 1, lv, LV.length, LV⟩) (by simp [nrows]) e.symm rfl)).trans H2.out.obj.head
      have p6 := blk_cell hm5 1 _ rfl
      have p7 := blk_frozen hm5 1
      have p8 := blk_lt hm5
      have H3 := Lib.hid (H2.out.put1 (.slice (some ⟨zb, 0, none⟩) 64 64) g5b cap5b hg hrow hat h8 no8_slice)
      clear hrow hg hat hlt5 h8 hm5
      clear hHeld
      refine hK.out _ _ ?_ (fun hHeld => ?_)
      · exact (HoldC.cons (p6) HoldC.nil)
      clear hK K
      try simp only [List.getElem_toArray, List.getElem_cons_succ, List.getElem_cons_zero, Act.put, List.setIfInBounds_toArray, List.set_cons_zero, List.set_cons_succ]
      refine wpAnyL_take (i := 8) (oi := _) (v := ?_) rfl (by kernel_rfl) (by kernel_rfl) (by kernel_rfl) (by kernel_rfl) (by kernel_rfl) (fun _ _ _ h => h) (Or.inl ⟨by rfl, ?_⟩) (by assumption) (fun hNew => ?_)
      rotate_left
      · intro w _
        go_simp
        try with_reducible rfl
      clear hHeld
      have hHeld := hNew
      clear hNew
      try simp only [List.getElem_toArray, List.getElem_cons_succ, List.getElem_cons_zero, Act.put, List.setIfInBounds_toArray, List.set_cons_zero, List.set_cons_succ]
      refine wpAnyL_take (i := 9) (oi := _) (v := ?_) rfl (by kernel_rfl) (by kernel_rfl) (by kernel_rfl) (by kernel_rfl) (by kernel_rfl) (fun _ _ _ h => h) (Or.inl ⟨by rfl, ?_⟩) (by assumption) (fun hNew => ?_)
      rotate_left
      · intro w _
        go_simp
        try with_reducible rfl
      clear hHeld
      have hHeld := hNew
      clear hNew
      try simp only [List.getElem_toArray, List.getElem_cons_succ, List.getElem_cons_zero, Act.put, List.setIfInBounds_toArray, List.set_cons_zero, List.set_cons_succ]
      refine wpAnyL_ready (rs := [10]) (by kernel_rfl) (by simp) ?_
      refine AllReadyL.cons (o := _) rfl (fun K hK => ?_) AllReadyL.nil
      try simp only [List.getElem_toArray, List.getElem_cons_succ, List.getElem_cons_zero]
      go_simp
      clear hHeld
      refine hK.out _ _ ?_ (fun hHeld => ?_)
      · exact (HoldC.past (by kernel_rfl) HoldC.nil)
      clear hK K
      try simp only [List.getElem_toArray, List.getElem_cons_succ, List.getElem_cons_zero, Act.put, List.setIfInBounds_toArray, List.set_cons_zero, List.set_cons_succ]
      refine wpAnyL_done (by kernel_rfl) ?_ _
      clear hHeld
      generalize w5b.setCell ⟨m, 1, none⟩ (.slice (some ⟨g5b, 0, none⟩) (LV.length + 1) cap5b) = w6b at *
      clear p6 p7 p8 e0 e1 e2
      have HF : Hid (∃ nv lv NV LV, NewAt wA w6b m nv lv NV LV ∧ NV.length = i + 1 ∧ LV.length = i + 1) := Lib.hid ⟨_, _, _, _, H3.out, HN2.out, by have := HL2.out; simp; exact this⟩
      go_wp2
      go_roundg (gk - 1)
      case measure => omega
      case rel => exact ⟨i + 1, by go_num, by omega, by omega, HF⟩
    · have hiz : ¬ (i : Int) < (n : Int) := by omega
      go_wp2
      go_ret2
      obtain ⟨nv, lv, NV, LV, H, hNl, hLl⟩ := HR.out
      obtain ⟨V, F, hd⟩ := H.done (n := n) (by omega) (by omega) hm
      exact ⟨m, V, F, rfl, hd⟩
end Go.Proofs.YtbkajnjboipbhaaGreatDoor.W

/- StorePlays: the walk (printed by gen_storeplays.py off PsW.head). -/
namespace Go.Proofs.YtbkajnjboipbhaaGreatDoor.W
open Go.RowKit
set_option linter.unusedVariables false
set_option linter.unusedSimpArgs false

set_option maxHeartbeats 16000000 in
set_option maxRecDepth 100000 in
theorem plays6_any (sec : Int) (a : Option Addr) (n cap : Nat) (f : Nat → Dd) (w : World) (h : DeedsAt w a n f) : Calls Tryz.prog 10 #[.int .i64 sec, .slice a n cap] w fun e w' => e = .returned (.bool true) ∧ Chg [] w w' := by
  have CA := Lib.hid (awake6_any w)
  have HD := Lib.hid h
  clear h
  by_cases hsec : 2 ≤ sec ∧ sec ≤ 120
  rotate_left
  · have hcase : decide (sec < 2) = true ∨ (decide (sec < 2) = false ∧ decide (sec > 120) = true) := by
      by_cases h0 : sec < 2
      · exact .inl (decide_eq_true h0)
      · exact .inr ⟨decide_eq_false h0, decide_eq_true (by omega)⟩
    have HCS := Lib.hid hcase
    clear hcase hsec
    go_enter Tryz.func10, Tryz.ntmps10
    go_wp2_with fail
    refine CA.out.mono ?_
    rintro e w0 ⟨rfl, hc0⟩
    have HC0 := Lib.hid hc0
    have CR := Lib.hid (room6_any a n cap 60 f w0 (HD.out.keep hc0) (by omega))
    clear hc0 CA
    go_wp2_with fail
    refine CR.out.mono ?_
    rintro e w0' ⟨hroom, hq⟩
    subst hq
    rcases hroom with ⟨rfl, hfew⟩ | rfl
    · rcases HCS.out with q0 | ⟨q0, q1⟩
      · go_wp2
        go_ret
        exact ⟨rfl, HC0.out⟩
      · go_wp2
        go_ret
        exact ⟨rfl, HC0.out⟩
    · go_wp2
      go_ret
      exact ⟨rfl, HC0.out⟩
  obtain ⟨sn, rfl⟩ := Int.eq_ofNat_of_zero_le (show 0 ≤ sec by omega)
  obtain ⟨hs2, hs120⟩ : 2 ≤ sn ∧ sn ≤ 120 := by omega
  have q0 : decide ((sn : Int) < 2) = false := decide_eq_false (by omega)
  have q1 : decide ((sn : Int) > 120) = false := decide_eq_false (by omega)
  clear hsec
  go_enter Tryz.func10, Tryz.ntmps10
  go_wp2_with fail
  refine CA.out.mono ?_
  rintro e w0 ⟨rfl, hc0⟩
  have HC0 := Lib.hid hc0
  have CR := Lib.hid (room6_any a n cap 60 f w0 (HD.out.keep hc0) (by omega))
  clear hc0 CA
  go_wp2_with fail
  refine CR.out.mono ?_
  rintro e w0' ⟨hroom, hq⟩
  subst hq
  rcases hroom with ⟨rfl, hfew⟩ | rfl
  rotate_left
  · go_wp2
    go_ret
    exact ⟨rfl, HC0.out⟩
  have HF := Lib.hid hfew
  have CN := Lib.hid (dnew_any sn w0 hs2 (by omega))
  clear hfew CR
  go_wp2_with fail
  refine CN.out.mono ?_
  rintro e w1 ⟨p, S, rfl, hd1, hS1, hc1⟩
  have CN2 := Lib.hid (rnewdisk_any sn w1 hs2 (by omega))
  have HD1 := Lib.hid (And.intro hd1 (And.intro hS1 hc1))
  clear hd1 hS1 hc1 CN
  go_wp2_with fail
  refine CN2.out.mono ?_
  rintro e w2 ⟨m, V, F, rfl, hd2, hF2, hc2⟩
  have CO := Lib.hid (format_any p S _ w2 (HD1.out.1.keep hc2 (by simp)) (by show 0 ≤ _; omega) (by show 0 ≤ _; omega))
  have HD2 := Lib.hid (And.intro hd2 (And.intro hF2 hc2))
  have hSF : ∀ x ∈ S, x ∉ F := fun x hx hm => by
    have h1 := HD1.out.1.lim x hx
    have h2 := hF2 x hm
    omega
  have HSF := Lib.hid hSF
  clear hd2 hF2 hc2 CN2 hSF
  by_cases h9 : sn < 9
  · have hfm : (DS.new sn).format = ((1, none), DS.new sn) := by unfold DS.format; exact if_pos h9
    rw [hfm] at CO
    clear hfm
    go_wp2_with fail
    refine CO.out.mono ?_
    rintro e w3 ⟨rfl, hd3⟩
    obtain ⟨S3, _, _, hc3⟩ := hd3
    have CO2 := Lib.hid (rstformat_small m V F _ w3 (HD2.out.1.keep hc3 (fun x hx hm => HSF.out x hm hx)) (by show sn < 9; exact h9))
    have HCF : Hid (Chg [] w w3) := Lib.hid (((HC0.out.trans HD1.out.2.2 (by simp)).trans HD2.out.2.2 (by simp)).trans hc3 (fun x hx => .inr (by
      have h1 := HD1.out.2.1 x hx
      have h2 := HC0.out.size
      omega)))
    clear hc3 CO
    go_wp2_with fail
    refine CO2.out.mono ?_
    rintro e w4 ⟨rfl, hq⟩
    subst hq
    clear CO2
    go_wp2
    go_ret
    exact ⟨rfl, HCF.out⟩
  obtain ⟨d1, d2, hfm, hwp, hl1, hn1, ho1, hs1, hsg, hsl, hdn⟩ := rfmt_plain sn (by omega)
  obtain ⟨d2', hfm', _, _, hsi0, _, hops, _⟩ := format_new sn (by omega)
  obtain rfl : d2 = d2' := by rw [hfm] at hfm'; exact (Prod.ext_iff.1 hfm').2
  obtain ⟨t0, ht0⟩ : ∃ t0 : Sto, t0 = ⟨⟨d2, 1, List.replicate ((sn - 1) / 8) noRow⟩, false⟩ := ⟨_, rfl⟩
  have HT0 : Hid ((∀ r ∈ t0.s.rows, r.used = false) ∧ t0.s.d.n = sn ∧ t0.s.d.ops ≤ 200 ∧ t0.s.d.since.length ≤ 200) := Lib.hid (by
    rw [ht0]
    refine ⟨fun r hr => ?_, hdn, ?_, ?_⟩
    · rw [(List.mem_replicate.1 hr).2]; rfl
    · show d2.ops ≤ 200; omega
    · show d2.since.length ≤ 200; rw [hsi0]; simp)
  have CO2 := Lib.hid (fun w3 (h3 : RDiskAt w3 m V F (DS.new sn)) => rstformat_new m V F sn d1 d2 w3 h3 (by omega) (by omega) hwp hl1 hn1 ho1 hs1 hsg hsl hdn)
  rw [hfm, ← ht0] at CO
  rw [← ht0] at CO2
  clear hfm hwp hl1 hn1 ho1 hs1 hsg hsl hdn hops hsi0 ht0 hfm'
  go_wp2_with fail
  refine CO.out.mono ?_
  rintro e w3 ⟨q, U, rfl, hs3, hU3, hc3⟩
  have hFl := HD2.out.1.lim.1
  have hr3 := HD2.out.1.keep hc3 (fun x hx hm => HSF.out x hm hx)
  have HU3 : Hid (∀ x ∈ U, w.heap.size ≤ x ∧ x ∉ F) := Lib.hid (fun x hx => by
    have z0 := HC0.out.size
    have z1 := HD1.out.2.2.size
    have z2 := HD2.out.2.2.size
    rcases hU3 x hx with h | h
    · have := HD1.out.2.1 x h
      exact ⟨by omega, HSF.out x h⟩
    · exact ⟨by omega, fun hm => by have := hFl x hm; omega⟩)
  have HS3 := Lib.hid (hs3.far0 (G := F) HT0.out.1 (fun x hx => Nat.lt_of_lt_of_le (hFl x hx) hc3.size))
  have HR3 := Lib.hid hr3
  have HC3 : Hid (Chg [] w w3) := Lib.hid (((HC0.out.trans HD1.out.2.2 (by simp)).trans HD2.out.2.2 (by simp)).trans hc3 (fun x hx => .inr (by
    have h1 := HD1.out.2.1 x hx
    have h2 := HC0.out.size
    omega)))
  have HF2 : Hid (∀ x ∈ F, w.heap.size ≤ x) := Lib.hid (fun x hx => by
    have z0 := HC0.out.size
    have z1 := HD1.out.2.2.size
    have := HD2.out.2.1 x hx
    omega)
  have CO3 := Lib.hid (CO2.out w3 hr3)
  clear hs3 hU3 hc3 hr3 hFl CO CO2 HD1 HD2 HSF HC0
  go_wp2_with fail
  refine CO3.out.mono ?_
  rintro e w4 ⟨q2, U2, B2, rfl, hr4, hU4, hB4, hc4⟩
  have H4 : Hid (Two6 w w4 q p q2 m U U2 B2 t0 t0) := Lib.hid (by
    obtain ⟨l1, l2, l3⟩ := HR3.out.lim
    obtain ⟨k1, k2, k3⟩ := hr4.lim
    have z3 := HC3.out.size
    refine ⟨HS3.out.regroup hc4 l2 l3 (fun x hx => (HU3.out x hx).2) (fun x hx => ⟨hB4 x hx, k1 x hx⟩), hr4, fun x hx => (HU3.out x hx).1, fun x hx => ?_, fun x hx hm => ?_, HC3.out.trans hc4 (fun x hx => .inr (HF2.out x (l2 x hx)))⟩
    · rcases hB4 x hx with h | h
      · exact HF2.out x h
      · omega
    · rcases hB4 x hm with h | h
      · exact (HU3.out x hx).2 h
      · have := HS3.out.lim x hx; omega)
  clear hr4 hU4 hB4 hc4 CO3 HS3 HR3 HC3 HF2 HU3
  go_wp2_with fail
  go_loopg [13, 14, 15, 16, 17, 18] n (fun g' s13 s14 s15 s16 s17 s18 wr => ∃ (k : Nat) (U U2 B2 : List Nat) (t : Sto), s13 = .int .i64 (k : Int) ∧ k ≤ n ∧ n ≤ k + g' ∧ Hid (Two6 w wr q p q2 m U U2 B2 t t ∧ t.s.d.n = sn ∧ t.s.d.ops ≤ 200 + 40 * k ∧ t.s.d.since.length ≤ 200 + 40 * k))
  case atStart => exact ⟨0, U, U2, B2, t0, rfl, by omega, by omega, Lib.hid ⟨H4.out, HT0.out.2.1, by have := HT0.out.2.2.1; omega, by have := HT0.out.2.2.2; omega⟩⟩
  case round =>
    obtain ⟨k, U, U2, B2, t, rfl, hk, hkg, HR⟩ := hrel
    clear H4 HT0
    by_cases hlt : k < n
    · have hkz : (k : Int) < (n : Int) := by omega
      have hkz1 : (k : Int).toNat = k := by omega
      obtain ⟨g, o, rfl, hdeed⟩ : ∃ g o, a = some ⟨g, o, none⟩ ∧ ∀ i, i < n → DdAt w g (o + i * 7) (f i) := HD.out.resolve_left (by omega)
      have hd := hdeed k hlt
      obtain ⟨hT, hsn, hop, hsi⟩ := HR.out
      have hd' := hd.keep hT.chg
      have e0 := hd'.c0
      have e1 := hd'.c1
      have e2 := hd'.c2
      have e3 := hd'.c3
      have e4 := hd'.c4
      have e5 := hd'.c5
      have e6 := hd'.c6
      have hxo := hd.wx
      have hbl : (f k).b.length ≤ 600 := HF.out.2 k hlt
      have hn60 := HF.out.1
      obtain ⟨a6, q6, v6⟩ := hd.came.1.slice
      have K6 := Lib.hid hd.came
      have hfn : (f k).n ≤ 9223372036854775807 := by
        have := hd.wn
        simp [Lit.wf, IntKind.min, IntKind.max, IntKind.signed, IntKind.bits] at this
        omega
      rw [v6] at e6 K6
      have HSN := Lib.hid hsn
      clear HF HR hd hd' hdeed
      generalize f k = r at *
      obtain ⟨fd, fn, ⟨xc, xl, xn, xi⟩, bv0, bb⟩ := r
      dsimp only at e0 e1 e2 e3 e4 e5 e6 hxo hbl v6 K6 hfn
      obtain ⟨x, hx⟩ : ∃ x, x = wr.heap.size := ⟨_, rfl⟩
      obtain ⟨C, hC⟩ : ∃ C : Array Value, C = #[.int .i64 fd, .int .i64 fn, .int .i64 xc, .int .i64 xl, .int .i64 xn, .int .i64 xi, .slice a6 bb.length q6] := ⟨_, rfl⟩
      obtain ⟨w1, hw1⟩ : ∃ w1, w1 = wr.alloc (.cells C 52) := ⟨_, rfl⟩
      have hc1 : Chg [] wr w1 := by rw [hw1]; exact (Chg.refl _ _).alloc _
      have HX1 : Hid (w1.heap[x]? = some (.cells C 52 (0, 0))) := Lib.hid (by rw [hw1, hx]; exact heap_alloc_new wr _)
      have T1 := Lib.hid (hT.keep hc1)
      have HXU : Hid (∀ y, y ∈ U ∨ y ∈ B2 → y < x) := Lib.hid (fun y hy => by
        rw [hx]
        rcases hy with hy | hy
        · exact hT.ours.lim y hy
        · exact hT.refs.lim.1 y hy)
      have HCELL : Hid (∀ w' : World, w'.heap[x]? = some (.cells C 52 (0, 0)) → (w'.cell? ⟨x, 0, none⟩ = some (.int .i64 fd) ∧ w'.cell? ⟨x, 1, none⟩ = some (.int .i64 fn) ∧ w'.cell? ⟨x, 6, none⟩ = some (.slice a6 bb.length q6)) ∧
          (w'.cell? ⟨x, 2, none⟩ = some (.int .i64 xc) ∧ w'.cell? ⟨x, 2 + 1, none⟩ = some (.int .i64 xl) ∧ w'.cell? ⟨x, 2 + 2, none⟩ = some (.int .i64 xn) ∧ w'.cell? ⟨x, 2 + 3, none⟩ = some (.int .i64 xi))) := Lib.hid (fun w' h => by
        rw [hC] at h
        exact ⟨⟨blk_cell h 0 _ rfl, blk_cell h 1 _ rfl, blk_cell h 6 _ rfl⟩, blk_cell h 2 _ rfl, blk_cell h 3 _ rfl, blk_cell h 4 _ rfl, blk_cell h 5 _ rfl⟩)
      have HX := Lib.hid hx
      rw [hC] at hw1
      have HW1 := Lib.hid hw1
      have hrl : t.s.rows.length ≤ 20 := by
        have h1 := hT.refs.few.1
        omega
      clear hT hsn hw1 hc1 hx hC v6
      go_upto_block 2 with (fail)
      rw [← HW1.out, ← HX.out]
      clear e0 e1 e2 e3 e4 e5 e6
      go_cut [15, 16, 17, 18] (fun s15 s16 s17 s18 wx => ∃ sz : Sto, s15 = .bool true ∧ Hid ((∃ U U2 B2, Two6 w wx q p q2 m U U2 B2 sz sz) ∧ wx.heap[x]? = some (.cells C 52 (0, 0))) ∧ Hid (Rise6 t sz 40))
      case first =>
        obtain ⟨⟨x0, x1, x6⟩, x2, x3, x4, x5⟩ := HCELL.out w1 HX1.out
        by_cases hdo : fd ≤ 4
        · have hd4 : decide (fd ≤ 4) = true := decide_eq_true hdo
          have HB1 : Hid (BytesAt w1 (.slice a6 bb.length q6) bb) := Lib.hid (K6.out.1.chg T1.out.chg (by simp))
          have HBU : Hid (bb ≠ [] → ∀ y, (Value.slice a6 bb.length q6).ownBlock = some y → y < w.heap.size) := Lib.hid (fun hl y hy => K6.out.2 hl y hy)
          have CP := Lib.hid (stput_any q p U t ⟨xc, xl, xn, xi⟩ (.slice a6 bb.length q6) bb w1 T1.out.ours hxo HB1.out (fun hl y hy hm => by
            have b1 := HBU.out hl y hy
            have b2 := T1.out.newU y hm
            omega) (by omega) (by omega) (by omega))
          go_wp2_with fail
          refine CP.out.mono ?_
          rintro e w5 ⟨rfl, hs5⟩
          have hX5 := hs5.choose_spec.2.2.keep HX1.out (fun hm => by have := HXU.out x (.inl hm); omega)
          obtain ⟨U5, hT5⟩ := T1.out.our hs5
          have T5 := Lib.hid hT5
          have HX5 := Lib.hid hX5
          obtain ⟨⟨x0, x1, x6⟩, x2, x3, x4, x5⟩ := HCELL.out w5 hX5
          have CR := Lib.hid (rstput_any q2 m U2 B2 t ⟨xc, xl, xn, xi⟩ (.slice a6 bb.length q6) bb w5 hT5.refs hxo (K6.out.1.chg hT5.chg (by simp)) (by omega) (by omega) (by omega))
          have RI := Lib.hid (put_rise6 t ⟨xc, xl, xn, xi⟩ bb)
          generalize t.put ⟨xc, xl, xn, xi⟩ bb = z at *
          obtain ⟨ze, sz⟩ := z
          dsimp only at T5 RI CR
          clear hs5 hX5 hT5 CP
          go_wp2_with fail
          refine CR.out.mono ?_
          rintro e w6 ⟨rfl, hr6⟩
          have HX6 := Lib.hid (hr6.choose_spec.choose_spec.2.2.2.keep HX5.out (fun hm => by have := HXU.out x (.inr (T1.out.refs.lim.2.1 x hm)); omega))
          obtain ⟨W6, A6, hT6⟩ := T5.out.ref hr6
          have T6 := Lib.hid hT6
          clear hr6 hT6 CR
          go_wp2_with fail
          go_meet
          exact ⟨sz, rfl, Lib.hid (And.intro ⟨_, _, _, T6.out⟩ HX6.out), Lib.hid ⟨RI.out.n, by have := RI.out.ops; omega, by have := RI.out.since; omega⟩⟩
        · have hd4 : decide (fd ≤ 4) = false := decide_eq_false hdo
          by_cases hd5 : fd = 5
          · have hq5 : (fd == 5) = true := by simp [hd5]
            clear hd5 hdo
            go_wp2_with fail
            have T6 := T1
            have HX6 := HX1
            have RI : Hid (Rise6 t t 20) := Lib.hid ⟨rfl, by omega, by omega⟩
            obtain ⟨w6, hw6⟩ : ∃ w6, w6 = w1 := ⟨_, rfl⟩
            rw [← hw6] at T6 HX6 ⊢
            obtain ⟨sz, hsz⟩ : ∃ sz, sz = t := ⟨_, rfl⟩
            rw [← hsz] at T6
            have RI : Hid (Rise6 t sz 20) := Lib.hid (by rw [hsz]; exact RI.out)
            clear hw6 hsz
            go_wp2_with fail
            go_meet
            exact ⟨sz, rfl, Lib.hid (And.intro ⟨_, _, _, T6.out⟩ HX6.out), Lib.hid ⟨RI.out.n, by have := RI.out.ops; omega, by have := RI.out.since; omega⟩⟩
          · have hq5 : (fd == 5) = false := by simp [hd5]
            by_cases hd6 : fd = 6
            · have hq6 : (fd == 6) = true := by simp [hd6]
              clear hd6 hdo hd5
              have CP := Lib.hid (stdel_any q p U t ⟨xc, xl, xn, xi⟩ w1 T1.out.ours hxo (by omega) (by omega))
              go_wp2_with fail
              refine CP.out.mono ?_
              rintro e w5 ⟨rfl, hs5⟩
              have hX5 := hs5.choose_spec.2.2.keep HX1.out (fun hm => by have := HXU.out x (.inl hm); omega)
              obtain ⟨U5, hT5⟩ := T1.out.our hs5
              have T5 := Lib.hid hT5
              have HX5 := Lib.hid hX5
              obtain ⟨⟨x0, x1, x6⟩, x2, x3, x4, x5⟩ := HCELL.out w5 hX5
              have CR := Lib.hid (rstdel_any q2 m U2 B2 t ⟨xc, xl, xn, xi⟩ w5 hT5.refs hxo (by omega) (by omega))
              have RI := Lib.hid (del_rise6 t ⟨xc, xl, xn, xi⟩ hrl)
              generalize t.del ⟨xc, xl, xn, xi⟩ = z at *
              obtain ⟨ze, sz⟩ := z
              dsimp only at T5 RI CR
              clear hs5 hX5 hT5 CP
              go_wp2_with fail
              refine CR.out.mono ?_
              rintro e w6 ⟨rfl, hr6⟩
              have HX6 := Lib.hid (hr6.choose_spec.choose_spec.2.2.2.keep HX5.out (fun hm => by have := HXU.out x (.inr (T1.out.refs.lim.2.1 x hm)); omega))
              obtain ⟨W6, A6, hT6⟩ := T5.out.ref hr6
              have T6 := Lib.hid hT6
              clear hr6 hT6 CR
              go_wp2_with fail
              go_meet
              exact ⟨sz, rfl, Lib.hid (And.intro ⟨_, _, _, T6.out⟩ HX6.out), Lib.hid ⟨RI.out.n, by have := RI.out.ops; omega, by have := RI.out.since; omega⟩⟩
            · have hq6 : (fd == 6) = false := by simp [hd6]
              by_cases hd7 : fd = 7
              · have hq7 : (fd == 7) = true := by simp [hd7]
                clear hd7 hd6 hdo hd5
                have CP := Lib.hid (stsetw_any q p U t w1 T1.out.ours (by have := HSN.out; omega) (by omega) (by omega))
                go_wp2_with fail
                refine CP.out.mono ?_
                rintro e w5 ⟨rfl, hs5⟩
                have hX5 := hs5.choose_spec.2.2.keep HX1.out (fun hm => by have := HXU.out x (.inl hm); omega)
                obtain ⟨U5, hT5⟩ := T1.out.our hs5
                have T5 := Lib.hid hT5
                have HX5 := Lib.hid hX5
                obtain ⟨⟨x0, x1, x6⟩, x2, x3, x4, x5⟩ := HCELL.out w5 hX5
                have CR := Lib.hid (rstsetw_any q2 m U2 B2 t w5 hT5.refs (by have := HSN.out; omega) (by omega) (by omega))
                have RI := Lib.hid (whole_rise6 t)
                generalize t.setWhole = z at *
                obtain ⟨ze, sz⟩ := z
                dsimp only at T5 RI CR
                clear hs5 hX5 hT5 CP
                go_wp2_with fail
                refine CR.out.mono ?_
                rintro e w6 ⟨rfl, hr6⟩
                have HX6 := Lib.hid (hr6.choose_spec.choose_spec.2.2.2.keep HX5.out (fun hm => by have := HXU.out x (.inr (T1.out.refs.lim.2.1 x hm)); omega))
                obtain ⟨W6, A6, hT6⟩ := T5.out.ref hr6
                have T6 := Lib.hid hT6
                clear hr6 hT6 CR
                go_wp2_with fail
                go_meet
                exact ⟨sz, rfl, Lib.hid (And.intro ⟨_, _, _, T6.out⟩ HX6.out), Lib.hid ⟨RI.out.n, by have := RI.out.ops; omega, by have := RI.out.since; omega⟩⟩
              · have hq7 : (fd == 7) = false := by simp [hd7]
                have CP := Lib.hid (T1.out.ours.fuse fn hfn)
                go_wp2_with fail
                refine CP.out.mono ?_
                rintro e w5 ⟨rfl, hs5⟩
                have hX5 := hs5.choose_spec.2.2.keep HX1.out (fun hm => by have := HXU.out x (.inl hm); omega)
                obtain ⟨U5, hT5⟩ := T1.out.our hs5
                have T5 := Lib.hid hT5
                obtain ⟨⟨x0, x1, x6⟩, x2, x3, x4, x5⟩ := HCELL.out w5 hX5
                obtain ⟨⟨u6, hu6⟩, hf6, hl6, hr6⟩ := hT5.refs.fuse fn hfn
                have HX6 := Lib.hid (hr6.choose_spec.choose_spec.2.2.2.keep hX5 (fun hm => by have := HXU.out x (.inr (T1.out.refs.lim.2.1 x hm)); omega))
                obtain ⟨W6, A6, hT6⟩ := hT5.ref hr6
                have T6 := Lib.hid hT6
                have RI := Lib.hid (fuse_rise6 t fn)
                generalize (⟨{ t.s with d := t.s.d.setFuse fn }, t.whole⟩ : Sto) = sz at *
                clear hs5 hX5 hT5 hr6 hT6 CP
                go_wp2_with fail
                generalize w5.setCell ⟨m, 5, none⟩ (.int .i64 (max fn (-1))) = w6 at *
                clear hu6 hf6 hl6
                go_wp2_with fail
                go_meet
                exact ⟨sz, rfl, Lib.hid (And.intro ⟨_, _, _, T6.out⟩ HX6.out), Lib.hid ⟨RI.out.n, by have := RI.out.ops; omega, by have := RI.out.since; omega⟩⟩
      case rest =>
      obtain ⟨sz, rfl, HT6, RI⟩ := hcut
      obtain ⟨U6, W6, A6, hT6⟩ := HT6.out.1
      have T6 := Lib.hid hT6
      have HX6 := Lib.hid HT6.out.2
      clear hT6 HT6
      obtain ⟨w6, rfl⟩ : ∃ w6 : World, w6 = wc := ⟨_, rfl⟩
      have hl1000 := T6.out.refs.few.2.2
      have TD := Lib.hid (T6.out.keep (by exact (Chg.refl [] w6).drew))
      have CL := Lib.hid (looks6_any q p q2 m _ _ _ sz ⟨xc, xl, xn, xi⟩ w6.drew TD.out.ours TD.out.refs hxo hl1000)
      have hp4 := T6.out.refs.ops
      have hx2 := (HCELL.out w6 HX6.out).2
      go_wp2_with fail
      refine wp_region_L [(7, fun w' => (w'.cell? ⟨x, 2, none⟩ = some (.int .i64 xc) ∧ w'.cell? ⟨x, 2 + 1, none⟩ = some (.int .i64 xl) ∧ w'.cell? ⟨x, 2 + 2, none⟩ = some (.int .i64 xn) ∧ w'.cell? ⟨x, 2 + 3, none⟩ = some (.int .i64 xi))), (17, fun w' => w'.cell? ⟨x, 2, none⟩ = some (.int .i64 xc)), (27, fun w' => w'.cell? ⟨m, 4, none⟩ = some (.int .i64 (sz.s.d.ops : Int)))] (by kernel_rfl) ?_ (fun hHeld => ?_)
      · exact (HoldC.cons (hx2) (HoldC.cons (hx2.1) (HoldC.cons (hp4) HoldC.nil)))
      refine wpAnyL_take (i := 0) (oi := _) (v := ?_) rfl (by kernel_rfl) (by kernel_rfl) (by kernel_rfl) (by kernel_rfl) (by kernel_rfl) (fun _ _ _ h => h) (Or.inl ⟨by rfl, ?_⟩) (by assumption) (fun hNew => ?_)
      rotate_left
      · intro w _
        go_simp
        try with_reducible rfl
      clear hHeld
      have hHeld := hNew
      clear hNew
      try simp only [List.getElem_toArray, List.getElem_cons_succ, List.getElem_cons_zero, Act.put, List.setIfInBounds_toArray, List.set_cons_zero, List.set_cons_succ]
      refine wpAnyL_take (i := 1) (oi := _) (v := ?_) rfl (by kernel_rfl) (by kernel_rfl) (by kernel_rfl) (by kernel_rfl) (by kernel_rfl) (fun _ _ _ h => h) (Or.inl ⟨by rfl, ?_⟩) (by assumption) (fun hNew => ?_)
      rotate_left
      · intro w _
        go_simp
        try with_reducible rfl
      clear hHeld
      have hHeld := hNew
      clear hNew
      try simp only [List.getElem_toArray, List.getElem_cons_succ, List.getElem_cons_zero, Act.put, List.setIfInBounds_toArray, List.set_cons_zero, List.set_cons_succ]
      refine wpAnyL_take (i := 2) (oi := _) (v := ?_) rfl (by kernel_rfl) (by kernel_rfl) (by kernel_rfl) (by kernel_rfl) (by kernel_rfl) (fun _ _ _ h => h) (Or.inl ⟨by rfl, ?_⟩) (by assumption) (fun hNew => ?_)
      rotate_left
      · intro w _
        go_simp
        try with_reducible rfl
      clear hHeld
      have hHeld := hNew
      clear hNew
      try simp only [List.getElem_toArray, List.getElem_cons_succ, List.getElem_cons_zero, Act.put, List.setIfInBounds_toArray, List.set_cons_zero, List.set_cons_succ]
      refine wpAnyL_take (i := 3) (oi := _) (v := ?_) rfl (by kernel_rfl) (by kernel_rfl) (by kernel_rfl) (by kernel_rfl) (by kernel_rfl) (fun _ _ _ h => h) (Or.inl ⟨by rfl, ?_⟩) (by assumption) (fun hNew => ?_)
      rotate_left
      · intro w _
        go_simp
        try with_reducible rfl
      clear hHeld
      have hHeld := hNew
      clear hNew
      try simp only [List.getElem_toArray, List.getElem_cons_succ, List.getElem_cons_zero, Act.put, List.setIfInBounds_toArray, List.set_cons_zero, List.set_cons_succ]
      refine wpAnyL_take (i := 4) (oi := _) (v := ?_) rfl (by kernel_rfl) (by kernel_rfl) (by kernel_rfl) (by kernel_rfl) (by kernel_rfl) (fun _ _ _ h => h) (Or.inl ⟨by rfl, ?_⟩) (by assumption) (fun hNew => ?_)
      rotate_left
      · intro w _
        go_simp
        try with_reducible rfl
      clear hHeld
      have hHeld := hNew
      clear hNew
      try simp only [List.getElem_toArray, List.getElem_cons_succ, List.getElem_cons_zero, Act.put, List.setIfInBounds_toArray, List.set_cons_zero, List.set_cons_succ]
      refine wpAnyL_take (i := 5) (oi := _) (v := ?_) rfl (by kernel_rfl) (by kernel_rfl) (by kernel_rfl) (by kernel_rfl) (by kernel_rfl) (fun _ _ _ h => h) (Or.inl ⟨by rfl, ?_⟩) (by assumption) (fun hNew => ?_)
      rotate_left
      · intro w _
        go_simp
        try with_reducible rfl
      clear hHeld
      have hHeld := hNew
      clear hNew
      try simp only [List.getElem_toArray, List.getElem_cons_succ, List.getElem_cons_zero, Act.put, List.setIfInBounds_toArray, List.set_cons_zero, List.set_cons_succ]
      refine wpAnyL_load 0 (i := 6) (oi := _) (v := ?_) rfl rfl (by kernel_rfl) (by kernel_rfl) (by kernel_rfl) (by kernel_rfl) (by kernel_rfl) (by kernel_rfl) (fun _ _ _ h => h) (Or.inl ⟨by rfl, ?_⟩) (by assumption) (fun hNew => ?_)
      rotate_left
      · intro w hSw
        (try dsimp only at hSw)
        go_simp
        try with_reducible rfl
      clear hHeld
      have hHeld := hNew
      clear hNew
      try simp only [List.getElem_toArray, List.getElem_cons_succ, List.getElem_cons_zero, Act.put, List.setIfInBounds_toArray, List.set_cons_zero, List.set_cons_succ]
      refine wpAnyL_ready (rs := [7]) (by kernel_rfl) (by simp) ?_
      refine AllReadyL.cons (o := _) rfl (fun K hK => ?_) AllReadyL.nil
      try simp only [List.getElem_toArray, List.getElem_cons_succ, List.getElem_cons_zero]
      go_simp
      refine CL.out.mono ?_
      rintro e w8 ⟨rfl, hc8⟩
      have hc8' : Chg [] w6 w8 := (by exact (Chg.refl [] w6).drew : Chg [] w6 w6.drew).trans hc8 (by simp)
      have T8 := Lib.hid (T6.out.keep hc8')
      have hp8 := hc8'.cell hp4 (by simp)
      have hx8 := hc8'.cell hx2.1 (by simp)
      have CLT := Lib.hid (latest6_any q p q2 m _ _ _ sz xc w8 T8.out.ours T8.out.refs hl1000)
      clear hc8 hc8' hp4 hx2 CL
      clear hHeld
      refine hK.out _ _ ?_ (fun hHeld => ?_)
      · exact (HoldC.past (by kernel_rfl) (HoldC.cons (hx8) (HoldC.cons (hp8) HoldC.nil)))
      clear hK K
      try simp only [List.getElem_toArray, List.getElem_cons_succ, List.getElem_cons_zero, Act.put, List.setIfInBounds_toArray, List.set_cons_zero, List.set_cons_succ]
      refine wpAnyL_take (i := 8) (oi := _) (v := ?_) rfl (by kernel_rfl) (by kernel_rfl) (by kernel_rfl) (by kernel_rfl) (by kernel_rfl) (fun _ _ _ h => h) (Or.inl ⟨by rfl, ?_⟩) (by assumption) (fun hNew => ?_)
      rotate_left
      · intro w _
        go_simp
        try with_reducible rfl
      clear hHeld
      have hHeld := hNew
      clear hNew
      try simp only [List.getElem_toArray, List.getElem_cons_succ, List.getElem_cons_zero, Act.put, List.setIfInBounds_toArray, List.set_cons_zero, List.set_cons_succ]
      refine wpAnyL_take (i := 9) (oi := _) (v := ?_) rfl (by kernel_rfl) (by kernel_rfl) (by kernel_rfl) (by kernel_rfl) (by kernel_rfl) (fun _ _ _ h => h) (Or.inl ⟨by rfl, ?_⟩) (by assumption) (fun hNew => ?_)
      rotate_left
      · intro w _
        go_simp
        try with_reducible rfl
      clear hHeld
      have hHeld := hNew
      clear hNew
      try simp only [List.getElem_toArray, List.getElem_cons_succ, List.getElem_cons_zero, Act.put, List.setIfInBounds_toArray, List.set_cons_zero, List.set_cons_succ]
      refine wpAnyL_take (i := 10) (oi := _) (v := ?_) rfl (by kernel_rfl) (by kernel_rfl) (by kernel_rfl) (by kernel_rfl) (by kernel_rfl) (fun _ _ _ h => h) (Or.inl ⟨by rfl, ?_⟩) (by assumption) (fun hNew => ?_)
      rotate_left
      · intro w _
        go_simp
        try with_reducible rfl
      clear hHeld
      have hHeld := hNew
      clear hNew
      try simp only [List.getElem_toArray, List.getElem_cons_succ, List.getElem_cons_zero, Act.put, List.setIfInBounds_toArray, List.set_cons_zero, List.set_cons_succ]
      refine wpAnyL_take (i := 11) (oi := _) (v := ?_) rfl (by kernel_rfl) (by kernel_rfl) (by kernel_rfl) (by kernel_rfl) (by kernel_rfl) (fun _ _ _ h => h) (Or.inl ⟨by rfl, ?_⟩) (by assumption) (fun hNew => ?_)
      rotate_left
      · intro w _
        go_simp
        try with_reducible rfl
      clear hHeld
      have hHeld := hNew
      clear hNew
      try simp only [List.getElem_toArray, List.getElem_cons_succ, List.getElem_cons_zero, Act.put, List.setIfInBounds_toArray, List.set_cons_zero, List.set_cons_succ]
      refine wpAnyL_take (i := 12) (oi := _) (v := ?_) rfl (by kernel_rfl) (by kernel_rfl) (by kernel_rfl) (by kernel_rfl) (by kernel_rfl) (fun _ _ _ h => h) (Or.inl ⟨by rfl, ?_⟩) (by assumption) (fun hNew => ?_)
      rotate_left
      · intro w _
        go_simp
        try with_reducible rfl
      clear hHeld
      have hHeld := hNew
      clear hNew
      try simp only [List.getElem_toArray, List.getElem_cons_succ, List.getElem_cons_zero, Act.put, List.setIfInBounds_toArray, List.set_cons_zero, List.set_cons_succ]
      refine wpAnyL_take (i := 13) (oi := _) (v := ?_) rfl (by kernel_rfl) (by kernel_rfl) (by kernel_rfl) (by kernel_rfl) (by kernel_rfl) (fun _ _ _ h => h) (Or.inl ⟨by rfl, ?_⟩) (by assumption) (fun hNew => ?_)
      rotate_left
      · intro w _
        go_simp
        try with_reducible rfl
      clear hHeld
      have hHeld := hNew
      clear hNew
      try simp only [List.getElem_toArray, List.getElem_cons_succ, List.getElem_cons_zero, Act.put, List.setIfInBounds_toArray, List.set_cons_zero, List.set_cons_succ]
      refine wpAnyL_take (i := 14) (oi := _) (v := ?_) rfl (by kernel_rfl) (by kernel_rfl) (by kernel_rfl) (by kernel_rfl) (by kernel_rfl) (fun _ _ _ h => h) (Or.inl ⟨by rfl, ?_⟩) (by assumption) (fun hNew => ?_)
      rotate_left
      · intro w _
        go_simp
        try with_reducible rfl
      clear hHeld
      have hHeld := hNew
      clear hNew
      try simp only [List.getElem_toArray, List.getElem_cons_succ, List.getElem_cons_zero, Act.put, List.setIfInBounds_toArray, List.set_cons_zero, List.set_cons_succ]
      refine wpAnyL_take (i := 15) (oi := _) (v := ?_) rfl (by kernel_rfl) (by kernel_rfl) (by kernel_rfl) (by kernel_rfl) (by kernel_rfl) (fun _ _ _ h => h) (Or.inl ⟨by rfl, ?_⟩) (by assumption) (fun hNew => ?_)
      rotate_left
      · intro w _
        go_simp
        try with_reducible rfl
      clear hHeld
      have hHeld := hNew
      clear hNew
      try simp only [List.getElem_toArray, List.getElem_cons_succ, List.getElem_cons_zero, Act.put, List.setIfInBounds_toArray, List.set_cons_zero, List.set_cons_succ]
      refine wpAnyL_load 1 (i := 16) (oi := _) (v := ?_) rfl rfl (by kernel_rfl) (by kernel_rfl) (by kernel_rfl) (by kernel_rfl) (by kernel_rfl) (by kernel_rfl) (fun _ _ _ h => h) (Or.inl ⟨by rfl, ?_⟩) (by assumption) (fun hNew => ?_)
      rotate_left
      · intro w hSw
        (try dsimp only at hSw)
        go_simp
        try with_reducible rfl
      clear hHeld
      have hHeld := hNew
      clear hNew
      try simp only [List.getElem_toArray, List.getElem_cons_succ, List.getElem_cons_zero, Act.put, List.setIfInBounds_toArray, List.set_cons_zero, List.set_cons_succ]
      refine wpAnyL_ready (rs := [17]) (by kernel_rfl) (by simp) ?_
      refine AllReadyL.cons (o := _) rfl (fun K hK => ?_) AllReadyL.nil
      try simp only [List.getElem_toArray, List.getElem_cons_succ, List.getElem_cons_zero]
      go_simp
      refine CLT.out.mono ?_
      rintro e w9 ⟨rfl, hc9⟩
      have T9 := Lib.hid (T8.out.keep hc9)
      have hp9 := hc9.cell hp8 (by simp)
      obtain ⟨S9, hd9⟩ := T9.out.ours.disk
      have CO9 := Lib.hid (dops_any p S9 sz.s.d w9 hd9)
      clear hc9 hp8 hx8 hd9 CLT
      clear hHeld
      refine hK.out _ _ ?_ (fun hHeld => ?_)
      · exact (HoldC.past (by kernel_rfl) (HoldC.past (by kernel_rfl) (HoldC.cons (hp9) HoldC.nil)))
      clear hK K
      try simp only [List.getElem_toArray, List.getElem_cons_succ, List.getElem_cons_zero, Act.put, List.setIfInBounds_toArray, List.set_cons_zero, List.set_cons_succ]
      refine wpAnyL_take (i := 18) (oi := _) (v := ?_) rfl (by kernel_rfl) (by kernel_rfl) (by kernel_rfl) (by kernel_rfl) (by kernel_rfl) (fun _ _ _ h => h) (Or.inl ⟨by rfl, ?_⟩) (by assumption) (fun hNew => ?_)
      rotate_left
      · intro w _
        go_simp
        try with_reducible rfl
      clear hHeld
      have hHeld := hNew
      clear hNew
      try simp only [List.getElem_toArray, List.getElem_cons_succ, List.getElem_cons_zero, Act.put, List.setIfInBounds_toArray, List.set_cons_zero, List.set_cons_succ]
      refine wpAnyL_take (i := 19) (oi := _) (v := ?_) rfl (by kernel_rfl) (by kernel_rfl) (by kernel_rfl) (by kernel_rfl) (by kernel_rfl) (fun _ _ _ h => h) (Or.inl ⟨by rfl, ?_⟩) (by assumption) (fun hNew => ?_)
      rotate_left
      · intro w _
        go_simp
        try with_reducible rfl
      clear hHeld
      have hHeld := hNew
      clear hNew
      try simp only [List.getElem_toArray, List.getElem_cons_succ, List.getElem_cons_zero, Act.put, List.setIfInBounds_toArray, List.set_cons_zero, List.set_cons_succ]
      refine wpAnyL_take (i := 20) (oi := _) (v := ?_) rfl (by kernel_rfl) (by kernel_rfl) (by kernel_rfl) (by kernel_rfl) (by kernel_rfl) (fun _ _ _ h => h) (Or.inl ⟨by rfl, ?_⟩) (by assumption) (fun hNew => ?_)
      rotate_left
      · intro w _
        go_simp
        try with_reducible rfl
      clear hHeld
      have hHeld := hNew
      clear hNew
      try simp only [List.getElem_toArray, List.getElem_cons_succ, List.getElem_cons_zero, Act.put, List.setIfInBounds_toArray, List.set_cons_zero, List.set_cons_succ]
      refine wpAnyL_take (i := 21) (oi := _) (v := ?_) rfl (by kernel_rfl) (by kernel_rfl) (by kernel_rfl) (by kernel_rfl) (by kernel_rfl) (fun _ _ _ h => h) (Or.inl ⟨by rfl, ?_⟩) (by assumption) (fun hNew => ?_)
      rotate_left
      · intro w _
        go_simp
        try with_reducible rfl
      clear hHeld
      have hHeld := hNew
      clear hNew
      try simp only [List.getElem_toArray, List.getElem_cons_succ, List.getElem_cons_zero, Act.put, List.setIfInBounds_toArray, List.set_cons_zero, List.set_cons_succ]
      refine wpAnyL_take (i := 23) (oi := _) (v := ?_) rfl (by kernel_rfl) (by kernel_rfl) (by kernel_rfl) (by kernel_rfl) (by kernel_rfl) (fun _ _ _ h => h) (Or.inl ⟨by rfl, ?_⟩) (by assumption) (fun hNew => ?_)
      rotate_left
      · intro w _
        go_simp
        try with_reducible rfl
      clear hHeld
      have hHeld := hNew
      clear hNew
      try simp only [List.getElem_toArray, List.getElem_cons_succ, List.getElem_cons_zero, Act.put, List.setIfInBounds_toArray, List.set_cons_zero, List.set_cons_succ]
      refine wpAnyL_take (i := 24) (oi := _) (v := ?_) rfl (by kernel_rfl) (by kernel_rfl) (by kernel_rfl) (by kernel_rfl) (by kernel_rfl) (fun _ _ _ h => h) (Or.inl ⟨by rfl, ?_⟩) (by assumption) (fun hNew => ?_)
      rotate_left
      · intro w _
        go_simp
        try with_reducible rfl
      clear hHeld
      have hHeld := hNew
      clear hNew
      try simp only [List.getElem_toArray, List.getElem_cons_succ, List.getElem_cons_zero, Act.put, List.setIfInBounds_toArray, List.set_cons_zero, List.set_cons_succ]
      refine wpAnyL_take (i := 25) (oi := _) (v := ?_) rfl (by kernel_rfl) (by kernel_rfl) (by kernel_rfl) (by kernel_rfl) (by kernel_rfl) (fun _ _ _ h => h) (Or.inl ⟨by rfl, ?_⟩) (by assumption) (fun hNew => ?_)
      rotate_left
      · intro w _
        go_simp
        try with_reducible rfl
      clear hHeld
      have hHeld := hNew
      clear hNew
      try simp only [List.getElem_toArray, List.getElem_cons_succ, List.getElem_cons_zero, Act.put, List.setIfInBounds_toArray, List.set_cons_zero, List.set_cons_succ]
      refine wpAnyL_load 2 (i := 26) (oi := _) (v := ?_) rfl rfl (by kernel_rfl) (by kernel_rfl) (by kernel_rfl) (by kernel_rfl) (by kernel_rfl) (by kernel_rfl) (fun _ _ _ h => h) (Or.inl ⟨by rfl, ?_⟩) (by assumption) (fun hNew => ?_)
      rotate_left
      · intro w hSw
        (try dsimp only at hSw)
        go_simp
        try with_reducible rfl
      clear hHeld
      have hHeld := hNew
      clear hNew
      try simp only [List.getElem_toArray, List.getElem_cons_succ, List.getElem_cons_zero, Act.put, List.setIfInBounds_toArray, List.set_cons_zero, List.set_cons_succ]
      refine wpAnyL_ready (rs := [22]) (by kernel_rfl) (by simp) ?_
      refine AllReadyL.cons (o := _) rfl (fun K hK => ?_) AllReadyL.nil
      try simp only [List.getElem_toArray, List.getElem_cons_succ, List.getElem_cons_zero]
      go_simp
      refine CO9.out.mono ?_
      rintro e w' ⟨rfl, hq⟩
      subst hq
      clear hHeld
      refine hK.out _ _ ?_ (fun hHeld => ?_)
      · exact (HoldC.past (by kernel_rfl) (HoldC.past (by kernel_rfl) (HoldC.cons (hp9) HoldC.nil)))
      clear hK K
      try simp only [List.getElem_toArray, List.getElem_cons_succ, List.getElem_cons_zero, Act.put, List.setIfInBounds_toArray, List.set_cons_zero, List.set_cons_succ]
      refine wpAnyL_ready (rs := [27]) (by kernel_rfl) (by simp) ?_
      refine AllReadyL.cons (o := _) rfl (fun K hK => ?_) AllReadyL.nil
      try simp only [List.getElem_toArray, List.getElem_cons_succ, List.getElem_cons_zero]
      go_simp
      clear hHeld
      refine hK.out _ _ ?_ (fun hHeld => ?_)
      · exact (HoldC.past (by kernel_rfl) (HoldC.past (by kernel_rfl) (HoldC.past (by kernel_rfl) HoldC.nil)))
      clear hK K
      try simp only [List.getElem_toArray, List.getElem_cons_succ, List.getElem_cons_zero, Act.put, List.setIfInBounds_toArray, List.set_cons_zero, List.set_cons_succ]
      refine wpAnyL_take (i := 28) (oi := _) (v := ?_) rfl (by kernel_rfl) (by kernel_rfl) (by kernel_rfl) (by kernel_rfl) (by kernel_rfl) (fun _ _ _ h => h) (Or.inl ⟨by rfl, ?_⟩) (by assumption) (fun hNew => ?_)
      rotate_left
      · intro w _
        go_simp
        try with_reducible rfl
      clear hHeld
      have hHeld := hNew
      clear hNew
      try simp only [List.getElem_toArray, List.getElem_cons_succ, List.getElem_cons_zero, Act.put, List.setIfInBounds_toArray, List.set_cons_zero, List.set_cons_succ]
      refine wpAnyL_done (by kernel_rfl) ?_ _
      clear hHeld
      clear hp9 CO9
      have HEND : Hid (Two6 w w9 q p q2 m _ _ _ sz sz ∧ sz.s.d.n = sn ∧ sz.s.d.ops ≤ 200 + 40 * (k + 1) ∧ sz.s.d.since.length ≤ 200 + 40 * (k + 1)) := Lib.hid ⟨T9.out, by rw [RI.out.n]; exact HSN.out, by have := RI.out.ops; omega, by have := RI.out.since; omega⟩
      go_wp2_with fail
      go_roundg (gk - 1)
      case measure => omega
      case rel => exact ⟨k + 1, _, _, _, sz, by go_num, by omega, by omega, HEND⟩
    · have hkn : k = n := by omega
      have hkz : ¬ (k : Int) < (n : Int) := by omega
      obtain ⟨S9, hd9⟩ := HR.out.1.ours.disk
      have CI := Lib.hid (dimage_any p S9 t.s.d wr hd9)
      obtain ⟨V9, F9, hr9⟩ := HR.out.1.refs.disk
      have CRI := Lib.hid (fun w1 (hc : Chg [] wr w1) => rimage_any m V9 F9 t.s.d w1 (hr9.keep hc (by simp)))
      have hfl : (flat t.s.d.n t.s.d.now).length ≤ 1000000 := by
        obtain ⟨gn, gl, cn, cl, v, hd⟩ := hd9
        have h1 := hd.few
        rw [flat_len _ _ (fun i hi => hd.now.len i hi)]
        omega
      have HFL := Lib.hid hfl
      have HD9 := Lib.hid hd9
      have HR9 := Lib.hid hr9
      have HCR := Lib.hid HR.out.1.chg
      have hcode := stOpen_code t.s.d (by rw [HR.out.2.1]; omega)
      have HCODE := Lib.hid hcode
      clear hd9 hr9 hfl hkn HR hcode
      go_wp2_with fail
      refine CI.out.mono ?_
      rintro e w5 ⟨v5, rfl, hb5, ho5, hc5⟩
      have HC5 := Lib.hid hc5
      have HB5 := Lib.hid hb5.bytes
      clear hb5 ho5 hc5 CI
      go_wp2_with fail
      refine (CRI.out w5 HC5.out).mono ?_
      rintro e w6 ⟨v6, rfl, hb6, ho6, hc6⟩
      have CSM := Lib.hid (same_any v5 v6 _ _ w6 (HB5.out.chg hc6 (by simp)) hb6.bytes (by have := HFL.out; omega) (by have := HFL.out; omega))
      rw [decide_eq_true rfl] at CSM
      have HC6 := Lib.hid (HC5.out.trans hc6 (by simp))
      clear hb6 ho6 hc6 CRI
      go_wp2_with fail
      refine CSM.out.mono ?_
      rintro e w7 ⟨rfl, nn, hq⟩
      have HC7 : Hid (Chg [] wr w7) := Lib.hid (by rw [hq]; exact HC6.out.drewN nn)
      have CO := Lib.hid (stopen_any p S9 t.s.d w7 (HD9.out.keep HC7.out (by simp)))
      clear hq CSM
      rcases HCODE.out with ⟨c, hc, hc0⟩ | ⟨t9, hc⟩
      · rw [hc] at CO
        go_wp2_with fail
        refine CO.out.mono ?_
        rintro e w8 ⟨hc8, he⟩
        dsimp only at he
        subst he
        have HC8 := Lib.hid (HC7.out.trans hc8 (by simp))
        have CRO := Lib.hid (rstopen_any m V9 F9 t.s.d w8 (HR9.out.keep HC8.out (by simp)))
        rw [hc] at CRO
        clear hc8 CO
        go_wp2_with fail
        refine CRO.out.mono ?_
        rintro e w9 ⟨hc9, he⟩
        dsimp only at he
        subst he
        have HCF : Hid (Chg [] w w9) := Lib.hid ((HCR.out.trans HC8.out (by simp)).trans hc9 (by simp))
        have qc : (c != 0) = true := by simp [hc0]
        clear hc9 CRO
        go_wp2
        go_ret
        exact ⟨rfl, HCF.out⟩
      · rw [hc] at CO
        go_wp2_with fail
        refine CO.out.mono ?_
        rintro e w8 ⟨hc8, q9, U9, he, hs8, -⟩
        subst he
        have HC8 := Lib.hid (HC7.out.trans hc8 (by simp))
        have HS8 := Lib.hid hs8
        have CRO := Lib.hid (rstopen_any m V9 F9 t.s.d w8 (HR9.out.keep HC8.out (by simp)))
        rw [hc] at CRO
        clear hc8 hs8 CO
        go_wp2_with fail
        refine CRO.out.mono ?_
        rintro e w9 ⟨hc9, q10, U10, B10, he, hr9, -, -⟩
        subst he
        have HC9 := Lib.hid (HC8.out.trans hc9 (by simp))
        have HR10 := Lib.hid hr9
        have HS9 := Lib.hid (HS8.out.keep0 hc9)
        have hl1000 := hr9.few.2.2
        have CID := Lib.hid (lawid_any 1 0 1 0 w9)
        clear hc9 hr9 CRO HS8
        go_wp2_with fail
        refine CID.out.mono ?_
        rintro e w10 ⟨rfl, hc10⟩
        have CL := Lib.hid (looks6_any q9 p q10 m U9 U10 B10 t9 ⟨1, 0, 1, 0⟩ w10 (HS9.out.keep0 hc10) (HR10.out.keep hc10 (by simp)) (by decide) hl1000)
        have HC10 := Lib.hid (HC9.out.trans hc10 (by simp))
        clear hc10 CID
        go_wp2_with fail
        refine CL.out.mono ?_
        rintro e w11 ⟨rfl, hc11⟩
        have HCF : Hid (Chg [] w w11) := Lib.hid ((HCR.out.trans HC10.out (by simp)).trans hc11 (by simp))
        clear hc11 CL
        go_wp2
        go_ret
        exact ⟨rfl, HCF.out⟩
end Go.Proofs.YtbkajnjboipbhaaGreatDoor.W

/- StorePlays: what the row asks. -/
namespace Go.Proofs.YtbkajnjboipbhaaGreatDoor.storePlays
set_option linter.unusedVariables false
open Go.RowKit Go.ChangeShapes Go.WideShapes
set_option maxRecDepth 100000 in
theorem walk {H : Type} {enc : TypeId × Value → H} {held : Bool} {base b0 : Nat} (a0 : Int) (v0 : Value) (d0 : DataW H) (p0 : List MemPlace) (X : World) (hw : (Lit.int .i64 a0).wf = true) (h0 : Value.okWide Tryz.prog X .any b0 48 v0) (k0 : DataW.Trod enc Tryz.prog X base (fun _ => true) held 48 v0 d0 p0) :
    Calls Tryz.prog 10 #[.int .i64 a0, v0] X fun e w' => e = .returned (.bool true) ∧ Below X.heap.size X w' := by
  obtain ⟨a, n, cap, rfl⟩ := okWide_slice Tryz.underlying48 h0
  obtain ⟨f, hn, hin⟩ : ∃ f, n ≤ maxLen ∧ Go.Proofs.YtbkajnjboipbhaaGreatDoor.W.DeedsAt X a n f := by
    obtain ⟨fuel, hf⟩ := k0
    rcases Go.Proofs.YtbkajnjboipbhaaGreatDoor.W.open_deeds hf with hcs | ⟨x, l, c, f, hcs, hl, hm, hd⟩
    · simp [Value.cells] at hcs
      obtain ⟨rfl, rfl, rfl⟩ := hcs
      exact ⟨fun _ => default, by unfold maxLen; omega, .inl rfl⟩
    · simp [Value.cells] at hcs
      obtain ⟨rfl, rfl, rfl⟩ := hcs
      exact ⟨f, Nat.le_trans hl hm, hd⟩
  exact (Go.Proofs.YtbkajnjboipbhaaGreatDoor.W.plays6_any a0 a n cap f X hin).mono fun e w' ⟨h1, h2⟩ => ⟨h1, h2.below (by simp)⟩
end Go.Proofs.YtbkajnjboipbhaaGreatDoor.storePlays
