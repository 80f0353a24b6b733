/- Texts laid together. -/
import Derived.Test.YtipfgghdoicdhaaDoorTB3
import Derived.Test.YtipfgghdoicdhaaDoorTB2
import Derived.Laws.CopyOwn
import Derived.Test.YtipfgghdoicdhaaDoorTB1
import Derived.Laws.BitsLemmas
/- SlotKnown: the walk. -/
namespace Go.Proofs.YtipfgghdoicdhaaDoor.W
open Go.RowKit
set_option linter.unusedVariables false
set_option linter.unusedSimpArgs false

set_option maxHeartbeats 8000000 in
set_option maxRecDepth 100000 in
/-- Open, of no disk. -/
theorem sopen_nil (first : Int) (w : World) :
    Calls Tryd.prog 14 #[.pointer none, .int .i64 first] w fun e w' => e = .returned (.tuple #[.pointer none, .int .i64 1]) ∧ Chg [] w w' := by
  go_enter_defers Tryd.func14, Tryd.ntmps14
  go_wp2_with fail
  exact ⟨.tuple #[.pointer none, .int .i64 1], by simp [results, Tryd.results14, go_sem], rfl, ((Chg.refl _ _).alloc _).alloc _⟩

def Z41 : Array Value := (bvs (zeros 41)).toArray
theorem make_41 (w : World) : (Instr.makeSlice 31 (.int .i64 41) (.int .i64 41)).run Tryd.prog w = .ok (.slice (some ⟨w.heap.size, 0, none⟩) 41 41) (w.alloc (.cells Z41 5)) := by
  obtain ⟨i, hi, h1, h2, h3⟩ := info_parts facts_u8
  have h := run_make (P := Tryd.prog) w 31 5 i _ Tryd.underlying31 hi h1 .i64 .i64 41 41 (by omega) (Int.le_refl _) (by rw [h3]; omega) (by omega)
  rw [h2] at h
  have hz : madeCells (Value.int .u8 0).cells ((41 : Int).toNat * 1) = Z41 := by kernel_rfl
  rw [hz] at h
  exact h
theorem z41_bytes (w : World) : BytesAt (w.alloc (.cells Z41 5)) (.slice (some ⟨w.heap.size, 0, none⟩) 41 41) (zeros 41) :=
  (row_of_block (l := zeros 41) (heap_alloc_new w _) (by decide)).bytes
theorem pair_of {α β : Type} {x : α × β} {a : α} (h : x.1 = a) : x = (a, x.2) := by subst h; rfl
theorem ws0_long : ws0.put 0 (zeros 41) [] = (3, ws0) := by rfl
theorem ws0_none : ws0.put 2 [] [] = (1, ws0) := by rfl
theorem ws0_get : ws0.get 0 = ([], 6) := by rfl
def ks1 : SS := (ws0.put 1 [1] []).2
theorem ks1_put : ws0.put 1 [1] [] = (0, ks1) := pair_of (by kernel_rfl)
theorem ks1_there : ks1.put 1 [2] [] = (7, ks1) := by
  have h : (ks1.row 1).used = true := by kernel_rfl
  unfold SS.put
  have hl : ks1.rows.length = 2 := by kernel_rfl
  rw [if_neg (by unfold SS.has; rw [hl]; decide), if_neg (by decide), if_pos h]
def ks2 : SS := (ks1.clear 1).2
theorem ks2_clear : ks1.clear 1 = (0, ks2) := pair_of (by kernel_rfl)
theorem ks2_free : ks2.free = 0 := by kernel_rfl
theorem d17_far : (DS.new 17).slots 18 = (1, none) := by rfl
theorem ks1_ops : ks1.d.ops ≤ 900000000 ∧ ks1.d.since.length ≤ 900000 := by
  refine ⟨Nat.le_of_ble_eq_true (by kernel_rfl), Nat.le_of_ble_eq_true (by kernel_rfl)⟩
end Go.Proofs.YtipfgghdoicdhaaDoor.W
namespace Go.Proofs.YtipfgghdoicdhaaDoor.W
open Go.RowKit
set_option linter.unusedVariables false
set_option linter.unusedSimpArgs false

/-- Slots that have come about since w0. -/
def Since (w0 w : World) (q p : Nat) (U : List Nat) (s : SS) : Prop := SlotsAt w q p U s ∧ (∀ x ∈ U, w0.heap.size ≤ x) ∧ Chg [] w0 w
theorem Since.keep {w0 w w' : World} {q p : Nat} {U : List Nat} {s : SS} (h : Since w0 w q p U s) (hc : Chg [] w w') : Since w0 w' q p U s := ⟨h.1.keep0 hc, h.2.1, h.2.2.trans hc (by simp)⟩
theorem Since.sid {w0 w w' : World} {q p : Nat} {U : List Nat} {s s' : SS} (h : Since w0 w q p U s) (hs : Sid w w' q p U s') : ∃ U', Since w0 w' q p U' s' := by
  obtain ⟨U', h1, h2, h3⟩ := hs
  refine ⟨U', h1, fun x hx => ?_, h.2.2.trans h3 (fun x hx => .inr (h.2.1 x hx))⟩
  rcases h2 x hx with h4 | h4
  · exact h.2.1 x h4
  · exact Nat.le_trans h.2.2.size h4
theorem Since.fresh {w0 w : World} {q p : Nat} {U : List Nat} {s : SS} (h : Since w0 w q p U s) {k : Nat} (hk : w.heap.size ≤ k) : k ∉ U := fun hm => by
  have := h.1.own k hm
  omega

set_option maxHeartbeats 8000000 in
set_option maxRecDepth 100000 in
theorem known_any (w : World) : Calls Tryd.prog 4 #[] w fun e w' => e = .returned (.bool true) ∧ Chg [] w w' := by
  have CA := Lib.hid (awake_any w)
  go_enter Tryd.func4, Tryd.ntmps4
  go_wp2_with fail
  refine CA.out.mono ?_
  rintro e w0 ⟨rfl, hc0⟩
  have HC0 := Lib.hid hc0
  have CN := Lib.hid (dnew_any 17 w0 (by omega) (by omega))
  clear hc0 CA
  go_wp2_with fail
  refine CN.out.mono ?_
  rintro e w1 ⟨p, S, rfl, hd1, hS1, hc1⟩
  have CO := Lib.hid (sopen_any p S _ 1 w1 hd1)
  rw [ws0_open] at CO
  have HD1 := Lib.hid hd1
  have HC1 := Lib.hid hc1
  have HS1 := Lib.hid hS1
  clear hd1 hS1 hc1 CN
  go_wp2_with fail
  refine CO.out.mono ?_
  rintro e w2 ⟨hc2, q, U, rfl, hs2, hU2⟩
  have H2 : Hid (Since w0 w2 q p U ws0) := Lib.hid ⟨hs2, fun x hx => by
    rcases hU2 x hx with h | h
    · exact HS1.out x h
    · have := HC1.out.size; omega, HC1.out.trans hc2 (by simp)⟩
  have HD2 := Lib.hid (HD1.out.keep hc2 (by simp))
  have CZ := Lib.hid (sopen_nil 1 w2)
  clear hs2 hU2 hc2 CO HS1
  go_wp2_with fail
  refine CZ.out.mono ?_
  rintro e w3 ⟨rfl, hc3⟩
  have H3 := Lib.hid (H2.out.keep hc3)
  have CF := Lib.hid (sopen_any p S _ 18 w3 (HD2.out.keep hc3 (by simp)))
  rw [d17_far] at CF
  clear hc3 CZ
  go_wp2_with fail
  refine CF.out.mono ?_
  rintro e w4 ⟨hc4, he⟩
  dsimp only at he
  subst he
  have H4 := Lib.hid (H3.out.keep hc4)
  have hcz : Chg [] w4 (w4.alloc (.cells Z41 5)) := (Chg.refl _ _).alloc _
  have H4a := Lib.hid (H4.out.keep hcz)
  have C1 := Lib.hid (sput_any q p U ws0 0 _ (.slice none 0 0) (zeros 41) [] _ H4a.out.1 (z41_bytes w4) (fun _ k hk => by
    obtain rfl : w4.heap.size = k := by simpa [Value.ownBlock] using hk
    exact H4.out.fresh (Nat.le_refl _)) (BytesAt.nil _) (by simp [Value.ownBlock]) (by decide) (by decide) (by decide) (by decide))
  rw [ws0_long] at C1
  have hmk := make_41
  clear hc4 CF hcz
  go_wp2_with fail
  refine C1.out.mono ?_
  rintro e w5 ⟨rfl, hs5⟩
  obtain ⟨U5, H5⟩ := H4a.out.sid hs5
  have C2 := Lib.hid (sput_any q p U5 ws0 2 (.slice none 0 0) (.slice none 0 0) [] [] _ H5.1 (BytesAt.nil _) (by simp [Value.ownBlock]) (BytesAt.nil _) (by simp [Value.ownBlock]) (by decide) (by decide) (by decide) (by decide))
  rw [ws0_none] at C2
  have HH5 := Lib.hid H5
  clear H5 hs5 C1
  go_wp2_with fail
  refine C2.out.mono ?_
  rintro e w6 ⟨rfl, hs6⟩
  obtain ⟨U6, H6⟩ := HH5.out.sid hs6
  have CG := Lib.hid (sget_any q p U6 ws0 0 _ H6.1)
  rw [ws0_get] at CG
  have HH6 := Lib.hid H6
  clear H6 hs6 C2
  go_wp2_with fail
  refine CG.out.mono ?_
  rintro e w7 ⟨⟨v7, rfl, hb7, ho7⟩, hc7⟩
  have H7 := Lib.hid (HH6.out.keep hc7)
  have C3 := Lib.hid (sput_any q p U6 ws0 1 _ (.slice none 0 0) [1] [] _ (H7.out.keep ((Chg.refl [] w7).alloc (.cells #[bv 1] 5))).1 (one_bytes w7 1) (fun _ k hk => by
    obtain rfl : w7.heap.size = k := by simpa [Value.ownBlock] using hk
    exact H7.out.fresh (Nat.le_refl _)) (BytesAt.nil _) (by simp [Value.ownBlock]) (by decide) (by decide) (by decide) (by decide))
  rw [ks1_put] at C3
  have H7a := Lib.hid (H7.out.keep ((Chg.refl [] w7).alloc (.cells #[bv 1] 5)))
  obtain ⟨a7, c7, rfl⟩ := hb7.slice
  clear hb7 ho7 hc7 CG
  go_wp2_with fail
  refine C3.out.mono ?_
  rintro e w8 ⟨rfl, hs8⟩
  obtain ⟨U8, H8⟩ := H7a.out.sid hs8
  have HH8 := Lib.hid H8
  have H8a := Lib.hid (H8.keep ((Chg.refl [] w8).alloc (.cells #[bv 2] 5)))
  have C4 := Lib.hid (sput_any q p U8 ks1 1 _ (.slice none 0 0) [2] [] _ H8a.out.1 (one_bytes w8 2) (fun _ k hk => by
    obtain rfl : w8.heap.size = k := by simpa [Value.ownBlock] using hk
    exact HH8.out.fresh (Nat.le_refl _)) (BytesAt.nil _) (by simp [Value.ownBlock]) (by decide) (by decide) ks1_ops.1 ks1_ops.2)
  rw [ks1_there] at C4
  clear H8 hs8 C3
  go_wp2_with fail
  refine C4.out.mono ?_
  rintro e w9 ⟨rfl, hs9⟩
  obtain ⟨U9, H9⟩ := H8a.out.sid hs9
  have C5 := Lib.hid (sclear_any q p U9 ks1 1 _ H9.1 ks1_ops.1 ks1_ops.2)
  rw [ks2_clear] at C5
  have HH9 := Lib.hid H9
  clear H9 hs9 C4
  go_wp2_with fail
  refine C5.out.mono ?_
  rintro e w10 ⟨rfl, hs10⟩
  obtain ⟨U10, H10⟩ := HH9.out.sid hs10
  have C6 := Lib.hid (sfree_any q p U10 ks2 _ H10.1)
  rw [ks2_free] at C6
  have HH10 := Lib.hid H10
  clear H10 hs10 C5
  go_wp2_with fail
  refine C6.out.mono ?_
  rintro e w' ⟨rfl, hq⟩
  subst hq
  go_wp2
  go_ret
  exact ⟨rfl, HC0.out.trans HH10.out.2.2 (by simp)⟩
end Go.Proofs.YtipfgghdoicdhaaDoor.W

/- SlotApart: what stands between the rounds. -/
namespace Go.Proofs.YtipfgghdoicdhaaDoor.W
open Go.RowKit
set_option linter.unusedVariables false
set_option linter.unusedSimpArgs false

/-- Five cells. -/
def five (f : Nat → Value) : Array Value := #[f 0, f 1, f 2, f 3, f 4]
theorem five_at (f : Nat → Value) (k : Nat) (hk : k < 5) : (five f)[k]? = some (f k) := by
  match k, hk with
  | 0, _ => rfl
  | 1, _ => rfl
  | 2, _ => rfl
  | 3, _ => rfl
  | 4, _ => rfl
def set5 {α : Type} (f : Nat → α) (k : Nat) (x : α) : Nat → α := fun j => if j = k then x else f j
theorem five_set (f : Nat → Value) (k : Nat) (x : Value) (hk : k < 5) : (five f).setIfInBounds k x = five (set5 f k x) := by
  match k, hk with
  | 0, _ => rfl
  | 1, _ => rfl
  | 2, _ => rfl
  | 3, _ => rfl
  | 4, _ => rfl
def bo (u : Nat → Bool) : Nat → Value := fun j => .bool (u j)
theorem bo_set (u : Nat → Bool) (k : Nat) (q : Bool) : set5 (bo u) k (.bool q) = bo (set5 u k q) := by
  funext j
  show (if j = k then .bool q else .bool (u j)) = Value.bool (if j = k then q else u j)
  split <;> rfl
theorem facts_bs : (Tryd.prog.info? 31).map (fun i => (i.zero, i.size, i.bytes)) = some (some (.slice none 0 0), 1, 24) := by kernel_rfl
theorem facts_bool : (Tryd.prog.info? 4).map (fun i => (i.zero, i.size, i.bytes)) = some (some (.bool false), 1, 1) := by kernel_rfl
theorem make_5w (w : World) : (Instr.makeSlice 22 (.int .i64 5) (.int .i64 5)).run Tryd.prog w = .ok (.slice (some ⟨w.heap.size, 0, none⟩) 5 5) (w.alloc (.cells (five fun _ => .slice none 0 0) 31)) := by
  obtain ⟨i, hi, h1, h2, h3⟩ := info_parts facts_bs
  have h := run_make (P := Tryd.prog) w 22 31 i _ Tryd.underlying22 hi h1 .i64 .i64 5 5 (by omega) (Int.le_refl _) (by rw [h3]; omega) (by omega)
  rw [h2] at h
  have hz : madeCells (Value.slice none 0 0).cells ((5 : Int).toNat * 1) = five fun _ => .slice none 0 0 := by kernel_rfl
  rw [hz] at h
  exact h
theorem make_5b (w : World) : (Instr.makeSlice 49 (.int .i64 5) (.int .i64 5)).run Tryd.prog w = .ok (.slice (some ⟨w.heap.size, 0, none⟩) 5 5) (w.alloc (.cells (five (bo fun _ => false)) 4)) := by
  obtain ⟨i, hi, h1, h2, h3⟩ := info_parts facts_bool
  have h := run_make (P := Tryd.prog) w 49 4 i _ Tryd.underlying49 hi h1 .i64 .i64 5 5 (by omega) (Int.le_refl _) (by rw [h3]; omega) (by omega)
  rw [h2] at h
  have hz : madeCells (Value.bool false).cells ((5 : Int).toNat * 1) = five (bo fun _ => false) := by kernel_rfl
  rw [hz] at h
  exact h

def Shape (s : SS) : Prop := s.first = 1 ∧ s.rows.length = 5 ∧ s.d.n = 41 ∧ s.d.since = []
/-- Between the rounds: the slots are told (u, v); the law's two rows hold (ub, vals), of bytes that came in (vb). -/
structure ApAt (w wr : World) (q p gw gu : Nat) (U : List Nat) (s : SS) (u ub : Nat → Bool) (v vb : Nat → List UInt8) (vals : Nat → Value) : Prop where
  since : Since w wr q p U s
  told : Told s u v
  shape : Shape s
  cw : wr.heap[gw]? = some (.cells (five vals) 31 (0, 0))
  cu : wr.heap[gu]? = some (.cells (five (bo ub)) 4 (0, 0))
  out : gw ∉ U ∧ gu ∉ U ∧ gw ≠ gu ∧ w.heap.size ≤ gw ∧ w.heap.size ≤ gu
  came : ∀ j, j < 5 → Came w (vals j) (vb j)
theorem ApAt.keep {w wr w' : World} {q p gw gu : Nat} {U : List Nat} {s : SS} {u ub : Nat → Bool} {v vb : Nat → List UInt8} {vals : Nat → Value} (h : ApAt w wr q p gw gu U s u ub v vb vals) (hc : Chg [] wr w') : ApAt w w' q p gw gu U s u ub v vb vals :=
  ⟨h.since.keep hc, h.told, h.shape, hc.keep h.cw (by simp), hc.keep h.cu (by simp), h.out, h.came⟩
theorem ApAt.sid {w wr w' : World} {q p gw gu : Nat} {U : List Nat} {s s' : SS} {u u' ub : Nat → Bool} {v v' vb : Nat → List UInt8} {vals : Nat → Value} (h : ApAt w wr q p gw gu U s u ub v vb vals) (hs : Sid wr w' q p U s') (ht : Told s' u' v') (hsh : Shape s') : ∃ U', ApAt w w' q p gw gu U' s' u' ub v' vb vals := by
  obtain ⟨U', h1, h2, h3⟩ := hs
  have l1 := blk_lt h.cw
  have l2 := blk_lt h.cu
  refine ⟨U', ⟨h1, fun x hx => ?_, h.since.2.2.trans h3 (fun x hx => .inr (h.since.2.1 x hx))⟩, ht, hsh, h3.keep h.cw h.out.1, h3.keep h.cu h.out.2.1, ⟨fun hm => ?_, fun hm => ?_, h.out.2.2⟩, h.came⟩
  · rcases h2 x hx with h4 | h4
    · exact h.since.2.1 x h4
    · exact Nat.le_trans h.since.2.2.size h4
  · rcases h2 _ hm with h4 | h4
    · exact h.out.1 h4
    · omega
  · rcases h2 _ hm with h4 | h4
    · exact h.out.2.1 h4
    · omega
/-- No bytes lie in a block of other cells. -/
theorem not_bytes {w : World} {g t : Nat} {cs : Array Value} (h : w.heap[g]? = some (.cells cs t (0, 0))) (hcs : ∀ (j : Nat) (c : Value), cs[j]? = some c → ∀ z : Int, c ≠ Value.int .u8 z) (v : Value) (l : List UInt8) (hb : BytesAt w v l) (hl : l ≠ []) : v.ownBlock ≠ some g := fun e => by
  obtain ⟨a, cap, rfl, h1, h2, h3⟩ := hb
  have hpos : 0 < l.length := by cases l; exact absurd rfl hl; simp
  rcases h3 with ⟨h3, _⟩ | ⟨g', o, rfl, hc⟩
  · exact hl h3
  · obtain rfl : g' = g := by simpa [Value.ownBlock] using e
    have h5 := hc 0 hpos
    rw [Nat.add_zero] at h5
    cases hx : cs[o]? with
    | none =>
      have : w.cell? ⟨g', o, none⟩ = none := by
        unfold World.cell?
        simp [h, hx]
      rw [this] at h5
      cases h5
    | some c =>
      rw [blk_cell h o c hx] at h5
      exact hcs o c hx _ (Option.some.inj h5)
theorem five_all {P : Value → Prop} (f : Nat → Value) (h : ∀ j, j < 5 → P (f j)) (j : Nat) (c : Value) (hj : (five f)[j]? = some c) : P c := by
  have hlt : j < 5 := (Array.getElem?_eq_some_iff.1 hj).1
  rw [five_at f j hlt] at hj
  rw [← Option.some.inj hj]
  exact h j hlt
theorem SlotsAt.keepT {w w' : World} {q p : Nat} {U T : List Nat} {s : SS} (h : SlotsAt w q p U s) (hc : Chg T w w') (ha : ∀ x ∈ U, x ∉ T) (hT : ∀ x ∈ T, ∀ v l, BytesAt w v l → l ≠ [] → v.ownBlock ≠ some x) : SlotsAt w' q p U s := by
  obtain ⟨S, rv, R, h⟩ := h
  refine ⟨S, rv, R, h.obj.keep hc (fun x hx => ha x (h.uB x hx)), h.disk.keep hc (fun x hx => ha x (h.uS x hx)), h.rows, h.sep, fun x hx => ?_, h.uS, h.uB, fun x hx => Nat.lt_of_lt_of_le (h.uL x hx) hc.size, h.ok⟩
  obtain ⟨h1, h2⟩ := h.keys x hx
  exact ⟨h1.chgW hc (fun hl k hk hm => hT k hm _ _ h1 hl hk), fun g hg => ⟨Nat.lt_of_lt_of_le (h2 g hg).1 hc.size, (h2 g hg).2⟩⟩
theorem ApAt.setU {w wr : World} {q p gw gu : Nat} {U : List Nat} {s : SS} {u ub : Nat → Bool} {v vb : Nat → List UInt8} {vals : Nat → Value} (h : ApAt w wr q p gw gu U s u ub v vb vals) (k : Nat) (hk : k < 5) (x : Bool) : ApAt w (wr.setCell ⟨gu, k, none⟩ (.bool x)) q p gw gu U s u (set5 ub k x) v vb vals := by
  have hc : Chg [gu] wr (wr.setCell ⟨gu, k, none⟩ (.bool x)) := (Chg.refl _ wr).setCell (p := ⟨gu, k, none⟩) (.inl (by simp)) _
  refine ⟨⟨h.since.1.keepT hc (fun x hx hm => ?_) (fun x hx v l hb hl => ?_), h.since.2.1, h.since.2.2.trans hc (fun x hx => .inr (by rw [List.mem_singleton.1 hx]; exact h.out.2.2.2.2))⟩, h.told, h.shape, hc.keep h.cw (by simp; exact h.out.2.2.1), ?_, h.out, h.came⟩
  · rw [List.mem_singleton.1 hm] at hx; exact h.out.2.1 hx
  · rw [List.mem_singleton.1 hx]
    exact not_bytes h.cu (five_all _ (fun j _ z => by unfold bo; simp)) v l hb hl
  · rw [← bo_set, ← five_set _ _ _ hk]
    exact set_blk h.cu
theorem ApAt.setW {w wr : World} {q p gw gu : Nat} {U : List Nat} {s : SS} {u ub : Nat → Bool} {v vb : Nat → List UInt8} {vals : Nat → Value} (h : ApAt w wr q p gw gu U s u ub v vb vals) (k : Nat) (hk : k < 5) (x : Value) (l : List UInt8) (hx : Came w x l) : ApAt w (wr.setCell ⟨gw, k, none⟩ x) q p gw gu U s u ub v (set5 vb k l) (set5 vals k x) := by
  have hc : Chg [gw] wr (wr.setCell ⟨gw, k, none⟩ x) := (Chg.refl _ wr).setCell (p := ⟨gw, k, none⟩) (.inl (by simp)) _
  refine ⟨⟨h.since.1.keepT hc (fun x hx hm => ?_) (fun x hx v l hb hl => ?_), h.since.2.1, h.since.2.2.trans hc (fun x hx => .inr (by rw [List.mem_singleton.1 hx]; exact h.out.2.2.2.1))⟩, h.told, h.shape, ?_, hc.keep h.cu (by simp; exact fun e => h.out.2.2.1 e.symm), h.out, fun j hj => ?_⟩
  · rw [List.mem_singleton.1 hm] at hx; exact h.out.1 hx
  · rw [List.mem_singleton.1 hx]
    exact not_bytes h.cw (five_all _ (fun j hj z => by
      obtain ⟨a, c, he⟩ := (h.came j hj).1.slice
      rw [he]; simp)) v l hb hl
  · rw [← five_set _ _ _ hk]
    exact set_blk h.cw
  · unfold set5
    by_cases hjk : j = k
    · rw [if_pos hjk, if_pos hjk]; exact hx
    · rw [if_neg hjk, if_neg hjk]; exact h.came j hj

/-- Put, whatever it is given. -/
theorem put_told {s : SS} {u : Nat → Bool} {v : Nat → List UInt8} (h : Told s u v) (hs : Shape s) (k : Nat) (hk : k < 5) (key b : List UInt8) :
    ((s.put (k : Int) key b).1 = 0 ∧ u k = false ∧ Told (s.put (k : Int) key b).2 (set5 u k true) (set5 v k b) ∧ Shape (s.put (k : Int) key b).2) ∨ ((s.put (k : Int) key b).1 ≠ 0 ∧ (s.put (k : Int) key b).2 = s) := by
  obtain ⟨s1, s2, s3, s4⟩ := hs
  have hr : s.row (k : Int) = s.rows.getD k noRow := rfl
  have hh : s.has (k : Int) := ⟨by omega, by omega⟩
  by_cases hl : 40 < key.length ∨ 448 < b.length
  · right
    unfold SS.put
    rw [if_neg (by simpa using hh), if_pos hl]
    exact ⟨by simp, rfl⟩
  · cases hu : u k with
    | true =>
      right
      unfold SS.put
      rw [if_neg (by simpa using hh), if_neg hl, hr, h.used k (by omega), hu, if_pos rfl]
      exact ⟨by simp, rfl⟩
    | false =>
      left
      obtain ⟨a1, a2, a3, a4, a5, a6⟩ := h.put k (by omega) key b hu (by omega) (by omega)
      exact ⟨a1, rfl, a2, by rw [a4, s1], by rw [a3, s2], by rw [a5, s3], a6⟩
/-- Clear, whatever it is given. -/
theorem clear_told {s : SS} {u : Nat → Bool} {v : Nat → List UInt8} (h : Told s u v) (hs : Shape s) (k : Nat) (hk : k < 5) :
    ((s.clear (k : Int)).1 = 0 ∧ u k = true ∧ Told (s.clear (k : Int)).2 (set5 u k false) v ∧ Shape (s.clear (k : Int)).2) ∨ ((s.clear (k : Int)).1 ≠ 0 ∧ u k = false ∧ (s.clear (k : Int)).2 = s) := by
  obtain ⟨s1, s2, s3, s4⟩ := hs
  have hr : s.row (k : Int) = s.rows.getD k noRow := rfl
  have hh : s.has (k : Int) := ⟨by omega, by omega⟩
  cases hu : u k with
  | false =>
    right
    unfold SS.clear
    rw [if_neg (by simpa using hh), hr, h.used k (by omega), hu, if_pos rfl]
    exact ⟨by simp, rfl, rfl⟩
  | true =>
    left
    obtain ⟨a1, a2, a3, a4, a5, a6⟩ := h.clear k (by omega) hu
    exact ⟨a1, rfl, a2, by rw [a4, s1], by rw [a3, s2], by rw [a5, s3], a6⟩
theorem lays_ops (d : DS) (pos : Nat) (b : List UInt8) : (d.lays pos b).2.ops ≤ d.ops + nsec b.length + 1 := (d.lays_ok pos b).2.1
theorem put_ops (s : SS) (i : Int) (key b : List UInt8) : (s.put i key b).2.d.ops ≤ s.d.ops + 20 := by
  unfold SS.put
  split
  · exact Nat.le_add_right _ _
  · split
    · exact Nat.le_add_right _ _
    · rename_i h1 h2
      have hb : nsec b.length ≤ 7 := by unfold nsec; omega
      have hh : nsec (headBytes b.length key).length ≤ 1 := by rw [headBytes_len _ _ (by omega) (by omega)]; unfold nsec; omega
      have e1 := lays_ops s.d (s.pos i + 1) b
      have e2 := lays_ops (s.d.lays (s.pos i + 1) b).2 (s.pos i) (headBytes b.length key)
      split
      · exact Nat.le_add_right _ _
      · split
        · show (s.d.lays (s.pos i + 1) b).2.ops ≤ _
          omega
        · split <;> (show ((s.d.lays (s.pos i + 1) b).2.lays (s.pos i) (headBytes b.length key)).2.ops ≤ _) <;> omega
theorem clear_ops (s : SS) (i : Int) : (s.clear i).2.d.ops ≤ s.d.ops + 20 := by
  unfold SS.clear
  have e1 := lays_ops s.d (s.pos i) (zeros 64)
  have hz : nsec (zeros 64).length = 1 := rfl
  split
  · exact Nat.le_add_right _ _
  · split
    · exact Nat.le_add_right _ _
    · split <;> (show (s.d.lays (s.pos i) (zeros 64)).2.ops ≤ _) <;> omega
def as0 : SS := ⟨DS.new 41, 1, [noRow, noRow, noRow, noRow, noRow]⟩
theorem as0_open : (DS.new 41).slots 1 = (0, some as0) := by rfl
theorem as0_told : Told as0 (fun _ => false) (fun _ => []) := by
  refine ⟨⟨rfl, by decide⟩, by decide, fun k hk => ?_, fun k hk => ?_, fun k hk h => by cases h⟩
  · replace hk : k < 5 := hk
    match k, hk with
    | 0, _ => rfl
    | 1, _ => rfl
    | 2, _ => rfl
    | 3, _ => rfl
    | 4, _ => rfl
  · replace hk : k < 5 := hk
    match k, hk with
    | 0, _ => rfl
    | 1, _ => rfl
    | 2, _ => rfl
    | 3, _ => rfl
    | 4, _ => rfl
theorem as0_shape : Shape as0 := ⟨rfl, rfl, rfl, rfl⟩
end Go.Proofs.YtipfgghdoicdhaaDoor.W

/- A disk behind a crash, plainly; copies of all its sectors. -/
namespace Go.Proofs.YtipfgghdoicdhaaDoor.W
open Go.RowKit
set_option linter.unusedVariables false
set_option linter.unusedSimpArgs false

/-- Is number i left? -/
def leftAt (ch : List UInt8) (i : Nat) : Bool := decide (ch.length ≤ i) || decide ((ch.getD i 0) &&& 1 = 1)
/-- Those of what waited that are left. -/
def chosen (ch : List UInt8) : List (Nat × List UInt8) → Nat → List (Nat × List UInt8)
  | [], _ => []
  | x :: l, i => if leftAt ch i then x :: chosen ch l (i + 1) else chosen ch l (i + 1)
theorem chosen_snoc (ch : List UInt8) (x : Nat × List UInt8) : ∀ (l : List (Nat × List UInt8)) (i : Nat), chosen ch (l ++ [x]) i = chosen ch l i ++ if leftAt ch (i + l.length) then [x] else []
  | [], i => by
    show (if leftAt ch i then [x] else []) = _
    simp [chosen]
  | y :: l, i => by
    have ih := chosen_snoc ch x l (i + 1)
    show (if leftAt ch i then y :: chosen ch (l ++ [x]) (i + 1) else chosen ch (l ++ [x]) (i + 1)) = (if leftAt ch i then y :: chosen ch l (i + 1) else chosen ch l (i + 1)) ++ _
    rw [ih, show i + 1 + l.length = i + (y :: l).length by simp; omega]
    split <;> simp
theorem chosen_mem {ch : List UInt8} {x : Nat × List UInt8} : ∀ (l : List (Nat × List UInt8)) (i : Nat), x ∈ chosen ch l i → x ∈ l
  | [], i, h => by cases h
  | y :: l, i, h => by
    unfold chosen at h
    split at h
    · rcases List.mem_cons.1 h with rfl | h
      · exact List.mem_cons_self ..
      · exact List.mem_cons_of_mem _ (chosen_mem l _ h)
    · exact List.mem_cons_of_mem _ (chosen_mem l _ h)
def DS.crash (d : DS) (ch : List UInt8) : DS :=
  { n := d.n, now := applied (chosen ch d.since 0) d.lasts, lasts := applied (chosen ch d.since 0) d.lasts, since := [], fuse := -1, ops := 0, dead := false }

theorem flat_at (n : Nat) (f : Nat → List UInt8) (h : ∀ i, i < n → (f i).length = 64) (k i : Nat) (hk : k < n) (hi : i < 64) : (flat n f)[k * 64 + i]? = (f k)[i]? := by
  induction n with
  | zero => omega
  | succ n ih =>
    rw [flat_succ]
    have hl := flat_len n f (fun i hi => h i (by omega))
    by_cases hkn : k = n
    · subst hkn
      rw [List.getElem?_append_right (by omega), hl, show k * 64 + i - k * 64 = i by omega]
    · rw [List.getElem?_append_left (by omega), ih (fun i hi => h i (by omega)) (by omega)]
theorem SecsAt.whole {w : World} {g n : Nat} {f : Nat → List UInt8} (h : SecsAt w g n f) : (flat n f).length = n * 64 ∧ w.rangeAt g 0 (bvs (flat n f)) := by
  have hl := flat_len n f (fun i hi => h.len i hi)
  refine ⟨hl, fun j v hv => ?_⟩
  have hj : j < n * 64 := by
    have := (List.getElem?_eq_some_iff.1 hv).1
    rwa [bvs_len, hl] at this
  have hk : j / 64 < n := by omega
  have he : j = j / 64 * 64 + j % 64 := by omega
  have h1 := h.range (j / 64) hk (j % 64) v (by
    have e1 : (bvs (flat n f))[j]? = ((flat n f)[j]?).map bv := by simp [bvs]
    rw [e1, he, flat_at n f (fun i hi => h.len i hi) _ _ hk (by omega)] at hv
    have e2 : (bvs (f (j / 64)))[j % 64]? = ((f (j / 64))[j % 64]?).map bv := by simp [bvs]
    rw [e2]
    have e3 : (j / 64 * 64 + j % 64) / 64 = j / 64 := by omega
    first | exact hv | (simpa [e3] using hv))
  rw [Nat.zero_add]
  rw [show j = j / 64 * 64 + j % 64 from he]
  exact h1
theorem secs_of_cells {w : World} {g n t : Nat} {f : Nat → List UInt8} {cs : Array Value} (hg : w.heap[g]? = some (.cells cs 77 (0, 0))) (hf : ∀ k, k < n → (f k).length = 64) (hc : cs.toList.take (n * 64) = bvs (flat n f)) : SecsAt w g n f := by
  have hl := flat_len n f hf
  have hlen : n * 64 ≤ cs.size := by
    have h1 : (cs.toList.take (n * 64)).length = n * 64 := by rw [hc, bvs_len, hl]
    rw [List.length_take] at h1
    simp at h1
    omega
  refine ⟨cs, hg, hlen, fun k hk => ⟨hf k hk, fun i hi => ?_⟩⟩
  have h1 : (cs.toList.take (n * 64))[k * 64 + i]? = cs[k * 64 + i]? := by
    rw [List.getElem?_take, if_pos (by omega)]
    simp
  rw [← h1, hc]
  have e1 : (bvs (flat n f))[k * 64 + i]? = ((flat n f)[k * 64 + i]?).map bv := by simp [bvs]
  rw [e1, flat_at n f hf k i hk hi, List.getD_eq_getElem?_getD, List.getElem?_eq_getElem (by rw [hf k hk]; exact hi)]
  rfl
theorem secs_of_row {w : World} {v : Value} {n : Nat} {f : Nat → List UInt8} (h : w.ownsRow 0 77 64 v n (bvs (flat n f))) (hn : 0 < n) (hf : ∀ k, k < n → (f k).length = 64) :
    ∃ g cap, v = .slice (some ⟨g, 0, none⟩) n cap ∧ n ≤ cap ∧ cap ≤ maxLen ∧ SecsAt w g n f := by
  rcases h.2 with ⟨h1, h2⟩ | ⟨g, cap, cur, rfl, hbg, hg, hnc, hcm, hcs, htake⟩
  · omega
  · exact ⟨g, cap, rfl, hnc, hcm, secs_of_cells (t := 0) hg hf htake⟩

theorem run_copy_n {P : Program} (w : World) (dT sT ty elem : TypeId) (size g o dLen dCap : Nat) (a : Addr) (sLen sCap : Nat) (cur : Array Value) (t : TypeId) (cs : List Value) (m : Nat)
    (hu : P.underlying dT = some (.slice elem)) (hs : (P.info? elem).map (·.size) = some size)
    (hg : w.heap[g]? = some (.cells cur t (0, 0))) (hm : m = Nat.min sLen dLen) (hn : cs.length = m * size)
    (hsrc : ∀ j v, cs[j]? = some v → w.cell? (a.add j) = some v) (hfit : o + cs.length ≤ cur.size) (h1 : ∀ v ∈ cs, v.oneCell' = true) :
    (Builtin.copy_ #[dT, sT] ty #[.slice (some ⟨g, o, none⟩) dLen dCap, .slice (some a) sLen sCap]).run P w =
      .ok (goInt m) (w.setRow g (cur.toList.take o ++ cs ++ cur.toList.drop (o + cs.length)).toArray) := by
  have hl := run_loadCells_list (P := P) w a cs hsrc
  have hst := run_storeCells_at P g o t cs 0 cur w hg (by simpa using hfit) h1
  cases hq : P.info? elem with
  | none => simp [hq] at hs
  | some i =>
    have hi : i.size = size := by simpa [hq] using hs
    simp [Builtin.copy_, run_underlying hu, Builtin.lenOf, Builtin.firstCells, sizeOf, typeInfo, hq, hi, ← hm, ← hn, hl, hst]
end Go.Proofs.YtipfgghdoicdhaaDoor.W

/- Slots on a disk that may die: what Put and Clear leave, and what is there behind a crash, plainly. -/
namespace Go.Proofs.YtipfgghdoicdhaaDoor.W
set_option linter.unusedVariables false
set_option linter.unusedSimpArgs false

/-- A disk at rest: alive, and all that was written lasts. -/
structure DS.Rest (d : DS) : Prop where
  alive : d.dead = false
  none : d.since = []
  same : ∀ i, d.lasts i = d.now i
/-- A disk that died while the sectors j .. j+k-1 of b were laid from pos on. -/
def DS.Fell (d0 d : DS) (pos : Nat) (b : List UInt8) (j k : Nat) : Prop :=
  d.dead = true ∧ d.n = d0.n ∧ d.lasts = d0.lasts ∧ ∃ ws, d.since = d0.since ++ ws ∧ ∀ x ∈ ws, ∃ i, j ≤ i ∧ i < j + k ∧ x = (pos + i, secAt b i)
theorem DS.write_may {d : DS} (hd : d.dead = false) (k : Nat) (b : List UInt8) (hk : k < d.n) (hb : b.length = 64) :
    ((d.write (k : Int) b).1 = 0 ∧ (d.write (k : Int) b).2.dead = false ∧ (d.write (k : Int) b).2.n = d.n ∧ (d.write (k : Int) b).2.now = upd d.now k b ∧ (d.write (k : Int) b).2.lasts = d.lasts ∧ (d.write (k : Int) b).2.since = d.since ++ [(k, b)]) ∨
    ((d.write (k : Int) b).1 = 14 ∧ (d.write (k : Int) b).2.dead = true ∧ (d.write (k : Int) b).2.n = d.n ∧ (d.write (k : Int) b).2.lasts = d.lasts ∧ (d.write (k : Int) b).2.since = d.since ++ [(k, b)]) := by
  have hk' : 0 ≤ (k : Int) ∧ (k : Int) < d.n ∧ b.length = 64 := ⟨by omega, by omega, hb⟩
  by_cases hf : d.fuse = 0
  · right
    unfold DS.write DS.op
    simp only [hd, Bool.false_eq_true, if_false]
    rw [if_pos hk']
    simp [hf]
  · left
    unfold DS.write DS.op
    simp only [hd, Bool.false_eq_true, if_false]
    rw [if_pos hk']
    simp [hf, hd]
theorem DS.sync_may {d : DS} (hd : d.dead = false) :
    ((d.sync).1 = 0 ∧ (d.sync).2.dead = false ∧ (d.sync).2.n = d.n ∧ (d.sync).2.now = d.now ∧ (d.sync).2.lasts = applied d.since d.lasts ∧ (d.sync).2.since = []) ∨
    ((d.sync).1 = 14 ∧ (d.sync).2.dead = true ∧ (d.sync).2.n = d.n ∧ (d.sync).2.lasts = d.lasts ∧ (d.sync).2.since = d.since) := by
  by_cases hf : d.fuse = 0
  · right
    unfold DS.sync DS.op
    simp [hd, hf]
  · left
    unfold DS.sync DS.op
    simp [hd, hf]
theorem DS.lay_may (pos : Nat) (b : List UInt8) : ∀ (k j : Nat) (d : DS), d.dead = false → (∀ i, applied d.since d.lasts i = d.now i) → pos + j + k ≤ d.n →
    ((d.lay pos b k j).1 = 0 ∧ (d.lay pos b k j).2.Rest ∧ (d.lay pos b k j).2.n = d.n ∧ ∀ i, (d.lay pos b k j).2.now i = if pos + j ≤ i ∧ i < pos + j + k then secAt b (i - pos) else d.now i) ∨
    ((d.lay pos b k j).1 = 14 ∧ DS.Fell d (d.lay pos b k j).2 pos b j k) := by
  intro k
  induction k with
  | zero =>
    intro j d hd hs hn
    rcases d.sync_may hd with ⟨h1, h2, h3, h4, h5, h6⟩ | ⟨h1, h2, h3, h4, h5⟩
    · exact .inl ⟨h1, ⟨h2, h6, fun i => by show (d.sync).2.lasts i = (d.sync).2.now i; rw [h5, h4, hs]⟩, h3, fun i => by rw [if_neg (by omega)]; show (d.sync).2.now i = _; rw [h4]⟩
    · exact .inr ⟨h1, h2, h3, h4, [], by show (d.sync).2.since = _; rw [h5]; simp, by simp⟩
  | succ k ih =>
    intro j d hd hs hn
    unfold DS.lay
    rcases DS.write_may hd (pos + j) (secAt b j) (by omega) (secAt_len b j) with ⟨h1, h2, h3, h4, h5, h6⟩ | ⟨h1, h2, h3, h4, h5⟩
    · rw [if_neg (by rw [h1]; simp)]
      generalize (d.write ((pos + j : Nat) : Int) (secAt b j)).2 = d2 at *
      have hs2 : ∀ i, applied d2.since d2.lasts i = d2.now i := fun i => by
        have := hs
        rw [h6, h5, h4]
        unfold applied at *
        rw [List.foldl_append]
        show upd (List.foldl _ d.lasts d.since) (pos + j) (secAt b j) i = upd d.now (pos + j) (secAt b j) i
        unfold upd
        split
        · rfl
        · exact hs i
      rcases ih (j + 1) d2 h2 hs2 (by rw [h3]; omega) with ⟨i1, i2, i3, i4⟩ | ⟨i1, i2, i3, i4, ws, i5, i6⟩
      · refine .inl ⟨i1, i2, by rw [i3, h3], fun i => ?_⟩
        rw [i4, h4]
        unfold upd
        by_cases hi : i = pos + j
        · subst hi
          rw [if_neg (by omega), if_pos rfl, if_pos (by omega)]
          congr 1
          omega
        · rw [if_neg hi]
          by_cases hm : pos + (j + 1) ≤ i ∧ i < pos + (j + 1) + k
          · rw [if_pos hm, if_pos (by omega)]
          · rw [if_neg hm, if_neg (by omega)]
      · refine .inr ⟨i1, i2, by rw [i3, h3], by rw [i4, h5], (pos + j, secAt b j) :: ws, by rw [i5, h6]; simp, fun x hx => ?_⟩
        rcases List.mem_cons.1 hx with rfl | hx
        · exact ⟨j, by omega, by omega, rfl⟩
        · obtain ⟨i, a1, a2, a3⟩ := i6 x hx
          exact ⟨i, by omega, by omega, a3⟩
    · rw [if_pos (by rw [h1]; simp)]
      exact .inr ⟨h1, h2, h3, h4, [(pos + j, secAt b j)], h5, fun x hx => by
        rw [List.mem_singleton.1 hx]
        exact ⟨j, by omega, by omega, rfl⟩⟩
theorem DS.lays_may {d : DS} (pos : Nat) (b : List UInt8) (hd : d.Rest) (hn : pos + nsec b.length ≤ d.n) :
    ((d.lays pos b).1 = 0 ∧ (d.lays pos b).2.Rest ∧ (d.lays pos b).2.n = d.n ∧ ∀ i, (d.lays pos b).2.now i = if pos ≤ i ∧ i < pos + nsec b.length then secAt b (i - pos) else d.now i) ∨
    ((d.lays pos b).1 = 14 ∧ (d.lays pos b).2.dead = true ∧ (d.lays pos b).2.n = d.n ∧ (d.lays pos b).2.lasts = d.lasts ∧ ∀ x ∈ (d.lays pos b).2.since, ∃ i, i < nsec b.length ∧ x = (pos + i, secAt b i)) := by
  rcases DS.lay_may pos b (nsec b.length) 0 d hd.alive (fun i => by rw [hd.none]; exact hd.same i) hn with h | ⟨h1, h2, h3, h4, ws, h5, h6⟩
  · exact .inl h
  · refine .inr ⟨h1, h2, h3, h4, fun x hx => ?_⟩
    have hx : x ∈ (d.lay pos b (nsec b.length) 0).2.since := hx
    rw [h5, hd.none, List.nil_append] at hx
    obtain ⟨i, a1, a2, a3⟩ := h6 x hx
    exact ⟨i, by omega, a3⟩
/-- What is applied elsewhere does not matter. -/
theorem applied_far (i : Nat) : ∀ (l : List (Nat × List UInt8)) (f : Nat → List UInt8), (∀ x ∈ l, x.1 ≠ i) → applied l f i = f i
  | [], f, h => rfl
  | x :: l, f, h => by
    show applied l (upd f x.1 x.2) i = f i
    rw [applied_far i l _ (fun y hy => h y (List.mem_cons_of_mem _ hy))]
    unfold upd
    rw [if_neg (fun e => h x (List.mem_cons_self ..) e.symm)]
theorem applied_same (i : Nat) (s : List UInt8) : ∀ (l : List (Nat × List UInt8)) (f : Nat → List UInt8), (∀ x ∈ l, x = (i, s)) → applied l f i = f i ∨ applied l f i = s
  | [], f, h => .inl rfl
  | x :: l, f, h => by
    show applied l (upd f x.1 x.2) i = f i ∨ applied l (upd f x.1 x.2) i = s
    obtain rfl := h x (List.mem_cons_self ..)
    have hu : upd f i s i = s := by unfold upd; rw [if_pos rfl]
    rcases applied_same i s l (upd f i s) (fun y hy => h y (List.mem_cons_of_mem _ hy)) with h1 | h1
    · exact .inr (by rw [h1, hu])
    · exact .inr h1

/-- Slots on a disk at rest, each told. -/
structure ToldR (s : SS) (u : Nat → Bool) (v : Nat → List UInt8) : Prop where
  rest : s.d.Rest
  room : s.first + 8 * s.rows.length ≤ s.d.n
  head : ∀ k, k < s.rows.length → headOf (s.d.now (s.first + 8 * k)) = some (s.rows.getD k noRow)
  used : ∀ k, k < s.rows.length → (s.rows.getD k noRow).used = u k
  data : ∀ k, k < s.rows.length → u k = true → s.data (k : Int) = v k
theorem ToldR.small {s : SS} {u : Nat → Bool} {v : Nat → List UInt8} (h : ToldR s u v) (k : Nat) (hk : k < s.rows.length) : (s.rows.getD k noRow).n ≤ 448 := (headOf_ok (h.head k hk)).1
theorem ToldR.get {s : SS} {u : Nat → Bool} {v : Nat → List UInt8} (h : ToldR s u v) (k : Nat) (hk : k < s.rows.length) : s.get (k : Int) = if u k then (v k, 0) else ([], 6) := by
  unfold SS.get
  have hh : s.has (k : Int) := ⟨by omega, by omega⟩
  have hr : s.row (k : Int) = s.rows.getD k noRow := rfl
  rw [if_neg (by simpa using hh), hr, h.used k hk]
  cases hu : u k with
  | false => simp
  | true =>
    rw [if_neg (by simp), h.rest.alive]
    simp [h.data k hk hu]
/-- How the disk's sectors look to a slot. -/
theorem ToldR.of_now {s : SS} {u : Nat → Bool} {v : Nat → List UInt8} (h : ToldR s u v) (d2 : DS) (hr : d2.Rest) (hn : d2.n = s.d.n) (k : Nat) (hk : k < s.rows.length) (r : SRow) (hh : headOf (d2.now (s.first + 8 * k)) = some r)
    (hfar : ∀ j i, j < s.rows.length → j ≠ k → i < 8 → d2.now (s.first + 8 * j + i) = s.d.now (s.first + 8 * j + i)) (b : List UInt8)
    (hb : r.used = true → (flat (nsec r.n) (fun i => d2.now (s.first + 8 * k + 1 + i))).take r.n = b) :
    ToldR { s with d := d2, rows := s.rows.set k r } (fun j => if j = k then r.used else u j) (fun j => if j = k then b else v j) := by
  refine ⟨hr, ?_, fun j hj => ?_, fun j hj => ?_, fun j hj huj => ?_⟩
  · show s.first + 8 * (s.rows.set k r).length ≤ d2.n
    rw [List.length_set, hn]
    exact h.room
  · replace hj : j < s.rows.length := by simpa using hj
    show headOf (d2.now (s.first + 8 * j)) = some ((s.rows.set k r).getD j noRow)
    rw [set_getD _ _ _ _ hk]
    by_cases hjk : j = k
    · subst hjk
      rw [if_pos rfl]
      exact hh
    · rw [if_neg hjk, ← h.head j hj]
      have := hfar j 0 hj hjk (by omega)
      rw [Nat.add_zero] at this
      rw [this]
  · replace hj : j < s.rows.length := by simpa using hj
    show ((s.rows.set k r).getD j noRow).used = _
    rw [set_getD _ _ _ _ hk]
    by_cases hjk : j = k
    · rw [if_pos hjk, if_pos hjk]
    · rw [if_neg hjk, if_neg hjk]
      exact h.used j hj
  · replace hj : j < s.rows.length := by simpa using hj
    show (flat (nsec ((s.rows.set k r).getD j noRow).n) (fun i => d2.now (s.first + 8 * j + 1 + i))).take ((s.rows.set k r).getD j noRow).n = _
    rw [set_getD _ _ _ _ hk]
    try dsimp only at huj
    by_cases hjk : j = k
    · subst hjk
      rw [if_pos rfl] at huj
      rw [if_pos rfl, if_pos rfl]
      exact hb huj
    · rw [if_neg hjk] at huj
      rw [if_neg hjk, if_neg hjk]
      have hsm := h.small j hj
      rw [flat_congr _ _ (fun i => s.d.now (s.first + 8 * j + 1 + i)) (fun i hi => by
        have : i < 7 := by unfold nsec at hi; omega
        have := hfar j (1 + i) hj hjk (by omega)
        rw [← Nat.add_assoc] at this
        exact this)]
      exact h.data j hj huj
theorem set_self (l : List SRow) (k : Nat) (hk : k < l.length) : l.set k (l.getD k noRow) = l := by
  rw [List.getD_eq_getElem?_getD, List.getElem?_eq_getElem hk, Option.getD_some]
  exact List.set_getElem_self hk

/-- What a crash leaves of slots that are told so, or so. -/
def Lost (s : SS) (d2 : DS) (u : Nat → Bool) (v : Nat → List UInt8) (k : Nat) (q : Bool) (b : List UInt8) : Prop :=
  d2.dead = true ∧ d2.n = s.d.n ∧ ∀ ch, ∃ rows, rows.length = s.rows.length ∧ (ToldR { s with d := d2.crash ch, rows := rows } u v ∨ ToldR { s with d := d2.crash ch, rows := rows } (fun j => if j = k then q else u j) (fun j => if j = k then b else v j))
theorem crash_rest (d : DS) (ch : List UInt8) : (d.crash ch).Rest := ⟨rfl, rfl, fun i => rfl⟩
theorem crash_now {d : DS} {ch : List UInt8} (i : Nat) : (d.crash ch).now i = applied (chosen ch d.since 0) d.lasts i := rfl
theorem ToldR.again {s : SS} {u : Nat → Bool} {v : Nat → List UInt8} (h : ToldR s u v) (d2 : DS) (hr : d2.Rest) (hn : d2.n = s.d.n) (k : Nat) (hk : k < s.rows.length) (hu : u k = false) (hh : d2.now (s.first + 8 * k) = s.d.now (s.first + 8 * k))
    (hfar : ∀ j i, j < s.rows.length → j ≠ k → i < 8 → d2.now (s.first + 8 * j + i) = s.d.now (s.first + 8 * j + i)) : ToldR { s with d := d2 } u v := by
  have h1 := h.of_now d2 hr hn k hk (s.rows.getD k noRow) (by rw [hh]; exact h.head k hk) hfar (v k) (fun e => by
    rw [h.used k hk, hu] at e; cases e)
  rw [set_self _ _ hk, h.used k hk] at h1
  have e1 : (fun j => if j = k then u k else u j) = u := by funext j; split <;> simp_all
  have e2 : (fun j => if j = k then v k else v j) = v := by funext j; split <;> simp_all
  rw [e1, e2] at h1
  exact h1

theorem ToldR.put {s : SS} {u : Nat → Bool} {v : Nat → List UInt8} (h : ToldR s u v) (k : Nat) (hk : k < s.rows.length) (key b : List UInt8) (hu : u k = false) (hkey : key.length ≤ 40) (hb : b.length ≤ 448) :
    ((s.put (k : Int) key b).1 = 0 ∧ ToldR (s.put (k : Int) key b).2 (fun j => if j = k then true else u j) (fun j => if j = k then b else v j) ∧ (s.put (k : Int) key b).2.rows.length = s.rows.length ∧ (s.put (k : Int) key b).2.first = s.first ∧ (s.put (k : Int) key b).2.d.n = s.d.n) ∨
    ((s.put (k : Int) key b).1 = 14 ∧ (s.put (k : Int) key b).2.rows = s.rows ∧ (s.put (k : Int) key b).2.first = s.first ∧ Lost s (s.put (k : Int) key b).2.d u v k true b) := by
  have hh : s.has (k : Int) := ⟨by omega, by omega⟩
  have hr : s.row (k : Int) = s.rows.getD k noRow := rfl
  have hp : s.pos (k : Int) = s.first + 8 * k := rfl
  have hns : nsec b.length ≤ 7 := by unfold nsec; omega
  have hroom := h.room
  have hput : s.put (k : Int) key b = if (s.d.lays (s.pos k + 1) b).1 ≠ 0 then ((s.d.lays (s.pos k + 1) b).1, { s with d := (s.d.lays (s.pos k + 1) b).2 }) else
    if ((s.d.lays (s.pos k + 1) b).2.lays (s.pos k) (headBytes b.length key)).1 ≠ 0 then (((s.d.lays (s.pos k + 1) b).2.lays (s.pos k) (headBytes b.length key)).1, { s with d := ((s.d.lays (s.pos k + 1) b).2.lays (s.pos k) (headBytes b.length key)).2 }) else
    (0, { s with d := ((s.d.lays (s.pos k + 1) b).2.lays (s.pos k) (headBytes b.length key)).2, rows := s.rows.set k ⟨true, b.length, key⟩ }) := by
    unfold SS.put
    rw [if_neg (by simpa using hh), if_neg (by omega), hr, h.used k hk, hu, if_neg (by simp)]
    rfl
  rw [hput]
  have hh1 : nsec (headBytes b.length key).length = 1 := by rw [headBytes_len _ _ hb hkey]; unfold nsec; omega
  rcases DS.lays_may (s.pos k + 1) b h.rest (by rw [hp]; omega) with ⟨a1, a2, a3, a4⟩ | ⟨a1, a2, a3, a4, a5⟩
  · rw [if_neg (by rw [a1]; simp)]
    generalize (s.d.lays (s.pos k + 1) b).2 = d1 at *
    rw [hp] at a4
    have hfar1 : ∀ j i, j < s.rows.length → j ≠ k → i < 8 → d1.now (s.first + 8 * j + i) = s.d.now (s.first + 8 * j + i) := fun j i _ hj hi => by
      rw [a4, if_neg (by omega)]
    have hhd1 : d1.now (s.first + 8 * k) = s.d.now (s.first + 8 * k) := by rw [a4, if_neg (by omega)]
    rcases DS.lays_may (s.pos k) (headBytes b.length key) a2 (by rw [hh1, a3, hp]; omega) with ⟨b1, b2, b3, b4⟩ | ⟨b1, b2, b3, b4, b5⟩
    · left
      rw [if_neg (by rw [b1]; simp)]
      generalize (d1.lays (s.pos k) (headBytes b.length key)).2 = d2 at *
      rw [hp, hh1] at b4
      refine ⟨rfl, h.of_now d2 b2 (by rw [b3, a3]) k hk ⟨true, b.length, key⟩ ?_ (fun j i hj hjk hi => ?_) b (fun _ => ?_), by simp, rfl, by rw [← a3, ← b3]⟩
      · rw [b4, if_pos (by omega), Nat.sub_self]
        exact head_back _ _ hb hkey
      · rw [b4, if_neg (by omega)]
        exact hfar1 j i hj hjk hi
      · dsimp only
        rw [flat_congr _ _ (secAt b) (fun i hi => by rw [b4, if_neg (by omega), a4, if_pos (by omega)]; congr 1; omega)]
        exact flat_back b
    · right
      rw [if_pos (by rw [b1]; simp)]
      generalize (d1.lays (s.pos k) (headBytes b.length key)).2 = d2 at *
      refine ⟨b1, rfl, rfl, b2, by rw [b3, a3], fun ch => ?_⟩
      rw [hh1] at b5
      have hall : ∀ x ∈ chosen ch d2.since 0, x = (s.first + 8 * k, secAt (headBytes b.length key) 0) := fun x hx => by
        obtain ⟨i, hi, rfl⟩ := b5 x (chosen_mem _ _ hx)
        obtain rfl : i = 0 := by omega
        rw [hp, Nat.add_zero]
      have hn2 : (d2.crash ch).n = s.d.n := by show d2.n = _; rw [b3, a3]
      have hl1 : ∀ i, d2.lasts i = d1.now i := fun i => by rw [b4]; exact a2.same i
      have hoth : ∀ i, i ≠ s.first + 8 * k → (d2.crash ch).now i = d1.now i := fun i hi => by
        rw [crash_now, applied_far i _ _ (fun x hx => by rw [hall x hx]; exact fun e => hi e.symm), hl1]
      have hfar2 : ∀ j i, j < s.rows.length → j ≠ k → i < 8 → (d2.crash ch).now (s.first + 8 * j + i) = s.d.now (s.first + 8 * j + i) := fun j i hj hjk hi => by
        rw [hoth _ (by omega)]
        exact hfar1 j i hj hjk hi
      rcases applied_same (s.first + 8 * k) (secAt (headBytes b.length key) 0) (chosen ch d2.since 0) d2.lasts hall with hA | hA
      · refine ⟨s.rows, rfl, .inl (h.again (d2.crash ch) (crash_rest _ _) hn2 k hk hu ?_ hfar2)⟩
        rw [crash_now, hA, hl1, hhd1]
      · refine ⟨s.rows.set k ⟨true, b.length, key⟩, by simp, .inr (h.of_now (d2.crash ch) (crash_rest _ _) hn2 k hk ⟨true, b.length, key⟩ ?_ hfar2 b (fun _ => ?_))⟩
        · rw [crash_now, hA]
          exact head_back _ _ hb hkey
        · dsimp only
          rw [flat_congr _ _ (secAt b) (fun i hi => by rw [hoth _ (by omega), a4, if_pos (by omega)]; congr 1; omega)]
          exact flat_back b
  · right
    rw [if_pos (by rw [a1]; simp)]
    generalize (s.d.lays (s.pos k + 1) b).2 = d1 at *
    refine ⟨a1, rfl, rfl, a2, a3, fun ch => ⟨s.rows, rfl, .inl ?_⟩⟩
    have hn2 : (d1.crash ch).n = s.d.n := a3
    have hoth : ∀ i, i < s.first + 8 * k + 1 ∨ s.first + 8 * k + 8 ≤ i → (d1.crash ch).now i = s.d.now i := fun i hi => by
      rw [crash_now, applied_far i _ _ (fun x hx => by
        obtain ⟨t, ht, rfl⟩ := a5 x (chosen_mem _ _ hx)
        rw [hp]
        show s.first + 8 * k + 1 + t ≠ i
        omega), a4]
      exact h.rest.same i
    refine h.again (d1.crash ch) (crash_rest _ _) hn2 k hk hu (hoth _ (by omega)) (fun j i hj hjk hi => hoth _ (by omega))
theorem ToldR.clear {s : SS} {u : Nat → Bool} {v : Nat → List UInt8} (h : ToldR s u v) (k : Nat) (hk : k < s.rows.length) (hu : u k = true) :
    ((s.clear (k : Int)).1 = 0 ∧ ToldR (s.clear (k : Int)).2 (fun j => if j = k then false else u j) v ∧ (s.clear (k : Int)).2.rows.length = s.rows.length ∧ (s.clear (k : Int)).2.first = s.first ∧ (s.clear (k : Int)).2.d.n = s.d.n) ∨
    ((s.clear (k : Int)).1 = 14 ∧ (s.clear (k : Int)).2.rows = s.rows ∧ (s.clear (k : Int)).2.first = s.first ∧ Lost s (s.clear (k : Int)).2.d u v k false (v k)) := by
  have hh : s.has (k : Int) := ⟨by omega, by omega⟩
  have hr : s.row (k : Int) = s.rows.getD k noRow := rfl
  have hp : s.pos (k : Int) = s.first + 8 * k := rfl
  have hroom := h.room
  have e2 : (fun j => if j = k then v k else v j) = v := by funext j; split <;> simp_all
  have hcl : s.clear (k : Int) = if (s.d.lays (s.pos k) (zeros 64)).1 ≠ 0 then ((s.d.lays (s.pos k) (zeros 64)).1, { s with d := (s.d.lays (s.pos k) (zeros 64)).2 }) else (0, { s with d := (s.d.lays (s.pos k) (zeros 64)).2, rows := s.rows.set k noRow }) := by
    unfold SS.clear
    rw [if_neg (by simpa using hh), hr, h.used k hk, hu, if_neg (by simp)]
    rfl
  rw [hcl]
  have hh1 : nsec (zeros 64).length = 1 := rfl
  rcases DS.lays_may (s.pos k) (zeros 64) h.rest (by rw [hh1, hp]; omega) with ⟨b1, b2, b3, b4⟩ | ⟨b1, b2, b3, b4, b5⟩
  · left
    rw [if_neg (by rw [b1]; simp)]
    generalize (s.d.lays (s.pos k) (zeros 64)).2 = d2 at *
    rw [hp, hh1] at b4
    have h1 := h.of_now d2 b2 b3 k hk noRow (by rw [b4, if_pos (by omega), Nat.sub_self]; exact head_none) (fun j i hj hjk hi => by rw [b4, if_neg (by omega)]) (v k) (fun e => by cases e)
    rw [e2] at h1
    exact ⟨rfl, h1, by simp, rfl, b3⟩
  · right
    rw [if_pos (by rw [b1]; simp)]
    generalize (s.d.lays (s.pos k) (zeros 64)).2 = d2 at *
    refine ⟨b1, rfl, rfl, b2, b3, fun ch => ?_⟩
    rw [hh1] at b5
    have hall : ∀ x ∈ chosen ch d2.since 0, x = (s.first + 8 * k, secAt (zeros 64) 0) := fun x hx => by
      obtain ⟨i, hi, rfl⟩ := b5 x (chosen_mem _ _ hx)
      obtain rfl : i = 0 := by omega
      rw [hp, Nat.add_zero]
    have hn2 : (d2.crash ch).n = s.d.n := b3
    have hl1 : ∀ i, d2.lasts i = s.d.now i := fun i => by rw [b4]; exact h.rest.same i
    have hoth : ∀ i, i ≠ s.first + 8 * k → (d2.crash ch).now i = s.d.now i := fun i hi => by
      rw [crash_now, applied_far i _ _ (fun x hx => by rw [hall x hx]; exact fun e => hi e.symm), hl1]
    have hfar2 : ∀ j i, j < s.rows.length → j ≠ k → i < 8 → (d2.crash ch).now (s.first + 8 * j + i) = s.d.now (s.first + 8 * j + i) := fun j i hj hjk hi => hoth _ (by omega)
    rcases applied_same (s.first + 8 * k) (secAt (zeros 64) 0) (chosen ch d2.since 0) d2.lasts hall with hA | hA
    · refine ⟨s.rows, rfl, .inl ?_⟩
      have h1 := h.of_now (d2.crash ch) (crash_rest _ _) hn2 k hk (s.rows.getD k noRow) (by rw [crash_now, hA, hl1]; exact h.head k hk) hfar2 (v k) (fun _ => by
        have hsm := h.small k hk
        rw [flat_congr _ _ (fun i => s.d.now (s.first + 8 * k + 1 + i)) (fun i hi => hoth _ (by omega))]
        exact h.data k hk hu)
      rw [set_self _ _ hk, h.used k hk] at h1
      have e1 : (fun j => if j = k then u k else u j) = u := by funext j; split <;> simp_all
      rw [e1, e2] at h1
      exact h1
    · refine ⟨s.rows.set k noRow, by simp, .inr (h.of_now (d2.crash ch) (crash_rest _ _) hn2 k hk noRow ?_ hfar2 (v k) (fun e => by cases e))⟩
      rw [crash_now, hA]
      exact head_none
/-- Opened anew they are as they are told. -/
theorem ToldR.anew {s : SS} {u : Nat → Bool} {v : Nat → List UInt8} (h : ToldR s u v) (hn : (s.d.n - s.first) / 8 = s.rows.length) (hz : s.d.n ≠ 0) : s.d.slots (s.first : Int) = (0, some s) := by
  have hroom := h.room
  unfold DS.slots
  rw [if_neg (by omega), if_neg (by rw [h.rest.alive]; simp [hz]), Int.toNat_natCast, hn, rowsFrom_told s.rows.length 0 (by omega) (fun j _ hj => h.head j hj)]
  rfl
/-- At rest, a crash loses nothing. -/
theorem ToldR.crash {s : SS} {u : Nat → Bool} {v : Nat → List UInt8} (h : ToldR s u v) (ch : List UInt8) : ToldR { s with d := s.d.crash ch } u v := by
  have hnow : ∀ i, (s.d.crash ch).now i = s.d.now i := fun i => by
    rw [crash_now, h.rest.none]
    exact h.rest.same i
  refine ⟨crash_rest _ _, h.room, fun k hk => by show headOf ((s.d.crash ch).now _) = _; rw [hnow]; exact h.head k hk, h.used, fun k hk hu => ?_⟩
  rw [← h.data k hk hu]
  unfold SS.data
  congr 2
  funext i
  exact hnow _
theorem ToldR.fuse {s : SS} {u : Nat → Bool} {v : Nat → List UInt8} (h : ToldR s u v) (n : Int) : ToldR { s with d := s.d.setFuse n } u v := ⟨⟨h.rest.alive, h.rest.none, h.rest.same⟩, h.room, h.head, h.used, h.data⟩
end Go.Proofs.YtipfgghdoicdhaaDoor.W

/- Regions in a fence at whatever exit: none but the plain one is met. -/
namespace Go.Proofs.YtipfgghdoicdhaaDoor.W
open Go.RowKit
set_option linter.unusedVariables false
set_option linter.unusedSimpArgs false

/-- The plain exit alone. -/
def Qn (Q : Exit → Act → World → Prop) : Exit → Act → World → Prop
  | .normal, a, w => Q .normal a w
  | _, _, _ => False
theorem Qn_lets {Q : Exit → Act → World → Prop} : ¬ LetsOut (Qn Q) := by
  rintro ⟨_, _, h⟩
  exact h
section
variable {F : Fence} {n : Nat} {P : Program} {ops : Array Oper} {Q : Exit → Act → World → Prop} {a : Act} {w : World}
theorem wpIn_of_opN {o : Oper} {K : Act → World → Prop} (hF : Wide F) (hnd : ∀ c, o.op ≠ .defer c) (h : o.wp P a w K (Qn Q)) : o.wpIn F n P a w K Q := by
  unfold Oper.wpIn
  refine ⟨fun f _ => hF.fn f, ?_⟩
  rw [Oper.semAt_eq _ _ _ hnd]
  unfold Oper.wp at h
  revert h
  generalize hr : (execOp a.eval o).run P w = r
  intro h
  cases r with
  | ok x w' =>
    cases x <;> simp only [Oper.upon, Oper.uponIn] at h ⊢
    case value => exact h
    case skip => exact h
    case defer => exact h
    case enter f args =>
      refine ⟨fun hd => (by rw [hF.depth] at hd; cases hd), hF.calls (Calls.mono h (fun e w'' he => ?_))⟩
      cases e with
      | returned v => exact he
      | panicked c => exact he.elim
      | outgrown => exact absurd he Qn_lets
    case row row args => exact ⟨fun hd => (by rw [hF.depth] at hd; cases hd), hF.rows h⟩
  | halt x w' => cases x <;> simp only [Oper.upon, Oper.uponIn] at h ⊢ <;> exact h.elim
theorem wpOpIn_ofN {i : Nat} {K : Act → World → Prop} (hF : Wide F) (hnd : ∀ (o : Oper), ops[i]? = some o → ∀ c, o.op ≠ .defer c) (h : wpOp P ops (Qn Q) i K a w) : wpOpIn F n P ops Q i K a w := by
  unfold wpOp at h
  unfold wpOpIn
  cases ho : ops[i]? with
  | none => rw [ho] at h; exact h
  | some o =>
    simp only [ho] at h ⊢
    by_cases hw : Region.wanted o (yielded ops a.tmps) = true
    · simp only [hw, if_true] at h ⊢
      rcases h with h | h
      · exact wpIn_of_opN hF (hnd o ho) h
      · exact absurd h.2 Qn_lets
    · simp only [hw] at h ⊢
      exact ⟨fun f _ => hF.fn f, h⟩
theorem wpAnyIn_ofN {md : Region.Mode} (hF : Wide F) (hnd : ∀ (i : Nat) (o : Oper), ops[i]? = some o → ∀ c, o.op ≠ .defer c) :
    ∀ (k : Nat) (L : Array Bool) (a : Act) (w : World), wpAny P md ops (Qn Q) k L a w → wpAnyIn F n P md ops Q k L a w
  | 0, _, _, _, h => h
  | k + 1, _, _, _, h => ⟨h.1, fun i hi => wpOpIn_ofN hF (hnd i) (wpOp_mono (fun a' w' h' => wpAnyIn_ofN hF hnd k _ a' w' h') (h.2 i hi))⟩
/-- A region that draws its order, in a fence. -/
theorem wpIn_region_LN {id : Nat} (hF : Wide F) (hnd : noDefer ops = true) (cs : List (Nat × (World → Prop))) (hm : P.follows .mixedOrders = true) (hS : HoldC cs (Array.replicate ops.size false) w.drew)
    (h : HoldC cs (Array.replicate ops.size false) w.drew → wpAnyL P .any ops (Qn Q) cs ops.size (Array.replicate ops.size false) a w.drew) : (Code.region id ops true).wpIn F n P Q a w :=
  wpIn_region_any hm (wpAnyIn_ofN hF (noDefer_spec hnd) _ _ _ _ (wpAny_of_L _ _ _ _ (h hS)))
end
end Go.Proofs.YtipfgghdoicdhaaDoor.W

/- Package disk: Crash. -/
namespace Go.Proofs.YtipfgghdoicdhaaDoor.W
open Go.RowKit Go.Shelf
set_option linter.unusedVariables false
set_option linter.unusedSimpArgs false
attribute [local go_sem] Oper.semAt_some

theorem size_sec : (Tryd.prog.info? 77).map (·.size) = some 64 := by kernel_rfl
theorem setRow_size (w : World) (g : Nat) (cs : Array Value) : (w.setRow g cs).heap.size = w.heap.size := by
  unfold World.setRow
  simp
set_option maxRecDepth 100000 in
/-- 'copy(c.lasts, d.lasts)'. -/
theorem copy_secs {w : World} {gl gs n cl cn : Nat} {f : Nat → List UInt8} {cur : Array Value} (ty : TypeId) (hs : SecsAt w gs n f) (hg : w.heap[gl]? = some (.cells cur 77 (0, 0))) (hc : cur.size = n * 64) :
    (Builtin.copy_ #[71, 71] ty #[.slice (some ⟨gl, 0, none⟩) n cl, .slice (some ⟨gs, 0, none⟩) n cn]).run Tryd.prog w = .ok (goInt n) (w.setRow gl (bvs (flat n f)).toArray) := by
  obtain ⟨hl, hr⟩ := hs.whole
  have h := run_copy_n (P := Tryd.prog) w 71 71 ty 77 64 gl 0 n cl ⟨gs, 0, none⟩ n cn cur 77 (bvs (flat n f)) n Tryd.underlying71 size_sec hg (by simp) (by rw [bvs_len, hl])
    (fun j v hv => by rw [add_none]; exact hr j v hv) (by rw [bvs_len, hl]; omega) (bvs_one _)
  rw [h]
  congr 2
  rw [List.take_zero, List.nil_append, List.drop_eq_nil_of_le (by rw [bvs_len, hl]; simp; omega), List.append_nil]

theorem wp_copy {P : Program} {o : Oper} {a : Act} {w : World} {K : Act → World → Prop} {Q : Exit → Act → World → Prop} (x y : Operand) {t1 t2 : TypeId} (ho : o.op = .call { callee := .builtin .copy, args := #[x, y], argTypes := #[t1, t2] }) {v1 v2 : Value} (hx : a.eval x = v1) (hy : a.eval y = v2)
    {r : Value} {w' : World} (hr : (Builtin.copy_ #[t1, t2] o.type #[v1, v2]).run P w = .ok r w') (h : K (a.put o.dst r) w') : Oper.wp P o a w K Q := by
  unfold Oper.wp execOp
  simp only [ho, resolve, invoke, builtin, Sem.run_bind, Sem.run_pure, Result.andThen_ok, List.map_toArray, List.map_cons, List.map_nil, hx, hy, hr]
  exact h
theorem u8_and_lt (b : UInt8) : b &&& 1 = 0 ∨ b &&& 1 = 1 := by
  have h : (b &&& 1).toNat = b.toNat % 2 := by
    rw [UInt8.toNat_and]
    exact Nat.and_one_is_mod _
  rcases Nat.mod_two_eq_zero_or_one b.toNat with h1 | h1
  · exact .inl (UInt8.toNat_inj.1 (by rw [h, h1]; rfl))
  · exact .inr (UInt8.toNat_inj.1 (by rw [h, h1]; rfl))
theorem u8_bit (b : UInt8) : bits .and .u8 (b.toNat : Int) 1 = ((b &&& 1).toNat : Int) := by
  show IntKind.u8.wrap ((BitVec.ofInt 8 (b.toNat : Int) &&& BitVec.ofInt 8 1).toNat : Int) = _
  have h : BitVec.ofInt 8 (b.toNat : Int) = b.toBitVec := by
    rw [BitVec.ofInt_natCast]
    exact BitVec.eq_of_toNat_eq (by simp)
  rw [h]
  have h2 : (b.toBitVec &&& BitVec.ofInt 8 1).toNat = (b &&& 1).toNat := rfl
  rw [h2]
  have h3 := (b &&& 1).toNat_lt
  generalize (b &&& 1).toNat = m at *
  rw [IntKind.wrap_u8]
  omega
structure CrashAt (w W : World) (n Bi Bh pc Bc gl : Nat) (k : Nat) (cv : Value) (f : Nat → List UInt8) : Prop where
  ci : W.heap[Bi]? = some (.cells #[.int .i64 (k : Int)] 3 (0, 0))
  ch : W.heap[Bh]? = some (.cells #[cv] 31 (0, 0))
  cc : W.heap[Bc]? = some (.cells #[.pointer (some ⟨pc, 0, none⟩)] 24 (0, 0))
  obj : W.heap[pc]? = some (.cells #[.slice none 0 0, .slice (some ⟨gl, 0, none⟩) n n, .slice none 0 0, .int .i64 (-1), .int .i64 0, .bool false] 74 (0, 0))
  secs : SecsAt W gl n f
  chg : Chg [] w W
  lo : w.heap.size ≤ Bi ∧ w.heap.size ≤ Bh ∧ w.heap.size ≤ Bc ∧ w.heap.size ≤ pc ∧ w.heap.size ≤ gl
  ne : Bi ≠ Bh ∧ Bi ≠ Bc ∧ Bi ≠ pc ∧ Bi ≠ gl ∧ Bh ≠ gl ∧ Bc ≠ gl ∧ pc ≠ gl

theorem CrashAt.keep {w W W' : World} {n Bi Bh pc Bc gl k : Nat} {cv : Value} {f : Nat → List UInt8} (h : CrashAt w W n Bi Bh pc Bc gl k cv f) (hc : Chg [] W W') : CrashAt w W' n Bi Bh pc Bc gl k cv f :=
  ⟨hc.keep h.ci (by simp), hc.keep h.ch (by simp), hc.keep h.cc (by simp), hc.keep h.obj (by simp), h.secs.keep (hc.block _ h.secs.lt (by simp)), h.chg.trans hc (by simp), h.lo, h.ne⟩
theorem CrashAt.turn {w W W' : World} {row : Option Nat} {n Bi Bh pc Bc gl k : Nat} {cv : Value} {f : Nat → List UInt8} (h : CrashAt w W n Bi Bh pc Bc gl k cv f) (hg : W.grownBy W' row)
    (hr : ∀ r, row = some r → w.heap.size ≤ r ∧ ∃ o : Obj, W.heap[r]? = some o ∧ o.isCells = false) : CrashAt w W' n Bi Bh pc Bc gl k cv f := by
  have hr2 := fun r e => (hr r e).2
  obtain ⟨cs, h1, h2⟩ := h.secs
  exact ⟨(blk_turn h.ci hg hr2).trans h.ci, (blk_turn h.ch hg hr2).trans h.ch, (blk_turn h.cc hg hr2).trans h.cc, (blk_turn h.obj hg hr2).trans h.obj, h.secs.keep (blk_turn h1 hg hr2), chg_turn h.chg hg (fun r e => (hr r e).1), h.lo, h.ne⟩

set_option maxHeartbeats 4000000 in
set_option maxRecDepth 100000 in
theorem dcrash_any (p : Nat) (S : List Nat) (d : DS) (cv : Value) (ch : List UInt8) (w : World) (h : DiskAt w p S d) (hn0 : 0 < d.n) (hw : d.since.length ≤ 1000000) (hcv : BytesAt w cv ch) (hcl : ch.length ≤ 1000000) :
    Calls Tryd.prog 27 #[.pointer (some ⟨p, 0, none⟩), cv] w fun e w' => ∃ p' S', e = .returned (.pointer (some ⟨p', 0, none⟩)) ∧ Newly w w' p' S' (d.crash ch) := by
  obtain ⟨gn, gl, cn, cl, v, H⟩ := h
  have c0 : w.cell? ⟨p, 0, none⟩ = some (.slice (some ⟨gn, 0, none⟩) d.n cn) := blk_cell H.head 0 _ rfl
  have c1 : w.cell? ⟨p, 1, none⟩ = some (.slice (some ⟨gl, 0, none⟩) d.n cl) := blk_cell H.head 1 _ rfl
  have hpl := blk_lt H.head
  have HCV := Lib.hid hcv
  obtain ⟨ca, cc, hcv'⟩ := hcv.slice
  subst hcv'
  have hmk := make_secs d.n (by have := H.few; omega)
  have HH := Lib.hid H
  have hfew := H.few
  have hcapn := H.capn
  have hcapl := H.capl
  have hq : ∀ w, (binOp .eql 71 (.slice (some ⟨gn, 0, none⟩) d.n cn) (.slice none 0 0)).run Tryd.prog w = .ok (.bool false) w := fun w => Lib.run_eql_slice_nil w 71 77 (some ⟨gn, 0, none⟩) _ _ 0 0 Tryd.underlying71
  clear H hcv
  obtain ⟨n, hn⟩ : ∃ n, n = d.n := ⟨_, rfl⟩
  rw [← hn] at c0 c1 hmk hfew hcapn hcapl hq hn0
  have HN := Lib.hid hn
  clear hn
  refine (callsIn_wide (n := 5)).1 ?_
  refine callsIn_of_wp_marks Tryd.func27 rfl trivial ?_ rfl
  simp only [Tryd.ntmps27, List.size_toArray, List.length_cons, List.length_nil, Nat.reduceAdd, Nat.reduceSub, Array.replicate_succ, Array.replicate_zero, List.push_toArray, List.append_toArray, List.nil_append, List.cons_append]
  obtain ⟨w3, hw3⟩ : ∃ w3, w3 = (((w.alloc (.cells #[.slice ca ch.length cc] 31)).alloc (.cells (secZ n) 77)).alloc (.cells #[.slice none 0 0, .slice (some ⟨w.heap.size + 1, 0, none⟩) n n, .slice none 0 0, .int .i64 (-1), .int .i64 0, .bool false] 74)).alloc (.cells #[.pointer (some ⟨w.heap.size + 1 + 1, 0, none⟩)] 24) := ⟨_, rfl⟩
  have hc3 : Chg [] w w3 := by rw [hw3]; exact ((((Chg.refl _ _).alloc _).alloc _).alloc _).alloc _
  have hs3 : w3.heap.size = w.heap.size + 4 := by rw [hw3]; simp
  have hbh : w3.heap[w.heap.size]? = some (.cells #[.slice ca ch.length cc] 31 (0, 0)) := by rw [hw3]; exact blk_alloc (blk_alloc (blk_alloc (heap_alloc_new w _)))
  have hgc : w3.heap[w.heap.size + 1]? = some (.cells (secZ n) 77 (0, 0)) := by rw [hw3]; exact blk_alloc (blk_alloc (heap_at (by simp)))
  have hpc : w3.heap[w.heap.size + 2]? = some (.cells #[.slice none 0 0, .slice (some ⟨w.heap.size + 1, 0, none⟩) n n, .slice none 0 0, .int .i64 (-1), .int .i64 0, .bool false] 74 (0, 0)) := by rw [hw3]; exact blk_alloc (heap_at (by simp))
  have hbc : w3.heap[w.heap.size + 3]? = some (.cells #[.pointer (some ⟨w.heap.size + 2, 0, none⟩)] 24 (0, 0)) := by rw [hw3]; exact heap_at (by simp)
  have HW3 := Lib.hid hw3
  gi_wp2_with fail
  rw [← HW3.out]
  have e2 : w.heap.size + 1 + 1 = w.heap.size + 2 := rfl
  have e3 : w.heap.size + 1 + 1 + 1 = w.heap.size + 3 := rfl
  rw [e3, e2]
  clear hw3 e2 e3 HW3
  -- the copy
  have hls : SecsAt w3.drew gl n d.lasts := by rw [HN.out]; exact (HH.out.lasts.keep (hc3.block _ HH.out.lasts.lt (by simp))).keep rfl
  have hrun := fun ty => copy_secs (cl := n) (cn := cl) ty hls (show w3.drew.heap[w.heap.size + 1]? = some (.cells (secZ n) 77 (0, 0)) from hgc) (secZ_size n)
  have hl64 : ∀ k, k < n → (d.lasts k).length = 64 := fun k hk => hls.len k hk
  obtain ⟨w4, hw4⟩ : ∃ w4, w4 = w3.drew.setRow (w.heap.size + 1) (bvs (flat n d.lasts)).toArray := ⟨_, rfl⟩
  rw [← hw4] at hrun
  have hs4 : w4.heap.size = w.heap.size + 4 := by rw [hw4, setRow_size]; exact hs3
  have ho4 : ∀ k, k ≠ w.heap.size + 1 → w4.heap[k]? = w3.heap[k]? := fun k hk => by rw [hw4]; exact setRow_other w3.drew _ k _ hk
  have hc4 : Chg [] w w4 := ⟨by rw [hw4]; exact hc3.os, by rw [hw4]; exact hc3.tape, by rw [hw4]; exact hc3.output, by omega, fun k hk _ => (ho4 k (by omega)).trans (hc3.block k hk (by simp))⟩
  have hsec4 : SecsAt w4 (w.heap.size + 1) n d.lasts := by
    refine secs_of_cells (t := 0) (by rw [hw4]; exact setRow_heap w3.drew _ _ _ _ _ hgc) hl64 ?_
    rw [List.take_of_length_le (by simp [bvs_len]; rw [flat_len n _ hl64]; exact Nat.le_refl _)]
  obtain ⟨w5, hw5⟩ : ∃ w5, w5 = w4.alloc (.cells #[.int .i64 0] 3) := ⟨_, rfl⟩
  have hcr5 : CrashAt w w5 n (w.heap.size + 4) w.heap.size (w.heap.size + 2) (w.heap.size + 3) (w.heap.size + 1) 0 (.slice ca ch.length cc) d.lasts := by
    rw [hw5]
    exact ⟨heap_at (by omega), blk_alloc ((ho4 _ (by omega)).trans hbh), blk_alloc ((ho4 _ (by omega)).trans hbc), blk_alloc ((ho4 _ (by omega)).trans hpc), hsec4.keep (Below.heap_alloc w4 _ _ (by omega)), hc4.alloc _, ⟨by omega, by omega, by omega, by omega, by omega⟩, by omega⟩
  have hs5 : w5.heap.size = w.heap.size + 5 := by rw [hw5]; simp [hs4]
  have HW5 := Lib.hid hw5
  have HCR5 := Lib.hid hcr5
  have HS4 := Lib.hid hs4
  have k1 := blk_cell hbc 0 _ rfl
  have k2 := blk_cell hpc 1 _ rfl
  have k3 := hc3.cell c1 (by simp)
  have HRUN := Lib.hid hrun
  have HS3 := Lib.hid hs3
  clear hls hrun hw4 ho4 hc4 hsec4 hw5 hcr5 hbh hgc hpc hbc c0 c1 hmk hq hs3 hs4 hs5
  refine wpIn_region_LN (wide_w) (by kernel_rfl) [(8, fun w' => w'.cell? ⟨w.heap.size + 3, 0, none⟩ = some (.pointer (some ⟨w.heap.size + 2, 0, none⟩))), (8, fun w' => w'.cell? ⟨w.heap.size + 2, 1, none⟩ = some (.slice (some ⟨w.heap.size + 1, 0, none⟩) n n)), (8, fun w' => w'.cell? ⟨p, 1, none⟩ = some (.slice (some ⟨gl, 0, none⟩) n cl))] (by kernel_rfl) ?_ (fun hHeld => ?_)
  · exact (HoldC.cons (k1) (HoldC.cons (k2) (HoldC.cons (k3) HoldC.nil)))
  refine wpAnyL_load 0 (i := 0) (oi := _) (v := ?_) rfl rfl (by kernel_rfl) (by kernel_rfl) (by kernel_rfl) (by kernel_rfl) (by kernel_rfl) (by kernel_rfl) (fun _ _ _ h => h) (Or.inl ⟨by rfl, ?_⟩) (by assumption) (fun hNew => ?_)
  rotate_left
  · intro w hSw
    (try dsimp only at hSw)
    go_simp
    try with_reducible rfl
  clear hHeld
  have hHeld := hNew
  clear hNew
  try simp only [List.getElem_toArray, List.getElem_cons_succ, List.getElem_cons_zero, Act.put, List.setIfInBounds_toArray, List.set_cons_zero, List.set_cons_succ]
  refine wpAnyL_take (i := 1) (oi := _) (v := ?_) rfl (by kernel_rfl) (by kernel_rfl) (by kernel_rfl) (by kernel_rfl) (by kernel_rfl) (fun _ _ _ h => h) (Or.inl ⟨by rfl, ?_⟩) (by assumption) (fun hNew => ?_)
  rotate_left
  · intro w _
    go_simp
    try with_reducible rfl
  clear hHeld
  have hHeld := hNew
  clear hNew
  try simp only [List.getElem_toArray, List.getElem_cons_succ, List.getElem_cons_zero, Act.put, List.setIfInBounds_toArray, List.set_cons_zero, List.set_cons_succ]
  refine wpAnyL_take (i := 2) (oi := _) (v := ?_) rfl (by kernel_rfl) (by kernel_rfl) (by kernel_rfl) (by kernel_rfl) (by kernel_rfl) (fun _ _ _ h => h) (Or.inl ⟨by rfl, ?_⟩) (by assumption) (fun hNew => ?_)
  rotate_left
  · intro w _
    go_simp
    try with_reducible rfl
  clear hHeld
  have hHeld := hNew
  clear hNew
  try simp only [List.getElem_toArray, List.getElem_cons_succ, List.getElem_cons_zero, Act.put, List.setIfInBounds_toArray, List.set_cons_zero, List.set_cons_succ]
  refine wpAnyL_load 1 (i := 3) (oi := _) (v := ?_) rfl rfl (by kernel_rfl) (by kernel_rfl) (by kernel_rfl) (by kernel_rfl) (by kernel_rfl) (by kernel_rfl) (fun _ _ _ h => h) (Or.inl ⟨by rfl, ?_⟩) (by assumption) (fun hNew => ?_)
  rotate_left
  · intro w hSw
    (try dsimp only at hSw)
    go_simp
    try with_reducible rfl
  clear hHeld
  have hHeld := hNew
  clear hNew
  try simp only [List.getElem_toArray, List.getElem_cons_succ, List.getElem_cons_zero, Act.put, List.setIfInBounds_toArray, List.set_cons_zero, List.set_cons_succ]
  refine wpAnyL_take (i := 4) (oi := _) (v := ?_) rfl (by kernel_rfl) (by kernel_rfl) (by kernel_rfl) (by kernel_rfl) (by kernel_rfl) (fun _ _ _ h => h) (Or.inl ⟨by rfl, ?_⟩) (by assumption) (fun hNew => ?_)
  rotate_left
  · intro w _
    go_simp
    try with_reducible rfl
  clear hHeld
  have hHeld := hNew
  clear hNew
  try simp only [List.getElem_toArray, List.getElem_cons_succ, List.getElem_cons_zero, Act.put, List.setIfInBounds_toArray, List.set_cons_zero, List.set_cons_succ]
  refine wpAnyL_take (i := 5) (oi := _) (v := ?_) rfl (by kernel_rfl) (by kernel_rfl) (by kernel_rfl) (by kernel_rfl) (by kernel_rfl) (fun _ _ _ h => h) (Or.inl ⟨by rfl, ?_⟩) (by assumption) (fun hNew => ?_)
  rotate_left
  · intro w _
    go_simp
    try with_reducible rfl
  clear hHeld
  have hHeld := hNew
  clear hNew
  try simp only [List.getElem_toArray, List.getElem_cons_succ, List.getElem_cons_zero, Act.put, List.setIfInBounds_toArray, List.set_cons_zero, List.set_cons_succ]
  refine wpAnyL_take (i := 6) (oi := _) (v := ?_) rfl (by kernel_rfl) (by kernel_rfl) (by kernel_rfl) (by kernel_rfl) (by kernel_rfl) (fun _ _ _ h => h) (Or.inl ⟨by rfl, ?_⟩) (by assumption) (fun hNew => ?_)
  rotate_left
  · intro w _
    go_simp
    try with_reducible rfl
  clear hHeld
  have hHeld := hNew
  clear hNew
  try simp only [List.getElem_toArray, List.getElem_cons_succ, List.getElem_cons_zero, Act.put, List.setIfInBounds_toArray, List.set_cons_zero, List.set_cons_succ]
  refine wpAnyL_load 2 (i := 7) (oi := _) (v := ?_) rfl rfl (by kernel_rfl) (by kernel_rfl) (by kernel_rfl) (by kernel_rfl) (by kernel_rfl) (by kernel_rfl) (fun _ _ _ h => h) (Or.inl ⟨by rfl, ?_⟩) (by assumption) (fun hNew => ?_)
  rotate_left
  · intro w hSw
    (try dsimp only at hSw)
    go_simp
    try with_reducible rfl
  clear hHeld
  have hHeld := hNew
  clear hNew
  try simp only [List.getElem_toArray, List.getElem_cons_succ, List.getElem_cons_zero, Act.put, List.setIfInBounds_toArray, List.set_cons_zero, List.set_cons_succ]
  refine wpAnyL_ready (rs := [8]) (by kernel_rfl) (by simp) ?_
  refine AllReadyL.cons (o := _) rfl (fun K hK => ?_) AllReadyL.nil
  try simp only [List.getElem_toArray, List.getElem_cons_succ, List.getElem_cons_zero]
  rw [if_pos (by rfl)]
  refine wp_copy (.tmp 28) (.tmp 32) (by rfl) (by rfl) (by rfl) (HRUN.out _) ?_
  clear hHeld
  refine hK.out _ _ ?_ (fun hHeld => ?_)
  · exact (HoldC.past (by kernel_rfl) (HoldC.past (by kernel_rfl) (HoldC.past (by kernel_rfl) HoldC.nil)))
  clear hK K
  try simp only [List.getElem_toArray, List.getElem_cons_succ, List.getElem_cons_zero, Act.put, List.setIfInBounds_toArray, List.set_cons_zero, List.set_cons_succ]
  refine wpAnyL_done (by kernel_rfl) ?_ _
  clear hHeld
  simp only [Qn]
  clear k1 k2 k3 HRUN
  gi_wp2_with fail
  rw [← HW5.out]
  try rw [HS4.out]
  refine ⟨trivial, (wide_w.calls (dwaits_any p w5)).mono ?_⟩
  rintro e w6 ⟨rfl, hw6⟩
  have hc6 : Chg [] w5 w6 := by rw [hw6]; exact (Chg.refl _ _).alloc _
  have hB1 : w6.cell? ⟨w5.heap.size, 0, none⟩ = some (.pointer (some ⟨p, 0, none⟩)) := by rw [hw6]; exact blk_cell (heap_alloc_new w5 _) 0 _ rfl
  have hcr6 := HCR5.out.keep hc6
  have hcw6 : Chg [] w w6 := hcr6.chg
  have H6 : DiskOk w6 p S d gn gl cn cl v := by
    have H := HH.out
    obtain ⟨m1, m2, m3, m4⟩ := H.mem
    exact ⟨hcw6.keep H.head (by simp), H.now.keep (hcw6.block _ H.now.lt (by simp)), H.lasts.keep (hcw6.block _ H.lasts.lt (by simp)), row_keep H.since (fun g hg => hcw6.block g (World.ownsRow.lt H.since g hg).2 (by simp)),
      H.waits, H.few, H.capn, H.capl, H.fuse, H.ap, H.av, H.mem, fun x hx => Nat.lt_of_lt_of_le (H.lim x hx) hcw6.size⟩
  have h62 : w6.cell? ⟨p, 2, none⟩ = some v := blk_cell H6.head 2 _ rfl
  obtain ⟨xs, hxs⟩ := wcs_of (N := d.n) d.since (fun x hx => H6.waits x hx)
  have hxl : xs.length = d.since.length := by rw [← hxs, wcs_len]
  have hrow : w6.ownsRow 0 79 65 v xs.length (wsCells (wcs xs)) := by rw [hxs, hxl]; exact H6.since
  have hxn : xs.length ≤ 1000000 := by rw [hxl]; exact hw
  have hvl : ∀ g, v.ownBlock = some g → g < w.heap.size := fun g hg => (World.ownsRow.lt HH.out.since g hg).2
  obtain ⟨iw, zw, hiw, hzw1, hzw2, hzw3, hzw4⟩ := info_three facts_wr
  have HIW := Lib.hid hiw
  have HZ1 := Lib.hid hzw1
  have HZ2 := Lib.hid hzw2
  have HZ3 := Lib.hid hzw3
  have HXS := Lib.hid hxs
  have HXN := Lib.hid hxn
  have HROW := Lib.hid hrow
  have HVL := Lib.hid hvl
  have HCR6 := Lib.hid hcr6
  have HCW6 := Lib.hid hcw6
  have hs6 : w.heap.size + 6 ≤ w6.heap.size := by
    have h1 := blk_lt HCR5.out.ci
    have h2 := World.block_lt_of_cell? w6 _ hB1
    simp at h1 h2
    omega
  clear hw6 hc6 hcr6 H6 hxs hxl hrow hxn hvl hiw hzw1 hzw2 hzw3 hzw4 hcw6
  gi_wp2_with fail
  refine wpIn_rangeFunc_ownH rfl (by omega) (gf := 75) (lb := #[.pointer (some ⟨w5.heap.size, 0, none⟩)]) rfl trivial (enters_of Tryd.func75 (by kernel_rfl) rfl)
    (dwaits_stops 4 w5.heap.size p d.n (by omega) v xs HXN.out w6 hB1 h62 HROW.out) (fun h1 h2 g hg => (h2 g hg).trans (h1 g hg))
    (fun W l o o' hl hh _ _ g hg => World.putObj_heap_other (fun e => by have := HVL.out g hg; omega)) (Below.refl _ _) (fun _ => rfl)
    (fun pre W => CrashAt w W n (w.heap.size + 4) w.heap.size (w.heap.size + 2) (w.heap.size + 3) (w.heap.size + 1) pre.length (.slice ca ch.length cc) (applied (chosen ch (wcs pre) 0) d.lasts) ∧ w6.heap.size ≤ W.heap.size) (fun _ _ _ => False)
    (fun s A B row hs hg hr => ⟨hs.1.turn hg (fun r e => ⟨by have := (hr r e).1; omega, (hr r e).2⟩), Nat.le_trans hs.2 hg.size⟩) (fun c s A B row hs _ _ => hs)
    ⟨HCR6.out, Nat.le_refl _⟩
    (fun x a' W => ∃ Bx, w6.heap.size ≤ Bx ∧ W.heap[Bx]? = some (.cells (wcells x.1).toArray 79 (0, 0)) ∧ a' = { tmps := #[.pointer (some ⟨p, 0, none⟩), .slice ca ch.length cc, undef, .pointer (some ⟨w.heap.size, 0, none⟩), .pointer none, .pointer (some ⟨w.heap.size + 3, 0, none⟩), .pointer (some ⟨w.heap.size + 4, 0, none⟩), .pointer (some ⟨Bx, 0, none⟩), .pointer (some ⟨p, 0, none⟩), .bool false, .bool false, .pointer (some ⟨p, 0, none⟩), .pointer (some ⟨p, 0, none⟩), .pointer (some ⟨p, 0, none⟩), .slice (some ⟨gn, 0, none⟩) n cn, .bool false, .bool false, .pointer (some ⟨p, 0, none⟩), .pointer (some ⟨p, 0, none⟩), .pointer (some ⟨p, 1, none⟩), .slice (some ⟨gl, 0, none⟩) n cl, .int .i64 n, .slice (some ⟨w.heap.size + 1, 0, none⟩) n n, .agg #[.slice none 0 0, .slice (some ⟨w.heap.size + 1, 0, none⟩) n n, .slice none 0 0, .int .i64 (-1), .int .i64 0, .bool false], .pointer (some ⟨w.heap.size + 2, 0, none⟩), .pointer (some ⟨w.heap.size + 2, 0, none⟩), .pointer (some ⟨w.heap.size + 2, 0, none⟩), .pointer (some ⟨w.heap.size + 2, 1, none⟩), .slice (some ⟨w.heap.size + 1, 0, none⟩) n n, .pointer (some ⟨p, 0, none⟩), .pointer (some ⟨p, 0, none⟩), .pointer (some ⟨p, 1, none⟩), .slice (some ⟨gl, 0, none⟩) n cl, .int .i64 n, .pointer (some ⟨p, 0, none⟩), .func (.func 75) #[] #[.pointer (some ⟨w5.heap.size, 0, none⟩)], .agg (wcells x.1).toArray, undef, undef, undef, undef, undef, undef, undef, undef, undef, undef, undef, undef, undef, undef, undef, undef, undef, undef, undef, undef, undef, undef, undef, undef, undef, undef, undef, undef, undef, undef, undef, undef], defers := [] })
    (fun x a' s A B row ⟨Bx, h1, h2, h3⟩ hg hr => ⟨Bx, h1, (blk_turn h2 hg (fun r e => (hr r e).2)).trans h2, h3⟩) ?assign ?body ?done ?stop
  case stop =>
    rintro D c pre W _ _ h _
    exact h.elim
  case assign =>
    rintro l pre x W K ⟨hI, hsz3⟩ hK
    have HXL := Lib.hid (wcells_len x.1 x.2.2)
    have hone := Lib.hid (all_oneCell_toArray (wcells_one x.1))
    have HZ2b : Hid (zw.cells.size = (wcells x.1).toArray.size) := Lib.hid (by rw [HZ2.out]; simp [HXL.out])
    have HZ3b : Hid (iw.size = (wcells x.1).toArray.size) := Lib.hid (by rw [HZ3.out]; simp [HXL.out])
    have HN := Lib.hid (hK { tmps := #[.pointer (some ⟨p, 0, none⟩), .slice ca ch.length cc, undef, .pointer (some ⟨w.heap.size, 0, none⟩), .pointer none, .pointer (some ⟨w.heap.size + 3, 0, none⟩), .pointer (some ⟨w.heap.size + 4, 0, none⟩), .pointer (some ⟨W.heap.size, 0, none⟩), .pointer (some ⟨p, 0, none⟩), .bool false, .bool false, .pointer (some ⟨p, 0, none⟩), .pointer (some ⟨p, 0, none⟩), .pointer (some ⟨p, 0, none⟩), .slice (some ⟨gn, 0, none⟩) n cn, .bool false, .bool false, .pointer (some ⟨p, 0, none⟩), .pointer (some ⟨p, 0, none⟩), .pointer (some ⟨p, 1, none⟩), .slice (some ⟨gl, 0, none⟩) n cl, .int .i64 n, .slice (some ⟨w.heap.size + 1, 0, none⟩) n n, .agg #[.slice none 0 0, .slice (some ⟨w.heap.size + 1, 0, none⟩) n n, .slice none 0 0, .int .i64 (-1), .int .i64 0, .bool false], .pointer (some ⟨w.heap.size + 2, 0, none⟩), .pointer (some ⟨w.heap.size + 2, 0, none⟩), .pointer (some ⟨w.heap.size + 2, 0, none⟩), .pointer (some ⟨w.heap.size + 2, 1, none⟩), .slice (some ⟨w.heap.size + 1, 0, none⟩) n n, .pointer (some ⟨p, 0, none⟩), .pointer (some ⟨p, 0, none⟩), .pointer (some ⟨p, 1, none⟩), .slice (some ⟨gl, 0, none⟩) n cl, .int .i64 n, .pointer (some ⟨p, 0, none⟩), .func (.func 75) #[] #[.pointer (some ⟨w5.heap.size, 0, none⟩)], .agg (wcells x.1).toArray, undef, undef, undef, undef, undef, undef, undef, undef, undef, undef, undef, undef, undef, undef, undef, undef, undef, undef, undef, undef, undef, undef, undef, undef, undef, undef, undef, undef, undef, undef, undef, undef], defers := [] } (W.alloc (.cells (wcells x.1).toArray 79)) ((KeepsOthers.alloc _ _).from _)
      (fun g hg => Below.heap_alloc W _ g (Nat.lt_of_lt_of_le (HVL.out g hg) (by omega))) ⟨hI.keep ((Chg.refl _ W).alloc _), by simp; omega⟩ ⟨W.heap.size, hsz3, heap_alloc_new W _, rfl⟩)
    clear hK hI
    refine wpIn_region_lit ?_
    simp [wenc]
    (refine wpListIn_varW (wide_r l) (by rfl) (by rfl) 79 (.tmp 7) (.tmp 36) (by rfl) (by rfl) W.heap.size rfl (wcells x.1).toArray (by rfl) (by rfl) iw zw HIW.out HZ1.out HZ2b.out HZ3b.out hone.out ?_)
    exact HN.out
  case body =>
    rintro l pre x a' W hl ⟨r, hr⟩ ⟨hC, hszW⟩ ⟨Bx, hBx, bX, rfl⟩ hlt
    obtain ⟨k, hk⟩ : ∃ k, k = pre.length := ⟨_, rfl⟩
    have HKL := Lib.hid hk
    rw [← hk] at hC hlt
    have hk9 : k ≤ 1000000 := by have := HXN.out; omega
    have ci : W.cell? ⟨w.heap.size + 4, 0, none⟩ = some (.int .i64 (k : Int)) := blk_cell hC.ci 0 _ rfl
    have cb : W.cell? ⟨w.heap.size, 0, none⟩ = some (.slice ca ch.length cc) := blk_cell hC.ch 0 _ rfl
    have cp : W.cell? ⟨w.heap.size + 3, 0, none⟩ = some (.pointer (some ⟨w.heap.size + 2, 0, none⟩)) := blk_cell hC.cc 0 _ rfl
    have c1 : W.cell? ⟨w.heap.size + 2, 1, none⟩ = some (.slice (some ⟨w.heap.size + 1, 0, none⟩) n n) := blk_cell hC.obj 1 _ rfl
    have cx : W.cell? ⟨Bx, 0, none⟩ = some (.int .i64 (x.1.1 : Int)) := blk_cell bX 0 _ rfl
    have hxr : W.rangeAt Bx 0 (wcells x.1) := fun j u hu => by rw [Nat.zero_add]; exact blk_cell bX j u (by simpa using hu)
    have HXR := Lib.hid (range_tail hxr)
    have hx1 : x.1.1 < n := by rw [HN.out]; exact x.2.1
    have HXS2 := Lib.hid x.2.2
    have HCC := Lib.hid hC
    have hsnoc : ∀ q : Bool, leftAt ch k = q → applied (chosen ch (wcs (pre ++ [x])) 0) d.lasts = if q then upd (applied (chosen ch (wcs pre) 0) d.lasts) x.1.1 x.1.2 else applied (chosen ch (wcs pre) 0) d.lasts := fun q hq => by
      rw [show wcs (pre ++ [x]) = wcs pre ++ [x.1] by simp [wcs], chosen_snoc, Nat.zero_add, wcs_len, ← HKL.out, hq]
      cases q
      · simp
      · simp [applied_snoc]
    have HSN := Lib.hid hsnoc
    -- the round's end
    have hfin : ∀ W2, CrashAt w W2 n (w.heap.size + 4) w.heap.size (w.heap.size + 2) (w.heap.size + 3) (w.heap.size + 1) k (.slice ca ch.length cc) (applied (chosen ch (wcs (pre ++ [x])) 0) d.lasts) → (∀ j, j < w.heap.size ∨ w6.heap.size ≤ j → W2.heap[j]? = W.heap[j]?) → W.heap.size ≤ W2.heap.size →
        ownPostG w6.heap.size (KpRow v) (fun pre W => CrashAt w W n (w.heap.size + 4) w.heap.size (w.heap.size + 2) (w.heap.size + 3) (w.heap.size + 1) pre.length (.slice ca ch.length cc) (applied (chosen ch (wcs pre) 0) d.lasts) ∧ w6.heap.size ≤ W.heap.size) (fun _ _ _ => False) (pre ++ [x]) W Exit.normal { tmps := #[], defers := [] } (W2.setCell ⟨w.heap.size + 4, 0, none⟩ (.int .i64 ((k : Int) + 1))) := fun W2 h2 hj hsz => by
      have hne := h2.ne
      have hlo := h2.lo
      have hset : ∀ j, j ≠ w.heap.size + 4 → (W2.setCell ⟨w.heap.size + 4, 0, none⟩ (.int .i64 ((k : Int) + 1))).heap[j]? = W2.heap[j]? := fun j hj => Below.heap_setCell W2 ⟨w.heap.size + 4, 0, none⟩ _ j hj
      have hsz2 : (W2.setCell ⟨w.heap.size + 4, 0, none⟩ (.int .i64 ((k : Int) + 1))).heap.size = W2.heap.size := by simp [World.setCell]
      refine ⟨⟨by rw [hsz2]; exact hsz, fun j o h1 h3 _ => ?_⟩, fun g hg => ?_, ⟨?_, ?_, ?_, ?_, ?_, ?_, h2.lo, h2.ne⟩, by rw [hsz2]; omega⟩
      · rw [hset j (by omega), hj j (.inr h1)]; exact h3
      · have := HVL.out g hg
        rw [hset g (by omega), hj g (.inl this)]
      · have := set_blk (j := 0) (u := .int .i64 ((k : Int) + 1)) h2.ci
        rw [this, show (pre ++ [x]).length = k + 1 by simp [HKL.out]]
        rfl
      · rw [hset _ (by omega)]; exact h2.ch
      · rw [hset _ (by omega)]; exact h2.cc
      · rw [hset _ (by omega)]; exact h2.obj
      · exact h2.secs.keep (hset _ (by omega))
      · exact h2.chg.setCell (.inr (by show w.heap.size ≤ w.heap.size + 4; omega)) _
    have HFIN := Lib.hid hfin
    have hzs : Hid ((Tryd.prog.info? 77).map (·.size) = some (bvs x.1.2).length) := Lib.hid (by rw [bvs_len, HXS2.out]; kernel_rfl)
    have hzt : Hid ((Tryd.prog.info? 77).map (·.size) = some (bvs x.1.2).toArray.size) := Lib.hid (by rw [show (bvs x.1.2).toArray.size = (bvs x.1.2).length by simp]; exact hzs.out)
    have th : Hid (W.drew.there (w.heap.size + 1) (x.1.1 * 64) (bvs x.1.2).toArray.size) := Lib.hid (by
      have h1 := (hC.secs.keep (w' := W.drew) rfl).there x.1.1 hx1
      have h2 : (bvs x.1.2).toArray.size = 64 := by simp [bvs_len, HXS2.out]
      rw [h2]; exact h1)
    have hone := Lib.hid (all_oneCell_toArray (bvs_one x.1.2))
    have hjz : ((x.1.1 : Nat) : Int) < (n : Int) := by omega
    have hjz0 : (0 : Int) ≤ ((x.1.1 : Nat) : Int) := by omega
    have hjz1 : ((x.1.1 : Nat) : Int).toNat = x.1.1 := by omega
    obtain ⟨W2, hW2⟩ : ∃ W2, W2 = W.drew.setCells (w.heap.size + 1) (x.1.1 * 64) (bvs x.1.2) := ⟨_, rfl⟩
    have hleft : leftAt ch k = true → CrashAt w W2 n (w.heap.size + 4) w.heap.size (w.heap.size + 2) (w.heap.size + 3) (w.heap.size + 1) k (.slice ca ch.length cc) (applied (chosen ch (wcs (pre ++ [x])) 0) d.lasts) := fun hq => by
      have hfar : ∀ j, j ≠ w.heap.size + 1 → W2.heap[j]? = W.heap[j]? := fun j hj => by rw [hW2]; exact setCells_far _ _ _ _ hj
      rw [HSN.out true hq, if_pos rfl]
      refine ⟨(hfar _ (by omega)).trans hC.ci, (hfar _ (by omega)).trans hC.ch, (hfar _ (by omega)).trans hC.cc, (hfar _ (by omega)).trans hC.obj, ?_, ?_, hC.lo, hC.ne⟩
      · rw [hW2]; exact (hC.secs.keep (w' := W.drew) rfl).set x.1.1 x.1.2 hx1 HXS2.out
      · rw [hW2]; exact hC.chg.drew.setCells (.inr (by omega)) _
    have HLEFT := Lib.hid hleft
    have hW2s : W2.heap.size = W.heap.size := by rw [hW2, setCells_size]; rfl
    have hW2j : ∀ j, j < w.heap.size ∨ w6.heap.size ≤ j → W2.heap[j]? = W.heap[j]? := fun j hj => by rw [hW2]; exact setCells_far _ _ _ _ (by omega)
    have HW2 := Lib.hid hW2
    have HW2S := Lib.hid hW2s
    have HW2J := Lib.hid hW2j
    have HIW2 := Lib.hid (IntWalk.i64_in ((k : Int) + 1) ⟨by omega, by omega⟩)
    clear hk hsnoc hfin hleft hW2 hW2s hW2j bX hxr hr
    by_cases hkl : ch.length ≤ k
    · have hz : (ch.length : Int) ≤ (k : Int) := by omega
      have HL := Lib.hid (HLEFT.out (by unfold leftAt; rw [decide_eq_true hkl]; rfl))
      clear hC
      gi_wp2_with fail
      refine wpIn_region_L (wide_r l) (by rintro ⟨_, _, h⟩; exact h) (by kernel_rfl) [(9, fun w' => w'.cell? ⟨w.heap.size + 3, 0, none⟩ = some (.pointer (some ⟨w.heap.size + 2, 0, none⟩))), (9, fun w' => w'.cell? ⟨w.heap.size + 2, 1, none⟩ = some (.slice (some ⟨w.heap.size + 1, 0, none⟩) n n)), (9, fun w' => w'.cell? ⟨Bx, 0, none⟩ = some (.int .i64 (x.1.1 : Int))), (9, fun w' => w'.rangeAt Bx (0 + 1) (bvs x.1.2))] (by kernel_rfl) ?_ (fun hHeld => ?_)
      · exact (HoldC.cons (cp) (HoldC.cons (c1) (HoldC.cons (cx) (HoldC.cons (HXR.out) HoldC.nil))))
      refine wpAnyL_load 0 (i := 0) (oi := _) (v := ?_) rfl rfl (by kernel_rfl) (by kernel_rfl) (by kernel_rfl) (by kernel_rfl) (by kernel_rfl) (by kernel_rfl) (fun _ _ _ h => h) (Or.inl ⟨by rfl, ?_⟩) (by assumption) (fun hNew => ?_)
      rotate_left
      · intro w hSw
        (try dsimp only at hSw)
        go_simp
        try with_reducible rfl
      clear hHeld
      have hHeld := hNew
      clear hNew
      try simp only [List.getElem_toArray, List.getElem_cons_succ, List.getElem_cons_zero, Act.put, List.setIfInBounds_toArray, List.set_cons_zero, List.set_cons_succ]
      refine wpAnyL_take (i := 1) (oi := _) (v := ?_) rfl (by kernel_rfl) (by kernel_rfl) (by kernel_rfl) (by kernel_rfl) (by kernel_rfl) (fun _ _ _ h => h) (Or.inl ⟨by rfl, ?_⟩) (by assumption) (fun hNew => ?_)
      rotate_left
      · intro w _
        go_simp
        try with_reducible rfl
      clear hHeld
      have hHeld := hNew
      clear hNew
      try simp only [List.getElem_toArray, List.getElem_cons_succ, List.getElem_cons_zero, Act.put, List.setIfInBounds_toArray, List.set_cons_zero, List.set_cons_succ]
      refine wpAnyL_take (i := 2) (oi := _) (v := ?_) rfl (by kernel_rfl) (by kernel_rfl) (by kernel_rfl) (by kernel_rfl) (by kernel_rfl) (fun _ _ _ h => h) (Or.inl ⟨by rfl, ?_⟩) (by assumption) (fun hNew => ?_)
      rotate_left
      · intro w _
        go_simp
        try with_reducible rfl
      clear hHeld
      have hHeld := hNew
      clear hNew
      try simp only [List.getElem_toArray, List.getElem_cons_succ, List.getElem_cons_zero, Act.put, List.setIfInBounds_toArray, List.set_cons_zero, List.set_cons_succ]
      refine wpAnyL_load 1 (i := 3) (oi := _) (v := ?_) rfl rfl (by kernel_rfl) (by kernel_rfl) (by kernel_rfl) (by kernel_rfl) (by kernel_rfl) (by kernel_rfl) (fun _ _ _ h => h) (Or.inl ⟨by rfl, ?_⟩) (by assumption) (fun hNew => ?_)
      rotate_left
      · intro w hSw
        (try dsimp only at hSw)
        go_simp
        try with_reducible rfl
      clear hHeld
      have hHeld := hNew
      clear hNew
      try simp only [List.getElem_toArray, List.getElem_cons_succ, List.getElem_cons_zero, Act.put, List.setIfInBounds_toArray, List.set_cons_zero, List.set_cons_succ]
      refine wpAnyL_take (i := 4) (oi := _) (v := ?_) rfl (by kernel_rfl) (by kernel_rfl) (by kernel_rfl) (by kernel_rfl) (by kernel_rfl) (fun _ _ _ h => h) (Or.inl ⟨by rfl, ?_⟩) (by assumption) (fun hNew => ?_)
      rotate_left
      · intro w _
        go_simp
        try with_reducible rfl
      clear hHeld
      have hHeld := hNew
      clear hNew
      try simp only [List.getElem_toArray, List.getElem_cons_succ, List.getElem_cons_zero, Act.put, List.setIfInBounds_toArray, List.set_cons_zero, List.set_cons_succ]
      refine wpAnyL_load 2 (i := 5) (oi := _) (v := ?_) rfl rfl (by kernel_rfl) (by kernel_rfl) (by kernel_rfl) (by kernel_rfl) (by kernel_rfl) (by kernel_rfl) (fun _ _ _ h => h) (Or.inl ⟨by rfl, ?_⟩) (by assumption) (fun hNew => ?_)
      rotate_left
      · intro w hSw
        (try dsimp only at hSw)
        go_simp
        try with_reducible rfl
      clear hHeld
      have hHeld := hNew
      clear hNew
      try simp only [List.getElem_toArray, List.getElem_cons_succ, List.getElem_cons_zero, Act.put, List.setIfInBounds_toArray, List.set_cons_zero, List.set_cons_succ]
      refine wpAnyL_take (i := 6) (oi := _) (v := ?_) rfl (by kernel_rfl) (by kernel_rfl) (by kernel_rfl) (by kernel_rfl) (by kernel_rfl) (fun _ _ _ h => h) (Or.inl ⟨by rfl, ?_⟩) (by assumption) (fun hNew => ?_)
      rotate_left
      · intro w _
        go_simp
        try with_reducible rfl
      clear hHeld
      have hHeld := hNew
      clear hNew
      try simp only [List.getElem_toArray, List.getElem_cons_succ, List.getElem_cons_zero, Act.put, List.setIfInBounds_toArray, List.set_cons_zero, List.set_cons_succ]
      refine wpAnyL_load 3 (i := 7) (oi := _) (v := .agg (bvs x.1.2).toArray) rfl rfl (by kernel_rfl) (by kernel_rfl) (by kernel_rfl) (by kernel_rfl) (by kernel_rfl) (by kernel_rfl) (fun _ _ _ h => h) (yieldsIf_load_mid (by rfl) 77 (.tmp 55) (by rfl) (Bx) (0 + 1) (by rfl) (bvs x.1.2) _ (fun w hw => hw) Tryd.underlying77 rfl hzs.out) (by assumption) (fun hNew => ?_)
      clear hHeld
      have hHeld := hNew
      clear hNew
      try simp only [List.getElem_toArray, List.getElem_cons_succ, List.getElem_cons_zero, Act.put, List.setIfInBounds_toArray, List.set_cons_zero, List.set_cons_succ]
      refine wpAnyL_take (i := 8) (oi := _) (v := ?_) rfl (by kernel_rfl) (by kernel_rfl) (by kernel_rfl) (by kernel_rfl) (by kernel_rfl) (fun _ _ _ h => h) (Or.inl ⟨by rfl, ?_⟩) (by assumption) (fun hNew => ?_)
      rotate_left
      · intro w _
        go_simp
        try with_reducible rfl
      clear hHeld
      have hHeld := hNew
      clear hNew
      try simp only [List.getElem_toArray, List.getElem_cons_succ, List.getElem_cons_zero, Act.put, List.setIfInBounds_toArray, List.set_cons_zero, List.set_cons_succ]
      refine wpAnyL_ready (rs := [9]) (by kernel_rfl) (by simp) ?_
      refine AllReadyL.cons (o := _) rfl (fun K hK => ?_) AllReadyL.nil
      try simp only [List.getElem_toArray, List.getElem_cons_succ, List.getElem_cons_zero]
      rw [if_pos (by rfl)]
      refine wp_store_mid 77 (.tmp 57) (.tmp 56) (by rfl) (w.heap.size + 1) (x.1.1 * 64) (bvs x.1.2).toArray (by rfl) (by rfl) th.out hzt.out hone.out ?_
      clear hHeld
      refine hK.out _ _ ?_ (fun hHeld => ?_)
      · exact (HoldC.past (by kernel_rfl) (HoldC.past (by kernel_rfl) (HoldC.past (by kernel_rfl) (HoldC.past (by kernel_rfl) HoldC.nil))))
      clear hK K
      try simp only [List.getElem_toArray, List.getElem_cons_succ, List.getElem_cons_zero, Act.put, List.setIfInBounds_toArray, List.set_cons_zero, List.set_cons_succ]
      refine wpAnyL_done (by kernel_rfl) ?_ _
      clear hHeld
      rw [← HW2.out]
      have d1 := blk_cell HL.out.ci 0 _ rfl
      have d2 := blk_frozen HL.out.ci 0
      have d3 := blk_lt HL.out.ci
      gi_wp2
      exact HFIN.out _ HL.out HW2J.out (by rw [HW2S.out]; exact Nat.le_refl _)
    · have hz : ¬ (ch.length : Int) ≤ (k : Int) := by omega
      have hz2 : (k : Int) < (ch.length : Int) := by omega
      have hz3 : (k : Int).toNat = k := by omega
      have hz4 : (0 : Int) ≤ (k : Int) := by omega
      obtain ⟨a', cap', hs', h1', h2', h3'⟩ := HCV.out
      rcases h3' with ⟨rfl, _⟩ | ⟨g, o, rfl, hcell⟩
      · simp at hkl
      · obtain ⟨rfl, rfl⟩ : ca = some ⟨g, o, none⟩ ∧ cc = cap' := by simpa using hs'
        obtain ⟨b, hb⟩ : ∃ b, b = ch.getD k 0 := ⟨_, rfl⟩
        have cbk : W.cell? ⟨g, o + k, none⟩ = some (.int .u8 (b.toNat : Int)) := by
          have := hC.chg.cell (hcell k (by omega)) (by simp)
          rw [← hb] at this
          exact this
        have hqb := u8_bit b
        have HB := Lib.hid hb
        clear hcell hs' h1' h2' hb
        by_cases hbit : b &&& 1 = 1
        · rw [hbit] at hqb
          have hqb : bits .and .u8 (b.toNat : Int) 1 = 1 := hqb
          have HL := Lib.hid (HLEFT.out (by unfold leftAt; rw [← HB.out, decide_eq_true hbit, Bool.or_true]))
          clear hC hbit
          gi_wp2_with fail
          refine wpIn_region_L (wide_r l) (by rintro ⟨_, _, h⟩; exact h) (by kernel_rfl) [(9, fun w' => w'.cell? ⟨w.heap.size + 3, 0, none⟩ = some (.pointer (some ⟨w.heap.size + 2, 0, none⟩))), (9, fun w' => w'.cell? ⟨w.heap.size + 2, 1, none⟩ = some (.slice (some ⟨w.heap.size + 1, 0, none⟩) n n)), (9, fun w' => w'.cell? ⟨Bx, 0, none⟩ = some (.int .i64 (x.1.1 : Int))), (9, fun w' => w'.rangeAt Bx (0 + 1) (bvs x.1.2))] (by kernel_rfl) ?_ (fun hHeld => ?_)
          · exact (HoldC.cons (cp) (HoldC.cons (c1) (HoldC.cons (cx) (HoldC.cons (HXR.out) HoldC.nil))))
          refine wpAnyL_load 0 (i := 0) (oi := _) (v := ?_) rfl rfl (by kernel_rfl) (by kernel_rfl) (by kernel_rfl) (by kernel_rfl) (by kernel_rfl) (by kernel_rfl) (fun _ _ _ h => h) (Or.inl ⟨by rfl, ?_⟩) (by assumption) (fun hNew => ?_)
          rotate_left
          · intro w hSw
            (try dsimp only at hSw)
            go_simp
            try with_reducible rfl
          clear hHeld
          have hHeld := hNew
          clear hNew
          try simp only [List.getElem_toArray, List.getElem_cons_succ, List.getElem_cons_zero, Act.put, List.setIfInBounds_toArray, List.set_cons_zero, List.set_cons_succ]
          refine wpAnyL_take (i := 1) (oi := _) (v := ?_) rfl (by kernel_rfl) (by kernel_rfl) (by kernel_rfl) (by kernel_rfl) (by kernel_rfl) (fun _ _ _ h => h) (Or.inl ⟨by rfl, ?_⟩) (by assumption) (fun hNew => ?_)
          rotate_left
          · intro w _
            go_simp
            try with_reducible rfl
          clear hHeld
          have hHeld := hNew
          clear hNew
          try simp only [List.getElem_toArray, List.getElem_cons_succ, List.getElem_cons_zero, Act.put, List.setIfInBounds_toArray, List.set_cons_zero, List.set_cons_succ]
          refine wpAnyL_take (i := 2) (oi := _) (v := ?_) rfl (by kernel_rfl) (by kernel_rfl) (by kernel_rfl) (by kernel_rfl) (by kernel_rfl) (fun _ _ _ h => h) (Or.inl ⟨by rfl, ?_⟩) (by assumption) (fun hNew => ?_)
          rotate_left
          · intro w _
            go_simp
            try with_reducible rfl
          clear hHeld
          have hHeld := hNew
          clear hNew
          try simp only [List.getElem_toArray, List.getElem_cons_succ, List.getElem_cons_zero, Act.put, List.setIfInBounds_toArray, List.set_cons_zero, List.set_cons_succ]
          refine wpAnyL_load 1 (i := 3) (oi := _) (v := ?_) rfl rfl (by kernel_rfl) (by kernel_rfl) (by kernel_rfl) (by kernel_rfl) (by kernel_rfl) (by kernel_rfl) (fun _ _ _ h => h) (Or.inl ⟨by rfl, ?_⟩) (by assumption) (fun hNew => ?_)
          rotate_left
          · intro w hSw
            (try dsimp only at hSw)
            go_simp
            try with_reducible rfl
          clear hHeld
          have hHeld := hNew
          clear hNew
          try simp only [List.getElem_toArray, List.getElem_cons_succ, List.getElem_cons_zero, Act.put, List.setIfInBounds_toArray, List.set_cons_zero, List.set_cons_succ]
          refine wpAnyL_take (i := 4) (oi := _) (v := ?_) rfl (by kernel_rfl) (by kernel_rfl) (by kernel_rfl) (by kernel_rfl) (by kernel_rfl) (fun _ _ _ h => h) (Or.inl ⟨by rfl, ?_⟩) (by assumption) (fun hNew => ?_)
          rotate_left
          · intro w _
            go_simp
            try with_reducible rfl
          clear hHeld
          have hHeld := hNew
          clear hNew
          try simp only [List.getElem_toArray, List.getElem_cons_succ, List.getElem_cons_zero, Act.put, List.setIfInBounds_toArray, List.set_cons_zero, List.set_cons_succ]
          refine wpAnyL_load 2 (i := 5) (oi := _) (v := ?_) rfl rfl (by kernel_rfl) (by kernel_rfl) (by kernel_rfl) (by kernel_rfl) (by kernel_rfl) (by kernel_rfl) (fun _ _ _ h => h) (Or.inl ⟨by rfl, ?_⟩) (by assumption) (fun hNew => ?_)
          rotate_left
          · intro w hSw
            (try dsimp only at hSw)
            go_simp
            try with_reducible rfl
          clear hHeld
          have hHeld := hNew
          clear hNew
          try simp only [List.getElem_toArray, List.getElem_cons_succ, List.getElem_cons_zero, Act.put, List.setIfInBounds_toArray, List.set_cons_zero, List.set_cons_succ]
          refine wpAnyL_take (i := 6) (oi := _) (v := ?_) rfl (by kernel_rfl) (by kernel_rfl) (by kernel_rfl) (by kernel_rfl) (by kernel_rfl) (fun _ _ _ h => h) (Or.inl ⟨by rfl, ?_⟩) (by assumption) (fun hNew => ?_)
          rotate_left
          · intro w _
            go_simp
            try with_reducible rfl
          clear hHeld
          have hHeld := hNew
          clear hNew
          try simp only [List.getElem_toArray, List.getElem_cons_succ, List.getElem_cons_zero, Act.put, List.setIfInBounds_toArray, List.set_cons_zero, List.set_cons_succ]
          refine wpAnyL_load 3 (i := 7) (oi := _) (v := .agg (bvs x.1.2).toArray) rfl rfl (by kernel_rfl) (by kernel_rfl) (by kernel_rfl) (by kernel_rfl) (by kernel_rfl) (by kernel_rfl) (fun _ _ _ h => h) (yieldsIf_load_mid (by rfl) 77 (.tmp 55) (by rfl) (Bx) (0 + 1) (by rfl) (bvs x.1.2) _ (fun w hw => hw) Tryd.underlying77 rfl hzs.out) (by assumption) (fun hNew => ?_)
          clear hHeld
          have hHeld := hNew
          clear hNew
          try simp only [List.getElem_toArray, List.getElem_cons_succ, List.getElem_cons_zero, Act.put, List.setIfInBounds_toArray, List.set_cons_zero, List.set_cons_succ]
          refine wpAnyL_take (i := 8) (oi := _) (v := ?_) rfl (by kernel_rfl) (by kernel_rfl) (by kernel_rfl) (by kernel_rfl) (by kernel_rfl) (fun _ _ _ h => h) (Or.inl ⟨by rfl, ?_⟩) (by assumption) (fun hNew => ?_)
          rotate_left
          · intro w _
            go_simp
            try with_reducible rfl
          clear hHeld
          have hHeld := hNew
          clear hNew
          try simp only [List.getElem_toArray, List.getElem_cons_succ, List.getElem_cons_zero, Act.put, List.setIfInBounds_toArray, List.set_cons_zero, List.set_cons_succ]
          refine wpAnyL_ready (rs := [9]) (by kernel_rfl) (by simp) ?_
          refine AllReadyL.cons (o := _) rfl (fun K hK => ?_) AllReadyL.nil
          try simp only [List.getElem_toArray, List.getElem_cons_succ, List.getElem_cons_zero]
          rw [if_pos (by rfl)]
          refine wp_store_mid 77 (.tmp 57) (.tmp 56) (by rfl) (w.heap.size + 1) (x.1.1 * 64) (bvs x.1.2).toArray (by rfl) (by rfl) th.out hzt.out hone.out ?_
          clear hHeld
          refine hK.out _ _ ?_ (fun hHeld => ?_)
          · exact (HoldC.past (by kernel_rfl) (HoldC.past (by kernel_rfl) (HoldC.past (by kernel_rfl) (HoldC.past (by kernel_rfl) HoldC.nil))))
          clear hK K
          try simp only [List.getElem_toArray, List.getElem_cons_succ, List.getElem_cons_zero, Act.put, List.setIfInBounds_toArray, List.set_cons_zero, List.set_cons_succ]
          refine wpAnyL_done (by kernel_rfl) ?_ _
          clear hHeld
          rw [← HW2.out]
          have d1 := blk_cell HL.out.ci 0 _ rfl
          have d2 := blk_frozen HL.out.ci 0
          have d3 := blk_lt HL.out.ci
          gi_wp2
          exact HFIN.out _ HL.out HW2J.out (by rw [HW2S.out]; exact Nat.le_refl _)
        · have hq0 : (b &&& 1).toNat = 0 := by
            have h1 := u8_and_lt b
            rcases h1 with h1 | h1
            · rw [h1]; rfl
            · exact absurd h1 hbit
          rw [hq0] at hqb
          have hqb : bits .and .u8 (b.toNat : Int) 1 = 0 := hqb
          have HL : Hid (applied (chosen ch (wcs (pre ++ [x])) 0) d.lasts = applied (chosen ch (wcs pre) 0) d.lasts) := Lib.hid (by
            rw [HSN.out false (by unfold leftAt; rw [← HB.out, decide_eq_false hbit, decide_eq_false (by omega)]; rfl), if_neg (by simp)])
          have d2 := blk_frozen hC.ci 0
          have d3 := blk_lt hC.ci
          clear hC hbit hq0
          gi_wp2
          exact HFIN.out _ (by rw [HL.out]; exact HCC.out) (fun _ _ => rfl) (Nat.le_refl _)
  case done =>
    rintro D ys W hDs rfl ⟨hC, hszW⟩ hK
    rw [HXS.out] at hC
    obtain ⟨f, hf⟩ : ∃ f, f = applied (chosen ch d.since 0) d.lasts := ⟨_, rfl⟩
    rw [← hf] at hC
    have HFF := Lib.hid hf
    have cp : W.cell? ⟨w.heap.size + 3, 0, none⟩ = some (.pointer (some ⟨w.heap.size + 2, 0, none⟩)) := blk_cell hC.cc 0 _ rfl
    have c1 : W.cell? ⟨w.heap.size + 2, 1, none⟩ = some (.slice (some ⟨w.heap.size + 1, 0, none⟩) n n) := blk_cell hC.obj 1 _ rfl
    have HCC := Lib.hid hC
    have HKK := Lib.hid hK
    obtain ⟨i, z, hi, hz, hz1, hz2, hz3⟩ := info_three facts_sec
    have HI := Lib.hid hi
    have HZ := Lib.hid hz
    have HZ1 := Lib.hid hz1
    have HZ2 := Lib.hid hz2
    have HZ3 := Lib.hid hz3
    have HHH := HH
    clear hi hz hz1 hz2 hz3 hf hC hK
    gi_wp2_with fail
    refine wpIn_region_LN (wide_w) (by kernel_rfl) [(8, fun w' => w'.cell? ⟨w.heap.size + 3, 0, none⟩ = some (.pointer (some ⟨w.heap.size + 2, 0, none⟩))), (8, fun w' => w'.cell? ⟨w.heap.size + 2, 1, none⟩ = some (.slice (some ⟨w.heap.size + 1, 0, none⟩) n n))] (by kernel_rfl) ?_ (fun hHeld => ?_)
    · exact (HoldC.cons (cp) (HoldC.cons (c1) HoldC.nil))
    refine wpAnyL_load 0 (i := 0) (oi := _) (v := ?_) rfl rfl (by kernel_rfl) (by kernel_rfl) (by kernel_rfl) (by kernel_rfl) (by kernel_rfl) (by kernel_rfl) (fun _ _ _ h => h) (Or.inl ⟨by rfl, ?_⟩) (by assumption) (fun hNew => ?_)
    rotate_left
    · intro w hSw
      (try dsimp only at hSw)
      go_simp
      try with_reducible rfl
    clear hHeld
    have hHeld := hNew
    clear hNew
    try simp only [List.getElem_toArray, List.getElem_cons_succ, List.getElem_cons_zero, Act.put, List.setIfInBounds_toArray, List.set_cons_zero, List.set_cons_succ]
    refine wpAnyL_load 0 (i := 1) (oi := _) (v := ?_) rfl rfl (by kernel_rfl) (by kernel_rfl) (by kernel_rfl) (by kernel_rfl) (by kernel_rfl) (by kernel_rfl) (fun _ _ _ h => h) (Or.inl ⟨by rfl, ?_⟩) (by assumption) (fun hNew => ?_)
    rotate_left
    · intro w hSw
      (try dsimp only at hSw)
      go_simp
      try with_reducible rfl
    clear hHeld
    have hHeld := hNew
    clear hNew
    try simp only [List.getElem_toArray, List.getElem_cons_succ, List.getElem_cons_zero, Act.put, List.setIfInBounds_toArray, List.set_cons_zero, List.set_cons_succ]
    refine wpAnyL_take (i := 2) (oi := _) (v := ?_) rfl (by kernel_rfl) (by kernel_rfl) (by kernel_rfl) (by kernel_rfl) (by kernel_rfl) (fun _ _ _ h => h) (Or.inl ⟨by rfl, ?_⟩) (by assumption) (fun hNew => ?_)
    rotate_left
    · intro w _
      go_simp
      try with_reducible rfl
    clear hHeld
    have hHeld := hNew
    clear hNew
    try simp only [List.getElem_toArray, List.getElem_cons_succ, List.getElem_cons_zero, Act.put, List.setIfInBounds_toArray, List.set_cons_zero, List.set_cons_succ]
    refine wpAnyL_take (i := 3) (oi := _) (v := ?_) rfl (by kernel_rfl) (by kernel_rfl) (by kernel_rfl) (by kernel_rfl) (by kernel_rfl) (fun _ _ _ h => h) (Or.inl ⟨by rfl, ?_⟩) (by assumption) (fun hNew => ?_)
    rotate_left
    · intro w _
      go_simp
      try with_reducible rfl
    clear hHeld
    have hHeld := hNew
    clear hNew
    try simp only [List.getElem_toArray, List.getElem_cons_succ, List.getElem_cons_zero, Act.put, List.setIfInBounds_toArray, List.set_cons_zero, List.set_cons_succ]
    refine wpAnyL_load 1 (i := 4) (oi := _) (v := ?_) rfl rfl (by kernel_rfl) (by kernel_rfl) (by kernel_rfl) (by kernel_rfl) (by kernel_rfl) (by kernel_rfl) (fun _ _ _ h => h) (Or.inl ⟨by rfl, ?_⟩) (by assumption) (fun hNew => ?_)
    rotate_left
    · intro w hSw
      (try dsimp only at hSw)
      go_simp
      try with_reducible rfl
    clear hHeld
    have hHeld := hNew
    clear hNew
    try simp only [List.getElem_toArray, List.getElem_cons_succ, List.getElem_cons_zero, Act.put, List.setIfInBounds_toArray, List.set_cons_zero, List.set_cons_succ]
    refine wpAnyL_ready (rs := [5]) (by kernel_rfl) (by simp) ?_
    refine AllReadyL.cons (o := _) rfl (fun K hK => ?_) AllReadyL.nil
    try simp only [List.getElem_toArray, List.getElem_cons_succ, List.getElem_cons_zero]
    rw [if_pos (by rfl)]
    refine wp_append_lies _ (.const (.slice none 0 0)) (.tmp 64) 71 (by rfl) 0 77 i z 64 64 Tryd.underlying71 HI.out HZ.out HZ2.out HZ3.out HZ1.out (by omega) (.slice none 0 0) 0 [] (by rfl) (World.ownsRow_nil _ _ _ _) ⟨w.heap.size + 1, 0, none⟩ n n (bvs (flat n f)) (by rfl) (by rw [bvs_len, HCC.out.secs.whole.1])
      (fun j u hj => by rw [add_none]; exact HCC.out.secs.whole.2 j u hj) (bvs_one _) (by omega) (by unfold maxLen; omega) (by omega) (Nat.zero_le _) _ rfl ?_
    intro g cap w2 hrow hg hat hlt
    have hgr : Chg [] W.drew w2 := (Chg.refl _ _).grown hg (fun k hk => by simp [Value.ownBlock] at hk)
    have hc2 : Chg [] W w2 := (by exact (Chg.refl [] W).drew : Chg [] W W.drew).trans hgr (by simp)
    have cp2 := hc2.cell cp (by simp)
    have c12 := hc2.cell c1 (by simp)
    have hob := hc2.keep HCC.out.obj (by simp)
    have o0 := blk_cell hob 0 _ rfl
    have o1 := blk_frozen hob 0
    have o2 := blk_lt hob
    have hgW : g = W.heap.size := by
      rcases hat with h | h
      · simp [Value.ownBlock] at h
      · exact h
    have hKD : w2.heap[D]? = some (.deferred (some [])) := hc2.keep HKK.out (by simp)
    have hrow' : w2.ownsRow 0 77 64 (.slice (some ⟨g, 0, none⟩) n cap) n (bvs (flat n f)) := by
      have h := hrow
      rw [Nat.zero_add, List.nil_append] at h
      exact h
    obtain ⟨g', cap', he, hcap1, hcap2, hsecs⟩ := secs_of_row hrow' hn0 HCC.out.secs.len
    obtain ⟨rfl, rfl⟩ : g = g' ∧ cap = cap' := by simpa using he
    have hDpc : D ≠ w.heap.size + 2 := fun e => by
      rw [e, hob] at hKD; cases hKD
    have hfin : Newly w ((w2.setCell ⟨w.heap.size + 2, 0, none⟩ (.slice (some ⟨g, 0, none⟩) n cap)).putObj D (.deferred none)) (w.heap.size + 2) [w.heap.size + 2, g, w.heap.size + 1] (d.crash ch) := by
      have hne := HCC.out.ne
      have hlo := HCC.out.lo
      have hWs := hszW
      have hgl := HCC.out.secs.lt
      have hf0 : (d.crash ch).now = f := HFF.out.symm
      have hf1 : (d.crash ch).lasts = f := HFF.out.symm
      obtain ⟨w8, hw8⟩ : ∃ w8, w8 = w2.setCell ⟨w.heap.size + 2, 0, none⟩ (.slice (some ⟨g, 0, none⟩) n cap) := ⟨_, rfl⟩
      have h8 : ∀ j, j ≠ w.heap.size + 2 → w8.heap[j]? = w2.heap[j]? := fun j hj => by rw [hw8]; exact Below.heap_setCell w2 ⟨w.heap.size + 2, 0, none⟩ _ j hj
      have h8p : w8.heap[w.heap.size + 2]? = some (.cells #[.slice (some ⟨g, 0, none⟩) n cap, .slice (some ⟨w.heap.size + 1, 0, none⟩) n n, .slice none 0 0, .int .i64 (-1), .int .i64 0, .bool false] 74 (0, 0)) := by rw [hw8]; exact set_blk hob
      have h8s : w8.heap.size = w2.heap.size := by rw [hw8]; simp [World.setCell]
      have hc8 : Chg [] w w8 := by rw [hw8]; exact (HCC.out.chg.trans hc2 (by simp)).setCell (.inr (by show w.heap.size ≤ w.heap.size + 2; omega)) _
      rw [← hw8]
      obtain ⟨w9, hw9⟩ : ∃ w9, w9 = w8.putObj D (.deferred none) := ⟨_, rfl⟩
      have h9 : ∀ j, j ≠ D → w9.heap[j]? = w8.heap[j]? := fun j hj => by rw [hw9]; exact World.putObj_heap_other hj
      have h9s : w8.heap.size ≤ w9.heap.size := by rw [hw9]; simp [World.putObj]
      have hDg : D ≠ g := fun e => by
        obtain ⟨cs, h1, _⟩ := hsecs
        rw [e, h1] at hKD; cases hKD
      have hDl : D ≠ w.heap.size + 1 := fun e => by
        obtain ⟨cs, h1, _⟩ := HCC.out.secs
        rw [e, hc2.keep h1 (by simp)] at hKD; cases hKD
      have hgl2 : SecsAt w2 (w.heap.size + 1) n f := HCC.out.secs.keep (hc2.block _ hgl (by simp))
      have hc9 : Chg [] w w9 := by
        rw [hw9]
        exact chg_turn hc8 (grownBy_putObj' _ D (.deferred none)) (fun r e => by cases e; omega)
      have hgp : g ≠ w.heap.size + 2 := by omega
      rw [← hw9]
      refine ⟨⟨g, w.heap.size + 1, cap, n, .slice none 0 0, ⟨?_, ?_, ?_, World.ownsRow_nil _ _ _ _, by simp [DS.crash], ?_, ?_, ?_, ⟨by simp [DS.crash], by simp [DS.crash]⟩, by omega, by simp [Value.ownBlock], ⟨by simp, by simp, by simp, by simp [Value.ownBlock]⟩, ?_⟩⟩, ?_, hc9⟩
      · rw [h9 _ (fun e => hDpc e.symm), h8p]
        show _ = some (Obj.cells #[.slice (some ⟨g, 0, none⟩) d.n cap, .slice (some ⟨w.heap.size + 1, 0, none⟩) d.n n, .slice none 0 0, .int .i64 (-1), .int .i64 ((0 : Nat) : Int), .bool false] 74 (0, 0))
        rw [← HN.out]
        rfl
      · rw [hf0, show (d.crash ch).n = n from HN.out.symm]
        exact hsecs.keep ((h9 _ (fun e => hDg e.symm)).trans (h8 _ hgp))
      · rw [hf1, show (d.crash ch).n = n from HN.out.symm]
        exact hgl2.keep ((h9 _ (fun e => hDl e.symm)).trans (h8 _ (by omega)))
      · show d.n ≤ 4160
        rw [← HN.out]; exact hfew
      · show d.n ≤ cap ∧ cap ≤ maxLen
        rw [← HN.out]; exact ⟨hcap1, hcap2⟩
      · show d.n ≤ n ∧ n ≤ maxLen
        rw [← HN.out]; exact ⟨Nat.le_refl _, by omega⟩
      · intro x hx
        have hg2 := hlt
        have hs2 := hc2.size
        simp at hx
        rcases hx with rfl | rfl | rfl <;> omega
      · intro x hx
        simp at hx
        rcases hx with rfl | rfl | rfl <;> omega
    have hKD2 : (w2.setCell ⟨w.heap.size + 2, 0, none⟩ (.slice (some ⟨g, 0, none⟩) n cap)).heap[D]? = some (.deferred (some [])) := (Below.heap_setCell w2 ⟨w.heap.size + 2, 0, none⟩ _ D hDpc).trans hKD
    have cp3 : (w2.setCell ⟨w.heap.size + 2, 0, none⟩ (.slice (some ⟨g, 0, none⟩) n cap)).cell? ⟨w.heap.size + 3, 0, none⟩ = some (.pointer (some ⟨w.heap.size + 2, 0, none⟩)) := by
      have h1 := hc2.keep HCC.out.cc (by simp)
      exact blk_cell (blk_sets h1 (by omega)) 0 _ rfl
    have HFIN := Lib.hid hfin
    have HKD2 := Lib.hid hKD2
    clear hgr hc2 hob hgW hKD hrow' he hsecs hDpc hfin hKD2 hrow hg hat
    clear hHeld
    refine hK.out _ _ ?_ (fun hHeld => ?_)
    · exact (HoldC.cons (cp2) (HoldC.cons (c12) HoldC.nil))
    clear hK K
    try simp only [List.getElem_toArray, List.getElem_cons_succ, List.getElem_cons_zero, Act.put, List.setIfInBounds_toArray, List.set_cons_zero, List.set_cons_succ]
    refine wpAnyL_take (i := 6) (oi := _) (v := ?_) rfl (by kernel_rfl) (by kernel_rfl) (by kernel_rfl) (by kernel_rfl) (by kernel_rfl) (fun _ _ _ h => h) (Or.inl ⟨by rfl, ?_⟩) (by assumption) (fun hNew => ?_)
    rotate_left
    · intro w _
      go_simp
      try with_reducible rfl
    clear hHeld
    have hHeld := hNew
    clear hNew
    try simp only [List.getElem_toArray, List.getElem_cons_succ, List.getElem_cons_zero, Act.put, List.setIfInBounds_toArray, List.set_cons_zero, List.set_cons_succ]
    refine wpAnyL_take (i := 7) (oi := _) (v := ?_) rfl (by kernel_rfl) (by kernel_rfl) (by kernel_rfl) (by kernel_rfl) (by kernel_rfl) (fun _ _ _ h => h) (Or.inl ⟨by rfl, ?_⟩) (by assumption) (fun hNew => ?_)
    rotate_left
    · intro w _
      go_simp
      try with_reducible rfl
    clear hHeld
    have hHeld := hNew
    clear hNew
    try simp only [List.getElem_toArray, List.getElem_cons_succ, List.getElem_cons_zero, Act.put, List.setIfInBounds_toArray, List.set_cons_zero, List.set_cons_succ]
    refine wpAnyL_ready (rs := [8]) (by kernel_rfl) (by simp) ?_
    refine AllReadyL.cons (o := _) rfl (fun K hK => ?_) AllReadyL.nil
    try simp only [List.getElem_toArray, List.getElem_cons_succ, List.getElem_cons_zero]
    go_simp
    clear hHeld
    refine hK.out _ _ ?_ (fun hHeld => ?_)
    · exact (HoldC.past (by kernel_rfl) (HoldC.past (by kernel_rfl) HoldC.nil))
    clear hK K
    try simp only [List.getElem_toArray, List.getElem_cons_succ, List.getElem_cons_zero, Act.put, List.setIfInBounds_toArray, List.set_cons_zero, List.set_cons_succ]
    refine wpAnyL_done (by kernel_rfl) ?_ _
    clear hHeld
    simp only [Qn]
    gi_wp2
    refine ⟨by simp, .inl ⟨_, _, rfl, run_takeDeferred HKD2.out, ?_⟩⟩
    exact ⟨_, results_tmp rfl _ _ _, w.heap.size + 2, _, rfl, HFIN.out⟩
end Go.Proofs.YtipfgghdoicdhaaDoor.W

/- SlotDies: what stands between the rounds. -/
namespace Go.Proofs.YtipfgghdoicdhaaDoor.W
open Go.RowKit
set_option linter.unusedVariables false
set_option linter.unusedSimpArgs false

/-- The law's two rows beside the slots: used (ub), and bytes that came in (vals, vb). -/
structure MemAt (w wr : World) (q p gw gu : Nat) (U : List Nat) (s : SS) (ub : Nat → Bool) (vb : Nat → List UInt8) (vals : Nat → Value) : Prop where
  since : Since w wr q p U s
  cw : wr.heap[gw]? = some (.cells (five vals) 31 (0, 0))
  cu : wr.heap[gu]? = some (.cells (five (bo ub)) 4 (0, 0))
  out : gw ∉ U ∧ gu ∉ U ∧ gw ≠ gu ∧ w.heap.size ≤ gw ∧ w.heap.size ≤ gu
  came : ∀ j, j < 5 → Came w (vals j) (vb j)
theorem MemAt.keep {w wr w' : World} {q p gw gu : Nat} {U : List Nat} {s : SS} {ub : Nat → Bool} {vb : Nat → List UInt8} {vals : Nat → Value} (h : MemAt w wr q p gw gu U s ub vb vals) (hc : Chg [] wr w') : MemAt w w' q p gw gu U s ub vb vals :=
  ⟨h.since.keep hc, hc.keep h.cw (by simp), hc.keep h.cu (by simp), h.out, h.came⟩
theorem MemAt.sid {w wr w' : World} {q p gw gu : Nat} {U : List Nat} {s s' : SS} {ub : Nat → Bool} {vb : Nat → List UInt8} {vals : Nat → Value} (h : MemAt w wr q p gw gu U s ub vb vals) (hs : Sid wr w' q p U s') : ∃ U', MemAt w w' q p gw gu U' s' ub vb vals := by
  obtain ⟨U', h1, h2, h3⟩ := hs
  have l1 := blk_lt h.cw
  have l2 := blk_lt h.cu
  refine ⟨U', ⟨h1, fun x hx => ?_, h.since.2.2.trans h3 (fun x hx => .inr (h.since.2.1 x hx))⟩, h3.keep h.cw h.out.1, h3.keep h.cu h.out.2.1, ⟨fun hm => ?_, fun hm => ?_, h.out.2.2⟩, h.came⟩
  · rcases h2 x hx with h4 | h4
    · exact h.since.2.1 x h4
    · exact Nat.le_trans h.since.2.2.size h4
  · rcases h2 _ hm with h4 | h4
    · exact h.out.1 h4
    · omega
  · rcases h2 _ hm with h4 | h4
    · exact h.out.2.1 h4
    · omega
theorem MemAt.setU {w wr : World} {q p gw gu : Nat} {U : List Nat} {s : SS} {ub : Nat → Bool} {vb : Nat → List UInt8} {vals : Nat → Value} (h : MemAt w wr q p gw gu U s ub vb vals) (k : Nat) (hk : k < 5) (x : Bool) : MemAt w (wr.setCell ⟨gu, k, none⟩ (.bool x)) q p gw gu U s (set5 ub k x) vb vals := by
  have hc : Chg [gu] wr (wr.setCell ⟨gu, k, none⟩ (.bool x)) := (Chg.refl _ wr).setCell (p := ⟨gu, k, none⟩) (.inl (by simp)) _
  refine ⟨⟨h.since.1.keepT hc (fun x hx hm => ?_) (fun x hx v l hb hl => ?_), h.since.2.1, h.since.2.2.trans hc (fun x hx => .inr (by rw [List.mem_singleton.1 hx]; exact h.out.2.2.2.2))⟩, hc.keep h.cw (by simp; exact h.out.2.2.1), ?_, h.out, h.came⟩
  · rw [List.mem_singleton.1 hm] at hx; exact h.out.2.1 hx
  · rw [List.mem_singleton.1 hx]
    exact not_bytes h.cu (five_all _ (fun j _ z => by unfold bo; simp)) v l hb hl
  · rw [← bo_set, ← five_set _ _ _ hk]
    exact set_blk h.cu
theorem MemAt.setW {w wr : World} {q p gw gu : Nat} {U : List Nat} {s : SS} {ub : Nat → Bool} {vb : Nat → List UInt8} {vals : Nat → Value} (h : MemAt w wr q p gw gu U s ub vb vals) (k : Nat) (hk : k < 5) (x : Value) (l : List UInt8) (hx : Came w x l) : MemAt w (wr.setCell ⟨gw, k, none⟩ x) q p gw gu U s ub (set5 vb k l) (set5 vals k x) := by
  have hc : Chg [gw] wr (wr.setCell ⟨gw, k, none⟩ x) := (Chg.refl _ wr).setCell (p := ⟨gw, k, none⟩) (.inl (by simp)) _
  refine ⟨⟨h.since.1.keepT hc (fun x hx hm => ?_) (fun x hx v l hb hl => ?_), h.since.2.1, h.since.2.2.trans hc (fun x hx => .inr (by rw [List.mem_singleton.1 hx]; exact h.out.2.2.2.1))⟩, ?_, hc.keep h.cu (by simp; exact fun e => h.out.2.2.1 e.symm), h.out, fun j hj => ?_⟩
  · rw [List.mem_singleton.1 hm] at hx; exact h.out.1 hx
  · rw [List.mem_singleton.1 hx]
    exact not_bytes h.cw (five_all _ (fun j hj z => by
      obtain ⟨a, c, he⟩ := (h.came j hj).1.slice
      rw [he]; simp)) v l hb hl
  · rw [← five_set _ _ _ hk]
    exact set_blk h.cw
  · unfold set5
    by_cases hjk : j = k
    · rw [if_pos hjk, if_pos hjk]; exact hx
    · rw [if_neg hjk, if_neg hjk]; exact h.came j hj

def ShapeR (s : SS) : Prop := s.first = 1 ∧ s.rows.length = 5 ∧ s.d.n = 41
/-- Whatever a crash leaves: all is as told but for slot 'ix', which is free or holds pb. -/
def Ends (s : SS) (u : Nat → Bool) (v : Nat → List UInt8) (ix : Int) (pb : List UInt8) : Prop :=
  ∀ ch, ∃ rows u2 v2, rows.length = 5 ∧ ToldR { s with d := s.d.crash ch, rows := rows } u2 v2 ∧ ∀ i : Nat, i < 5 → ((i : Int) ≠ ix → u2 i = u i ∧ (u i = true → v2 i = v i)) ∧ ((i : Int) = ix → u2 i = true → v2 i = pb)
theorem ends_rest {s : SS} {u : Nat → Bool} {v : Nat → List UInt8} (h : ToldR s u v) (hs : s.rows.length = 5) (pb : List UInt8) : Ends s u v (-1) pb := fun ch =>
  ⟨s.rows, u, v, hs, h.crash ch, fun i hi => ⟨fun _ => ⟨rfl, fun _ => rfl⟩, fun e => by omega⟩⟩
theorem ends_lost {s : SS} {d2 : DS} {u : Nat → Bool} {v : Nat → List UInt8} {k : Nat} {q : Bool} {b : List UInt8} (h : Lost s d2 u v k q b) (hs : s.rows.length = 5) (h1 : u k = true → v k = b) : Ends { s with d := d2 } u v (k : Int) b := fun ch => by
  obtain ⟨rows, hr, ht | ht⟩ := h.2.2 ch
  · exact ⟨rows, u, v, hr.trans hs, ht, fun i hi => ⟨fun _ => ⟨rfl, fun _ => rfl⟩, fun e hu => by
      obtain rfl : i = k := by omega
      exact h1 hu⟩⟩
  · refine ⟨rows, _, _, hr.trans hs, ht, fun i hi => ⟨fun e => ?_, fun e hu => ?_⟩⟩
    · have : ¬ i = k := fun e2 => e (by rw [e2])
      simp [this]
    · obtain rfl : i = k := by omega
      simp
/-- Where a round stands: told, while the disk lives; what a crash will leave, always. -/
structure Way (s : SS) (u : Nat → Bool) (v : Nat → List UInt8) (ix : Int) (pb : List UInt8) (k : Nat) : Prop where
  shape : ShapeR s
  ends : Ends s u v ix pb
  lives : s.d.dead = false → ToldR s u v ∧ s.d.ops ≤ 40 * k ∧ ix = -1
  few : s.d.since.length ≤ 20
theorem put_since (s : SS) (i : Int) (key b : List UInt8) (h0 : s.d.since = []) : (s.put i key b).2.d.since.length ≤ 20 := by
  unfold SS.put
  have hz : s.d.since.length = 0 := by rw [h0]; rfl
  split
  · show s.d.since.length ≤ 20; omega
  · split
    · show s.d.since.length ≤ 20; omega
    · rename_i h1 h2
      have hb : nsec b.length ≤ 7 := by unfold nsec; omega
      have hh : nsec (headBytes b.length key).length ≤ 1 := by rw [headBytes_len _ _ (by omega) (by omega)]; unfold nsec; omega
      have e1 := (s.d.lays_ok (s.pos i + 1) b).2.2
      have e2 := ((s.d.lays (s.pos i + 1) b).2.lays_ok (s.pos i) (headBytes b.length key)).2.2
      split
      · show s.d.since.length ≤ 20; omega
      · split
        · show (s.d.lays (s.pos i + 1) b).2.since.length ≤ _
          omega
        · split <;> (show ((s.d.lays (s.pos i + 1) b).2.lays (s.pos i) (headBytes b.length key)).2.since.length ≤ _) <;> omega
theorem clear_since (s : SS) (i : Int) (h0 : s.d.since = []) : (s.clear i).2.d.since.length ≤ 20 := by
  unfold SS.clear
  have hz : s.d.since.length = 0 := by rw [h0]; rfl
  have e1 := (s.d.lays_ok (s.pos i) (zeros 64)).2.2
  have hz2 : nsec (zeros 64).length = 1 := rfl
  split
  · show s.d.since.length ≤ 20; omega
  · split
    · show s.d.since.length ≤ 20; omega
    · split <;> (show (s.d.lays (s.pos i) (zeros 64)).2.since.length ≤ _) <;> omega
theorem Way.rest {s : SS} {u : Nat → Bool} {v : Nat → List UInt8} {k : Nat} (h : ToldR s u v) (hs : ShapeR s) (pb : List UInt8) (ho : s.d.ops ≤ 40 * k) : Way s u v (-1) pb k := ⟨hs, ends_rest h hs.2.1 pb, fun _ => ⟨h, ho, rfl⟩, by rw [h.rest.none]; decide⟩
theorem way_put {s : SS} {u : Nat → Bool} {v : Nat → List UInt8} (h : ToldR s u v) (hs : ShapeR s) (k : Nat) (hk : k < 5) (key b : List UInt8) (hu : u k = false) (hkey : key.length ≤ 40) (hb : b.length ≤ 448) (m : Nat) (ho : s.d.ops ≤ 40 * m) (pb : List UInt8) :
    ((s.put (k : Int) key b).1 = 0 ∧ Way (s.put (k : Int) key b).2 (set5 u k true) (set5 v k b) (-1) pb (m + 1)) ∨ ((s.put (k : Int) key b).1 = 14 ∧ Way (s.put (k : Int) key b).2 u v (k : Int) b (m + 1)) := by
  obtain ⟨s1, s2, s3⟩ := hs
  have hops := put_ops s (k : Int) key b
  have hsi := put_since s (k : Int) key b h.rest.none
  rcases h.put k (by omega) key b hu hkey hb with ⟨a1, a2, a3, a4, a5⟩ | ⟨a1, a2, a3, a4⟩
  · exact .inl ⟨a1, Way.rest a2 ⟨by rw [a4, s1], by rw [a3, s2], by rw [a5, s3]⟩ pb (by omega)⟩
  · right
    refine ⟨a1, ⟨by rw [a3, s1], by rw [a2, s2], by rw [a4.2.1, s3]⟩, ?_, fun hd => (by rw [a4.1] at hd; cases hd), hsi⟩
    have h1 := ends_lost a4 s2 (fun e => by rw [hu] at e; cases e)
    have h2 : (s.put (k : Int) key b).2 = { s with d := (s.put (k : Int) key b).2.d } := by
      generalize (s.put (k : Int) key b).2 = s' at *
      cases s'; cases s
      simp_all
    rw [h2]
    exact h1
theorem way_clear {s : SS} {u : Nat → Bool} {v : Nat → List UInt8} (h : ToldR s u v) (hs : ShapeR s) (k : Nat) (hk : k < 5) (hu : u k = true) (m : Nat) (ho : s.d.ops ≤ 40 * m) (pb : List UInt8) :
    ((s.clear (k : Int)).1 = 0 ∧ Way (s.clear (k : Int)).2 (set5 u k false) v (-1) pb (m + 1)) ∨ ((s.clear (k : Int)).1 = 14 ∧ Way (s.clear (k : Int)).2 u v (k : Int) (v k) (m + 1)) := by
  obtain ⟨s1, s2, s3⟩ := hs
  have hops := clear_ops s (k : Int)
  have hsi := clear_since s (k : Int) h.rest.none
  rcases h.clear k (by omega) hu with ⟨a1, a2, a3, a4, a5⟩ | ⟨a1, a2, a3, a4⟩
  · exact .inl ⟨a1, Way.rest a2 ⟨by rw [a4, s1], by rw [a3, s2], by rw [a5, s3]⟩ pb (by omega)⟩
  · right
    refine ⟨a1, ⟨by rw [a3, s1], by rw [a2, s2], by rw [a4.2.1, s3]⟩, ?_, fun hd => (by rw [a4.1] at hd; cases hd), hsi⟩
    have h1 := ends_lost a4 s2 (fun e => rfl)
    have h2 : (s.clear (k : Int)).2 = { s with d := (s.clear (k : Int)).2.d } := by
      generalize (s.clear (k : Int)).2 = s' at *
      cases s'; cases s
      simp_all
    rw [h2]
    exact h1
theorem as0_toldR (n : Int) : ToldR { as0 with d := as0.d.setFuse n } (fun _ => false) (fun _ => []) := by
  have h := as0_told
  exact (⟨⟨rfl, rfl, fun _ => rfl⟩, h.room, h.head, h.used, h.data⟩ : ToldR as0 _ _).fuse n
/-- d.Fuse, of the disk under slots. -/
theorem SlotsAt.fuse {w : World} {q p : Nat} {U : List Nat} {s : SS} (h : SlotsAt w q p U s) (n : Int) (hn : n ≤ 9223372036854775807) :
    Calls Tryd.prog 25 #[.pointer (some ⟨p, 0, none⟩), .int .i64 n] w fun e w' => e = .returned (.tuple #[]) ∧ Sid w w' q p U { s with d := s.d.setFuse n } := by
  obtain ⟨S, rv, R, H⟩ := h
  exact (dfuse_any p S s.d n w H.disk hn).mono fun e w' ⟨h1, h2⟩ => ⟨h1, SlotsAt.did H h2 rfl⟩
theorem SlotsAt.dead {w : World} {q p : Nat} {U : List Nat} {s : SS} (h : SlotsAt w q p U s) : Calls Tryd.prog 26 #[.pointer (some ⟨p, 0, none⟩)] w fun e w' => e = .returned (.bool s.d.dead) ∧ w = w' := by
  obtain ⟨S, rv, R, H⟩ := h
  exact ddead_any p S s.d w H.disk
theorem SlotsAt.crash {w : World} {q p : Nat} {U : List Nat} {s : SS} (h : SlotsAt w q p U s) (cv : Value) (ch : List UInt8) (hn0 : 0 < s.d.n) (hw : s.d.since.length ≤ 1000000) (hcv : BytesAt w cv ch) (hcl : ch.length ≤ 1000000) :
    Calls Tryd.prog 27 #[.pointer (some ⟨p, 0, none⟩), cv] w fun e w' => ∃ p' S', e = .returned (.pointer (some ⟨p', 0, none⟩)) ∧ Newly w w' p' S' (s.d.crash ch) := by
  obtain ⟨S, rv, R, H⟩ := h
  exact dcrash_any p S s.d cv ch w H.disk hn0 hw hcv hcl
theorem IsRow.came {w : World} {a : Option Addr} {len cap : Nat} {zs : List Int} (h : IsRow .u8 w a len cap zs) : ∃ l, l.length = len ∧ len ≤ maxLen ∧ Came w (.slice a len cap) l := by
  rcases h with ⟨rfl, rfl, rfl, rfl⟩ | ⟨x, rfl, h1, h2, h3, h4, h5⟩
  · exact ⟨[], rfl, by unfold maxLen; omega, BytesAt.nil w, by simp⟩
  · have hlen : ((zs.take len).map (fun z => UInt8.ofNat z.toNat)).length = len := by rw [List.length_map, List.length_take]; omega
    have hg : ∀ i, i < len → ((zs.take len).map (fun z => UInt8.ofNat z.toNat)).getD i 0 = UInt8.ofNat (zs.getD i 0).toNat := by
      intro i hi
      rw [List.getD_eq_getElem?_getD, List.getElem?_map, List.getElem?_take, if_pos hi, List.getD_eq_getElem?_getD, List.getElem?_eq_getElem (by omega)]
      rfl
    have hw : ∀ i, i < zs.length → (Lit.int .u8 (zs.getD i 0)).wf = true := fun i hi => h5 _ (by
      rw [List.getD_eq_getElem?_getD, List.getElem?_eq_getElem hi]
      exact List.getElem_mem hi)
    refine ⟨_, hlen, by omega, ?_⟩
    by_cases hl0 : len = 0
    · subst hl0
      have hnil : (zs.take 0).map (fun z => UInt8.ofNat z.toNat) = [] := by simp
      rw [hnil]
      by_cases hc0 : cap = 0
      · subst hc0
        exact ⟨⟨some x, 0, rfl, Nat.le_refl _, by unfold maxLen; omega, .inl ⟨rfl, rfl⟩⟩, by simp⟩
      · obtain ⟨g, o, spot⟩ := x
        have hc := h4 0 (by omega)
        have hspot : spot = none := by simpa [Addr.add] using World.cell?_spot hc
        subst hspot
        exact ⟨⟨some ⟨g, o, none⟩, cap, rfl, by simp, h2, .inr ⟨g, o, rfl, by simp⟩⟩, by simp⟩
    · obtain ⟨g, o, spot⟩ := x
      have hc := h4 0 (by omega)
      have hspot : spot = none := by simpa [Addr.add] using World.cell?_spot hc
      subst hspot
      have hlt : g < w.heap.size := by
        have := World.block_lt_of_cell? w _ hc
        simpa [Addr.add] using this
      refine ⟨⟨some ⟨g, o, none⟩, cap, by rw [hlen], by omega, h2, .inr ⟨g, o, rfl, fun i hi => ?_⟩⟩, fun _ k hk => ?_⟩
      · rw [hlen] at hi
        have := h4 i (by omega)
        rw [add_none] at this
        rw [this, hg i hi, ← toU8 _ (hw i (by omega))]
      · obtain rfl : g = k := by simpa [Value.ownBlock] using hk
        exact hlt
end Go.Proofs.YtipfgghdoicdhaaDoor.W

/- SlotTwice: what stands between the rounds. -/
namespace Go.Proofs.YtipfgghdoicdhaaDoor.W
open Go.RowKit
set_option linter.unusedVariables false
set_option linter.unusedSimpArgs false

/-- Three cells. -/
def three (f : Nat → Value) : Array Value := #[f 0, f 1, f 2]
theorem three_at (f : Nat → Value) (k : Nat) (hk : k < 3) : (three f)[k]? = some (f k) := by
  match k, hk with
  | 0, _ => rfl
  | 1, _ => rfl
  | 2, _ => rfl
theorem three_set (f : Nat → Value) (k : Nat) (x : Value) (hk : k < 3) : (three f).setIfInBounds k x = three (set5 f k x) := by
  match k, hk with
  | 0, _ => rfl
  | 1, _ => rfl
  | 2, _ => rfl
theorem three_all {P : Value → Prop} (f : Nat → Value) (h : ∀ j, j < 3 → P (f j)) (j : Nat) (c : Value) (hj : (three f)[j]? = some c) : P c := by
  have hlt : j < 3 := (Array.getElem?_eq_some_iff.1 hj).1
  rw [three_at f j hlt] at hj
  rw [← Option.some.inj hj]
  exact h j hlt
theorem facts_bss : (Tryd.prog.info? 22).map (fun i => (i.zero, i.size, i.bytes)) = some (some (.slice none 0 0), 1, 24) := by kernel_rfl
theorem make_3 (w : World) : (Instr.makeSlice 59 (.int .i64 3) (.int .i64 3)).run Tryd.prog w = .ok (.slice (some ⟨w.heap.size, 0, none⟩) 3 3) (w.alloc (.cells (three fun _ => .slice none 0 0) 22)) := by
  obtain ⟨i, hi, h1, h2, h3⟩ := info_parts facts_bss
  have h := run_make (P := Tryd.prog) w 59 22 i _ Tryd.underlying59 hi h1 .i64 .i64 3 3 (by omega) (Int.le_refl _) (by rw [h3]; omega) (by omega)
  rw [h2] at h
  have hz : madeCells (Value.slice none 0 0).cells ((3 : Int).toNat * 1) = three fun _ => .slice none 0 0 := by kernel_rfl
  rw [hz] at h
  exact h
/-- 'append(may[k], x)', may[k] full: a new row. -/
theorem append_two (w : World) (g b : Nat) (x y : Value) (hx : w.cell? ⟨g, 0, none⟩ = some x) (hy : w.cell? ⟨b, 0, none⟩ = some y) :
    ∃ cap rest, 2 ≤ cap ∧ cap ≤ maxLen ∧ ∀ ty, (Builtin.append_ #[22, 22] ty #[.slice (some ⟨g, 0, none⟩) 1 1, .slice (some ⟨b, 0, none⟩) 1 1]).run Tryd.prog w = .ok (.slice (some ⟨w.heap.size, 0, none⟩) 2 cap) (w.drew.alloc (.cells (#[x, y] ++ rest) 31)) := by
  obtain ⟨i, hi, h1, h2, h3⟩ := info_parts facts_bs
  have h := fun ty => run_append_grow (P := Tryd.prog) (w := w) 22 ty 31 i _ Tryd.underlying22 hi h1 ⟨g, 0, none⟩ 1 1 [x] (by rw [h2]; rfl) (fun j v hj => by
    cases j with
    | zero => simp at hj; subst hj; rw [add_none]; exact hx
    | succ j => simp at hj) ⟨b, 0, none⟩ 1 1 [y] (by rw [h2]; rfl) (fun j v hj => by
    cases j with
    | zero => simp at hj; subst hj; rw [add_none]; exact hy
    | succ j => simp at hj) (by omega) (by decide) (by rw [h3]; decide)
  exact ⟨_, _, grownCap_ge w 2 1 31, grownCap_le_maxLen w 2 1 31 (by unfold maxLen; omega), h⟩

/-- What the law keeps beside the slots: for each slot rows that it may have. -/
structure TwAt (w wr : World) (q p gm : Nat) (U : List Nat) (s : SS) (vals : Nat → Value) (C : Nat → List (Value × List UInt8)) : Prop where
  since : Since w wr q p U s
  cm : wr.heap[gm]? = some (.cells (three vals) 22 (0, 0))
  out : gm ∉ U ∧ w.heap.size ≤ gm
  rows : ∀ k, k < 3 → ∃ g cap, vals k = .slice (some ⟨g, 0, none⟩) (C k).length cap ∧ (C k).length ≤ cap ∧ cap ≤ maxLen ∧ g ∉ U ∧ g < wr.heap.size ∧ g ≠ gm ∧ ((C k).length = 1 → cap = 1) ∧ ∀ i x, (C k)[i]? = some x → wr.cell? ⟨g, i, none⟩ = some x.1
  cand : ∀ k, k < 3 → ∀ x ∈ C k, BytesAt wr x.1 x.2 ∧ (x.2 ≠ [] → ∀ g, x.1.ownBlock = some g → g ∉ U ∧ g < wr.heap.size) ∧ x.2.length ≤ 1000
theorem TwAt.keep {w wr w' : World} {q p gm : Nat} {U : List Nat} {s : SS} {vals : Nat → Value} {C : Nat → List (Value × List UInt8)} (h : TwAt w wr q p gm U s vals C) (hc : Chg [] wr w') : TwAt w w' q p gm U s vals C := by
  refine ⟨h.since.keep hc, hc.keep h.cm (by simp), h.out, fun k hk => ?_, fun k hk x hx => ?_⟩
  · obtain ⟨g, cap, h1, h2, h3, h4, h5, h6, h7, h8⟩ := h.rows k hk
    exact ⟨g, cap, h1, h2, h3, h4, Nat.lt_of_lt_of_le h5 hc.size, h6, h7, fun i x hx => hc.cell (h8 i x hx) (by simp)⟩
  · obtain ⟨h1, h2, h9⟩ := h.cand k hk x hx
    exact ⟨h1.chg hc (by simp), fun hl g hg => ⟨(h2 hl g hg).1, Nat.lt_of_lt_of_le (h2 hl g hg).2 hc.size⟩, h9⟩
theorem TwAt.sid {w wr w' : World} {q p gm : Nat} {U : List Nat} {s s' : SS} {vals : Nat → Value} {C : Nat → List (Value × List UInt8)} (h : TwAt w wr q p gm U s vals C) (hs : Sid wr w' q p U s') : ∃ U', TwAt w w' q p gm U' s' vals C ∧ ∀ x ∈ U', x ∈ U ∨ wr.heap.size ≤ x := by
  obtain ⟨U', h1, h2, h3⟩ := hs
  have l1 := blk_lt h.cm
  have hout : ∀ g, g ∉ U → g < wr.heap.size → g ∉ U' := fun g hg hl hm => by
    rcases h2 g hm with h4 | h4
    · exact hg h4
    · omega
  refine ⟨U', ⟨⟨h1, fun x hx => ?_, h.since.2.2.trans h3 (fun x hx => .inr (h.since.2.1 x hx))⟩, h3.keep h.cm h.out.1, ⟨hout _ h.out.1 l1, h.out.2⟩, fun k hk => ?_, fun k hk x hx => ?_⟩, h2⟩
  · rcases h2 x hx with h4 | h4
    · exact h.since.2.1 x h4
    · exact Nat.le_trans h.since.2.2.size h4
  · obtain ⟨g, cap, e1, e2, e3, e4, e5, e6, e7, e8⟩ := h.rows k hk
    exact ⟨g, cap, e1, e2, e3, hout g e4 e5, Nat.lt_of_lt_of_le e5 h3.size, e6, e7, fun i x hx => h3.cell (e8 i x hx) e4⟩
  · obtain ⟨e1, e2, e9⟩ := h.cand k hk x hx
    exact ⟨e1.chgW h3 (fun hl g hg => (e2 hl g hg).1), fun hl g hg => ⟨hout g (e2 hl g hg).1 (e2 hl g hg).2, Nat.lt_of_lt_of_le (e2 hl g hg).2 h3.size⟩, e9⟩
/-- may[k] is set. -/
theorem TwAt.put {w wr : World} {q p gm : Nat} {U : List Nat} {s : SS} {vals : Nat → Value} {C : Nat → List (Value × List UInt8)} (h : TwAt w wr q p gm U s vals C) (k : Nat) (hk : k < 3) (g n cap : Nat) (L : List (Value × List UInt8))
    (hn : n = L.length) (hcap : n ≤ cap ∧ cap ≤ maxLen) (hg : g ∉ U ∧ g < wr.heap.size ∧ g ≠ gm) (h1 : L.length = 1 → cap = 1) (hcell : ∀ i x, L[i]? = some x → wr.cell? ⟨g, i, none⟩ = some x.1)
    (hL : ∀ x ∈ L, BytesAt wr x.1 x.2 ∧ (x.2 ≠ [] → ∀ g, x.1.ownBlock = some g → g ∉ U ∧ g < wr.heap.size) ∧ x.2.length ≤ 1000) :
    TwAt w (wr.setCell ⟨gm, k, none⟩ (.slice (some ⟨g, 0, none⟩) n cap)) q p gm U s (set5 vals k (.slice (some ⟨g, 0, none⟩) n cap)) (set5 C k L) := by
  subst hn
  have hc : Chg [gm] wr (wr.setCell ⟨gm, k, none⟩ (.slice (some ⟨g, 0, none⟩) L.length cap)) := (Chg.refl _ wr).setCell (p := ⟨gm, k, none⟩) (.inl (by simp)) _
  have hnb : ∀ v l, BytesAt wr v l → l ≠ [] → v.ownBlock ≠ some gm := not_bytes h.cm (three_all _ (fun j hj z => by
    obtain ⟨g, cap, e, _⟩ := h.rows j hj
    rw [e]; simp))
  have hby : ∀ (x : Value × List UInt8), BytesAt wr x.1 x.2 → BytesAt (wr.setCell ⟨gm, k, none⟩ (.slice (some ⟨g, 0, none⟩) L.length cap)) x.1 x.2 := fun x hx => hx.chgW hc (fun hl k2 hk2 hm => by
    rw [List.mem_singleton.1 hm] at hk2
    exact hnb _ _ hx hl hk2)
  refine ⟨⟨h.since.1.keepT hc (fun x hx hm => ?_) (fun x hx v l hb hl => ?_), h.since.2.1, h.since.2.2.trans hc (fun x hx => .inr (by rw [List.mem_singleton.1 hx]; exact h.out.2))⟩, ?_, h.out, fun j hj => ?_, fun j hj x hx => ?_⟩
  · rw [List.mem_singleton.1 hm] at hx; exact h.out.1 hx
  · rw [List.mem_singleton.1 hx]; exact hnb v l hb hl
  · rw [← three_set _ _ _ hk]
    exact set_blk h.cm
  · unfold set5
    by_cases hjk : j = k
    · rw [if_pos hjk, if_pos hjk]
      exact ⟨g, cap, rfl, hcap.1, hcap.2, hg.1, Nat.lt_of_lt_of_le hg.2.1 hc.size, hg.2.2, h1, fun i x hx => hc.cell (hcell i x hx) (by simp; exact hg.2.2)⟩
    · rw [if_neg hjk, if_neg hjk]
      obtain ⟨g2, cap2, e1, e2, e3, e4, e5, e6, e7, e8⟩ := h.rows j hj
      exact ⟨g2, cap2, e1, e2, e3, e4, Nat.lt_of_lt_of_le e5 hc.size, e6, e7, fun i x hx => hc.cell (e8 i x hx) (by simp; exact e6)⟩
  · unfold set5 at hx
    by_cases hjk : j = k
    · rw [if_pos hjk] at hx
      exact ⟨hby x (hL x hx).1, fun hl g hg => ⟨((hL x hx).2.1 hl g hg).1, Nat.lt_of_lt_of_le ((hL x hx).2.1 hl g hg).2 hc.size⟩, (hL x hx).2.2⟩
    · rw [if_neg hjk] at hx
      obtain ⟨e1, e2, e9⟩ := h.cand j hj x hx
      exact ⟨hby x e1, fun hl g hg => ⟨(e2 hl g hg).1, Nat.lt_of_lt_of_le (e2 hl g hg).2 hc.size⟩, e9⟩
theorem pair_at (x y : Value) (rest : Array Value) : (#[x, y] ++ rest)[0]? = some x ∧ (#[x, y] ++ rest)[1]? = some y := by
  constructor
  · rw [Array.getElem?_append_left (by simp)]; rfl
  · rw [Array.getElem?_append_left (by simp)]; rfl
theorem TwAt.one {w wr : World} {q p gm : Nat} {U : List Nat} {s : SS} {vals : Nat → Value} {C : Nat → List (Value × List UInt8)} (h : TwAt w wr q p gm U s vals C) (k : Nat) (hk : k < 3) (v : Value) (l : List UInt8)
    (hx : BytesAt wr v l ∧ (l ≠ [] → ∀ g, v.ownBlock = some g → g ∉ U ∧ g < wr.heap.size) ∧ l.length ≤ 1000) :
    TwAt w ((wr.setCell ⟨gm, k, none⟩ (.slice (some ⟨wr.heap.size, 0, none⟩) 1 1)).alloc (.cells #[v] 31)) q p gm U s (set5 vals k (.slice (some ⟨wr.heap.size, 0, none⟩) 1 1)) (set5 C k [(v, l)]) := by
  have hgl := blk_lt h.cm
  have hc : Chg [] wr (wr.alloc (.cells #[v] 31)) := (Chg.refl _ _).alloc _
  have hn := heap_alloc_new wr (.cells #[v] 31)
  have h1 := (h.keep hc).put k hk wr.heap.size 1 1 [(v, l)] rfl ⟨by omega, by unfold maxLen; omega⟩ ⟨h.since.fresh (Nat.le_refl _), by simp, by omega⟩ (fun _ => rfl) (fun i x hi => by
    cases i with
    | zero => simp at hi; subst hi; exact blk_cell hn 0 _ rfl
    | succ i => simp at hi) (fun x hx2 => by
    obtain rfl := List.mem_singleton.1 hx2
    exact ⟨hx.1.chg hc (by simp), fun hl g hg => ⟨(hx.2.1 hl g hg).1, Nat.lt_of_lt_of_le (hx.2.1 hl g hg).2 hc.size⟩, hx.2.2⟩)
  rw [World.setCell_alloc_past _ _ _ _ hgl] at h1
  exact h1
theorem TwAt.two {w wr : World} {q p gm : Nat} {U : List Nat} {s : SS} {vals : Nat → Value} {C : Nat → List (Value × List UInt8)} (h : TwAt w wr q p gm U s vals C) (k : Nat) (hk : k < 3) (hC : (C k).length = 1) (v : Value) (l : List UInt8)
    (hx : BytesAt wr v l ∧ (l ≠ [] → ∀ g, v.ownBlock = some g → g ∉ U ∧ g < wr.heap.size) ∧ l.length ≤ 1000) :
    ∃ g cap wB, vals k = .slice (some ⟨g, 0, none⟩) 1 1 ∧ (∀ ty, (Builtin.append_ #[22, 22] ty #[.slice (some ⟨g, 0, none⟩) 1 1, .slice (some ⟨wr.heap.size, 0, none⟩) 1 1]).run Tryd.prog (wr.alloc (.cells #[v] 31)) = .ok (.slice (some ⟨wr.heap.size + 1, 0, none⟩) 2 cap) wB) ∧
      wB.cell? ⟨gm, k, none⟩ = some (.slice (some ⟨g, 0, none⟩) 1 1) ∧ wB.frozen? ⟨gm, k, none⟩ = false ∧ gm < wB.heap.size ∧
      TwAt w (wB.setCell ⟨gm, k, none⟩ (.slice (some ⟨wr.heap.size + 1, 0, none⟩) 2 cap)) q p gm U s (set5 vals k (.slice (some ⟨wr.heap.size + 1, 0, none⟩) 2 cap)) (set5 C k (C k ++ [(v, l)])) := by
  obtain ⟨g, cap0, e1, e2, e3, e4, e5, e6, e7, e8⟩ := h.rows k hk
  rw [hC, e7 hC] at e1
  obtain ⟨x0, hx0⟩ : ∃ x0, C k = [x0] := by
    cases hc : C k with
    | nil => rw [hc] at hC; simp at hC
    | cons x l =>
      rw [hc] at hC
      obtain rfl : l = [] := List.eq_nil_of_length_eq_zero (by simpa using hC)
      exact ⟨x, rfl⟩
  have hcA : Chg [] wr (wr.alloc (.cells #[v] 31)) := (Chg.refl _ _).alloc _
  have hn := heap_alloc_new wr (.cells #[v] 31)
  have hA : (wr.alloc (.cells #[v] 31)).heap.size = wr.heap.size + 1 := by simp
  have c0 := hcA.cell (e8 0 x0 (by rw [hx0]; rfl)) (by simp)
  generalize wr.alloc (.cells #[v] 31) = wA at *
  obtain ⟨cap, rest, h2, h3, hr⟩ := append_two wA g wr.heap.size x0.1 v c0 (blk_cell hn 0 _ rfl)
  have hcB : Chg [] wA (wA.drew.alloc (.cells (#[x0.1, v] ++ rest) 31)) := (by exact (Chg.refl [] wA).drew : Chg [] wA wA.drew).alloc _
  have hnB : (wA.drew.alloc (.cells (#[x0.1, v] ++ rest) 31)).heap[wr.heap.size + 1]? = some (.cells (#[x0.1, v] ++ rest) 31 (0, 0)) := heap_at (by rw [← hA]; rfl)
  have hB : (wA.drew.alloc (.cells (#[x0.1, v] ++ rest) 31)).heap.size = wr.heap.size + 2 := by
    simp
    exact hA
  rw [hA] at hr
  generalize wA.drew.alloc (.cells (#[x0.1, v] ++ rest) 31) = wB at *
  have hc : Chg [] wr wB := hcA.trans hcB (by simp)
  have hk2 := h.keep hc
  have hgl := blk_lt h.cm
  refine ⟨g, cap, wB, e1, hr, by rw [← e1]; exact blk_cell hk2.cm k _ (three_at _ k hk), blk_frozen hk2.cm k, blk_lt hk2.cm, ?_⟩
  refine hk2.put k hk (wr.heap.size + 1) 2 cap (C k ++ [(v, l)]) (by rw [hx0]; rfl) ⟨h2, h3⟩ ⟨h.since.fresh (by omega), by omega, by omega⟩ (fun hl => by rw [hx0] at hl; simp at hl) (fun i x hi => ?_) (fun x hx2 => ?_)
  · rw [hx0] at hi
    match i with
    | 0 => simp at hi; subst hi; exact blk_cell hnB 0 _ (pair_at x0.1 v rest).1
    | 1 => simp at hi; subst hi; exact blk_cell hnB 1 _ (pair_at x0.1 v rest).2
    | i + 2 => simp at hi
  · rcases List.mem_append.1 hx2 with hx2 | hx2
    · exact hk2.cand k hk x hx2
    · obtain rfl := List.mem_singleton.1 hx2
      exact ⟨hx.1.chg hc (by simp), fun hl g hg => ⟨(hx.2.1 hl g hg).1, Nat.lt_of_lt_of_le (hx.2.1 hl g hg).2 hc.size⟩, hx.2.2⟩
/-- Other slots, newer than all this. -/
theorem TwAt.renew {w wr w' : World} {q p gm q2 p2 : Nat} {U U2 : List Nat} {s s2 : SS} {vals : Nat → Value} {C : Nat → List (Value × List UInt8)} (h : TwAt w wr q p gm U s vals C) (hc : Chg [] wr w') (hs : SlotsAt w' q2 p2 U2 s2) (hU : ∀ x ∈ U2, wr.heap.size ≤ x) : TwAt w w' q2 p2 gm U2 s2 vals C := by
  have hk := h.keep hc
  have l1 := blk_lt h.cm
  have hsz := h.since.2.2.size
  have hout : ∀ g, g < wr.heap.size → g ∉ U2 := fun g hl hm => by have := hU g hm; omega
  refine ⟨⟨hs, fun x hx => by have := hU x hx; omega, hk.since.2.2⟩, hk.cm, ⟨hout _ l1, h.out.2⟩, fun k hk2 => ?_, fun k hk2 x hx => ?_⟩
  · obtain ⟨g, cap, e1, e2, e3, e4, e5, e6, e7, e8⟩ := h.rows k hk2
    exact ⟨g, cap, e1, e2, e3, hout g e5, Nat.lt_of_lt_of_le e5 hc.size, e6, e7, fun i x hx => hc.cell (e8 i x hx) (by simp)⟩
  · obtain ⟨e1, e2, e9⟩ := h.cand k hk2 x hx
    exact ⟨e1.chg hc (by simp), fun hl g hg => ⟨hout g (e2 hl g hg).2, Nat.lt_of_lt_of_le (e2 hl g hg).2 hc.size⟩, e9⟩

/-- While the rows are made. -/
structure TwPre (w wr : World) (q p gm : Nat) (U : List Nat) (s : SS) (vals : Nat → Value) (m : Nat) : Prop where
  since : Since w wr q p U s
  cm : wr.heap[gm]? = some (.cells (three vals) 22 (0, 0))
  out : gm ∉ U ∧ w.heap.size ≤ gm
  vs : ∀ k, k < 3 → ∀ z : Int, vals k ≠ Value.int .u8 z
  rows : ∀ k, k < 3 → k < m → ∃ g, vals k = .slice (some ⟨g, 0, none⟩) 1 1 ∧ g ∉ U ∧ g < wr.heap.size ∧ g ≠ gm ∧ wr.cell? ⟨g, 0, none⟩ = some (.slice none 0 0)
theorem TwPre.step {w wr : World} {q p gm : Nat} {U : List Nat} {s : SS} {vals : Nat → Value} {m : Nat} (h : TwPre w wr q p gm U s vals m) (hm : m < 3) :
    TwPre w ((wr.alloc (.cells #[.slice none 0 0] 31)).setCell ⟨gm, m, none⟩ (.slice (some ⟨wr.heap.size, 0, none⟩) 1 1)) q p gm U s (set5 vals m (.slice (some ⟨wr.heap.size, 0, none⟩) 1 1)) (m + 1) := by
  have hc0 : Chg [] wr (wr.alloc (.cells #[.slice none 0 0] 31)) := (Chg.refl _ _).alloc _
  have hn := heap_alloc_new wr (.cells #[.slice none 0 0] 31)
  have hfr := h.since.fresh (Nat.le_refl wr.heap.size)
  have hlt := blk_lt h.cm
  have hcm := hc0.keep h.cm (by simp)
  have hsi := h.since.keep hc0
  have hsz : (wr.alloc (.cells #[.slice none 0 0] 31)).heap.size = wr.heap.size + 1 := by simp
  generalize wr.alloc (.cells #[.slice none 0 0] 31) = w1 at *
  have hc : Chg [gm] w1 (w1.setCell ⟨gm, m, none⟩ (.slice (some ⟨wr.heap.size, 0, none⟩) 1 1)) := (Chg.refl _ w1).setCell (p := ⟨gm, m, none⟩) (.inl (by simp)) _
  have hnb : ∀ v l, BytesAt w1 v l → l ≠ [] → v.ownBlock ≠ some gm := not_bytes hcm (three_all _ (fun j hj z => h.vs j hj z))
  refine ⟨⟨hsi.1.keepT hc (fun x hx hm => ?_) (fun x hx v l hb hl => ?_), hsi.2.1, hsi.2.2.trans hc (fun x hx => .inr (by rw [List.mem_singleton.1 hx]; exact h.out.2))⟩, ?_, h.out, fun k hk z => ?_, fun k hk hkm => ?_⟩
  · rw [List.mem_singleton.1 hm] at hx; exact h.out.1 hx
  · rw [List.mem_singleton.1 hx]; exact hnb v l hb hl
  · rw [← three_set _ _ _ hm]
    exact set_blk hcm
  · unfold set5
    split
    · simp
    · exact h.vs k hk z
  · unfold set5
    by_cases hk2 : k = m
    · rw [if_pos hk2]
      exact ⟨_, rfl, hfr, Nat.lt_of_lt_of_le (by omega) hc.size, by omega, hc.cell (blk_cell hn 0 _ rfl) (by simp; omega)⟩
    · rw [if_neg hk2]
      obtain ⟨g, e1, e2, e3, e4, e5⟩ := h.rows k hk (by omega)
      exact ⟨g, e1, e2, Nat.lt_of_lt_of_le (Nat.lt_of_lt_of_le e3 hc0.size) hc.size, e4, hc.cell (hc0.cell e5 (by simp)) (by simp; exact e4)⟩
theorem TwPre.done {w wr : World} {q p gm : Nat} {U : List Nat} {s : SS} {vals : Nat → Value} (h : TwPre w wr q p gm U s vals 3) : TwAt w wr q p gm U s vals (fun _ => [(.slice none 0 0, [])]) := by
  refine ⟨h.since, h.cm, h.out, fun k hk => ?_, fun k hk x hx => ?_⟩
  · obtain ⟨g, e1, e2, e3, e4, e5⟩ := h.rows k hk hk
    refine ⟨g, 1, e1, by simp, by unfold maxLen; omega, e2, e3, e4, fun _ => rfl, fun i x hx => ?_⟩
    cases i with
    | zero => simp at hx; subst hx; exact e5
    | succ i => simp at hx
  · obtain rfl := List.mem_singleton.1 hx
    exact ⟨BytesAt.nil _, by simp, by simp⟩

/-- What a slot has, as the law compares it. -/
def cont (u : Nat → Bool) (v : Nat → List UInt8) (k : Nat) : List UInt8 := if u k then v k else []
def Full (u : Nat → Bool) (v : Nat → List UInt8) : Prop := ∀ k, k < 3 → u k = true → v k ≠ []
structure Way3 (s : SS) (C : Nat → List (List UInt8)) (m : Nat) : Prop where
  shape : s.first = 1 ∧ s.rows.length = 3 ∧ s.d.n = 25
  ends : ∀ ch, ∃ rows u2 v2, rows.length = 3 ∧ ToldR { s with d := s.d.crash ch, rows := rows } u2 v2 ∧ Full u2 v2 ∧ ∀ k, k < 3 → cont u2 v2 k ∈ C k
  lives : s.d.dead = false → ∃ u v, ToldR s u v ∧ Full u v ∧ (∀ k, k < 3 → C k = [cont u v k]) ∧ s.d.ops ≤ 40 * m
  few : s.d.since.length ≤ 20
theorem Way3.rest {s : SS} {u : Nat → Bool} {v : Nat → List UInt8} {C : Nat → List (List UInt8)} {m : Nat} (h : ToldR s u v) (hs : s.first = 1 ∧ s.rows.length = 3 ∧ s.d.n = 25) (hf : Full u v) (hC : ∀ k, k < 3 → C k = [cont u v k]) (ho : s.d.ops ≤ 40 * m) : Way3 s C m :=
  ⟨hs, fun ch => ⟨s.rows, u, v, hs.2.1, h.crash ch, hf, fun k hk => by rw [hC k hk]; simp⟩, fun _ => ⟨u, v, h, hf, hC, ho⟩, by rw [h.rest.none]; decide⟩
theorem Way3.more {s : SS} {C : Nat → List (List UInt8)} {m m' : Nat} (h : Way3 s C m) (hm : m ≤ m') : Way3 s C m' := ⟨h.shape, h.ends, fun hd => by
  obtain ⟨u, v, a1, a2, a3, a4⟩ := h.lives hd
  exact ⟨u, v, a1, a2, a3, by omega⟩, h.few⟩
theorem cont_set (u : Nat → Bool) (v : Nat → List UInt8) (k j : Nat) (x : Bool) (b : List UInt8) : cont (fun j => if j = k then x else u j) (fun j => if j = k then b else v j) j = if j = k then (if x then b else []) else cont u v j := by
  unfold cont
  by_cases h : j = k
  · simp [h]
  · simp [h]
theorem way3_lost {s : SS} {d2 : DS} {u : Nat → Bool} {v : Nat → List UInt8} {C : Nat → List (List UInt8)} {k : Nat} {x : Bool} {b : List UInt8} (h : Lost s d2 u v k x b) (hs : s.first = 1 ∧ s.rows.length = 3 ∧ s.d.n = 25) (hf : Full u v) (hC : ∀ k, k < 3 → C k = [cont u v k]) (hb : x = true → b ≠ []) (hfew : d2.since.length ≤ 20) (m : Nat) :
    Way3 { s with d := d2 } (set5 C k (C k ++ [if x then b else []])) m := by
  refine ⟨⟨hs.1, hs.2.1, by show d2.n = 25; rw [h.2.1]; exact hs.2.2⟩, fun ch => ?_, fun hd => (by have : d2.dead = false := hd; rw [h.1] at this; cases this), hfew⟩
  obtain ⟨rows, hr, ht | ht⟩ := h.2.2 ch
  · refine ⟨rows, u, v, hr.trans hs.2.1, ht, hf, fun j hj => ?_⟩
    unfold set5
    by_cases hjk : j = k
    · subst hjk; rw [if_pos rfl, hC j hj]; simp
    · rw [if_neg hjk, hC j hj]; simp
  · refine ⟨rows, _, _, hr.trans hs.2.1, ht, fun j hj hu => ?_, fun j hj => ?_⟩
    · by_cases hjk : j = k
      · simp only [hjk, if_true] at hu ⊢; exact hb hu
      · simp only [hjk, if_false] at hu ⊢; exact hf j hj hu
    · rw [cont_set]
      unfold set5
      by_cases hjk : j = k
      · rw [if_pos hjk, if_pos hjk]; simp
      · rw [if_neg hjk, if_neg hjk, hC j hj]; simp
theorem way3_put {s : SS} {u : Nat → Bool} {v : Nat → List UInt8} {C : Nat → List (List UInt8)} (h : ToldR s u v) (hs : s.first = 1 ∧ s.rows.length = 3 ∧ s.d.n = 25) (hf : Full u v) (hC : ∀ k, k < 3 → C k = [cont u v k]) (k : Nat) (hk : k < 3) (key b : List UInt8) (hu : u k = false) (hkey : key.length ≤ 40) (hb : b.length ≤ 448) (hb0 : b ≠ []) (m : Nat) (ho : s.d.ops ≤ 40 * m) :
    ((s.put (k : Int) key b).1 = 0 ∧ Way3 (s.put (k : Int) key b).2 (set5 C k [b]) (m + 1)) ∨ ((s.put (k : Int) key b).1 = 14 ∧ Way3 (s.put (k : Int) key b).2 (set5 C k (C k ++ [b])) (m + 1)) := by
  obtain ⟨s1, s2, s3⟩ := hs
  have hops := put_ops s (k : Int) key b
  have hsi := put_since s (k : Int) key b h.rest.none
  rcases h.put k (by omega) key b hu hkey hb with ⟨a1, a2, a3, a4, a5⟩ | ⟨a1, a2, a3, a4⟩
  · refine .inl ⟨a1, Way3.rest a2 ⟨by rw [a4, s1], by rw [a3, s2], by rw [a5, s3]⟩ (fun j hj hu => ?_) (fun j hj => ?_) (by omega)⟩
    · by_cases hjk : j = k
      · simp only [hjk, if_true]; exact hb0
      · simp only [hjk, if_false] at hu ⊢; exact hf j hj hu
    · rw [cont_set]
      unfold set5
      by_cases hjk : j = k
      · rw [if_pos hjk, if_pos hjk]; simp
      · rw [if_neg hjk, if_neg hjk, hC j hj]
  · right
    refine ⟨a1, ?_⟩
    have h1 := way3_lost a4 ⟨s1, s2, s3⟩ hf hC (fun _ => hb0) hsi (m + 1)
    have h2 : (s.put (k : Int) key b).2 = { s with d := (s.put (k : Int) key b).2.d } := by
      generalize (s.put (k : Int) key b).2 = s' at *
      cases s'; cases s
      simp_all
    rw [h2]
    simpa using h1
theorem way3_clear {s : SS} {u : Nat → Bool} {v : Nat → List UInt8} {C : Nat → List (List UInt8)} (h : ToldR s u v) (hs : s.first = 1 ∧ s.rows.length = 3 ∧ s.d.n = 25) (hf : Full u v) (hC : ∀ k, k < 3 → C k = [cont u v k]) (k : Nat) (hk : k < 3) (hu : u k = true) (m : Nat) (ho : s.d.ops ≤ 40 * m) :
    ((s.clear (k : Int)).1 = 0 ∧ Way3 (s.clear (k : Int)).2 (set5 C k [[]]) (m + 1)) ∨ ((s.clear (k : Int)).1 = 14 ∧ Way3 (s.clear (k : Int)).2 (set5 C k (C k ++ [[]])) (m + 1)) := by
  obtain ⟨s1, s2, s3⟩ := hs
  have hops := clear_ops s (k : Int)
  have hsi := clear_since s (k : Int) h.rest.none
  rcases h.clear k (by omega) hu with ⟨a1, a2, a3, a4, a5⟩ | ⟨a1, a2, a3, a4⟩
  · refine .inl ⟨a1, Way3.rest a2 ⟨by rw [a4, s1], by rw [a3, s2], by rw [a5, s3]⟩ (fun j hj hu => ?_) (fun j hj => ?_) (by omega)⟩
    · by_cases hjk : j = k
      · simp only [hjk, if_true] at hu; cases hu
      · simp only [hjk, if_false] at hu ⊢; exact hf j hj hu
    · unfold cont set5
      by_cases hjk : j = k
      · simp [hjk]
      · simp only [hjk, if_false]; exact hC j hj
  · right
    refine ⟨a1, ?_⟩
    have h1 := way3_lost a4 ⟨s1, s2, s3⟩ hf hC (fun e => by cases e) hsi (m + 1)
    have h2 : (s.clear (k : Int)).2 = { s with d := (s.clear (k : Int)).2.d } := by
      generalize (s.clear (k : Int)).2 = s' at *
      cases s'; cases s
      simp_all
    rw [h2]
    simpa using h1
theorem Way3.fuse {s : SS} {u : Nat → Bool} {v : Nat → List UInt8} {C : Nat → List (List UInt8)} (h : ToldR s u v) (hs : s.first = 1 ∧ s.rows.length = 3 ∧ s.d.n = 25) (hf : Full u v) (hC : ∀ k, k < 3 → C k = [cont u v k]) (ho : s.d.ops = 0) (n : Int) : Way3 { s with d := s.d.setFuse n } C 0 :=
  Way3.rest (h.fuse n) hs hf hC (by show s.d.ops ≤ _; omega)
theorem map_set (C : Nat → List (Value × List UInt8)) (k : Nat) (L : List (Value × List UInt8)) : (fun j => (set5 C k L j).map (·.2)) = set5 (fun j => (C j).map (·.2)) k (L.map (·.2)) := by
  funext j
  unfold set5
  split <;> rfl
def at0 : SS := ⟨DS.new 25, 1, [noRow, noRow, noRow]⟩
theorem at0_open : (DS.new 25).slots 1 = (0, some at0) := by rfl
theorem at0_toldR : ToldR at0 (fun _ => false) (fun _ => []) := by
  refine ⟨⟨rfl, rfl, fun _ => rfl⟩, by decide, fun k hk => ?_, fun k hk => ?_, fun k hk h => by cases h⟩
  · replace hk : k < 3 := hk
    match k, hk with
    | 0, _ => rfl
    | 1, _ => rfl
    | 2, _ => rfl
  · replace hk : k < 3 := hk
    match k, hk with
    | 0, _ => rfl
    | 1, _ => rfl
    | 2, _ => rfl
end Go.Proofs.YtipfgghdoicdhaaDoor.W

/- Regions that draw their order: a load under a condition that ends far off: the way from it to its end is told. -/
namespace Go.Proofs.YtipfgghdoicdhaaDoor.W
open Go.RowKit
set_option linter.unusedVariables false
set_option linter.unusedSimpArgs false

section
variable {P : Program} {ops : Array Oper} {Q : Exit → Act → World → Prop} {md : Region.Mode} {cs : List (Nat × (World → Prop))}

/-- Operation d waits for i, by this way. -/
def pathB (md : Region.Mode) (ops : Array Oper) : Nat → List Nat → Nat → Bool
  | d, [], i => match ops[d]? with
    | none => false
    | some o => o.after.any fun e => Region.binds md e && e.on == i
  | d, x :: xs, i => (match ops[d]? with
    | none => false
    | some o => o.after.any fun e => Region.binds md e && e.on == x) && pathB md ops x xs i
theorem step_open {L : Array Bool} (hc : Closed md ops L) {d x : Nat} (hx : L.getD x true = false) (h : (match ops[d]? with
    | none => false
    | some o => o.after.any fun e => Region.binds md e && e.on == x) = true) : L.getD d true = false := by
  cases ho : ops[d]? with
  | none => rw [ho] at h; cases h
  | some o =>
    simp only [ho] at h
    obtain ⟨e, he, h1⟩ := Array.any_eq_true'.1 h
    simp only [Bool.and_eq_true, beq_iff_eq] at h1
    cases hd : L.getD d true with
    | false => rfl
    | true =>
      have h2 := hc d o ho hd e he h1.1
      obtain ⟨_, rfl⟩ := h1
      rw [Array.getD_eq_getD_getElem?] at hx h2
      cases hq : L[e.on]? with
      | none => rw [hq] at h2; cases h2
      | some b => rw [hq] at hx h2; simp at hx h2; rw [hx] at h2; cases h2
theorem path_open {L : Array Bool} (hc : Closed md ops L) {i : Nat} (hi : L.getD i true = false) : ∀ (xs : List Nat) (d : Nat), pathB md ops d xs i = true → L.getD d true = false := by
  intro xs
  induction xs with
  | nil => intro d h; exact step_open hc hi h
  | cons x xs ih =>
    intro d h
    unfold pathB at h
    rw [Bool.and_eq_true] at h
    exact step_open hc (ih x h.2) h.1
theorem wpAnyL_loadP (k : Nat) (xs : List Nat) {i d : Nat} {C : World → Prop} {oi : Oper} {v : Value} {fuel : Nat} {L : Array Bool} {a : Act} {w : World} (hk : cs[k]? = some (d, C)) (hi : ops[i]? = some oi)
    (hs : Region.noSelect ops = true) (hcl : closedB md ops L = true) (hf : Region.free md ops L i = true) (hr : (Region.ready md ops L).contains i = true) (hne : cs.all (fun c => c.1 != i) = true) (hanc : pathB md ops d xs i = true)
    (hQ : ∀ c a w, Q (.panic c) (a.put oi.dst v) w → Q (.panic c) a w) (hy : YieldsIf P ops C oi v a) (hS : HoldC cs L w)
    (h : HoldC cs (L.setIfInBounds i true) w → wpAnyL P md ops Q cs fuel (L.setIfInBounds i true) (a.put oi.dst v) w) : wpAnyL P md ops Q cs (fuel + 1) L a w :=
  wpAnyL_first hi (Region.noSelect_spec hs) hQ (fun L w h1 h2 h3 => h3 _ (List.mem_of_getElem? hk) (path_open h1 h2 _ _ hanc)) (fun c hc => by simpa using List.all_eq_true.1 hne c hc) fuel L a w (closed_of hcl) (Region.free_spec hi hf) (by simpa using hr) hy hS (h (hS.set _))
end
end Go.Proofs.YtipfgghdoicdhaaDoor.W
