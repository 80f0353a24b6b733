/- Texts laid together. -/
import Derived.Test.YtipfgghdoicdhaaDoorPB3
import Derived.Test.YtipfgghdoicdhaaDoorPB2
import Derived.Test.YtipfgghdoicdhaaDoorPB1
import Derived.Deep.AppendLies
import Derived.LoopTactic
/- SlotKnown: the walk. -/
namespace Go.Proofs.YtipfgghdoicdhaaDoor.W
open Go.RowKit
set_option linter.unusedVariables false
set_option linter.unusedSimpArgs false

set_option maxHeartbeats 8000000 in
set_option maxRecDepth 100000 in
/-- Open, of no disk. -/
theorem sopen_nil (first : Int) (w : World) :
    Calls Tryd.prog 14 #[.pointer none, .int .i64 first] w fun e w' => e = .returned (.tuple #[.pointer none, .int .i64 1]) ∧ Chg [] w w' := by
  go_enter_defers Tryd.func14, Tryd.ntmps14
  go_wp2_with fail
  exact ⟨.tuple #[.pointer none, .int .i64 1], by simp [results, Tryd.results14, go_sem], rfl, ((Chg.refl _ _).alloc _).alloc _⟩

def Z41 : Array Value := (bvs (zeros 41)).toArray
theorem make_41 (w : World) : (Instr.makeSlice 31 (.int .i64 41) (.int .i64 41)).run Tryd.prog w = .ok (.slice (some ⟨w.heap.size, 0, none⟩) 41 41) (w.alloc (.cells Z41 5)) := by
  obtain ⟨i, hi, h1, h2, h3⟩ := info_parts facts_u8
  have h := run_make (P := Tryd.prog) w 31 5 i _ Tryd.underlying31 hi h1 .i64 .i64 41 41 (by omega) (Int.le_refl _) (by rw [h3]; omega) (by omega)
  rw [h2] at h
  have hz : madeCells (Value.int .u8 0).cells ((41 : Int).toNat * 1) = Z41 := by kernel_rfl
  rw [hz] at h
  exact h
theorem z41_bytes (w : World) : BytesAt (w.alloc (.cells Z41 5)) (.slice (some ⟨w.heap.size, 0, none⟩) 41 41) (zeros 41) :=
  (row_of_block (l := zeros 41) (heap_alloc_new w _) (by decide)).bytes
theorem pair_of {α β : Type} {x : α × β} {a : α} (h : x.1 = a) : x = (a, x.2) := by subst h; rfl
theorem ws0_long : ws0.put 0 (zeros 41) [] = (3, ws0) := by rfl
theorem ws0_none : ws0.put 2 [] [] = (1, ws0) := by rfl
theorem ws0_get : ws0.get 0 = ([], 6) := by rfl
def ks1 : SS := (ws0.put 1 [1] []).2
theorem ks1_put : ws0.put 1 [1] [] = (0, ks1) := pair_of (by kernel_rfl)
theorem ks1_there : ks1.put 1 [2] [] = (7, ks1) := by
  have h : (ks1.row 1).used = true := by kernel_rfl
  unfold SS.put
  have hl : ks1.rows.length = 2 := by kernel_rfl
  rw [if_neg (by unfold SS.has; rw [hl]; decide), if_neg (by decide), if_pos h]
def ks2 : SS := (ks1.clear 1).2
theorem ks2_clear : ks1.clear 1 = (0, ks2) := pair_of (by kernel_rfl)
theorem ks2_free : ks2.free = 0 := by kernel_rfl
theorem d17_far : (DS.new 17).slots 18 = (1, none) := by rfl
theorem ks1_ops : ks1.d.ops ≤ 900000000 ∧ ks1.d.since.length ≤ 900000 := by
  refine ⟨Nat.le_of_ble_eq_true (by kernel_rfl), Nat.le_of_ble_eq_true (by kernel_rfl)⟩
end Go.Proofs.YtipfgghdoicdhaaDoor.W
namespace Go.Proofs.YtipfgghdoicdhaaDoor.W
open Go.RowKit
set_option linter.unusedVariables false
set_option linter.unusedSimpArgs false

/-- Slots that have come about since w0. -/
def Since (w0 w : World) (q p : Nat) (U : List Nat) (s : SS) : Prop := SlotsAt w q p U s ∧ (∀ x ∈ U, w0.heap.size ≤ x) ∧ Chg [] w0 w
theorem Since.keep {w0 w w' : World} {q p : Nat} {U : List Nat} {s : SS} (h : Since w0 w q p U s) (hc : Chg [] w w') : Since w0 w' q p U s := ⟨h.1.keep0 hc, h.2.1, h.2.2.trans hc (by simp)⟩
theorem Since.sid {w0 w w' : World} {q p : Nat} {U : List Nat} {s s' : SS} (h : Since w0 w q p U s) (hs : Sid w w' q p U s') : ∃ U', Since w0 w' q p U' s' := by
  obtain ⟨U', h1, h2, h3⟩ := hs
  refine ⟨U', h1, fun x hx => ?_, h.2.2.trans h3 (fun x hx => .inr (h.2.1 x hx))⟩
  rcases h2 x hx with h4 | h4
  · exact h.2.1 x h4
  · exact Nat.le_trans h.2.2.size h4
theorem Since.fresh {w0 w : World} {q p : Nat} {U : List Nat} {s : SS} (h : Since w0 w q p U s) {k : Nat} (hk : w.heap.size ≤ k) : k ∉ U := fun hm => by
  have := h.1.own k hm
  omega

set_option maxHeartbeats 8000000 in
set_option maxRecDepth 100000 in
theorem known_any (w : World) : Calls Tryd.prog 4 #[] w fun e w' => e = .returned (.bool true) ∧ Chg [] w w' := by
  have CA := Lib.hid (awake_any w)
  go_enter Tryd.func4, Tryd.ntmps4
  go_wp2_with fail
  refine CA.out.mono ?_
  rintro e w0 ⟨rfl, hc0⟩
  have HC0 := Lib.hid hc0
  have CN := Lib.hid (dnew_any 17 w0 (by omega) (by omega))
  clear hc0 CA
  go_wp2_with fail
  refine CN.out.mono ?_
  rintro e w1 ⟨p, S, rfl, hd1, hS1, hc1⟩
  have CO := Lib.hid (sopen_any p S _ 1 w1 hd1)
  rw [ws0_open] at CO
  have HD1 := Lib.hid hd1
  have HC1 := Lib.hid hc1
  have HS1 := Lib.hid hS1
  clear hd1 hS1 hc1 CN
  go_wp2_with fail
  refine CO.out.mono ?_
  rintro e w2 ⟨hc2, q, U, rfl, hs2, hU2⟩
  have H2 : Hid (Since w0 w2 q p U ws0) := Lib.hid ⟨hs2, fun x hx => by
    rcases hU2 x hx with h | h
    · exact HS1.out x h
    · have := HC1.out.size; omega, HC1.out.trans hc2 (by simp)⟩
  have HD2 := Lib.hid (HD1.out.keep hc2 (by simp))
  have CZ := Lib.hid (sopen_nil 1 w2)
  clear hs2 hU2 hc2 CO HS1
  go_wp2_with fail
  refine CZ.out.mono ?_
  rintro e w3 ⟨rfl, hc3⟩
  have H3 := Lib.hid (H2.out.keep hc3)
  have CF := Lib.hid (sopen_any p S _ 18 w3 (HD2.out.keep hc3 (by simp)))
  rw [d17_far] at CF
  clear hc3 CZ
  go_wp2_with fail
  refine CF.out.mono ?_
  rintro e w4 ⟨hc4, he⟩
  dsimp only at he
  subst he
  have H4 := Lib.hid (H3.out.keep hc4)
  have hcz : Chg [] w4 (w4.alloc (.cells Z41 5)) := (Chg.refl _ _).alloc _
  have H4a := Lib.hid (H4.out.keep hcz)
  have C1 := Lib.hid (sput_any q p U ws0 0 _ (.slice none 0 0) (zeros 41) [] _ H4a.out.1 (z41_bytes w4) (fun _ k hk => by
    obtain rfl : w4.heap.size = k := by simpa [Value.ownBlock] using hk
    exact H4.out.fresh (Nat.le_refl _)) (BytesAt.nil _) (by simp [Value.ownBlock]) (by decide) (by decide) (by decide) (by decide))
  rw [ws0_long] at C1
  have hmk := make_41
  clear hc4 CF hcz
  go_wp2_with fail
  refine C1.out.mono ?_
  rintro e w5 ⟨rfl, hs5⟩
  obtain ⟨U5, H5⟩ := H4a.out.sid hs5
  have C2 := Lib.hid (sput_any q p U5 ws0 2 (.slice none 0 0) (.slice none 0 0) [] [] _ H5.1 (BytesAt.nil _) (by simp [Value.ownBlock]) (BytesAt.nil _) (by simp [Value.ownBlock]) (by decide) (by decide) (by decide) (by decide))
  rw [ws0_none] at C2
  have HH5 := Lib.hid H5
  clear H5 hs5 C1
  go_wp2_with fail
  refine C2.out.mono ?_
  rintro e w6 ⟨rfl, hs6⟩
  obtain ⟨U6, H6⟩ := HH5.out.sid hs6
  have CG := Lib.hid (sget_any q p U6 ws0 0 _ H6.1)
  rw [ws0_get] at CG
  have HH6 := Lib.hid H6
  clear H6 hs6 C2
  go_wp2_with fail
  refine CG.out.mono ?_
  rintro e w7 ⟨⟨v7, rfl, hb7, ho7⟩, hc7⟩
  have H7 := Lib.hid (HH6.out.keep hc7)
  have C3 := Lib.hid (sput_any q p U6 ws0 1 _ (.slice none 0 0) [1] [] _ (H7.out.keep ((Chg.refl [] w7).alloc (.cells #[bv 1] 5))).1 (one_bytes w7 1) (fun _ k hk => by
    obtain rfl : w7.heap.size = k := by simpa [Value.ownBlock] using hk
    exact H7.out.fresh (Nat.le_refl _)) (BytesAt.nil _) (by simp [Value.ownBlock]) (by decide) (by decide) (by decide) (by decide))
  rw [ks1_put] at C3
  have H7a := Lib.hid (H7.out.keep ((Chg.refl [] w7).alloc (.cells #[bv 1] 5)))
  obtain ⟨a7, c7, rfl⟩ := hb7.slice
  clear hb7 ho7 hc7 CG
  go_wp2_with fail
  refine C3.out.mono ?_
  rintro e w8 ⟨rfl, hs8⟩
  obtain ⟨U8, H8⟩ := H7a.out.sid hs8
  have HH8 := Lib.hid H8
  have H8a := Lib.hid (H8.keep ((Chg.refl [] w8).alloc (.cells #[bv 2] 5)))
  have C4 := Lib.hid (sput_any q p U8 ks1 1 _ (.slice none 0 0) [2] [] _ H8a.out.1 (one_bytes w8 2) (fun _ k hk => by
    obtain rfl : w8.heap.size = k := by simpa [Value.ownBlock] using hk
    exact HH8.out.fresh (Nat.le_refl _)) (BytesAt.nil _) (by simp [Value.ownBlock]) (by decide) (by decide) ks1_ops.1 ks1_ops.2)
  rw [ks1_there] at C4
  clear H8 hs8 C3
  go_wp2_with fail
  refine C4.out.mono ?_
  rintro e w9 ⟨rfl, hs9⟩
  obtain ⟨U9, H9⟩ := H8a.out.sid hs9
  have C5 := Lib.hid (sclear_any q p U9 ks1 1 _ H9.1 ks1_ops.1 ks1_ops.2)
  rw [ks2_clear] at C5
  have HH9 := Lib.hid H9
  clear H9 hs9 C4
  go_wp2_with fail
  refine C5.out.mono ?_
  rintro e w10 ⟨rfl, hs10⟩
  obtain ⟨U10, H10⟩ := HH9.out.sid hs10
  have C6 := Lib.hid (sfree_any q p U10 ks2 _ H10.1)
  rw [ks2_free] at C6
  have HH10 := Lib.hid H10
  clear H10 hs10 C5
  go_wp2_with fail
  refine C6.out.mono ?_
  rintro e w' ⟨rfl, hq⟩
  subst hq
  go_wp2
  go_ret
  exact ⟨rfl, HC0.out.trans HH10.out.2.2 (by simp)⟩
end Go.Proofs.YtipfgghdoicdhaaDoor.W

/- SlotApart: what stands between the rounds. -/
namespace Go.Proofs.YtipfgghdoicdhaaDoor.W
open Go.RowKit
set_option linter.unusedVariables false
set_option linter.unusedSimpArgs false

/-- Five cells. -/
def five (f : Nat → Value) : Array Value := #[f 0, f 1, f 2, f 3, f 4]
theorem five_at (f : Nat → Value) (k : Nat) (hk : k < 5) : (five f)[k]? = some (f k) := by
  match k, hk with
  | 0, _ => rfl
  | 1, _ => rfl
  | 2, _ => rfl
  | 3, _ => rfl
  | 4, _ => rfl
def set5 {α : Type} (f : Nat → α) (k : Nat) (x : α) : Nat → α := fun j => if j = k then x else f j
theorem five_set (f : Nat → Value) (k : Nat) (x : Value) (hk : k < 5) : (five f).setIfInBounds k x = five (set5 f k x) := by
  match k, hk with
  | 0, _ => rfl
  | 1, _ => rfl
  | 2, _ => rfl
  | 3, _ => rfl
  | 4, _ => rfl
def bo (u : Nat → Bool) : Nat → Value := fun j => .bool (u j)
theorem bo_set (u : Nat → Bool) (k : Nat) (q : Bool) : set5 (bo u) k (.bool q) = bo (set5 u k q) := by
  funext j
  show (if j = k then .bool q else .bool (u j)) = Value.bool (if j = k then q else u j)
  split <;> rfl
theorem facts_bs : (Tryd.prog.info? 31).map (fun i => (i.zero, i.size, i.bytes)) = some (some (.slice none 0 0), 1, 24) := by kernel_rfl
theorem facts_bool : (Tryd.prog.info? 4).map (fun i => (i.zero, i.size, i.bytes)) = some (some (.bool false), 1, 1) := by kernel_rfl
theorem make_5w (w : World) : (Instr.makeSlice 22 (.int .i64 5) (.int .i64 5)).run Tryd.prog w = .ok (.slice (some ⟨w.heap.size, 0, none⟩) 5 5) (w.alloc (.cells (five fun _ => .slice none 0 0) 31)) := by
  obtain ⟨i, hi, h1, h2, h3⟩ := info_parts facts_bs
  have h := run_make (P := Tryd.prog) w 22 31 i _ Tryd.underlying22 hi h1 .i64 .i64 5 5 (by omega) (Int.le_refl _) (by rw [h3]; omega) (by omega)
  rw [h2] at h
  have hz : madeCells (Value.slice none 0 0).cells ((5 : Int).toNat * 1) = five fun _ => .slice none 0 0 := by kernel_rfl
  rw [hz] at h
  exact h
theorem make_5b (w : World) : (Instr.makeSlice 49 (.int .i64 5) (.int .i64 5)).run Tryd.prog w = .ok (.slice (some ⟨w.heap.size, 0, none⟩) 5 5) (w.alloc (.cells (five (bo fun _ => false)) 4)) := by
  obtain ⟨i, hi, h1, h2, h3⟩ := info_parts facts_bool
  have h := run_make (P := Tryd.prog) w 49 4 i _ Tryd.underlying49 hi h1 .i64 .i64 5 5 (by omega) (Int.le_refl _) (by rw [h3]; omega) (by omega)
  rw [h2] at h
  have hz : madeCells (Value.bool false).cells ((5 : Int).toNat * 1) = five (bo fun _ => false) := by kernel_rfl
  rw [hz] at h
  exact h

def Shape (s : SS) : Prop := s.first = 1 ∧ s.rows.length = 5 ∧ s.d.n = 41 ∧ s.d.since = []
/-- Between the rounds: the slots are told (u, v); the law's two rows hold (ub, vals), of bytes that came in (vb). -/
structure ApAt (w wr : World) (q p gw gu : Nat) (U : List Nat) (s : SS) (u ub : Nat → Bool) (v vb : Nat → List UInt8) (vals : Nat → Value) : Prop where
  since : Since w wr q p U s
  told : Told s u v
  shape : Shape s
  cw : wr.heap[gw]? = some (.cells (five vals) 31 (0, 0))
  cu : wr.heap[gu]? = some (.cells (five (bo ub)) 4 (0, 0))
  out : gw ∉ U ∧ gu ∉ U ∧ gw ≠ gu ∧ w.heap.size ≤ gw ∧ w.heap.size ≤ gu
  came : ∀ j, j < 5 → Came w (vals j) (vb j)
theorem ApAt.keep {w wr w' : World} {q p gw gu : Nat} {U : List Nat} {s : SS} {u ub : Nat → Bool} {v vb : Nat → List UInt8} {vals : Nat → Value} (h : ApAt w wr q p gw gu U s u ub v vb vals) (hc : Chg [] wr w') : ApAt w w' q p gw gu U s u ub v vb vals :=
  ⟨h.since.keep hc, h.told, h.shape, hc.keep h.cw (by simp), hc.keep h.cu (by simp), h.out, h.came⟩
theorem ApAt.sid {w wr w' : World} {q p gw gu : Nat} {U : List Nat} {s s' : SS} {u u' ub : Nat → Bool} {v v' vb : Nat → List UInt8} {vals : Nat → Value} (h : ApAt w wr q p gw gu U s u ub v vb vals) (hs : Sid wr w' q p U s') (ht : Told s' u' v') (hsh : Shape s') : ∃ U', ApAt w w' q p gw gu U' s' u' ub v' vb vals := by
  obtain ⟨U', h1, h2, h3⟩ := hs
  have l1 := blk_lt h.cw
  have l2 := blk_lt h.cu
  refine ⟨U', ⟨h1, fun x hx => ?_, h.since.2.2.trans h3 (fun x hx => .inr (h.since.2.1 x hx))⟩, ht, hsh, h3.keep h.cw h.out.1, h3.keep h.cu h.out.2.1, ⟨fun hm => ?_, fun hm => ?_, h.out.2.2⟩, h.came⟩
  · rcases h2 x hx with h4 | h4
    · exact h.since.2.1 x h4
    · exact Nat.le_trans h.since.2.2.size h4
  · rcases h2 _ hm with h4 | h4
    · exact h.out.1 h4
    · omega
  · rcases h2 _ hm with h4 | h4
    · exact h.out.2.1 h4
    · omega
/-- No bytes lie in a block of other cells. -/
theorem not_bytes {w : World} {g t : Nat} {cs : Array Value} (h : w.heap[g]? = some (.cells cs t (0, 0))) (hcs : ∀ (j : Nat) (c : Value), cs[j]? = some c → ∀ z : Int, c ≠ Value.int .u8 z) (v : Value) (l : List UInt8) (hb : BytesAt w v l) (hl : l ≠ []) : v.ownBlock ≠ some g := fun e => by
  obtain ⟨a, cap, rfl, h1, h2, h3⟩ := hb
  have hpos : 0 < l.length := by cases l; exact absurd rfl hl; simp
  rcases h3 with ⟨h3, _⟩ | ⟨g', o, rfl, hc⟩
  · exact hl h3
  · obtain rfl : g' = g := by simpa [Value.ownBlock] using e
    have h5 := hc 0 hpos
    rw [Nat.add_zero] at h5
    cases hx : cs[o]? with
    | none =>
      have : w.cell? ⟨g', o, none⟩ = none := by
        unfold World.cell?
        simp [h, hx]
      rw [this] at h5
      cases h5
    | some c =>
      rw [blk_cell h o c hx] at h5
      exact hcs o c hx _ (Option.some.inj h5)
theorem five_all {P : Value → Prop} (f : Nat → Value) (h : ∀ j, j < 5 → P (f j)) (j : Nat) (c : Value) (hj : (five f)[j]? = some c) : P c := by
  have hlt : j < 5 := (Array.getElem?_eq_some_iff.1 hj).1
  rw [five_at f j hlt] at hj
  rw [← Option.some.inj hj]
  exact h j hlt
theorem SlotsAt.keepT {w w' : World} {q p : Nat} {U T : List Nat} {s : SS} (h : SlotsAt w q p U s) (hc : Chg T w w') (ha : ∀ x ∈ U, x ∉ T) (hT : ∀ x ∈ T, ∀ v l, BytesAt w v l → l ≠ [] → v.ownBlock ≠ some x) : SlotsAt w' q p U s := by
  obtain ⟨S, rv, R, h⟩ := h
  refine ⟨S, rv, R, h.obj.keep hc (fun x hx => ha x (h.uB x hx)), h.disk.keep hc (fun x hx => ha x (h.uS x hx)), h.rows, h.sep, fun x hx => ?_, h.uS, h.uB, fun x hx => Nat.lt_of_lt_of_le (h.uL x hx) hc.size, h.ok⟩
  obtain ⟨h1, h2⟩ := h.keys x hx
  exact ⟨h1.chgW hc (fun hl k hk hm => hT k hm _ _ h1 hl hk), fun g hg => ⟨Nat.lt_of_lt_of_le (h2 g hg).1 hc.size, (h2 g hg).2⟩⟩
theorem ApAt.setU {w wr : World} {q p gw gu : Nat} {U : List Nat} {s : SS} {u ub : Nat → Bool} {v vb : Nat → List UInt8} {vals : Nat → Value} (h : ApAt w wr q p gw gu U s u ub v vb vals) (k : Nat) (hk : k < 5) (x : Bool) : ApAt w (wr.setCell ⟨gu, k, none⟩ (.bool x)) q p gw gu U s u (set5 ub k x) v vb vals := by
  have hc : Chg [gu] wr (wr.setCell ⟨gu, k, none⟩ (.bool x)) := (Chg.refl _ wr).setCell (p := ⟨gu, k, none⟩) (.inl (by simp)) _
  refine ⟨⟨h.since.1.keepT hc (fun x hx hm => ?_) (fun x hx v l hb hl => ?_), h.since.2.1, h.since.2.2.trans hc (fun x hx => .inr (by rw [List.mem_singleton.1 hx]; exact h.out.2.2.2.2))⟩, h.told, h.shape, hc.keep h.cw (by simp; exact h.out.2.2.1), ?_, h.out, h.came⟩
  · rw [List.mem_singleton.1 hm] at hx; exact h.out.2.1 hx
  · rw [List.mem_singleton.1 hx]
    exact not_bytes h.cu (five_all _ (fun j _ z => by unfold bo; simp)) v l hb hl
  · rw [← bo_set, ← five_set _ _ _ hk]
    exact set_blk h.cu
theorem ApAt.setW {w wr : World} {q p gw gu : Nat} {U : List Nat} {s : SS} {u ub : Nat → Bool} {v vb : Nat → List UInt8} {vals : Nat → Value} (h : ApAt w wr q p gw gu U s u ub v vb vals) (k : Nat) (hk : k < 5) (x : Value) (l : List UInt8) (hx : Came w x l) : ApAt w (wr.setCell ⟨gw, k, none⟩ x) q p gw gu U s u ub v (set5 vb k l) (set5 vals k x) := by
  have hc : Chg [gw] wr (wr.setCell ⟨gw, k, none⟩ x) := (Chg.refl _ wr).setCell (p := ⟨gw, k, none⟩) (.inl (by simp)) _
  refine ⟨⟨h.since.1.keepT hc (fun x hx hm => ?_) (fun x hx v l hb hl => ?_), h.since.2.1, h.since.2.2.trans hc (fun x hx => .inr (by rw [List.mem_singleton.1 hx]; exact h.out.2.2.2.1))⟩, h.told, h.shape, ?_, hc.keep h.cu (by simp; exact fun e => h.out.2.2.1 e.symm), h.out, fun j hj => ?_⟩
  · rw [List.mem_singleton.1 hm] at hx; exact h.out.1 hx
  · rw [List.mem_singleton.1 hx]
    exact not_bytes h.cw (five_all _ (fun j hj z => by
      obtain ⟨a, c, he⟩ := (h.came j hj).1.slice
      rw [he]; simp)) v l hb hl
  · rw [← five_set _ _ _ hk]
    exact set_blk h.cw
  · unfold set5
    by_cases hjk : j = k
    · rw [if_pos hjk, if_pos hjk]; exact hx
    · rw [if_neg hjk, if_neg hjk]; exact h.came j hj

/-- Put, whatever it is given. -/
theorem put_told {s : SS} {u : Nat → Bool} {v : Nat → List UInt8} (h : Told s u v) (hs : Shape s) (k : Nat) (hk : k < 5) (key b : List UInt8) :
    ((s.put (k : Int) key b).1 = 0 ∧ u k = false ∧ Told (s.put (k : Int) key b).2 (set5 u k true) (set5 v k b) ∧ Shape (s.put (k : Int) key b).2) ∨ ((s.put (k : Int) key b).1 ≠ 0 ∧ (s.put (k : Int) key b).2 = s) := by
  obtain ⟨s1, s2, s3, s4⟩ := hs
  have hr : s.row (k : Int) = s.rows.getD k noRow := rfl
  have hh : s.has (k : Int) := ⟨by omega, by omega⟩
  by_cases hl : 40 < key.length ∨ 448 < b.length
  · right
    unfold SS.put
    rw [if_neg (by simpa using hh), if_pos hl]
    exact ⟨by simp, rfl⟩
  · cases hu : u k with
    | true =>
      right
      unfold SS.put
      rw [if_neg (by simpa using hh), if_neg hl, hr, h.used k (by omega), hu, if_pos rfl]
      exact ⟨by simp, rfl⟩
    | false =>
      left
      obtain ⟨a1, a2, a3, a4, a5, a6⟩ := h.put k (by omega) key b hu (by omega) (by omega)
      exact ⟨a1, rfl, a2, by rw [a4, s1], by rw [a3, s2], by rw [a5, s3], a6⟩
/-- Clear, whatever it is given. -/
theorem clear_told {s : SS} {u : Nat → Bool} {v : Nat → List UInt8} (h : Told s u v) (hs : Shape s) (k : Nat) (hk : k < 5) :
    ((s.clear (k : Int)).1 = 0 ∧ u k = true ∧ Told (s.clear (k : Int)).2 (set5 u k false) v ∧ Shape (s.clear (k : Int)).2) ∨ ((s.clear (k : Int)).1 ≠ 0 ∧ u k = false ∧ (s.clear (k : Int)).2 = s) := by
  obtain ⟨s1, s2, s3, s4⟩ := hs
  have hr : s.row (k : Int) = s.rows.getD k noRow := rfl
  have hh : s.has (k : Int) := ⟨by omega, by omega⟩
  cases hu : u k with
  | false =>
    right
    unfold SS.clear
    rw [if_neg (by simpa using hh), hr, h.used k (by omega), hu, if_pos rfl]
    exact ⟨by simp, rfl, rfl⟩
  | true =>
    left
    obtain ⟨a1, a2, a3, a4, a5, a6⟩ := h.clear k (by omega) hu
    exact ⟨a1, rfl, a2, by rw [a4, s1], by rw [a3, s2], by rw [a5, s3], a6⟩
theorem lays_ops (d : DS) (pos : Nat) (b : List UInt8) : (d.lays pos b).2.ops ≤ d.ops + nsec b.length + 1 := (d.lays_ok pos b).2.1
theorem put_ops (s : SS) (i : Int) (key b : List UInt8) : (s.put i key b).2.d.ops ≤ s.d.ops + 20 := by
  unfold SS.put
  split
  · exact Nat.le_add_right _ _
  · split
    · exact Nat.le_add_right _ _
    · rename_i h1 h2
      have hb : nsec b.length ≤ 7 := by unfold nsec; omega
      have hh : nsec (headBytes b.length key).length ≤ 1 := by rw [headBytes_len _ _ (by omega) (by omega)]; unfold nsec; omega
      have e1 := lays_ops s.d (s.pos i + 1) b
      have e2 := lays_ops (s.d.lays (s.pos i + 1) b).2 (s.pos i) (headBytes b.length key)
      split
      · exact Nat.le_add_right _ _
      · split
        · show (s.d.lays (s.pos i + 1) b).2.ops ≤ _
          omega
        · split <;> (show ((s.d.lays (s.pos i + 1) b).2.lays (s.pos i) (headBytes b.length key)).2.ops ≤ _) <;> omega
theorem clear_ops (s : SS) (i : Int) : (s.clear i).2.d.ops ≤ s.d.ops + 20 := by
  unfold SS.clear
  have e1 := lays_ops s.d (s.pos i) (zeros 64)
  have hz : nsec (zeros 64).length = 1 := rfl
  split
  · exact Nat.le_add_right _ _
  · split
    · exact Nat.le_add_right _ _
    · split <;> (show (s.d.lays (s.pos i) (zeros 64)).2.ops ≤ _) <;> omega
def as0 : SS := ⟨DS.new 41, 1, [noRow, noRow, noRow, noRow, noRow]⟩
theorem as0_open : (DS.new 41).slots 1 = (0, some as0) := by rfl
theorem as0_told : Told as0 (fun _ => false) (fun _ => []) := by
  refine ⟨⟨rfl, by decide⟩, by decide, fun k hk => ?_, fun k hk => ?_, fun k hk h => by cases h⟩
  · replace hk : k < 5 := hk
    match k, hk with
    | 0, _ => rfl
    | 1, _ => rfl
    | 2, _ => rfl
    | 3, _ => rfl
    | 4, _ => rfl
  · replace hk : k < 5 := hk
    match k, hk with
    | 0, _ => rfl
    | 1, _ => rfl
    | 2, _ => rfl
    | 3, _ => rfl
    | 4, _ => rfl
theorem as0_shape : Shape as0 := ⟨rfl, rfl, rfl, rfl⟩
end Go.Proofs.YtipfgghdoicdhaaDoor.W

/- Blocks that hold no bytes; append that says what the row's block holds. -/
namespace Go.Proofs.YtipfgghdoicdhaaDoor.W
open Go.RowKit
set_option linter.unusedVariables false
set_option linter.unusedSimpArgs false

def No8 (c : Value) : Prop := ∀ z : Int, c ≠ .int .u8 z
/-- No cell of the block is a byte. -/
def NoU8 (w : World) (x : Nat) : Prop := ∀ cs t fr, w.heap[x]? = some (.cells cs t fr) → ∀ (j : Nat) (c : Value), cs[j]? = some c → No8 c
theorem NoU8.keep {w w' : World} {x : Nat} (h : NoU8 w x) (hb : w'.heap[x]? = w.heap[x]?) : NoU8 w' x := fun cs t fr hc => h cs t fr (hb.symm.trans hc)
theorem NoU8.mk {w : World} {x t : Nat} {cs : Array Value} {fr : Nat × Nat} (h : w.heap[x]? = some (.cells cs t fr)) (hc : ∀ (j : Nat) (c : Value), cs[j]? = some c → No8 c) : NoU8 w x := fun cs' t' fr' h' => by
  rw [h] at h'
  cases h'
  exact hc
theorem NoU8.set {w : World} {x j : Nat} {u : Value} (h : NoU8 w x) (hx : x < w.heap.size) (hu : No8 u) : NoU8 (w.setCell ⟨x, j, none⟩ u) x := fun cs t fr hc k c hk => by
  have hx' := Array.getElem?_eq_getElem hx
  unfold World.setCell at hc
  rw [Array.getElem?_modify, if_pos rfl, hx'] at hc
  cases ho : w.heap[x] with
  | cells cs0 t0 fr0 =>
    rw [ho] at hc hx'
    simp at hc
    obtain ⟨rfl, rfl, rfl⟩ := hc
    rw [Array.getElem?_setIfInBounds] at hk
    by_cases hjk : j = k
    · rw [if_pos hjk] at hk
      split at hk
      · rw [← Option.some.inj hk]; exact hu
      · cases hk
    · rw [if_neg hjk] at hk
      exact h cs0 _ _ hx' k c hk
  | _ => rw [ho] at hc; simp at hc
theorem NoU8.not_bytes {w : World} {x : Nat} (h : NoU8 w x) (v : Value) (l : List UInt8) (hb : BytesAt w v l) (hl : l ≠ []) : v.ownBlock ≠ some x := fun e => by
  obtain ⟨a, cap, rfl, h1, h2, h3⟩ := hb
  have hpos : 0 < l.length := by cases l; exact absurd rfl hl; simp
  rcases h3 with ⟨h3, _⟩ | ⟨g', o, rfl, hc⟩
  · exact hl h3
  · obtain rfl : g' = x := by simpa [Value.ownBlock] using e
    have h5 := hc 0 hpos
    rw [Nat.add_zero] at h5
    unfold World.cell? at h5
    cases hx : w.heap[g']? with
    | none => simp [hx] at h5
    | some o' =>
      cases o' with
      | cells cs t fr =>
        simp [hx] at h5
        exact h cs t fr hx o _ h5 _ rfl
      | _ => simp [hx] at h5
theorem no8_slice {a : Option Addr} {n c : Nat} : No8 (.slice a n c) := fun z => by simp
theorem no8_i64 {x : Int} : No8 (.int .i64 x) := fun z => by simp
theorem no8_bool {x : Bool} : No8 (.bool x) := fun z => by simp
theorem no8_ptr {a : Option Addr} : No8 (.pointer a) := fun z => by simp
theorem no8_list {l : List Value} (h : ∀ c ∈ l, No8 c) : ∀ (j : Nat) (c : Value), l.toArray[j]? = some c → No8 c := fun j c hj => by
  rw [List.getElem?_toArray] at hj
  exact h c (List.mem_of_getElem? hj)
theorem BytesAt.no8 {w : World} {v : Value} {l : List UInt8} (h : BytesAt w v l) : No8 v := by
  obtain ⟨a, cap, rfl, _⟩ := h
  exact no8_slice
theorem zero_cells_no8 (z : Array Value) (n : Nat) (hz : ∀ (j : Nat) (c : Value), z[j]? = some c → No8 c) (hz0 : 0 < z.size) : ∀ (j : Nat) (c : Value), (Builtin.zeroCells z n)[j]? = some c → No8 c := fun j c hj => by
  unfold Builtin.zeroCells at hj
  rw [Array.getElem?_map] at hj
  obtain ⟨i, _, rfl⟩ := Option.map_eq_some_iff.1 hj
  have hlt : i % z.size < z.size := Nat.mod_lt _ hz0
  rw [getElem!_pos z _ hlt]
  exact hz _ _ (Array.getElem?_eq_getElem hlt)
theorem app_no8 {a b : Array Value} (ha : ∀ (j : Nat) (c : Value), a[j]? = some c → No8 c) (hb : ∀ (j : Nat) (c : Value), b[j]? = some c → No8 c) : ∀ (j : Nat) (c : Value), (a ++ b)[j]? = some c → No8 c := fun j c hj => by
  rw [Array.getElem?_append] at hj
  split at hj
  · exact ha _ _ hj
  · exact hb _ _ hj
/-- append to a row of the call's own: what it gives, and that no byte has come into it. -/
theorem run_append_no8 {P : Program} (w : World) (t ty e : TypeId) (i : TypeInfo) (z : Value) (size bytes : Nat) (ht : P.underlying t = some (.slice e)) (hi : P.info? e = some i) (hz : i.zero = some z)
    (hsize : i.size = size) (hby : i.bytes = bytes) (hzs : z.cells.size = size) (hsz : 0 < size) (hz8 : ∀ (j : Nat) (c : Value), z.cells[j]? = some c → No8 c)
    (v : Value) (n : Nat) (xs : List Value) (hown : w.ownsRow 0 e size v n xs) (hx8 : ∀ c ∈ xs, No8 c) (hv8 : ∀ x, v.ownBlock = some x → NoU8 w x)
    (ad : Addr) (c : Nat) (news : List Value) (hl : news.length = size) (hnews : ∀ j u, news[j]? = some u → w.cell? (ad.add j) = some u) (h1 : ∀ u ∈ news, u.oneCell' = true) (hn8 : ∀ c ∈ news, No8 c)
    (h63 : n + 1 ≤ maxLen) (hbytes : (n + 1) * bytes ≤ 140737488355328) :
    ∃ g cap w', (Builtin.append_ #[t, t] ty #[v, .slice (some ad) 1 c]).run P w = .ok (.slice (some ⟨g, 0, none⟩) (n + 1) cap) w' ∧
      w'.ownsRow 0 e size (.slice (some ⟨g, 0, none⟩) (n + 1) cap) (n + 1) (xs ++ news) ∧ w.grownBy w' v.ownBlock ∧ (v.ownBlock = some g ∨ g = w.heap.size) ∧ g < w'.heap.size ∧ NoU8 w' g := by
  subst hsize
  subst hby
  obtain ⟨v', w', hr, h2, h3, _, h5⟩ := run_append_own_at (P := P) w 0 t ty e i z i.size i.bytes ht hi hz rfl rfl hzs hsz v n xs hown ad 1 c news (by rw [hl, Nat.one_mul]) hnews h1 h63 hbytes (Nat.zero_le _)
  obtain ⟨g, cap, rfl, _, hlt⟩ := h2.form (by omega)
  have hat : v.ownBlock = some g ∨ g = w.heap.size := by
    rcases h5 with h5 | h5
    · exact .inl (by rw [← h5]; rfl)
    · exact .inr (by simpa [Value.ownBlock] using h5)
  refine ⟨g, cap, w', hr, h2, h3, hat, hlt, ?_⟩
  have hsmall : n + 1 ≤ 9223372036854775807 := by simp only [maxLen] at h63; omega
  have hfit0 : Builtin.nextslicecap (n + 1) 0 * i.bytes ≤ 281474976710656 := by rw [nextslicecap_zero (by omega)]; omega
  have hall : ∀ k, (∀ (j : Nat) (c : Value), (xs.toArray ++ news.toArray ++ Builtin.zeroCells z.cells k)[j]? = some c → No8 c) := fun k =>
    app_no8 (app_no8 (no8_list hx8) (no8_list hn8)) (zero_cells_no8 _ _ hz8 (by omega))
  rcases hown.2 with ⟨rfl, h0⟩ | ⟨g0, cap0, cur, rfl, _, hg0, hnc, hcm, hcs, htake⟩
  · subst h0
    have hxs : xs = [] := List.eq_nil_of_length_eq_zero (by rw [hown.1, Nat.zero_mul])
    subst hxs
    have h := run_append_nil (P := P) (w := w) t ty e i z ht hi hz ad 1 c news (by rw [hl, Nat.one_mul]) hnews (by omega) (by omega) (by omega)
    rw [h] at hr
    simp only [Result.ok.injEq, Value.slice.injEq, Option.some.injEq, Addr.mk.injEq] at hr
    obtain ⟨⟨⟨rfl, -⟩, -⟩, rfl⟩ := hr
    exact NoU8.mk (heap_alloc_new w.drew _) (app_no8 (no8_list hn8) (zero_cells_no8 _ _ hz8 (by omega)))
  · have hg8 := hv8 g0 rfl
    by_cases hroom : n + 1 ≤ cap0
    · have hsz2 : (n + 1) * i.size ≤ cap0 * i.size := Nat.mul_le_mul_right _ hroom
      rw [Nat.add_mul, Nat.one_mul] at hsz2
      have h := run_append_room (P := P) (w := w) t ty e i ht hi g0 n cap0 cur hg0 ad 1 c news (by rw [hl, Nat.one_mul]) hnews h1 hroom (by rw [hl, hcs]; omega)
      rw [h] at hr
      simp only [Result.ok.injEq, Value.slice.injEq, Option.some.injEq, Addr.mk.injEq] at hr
      obtain ⟨⟨⟨rfl, -⟩, -⟩, rfl⟩ := hr
      refine NoU8.mk (setRow_heap w g0 cur _ e _ hg0) (no8_list (fun c hc => ?_))
      have hcur : ∀ c ∈ cur.toList, No8 c := fun c hc => by
        obtain ⟨j, hj⟩ := List.getElem?_of_mem hc
        exact hg8 cur e _ hg0 j c (by simpa using hj)
      rcases List.mem_append.1 hc with hc | hc
      · rcases List.mem_append.1 hc with hc | hc
        · exact hcur c (List.mem_of_mem_take hc)
        · exact hn8 c hc
      · exact hcur c (List.mem_of_mem_drop hc)
    · have holds : ∀ j v, xs[j]? = some v → w.cell? ((⟨g0, 0, none⟩ : Addr).add j) = some v := fun j v hj => hown.cells (g := g0) rfl j v hj
      have h := run_append_grow (P := P) (w := w) t ty e i z ht hi hz ⟨g0, 0, none⟩ n cap0 xs hown.1 holds ad 1 c news (by rw [hl, Nat.one_mul]) hnews (by omega) (by omega) (growslice_fits (by omega) hbytes)
      rw [h] at hr
      simp only [Result.ok.injEq, Value.slice.injEq, Option.some.injEq, Addr.mk.injEq] at hr
      obtain ⟨⟨⟨rfl, -⟩, -⟩, rfl⟩ := hr
      exact NoU8.mk (heap_alloc_new w.drew _) (hall _)
/-- At the operation; the element lies in a block just made. -/
theorem wp_append_no8 {P : Program} {o : Oper} {a : Act} {w : World} {K : Act → World → Prop} {Q : Exit → Act → World → Prop} (s x : Operand) (t : TypeId) (ho : o.op = .call { callee := .builtin .append, args := #[s, x], argTypes := #[t, t] })
    (e : TypeId) (i : TypeInfo) (z : Value) (size bytes : Nat) (ht : P.underlying t = some (.slice e)) (hi : P.info? e = some i) (hz : i.zero = some z)
    (hsize : i.size = size) (hby : i.bytes = bytes) (hzs : z.cells.size = size) (hsz : 0 < size) (hz8 : ∀ (j : Nat) (c : Value), z.cells[j]? = some c → No8 c)
    (v : Value) (n : Nat) (xs : List Value) (hs : a.eval s = v) (hown : w.ownsRow 0 e size v n xs) (hx8 : ∀ c ∈ xs, No8 c) (hv8 : ∀ x, v.ownBlock = some x → NoU8 w x)
    (ad : Addr) (c : Nat) (hx : a.eval x = .slice (some ad) 1 c) (news : List Value) (hl : news.length = size) (hnews : ∀ j u, news[j]? = some u → w.cell? (ad.add j) = some u) (h1 : ∀ u ∈ news, u.oneCell' = true) (hn8 : ∀ c ∈ news, No8 c)
    (h63 : n + 1 ≤ maxLen) (hbytes : (n + 1) * bytes ≤ 140737488355328)
    (h : ∀ g cap w', w'.ownsRow 0 e size (.slice (some ⟨g, 0, none⟩) (n + 1) cap) (n + 1) (xs ++ news) → w.grownBy w' v.ownBlock → (v.ownBlock = some g ∨ g = w.heap.size) → g < w'.heap.size → NoU8 w' g → K (a.put o.dst (.slice (some ⟨g, 0, none⟩) (n + 1) cap)) w') : o.wp P a w K Q := by
  obtain ⟨g, cap, w', hr, h2, h3, h4, h5, h6⟩ := run_append_no8 (P := P) w t o.type e i z size bytes ht hi hz hsize hby hzs hsz hz8 v n xs hown hx8 hv8 ad c news hl hnews h1 hn8 h63 hbytes
  unfold Oper.wp execOp
  simp only [ho, resolve, invoke, builtin, Sem.run_bind, Sem.run_pure, Result.andThen_ok, List.map_toArray, List.map_cons, List.map_nil, hs, hx, hr]
  exact h g cap w' h2 h3 h4 h5 h6
theorem wpList_append_no8 {P : Program} {ops : Array Oper} {rest : List Oper} {o : Oper} {a : Act} {w : World} {Q : Exit → Act → World → Prop} (hgd : o.guard = none) (s x : Operand) (t : TypeId) (ho : o.op = .call { callee := .builtin .append, args := #[s, x], argTypes := #[t, t] })
    (e : TypeId) (i : TypeInfo) (z : Value) (size bytes : Nat) (ht : P.underlying t = some (.slice e)) (hi : P.info? e = some i) (hz : i.zero = some z)
    (hsize : i.size = size) (hby : i.bytes = bytes) (hzs : z.cells.size = size) (hsz : 0 < size) (hz8 : ∀ (j : Nat) (c : Value), z.cells[j]? = some c → No8 c)
    (v : Value) (n : Nat) (xs : List Value) (hs : a.eval s = v) (hown : w.ownsRow 0 e size v n xs) (hx8 : ∀ c ∈ xs, No8 c) (hv8 : ∀ x, v.ownBlock = some x → NoU8 w x)
    (ad : Addr) (c : Nat) (hx : a.eval x = .slice (some ad) 1 c) (news : List Value) (hl : news.length = size) (hnews : ∀ j u, news[j]? = some u → w.cell? (ad.add j) = some u) (h1 : ∀ u ∈ news, u.oneCell' = true) (hn8 : ∀ c ∈ news, No8 c)
    (h63 : n + 1 ≤ maxLen) (hbytes : (n + 1) * bytes ≤ 140737488355328)
    (h : ∀ g cap w', w'.ownsRow 0 e size (.slice (some ⟨g, 0, none⟩) (n + 1) cap) (n + 1) (xs ++ news) → w.grownBy w' v.ownBlock → (v.ownBlock = some g ∨ g = w.heap.size) → g < w'.heap.size → NoU8 w' g → wpList P ops Q rest (a.put o.dst (.slice (some ⟨g, 0, none⟩) (n + 1) cap)) w') : wpList P ops Q (o :: rest) a w :=
  wpList_plain hgd fun K hK => wp_append_no8 s x t ho e i z size bytes ht hi hz hsize hby hzs hsz hz8 v n xs hs hown hx8 hv8 ad c hx news hl hnews h1 hn8 h63 hbytes (fun g cap w' h1 h2 h3 h4 h5 => hK _ _ (h g cap w' h1 h2 h3 h4 h5))
/-- Where the walk is to stand still. -/
def Stay (p : Prop) : Prop := p
theorem stay_of {p : Prop} (h : Stay p) : p := h
theorem news_one {w : World} {e : TypeId} {u : Value} {N : Nat} (hN : N = w.heap.size) : ∀ j x, [u][j]? = some x → (w.alloc (.cells #[u] e)).cell? ((⟨N, 0, none⟩ : Addr).add j) = some x := fun j x hj => by
  subst hN
  cases j with
  | zero => simp at hj; subst hj; rw [add_none]; exact blk_cell (heap_alloc_new w _) 0 _ rfl
  | succ j => simp at hj
theorem one_z8 {z : Value} (h : z.cells = #[z]) (h8 : No8 z) : ∀ (j : Nat) (c : Value), z.cells[j]? = some c → No8 c := fun j c hj => by
  rw [h] at hj
  cases j with
  | zero => simp at hj; subst hj; exact h8
  | succ j => simp at hj
end Go.Proofs.YtipfgghdoicdhaaDoor.W

/- The reference's disk in memory; op. -/
namespace Go.Proofs.YtipfgghdoicdhaaDoor.W
open Go.RowKit
set_option linter.unusedVariables false
set_option linter.unusedSimpArgs false

theorem blks_mem {p : Nat} {rs : List RowD} {x : Nat} : x ∈ blks p rs ↔ x = p ∨ ∃ r ∈ rs, r.v.ownBlock = some x := by
  constructor
  · exact mem_blks
  · rintro (rfl | ⟨r, hr, he⟩)
    · exact blks_head
    · exact blks_row hr he
def rrows (n : Nat) (nv lv av wv : Value) (NV LV AV WV : List Value) : List RowD := [⟨31, 1, nv, n, NV⟩, ⟨31, 1, lv, n, LV⟩, ⟨3, 1, av, AV.length, AV⟩, ⟨31, 1, wv, WV.length, WV⟩]
def rcs (d : DS) (nv lv av wv : Value) : Array Value := #[nv, lv, av, wv, .int .i64 (d.ops : Int), .int .i64 d.fuse, .bool d.dead]
/-- The reference's disk in block m; V: what may be written; F: all its blocks. -/
structure RDiskOk (w : World) (m : Nat) (V F : List Nat) (d : DS) (nv lv av wv : Value) (NV LV AV WV : List Value) : Prop where
  obj : ObjAt w m 67 (rcs d nv lv av wv) (rrows d.n nv lv av wv NV LV AV WV)
  now : ∀ k, k < d.n → (d.now k).length = 64 ∧ BytesAt w (NV.getD k undef) (d.now k) ∧ ∀ g, (NV.getD k undef).ownBlock = some g → g ∈ F ∧ g ∉ V
  lasts : ∀ c ∈ LV, No8 c
  ats : (∀ c ∈ AV, No8 c) ∧ AV.length ≤ d.since.length
  wrote : (∀ c ∈ WV, No8 c) ∧ WV.length ≤ d.since.length
  few : d.n ≤ 4160
  fuse : -1 ≤ d.fuse ∧ d.fuse ≤ 9223372036854775807
  mem : V = blks m (rrows d.n nv lv av wv NV LV AV WV)
  no8 : ∀ x ∈ V, NoU8 w x
  sub : ∀ x ∈ V, x ∈ F
  lim : ∀ x ∈ F, x < w.heap.size
def RDiskAt (w : World) (m : Nat) (V F : List Nat) (d : DS) : Prop := ∃ nv lv av wv NV LV AV WV, RDiskOk w m V F d nv lv av wv NV LV AV WV
theorem RDiskAt.keep {w w' : World} {m : Nat} {V F T : List Nat} {d : DS} (h : RDiskAt w m V F d) (hc : Chg T w w') (ha : ∀ x ∈ F, x ∉ T) : RDiskAt w' m V F d := by
  obtain ⟨nv, lv, av, wv, NV, LV, AV, WV, h⟩ := h
  refine ⟨nv, lv, av, wv, NV, LV, AV, WV, h.obj.keep hc (fun x hx => ha x (h.sub x (by rw [h.mem]; exact hx))), fun k hk => ?_, h.lasts, h.ats, h.wrote, h.few, h.fuse, h.mem, fun x hx => (h.no8 x hx).keep (hc.block x (h.lim x (h.sub x hx)) (ha x (h.sub x hx))), h.sub, fun x hx => Nat.lt_of_lt_of_le (h.lim x hx) hc.size⟩
  obtain ⟨h1, h2, h3⟩ := h.now k hk
  exact ⟨h1, h2.chg hc (fun g hg => ha g (h3 g hg).1), h3⟩
theorem RDiskOk.keep0 {w w' : World} {m : Nat} {V F : List Nat} {d : DS} {nv lv av wv : Value} {NV LV AV WV : List Value} (h : RDiskOk w m V F d nv lv av wv NV LV AV WV) (hc : Chg [] w w') : RDiskOk w' m V F d nv lv av wv NV LV AV WV := by
  refine ⟨h.obj.keep hc (by simp), fun k hk => ?_, h.lasts, h.ats, h.wrote, h.few, h.fuse, h.mem, fun x hx => (h.no8 x hx).keep (hc.block x (h.lim x (h.sub x hx)) (by simp)), h.sub, fun x hx => Nat.lt_of_lt_of_le (h.lim x hx) hc.size⟩
  obtain ⟨h1, h2, h3⟩ := h.now k hk
  exact ⟨h1, h2.chg hc (by simp), h3⟩
theorem RDiskAt.lim {w : World} {m : Nat} {V F : List Nat} {d : DS} (h : RDiskAt w m V F d) : (∀ x ∈ F, x < w.heap.size) ∧ (∀ x ∈ V, x ∈ F) ∧ ∀ x ∈ V, NoU8 w x := by
  obtain ⟨nv, lv, av, wv, NV, LV, AV, WV, h⟩ := h
  exact ⟨h.lim, h.sub, h.no8⟩
/-- What doing with it leaves. -/
def RDid (w w' : World) (m : Nat) (V F : List Nat) (d : DS) : Prop := ∃ V' F', RDiskAt w' m V' F' d ∧ (∀ x ∈ V', x ∈ V ∨ w.heap.size ≤ x) ∧ (∀ x ∈ F', x ∈ F ∨ w.heap.size ≤ x) ∧ Chg V w w'
theorem RDid.same {w : World} {m : Nat} {V F : List Nat} {d : DS} (h : RDiskAt w m V F d) : RDid w w m V F d := ⟨V, F, h, fun x hx => .inl hx, fun x hx => .inl hx, Chg.refl _ _⟩
theorem RDid.glue {w w1 w2 : World} {m : Nat} {V F V1 F1 : List Nat} {d : DS} (hv : ∀ x ∈ V1, x ∈ V ∨ w.heap.size ≤ x) (hf : ∀ x ∈ F1, x ∈ F ∨ w.heap.size ≤ x) (hc : Chg V w w1) (h : RDid w1 w2 m V1 F1 d) : RDid w w2 m V F d := by
  obtain ⟨V2, F2, b1, b2, b3, b4⟩ := h
  refine ⟨V2, F2, b1, fun x hx => ?_, fun x hx => ?_, hc.trans b4 hv⟩
  · rcases b2 x hx with h | h
    · exact hv x h
    · exact .inr (Nat.le_trans hc.size h)
  · rcases b3 x hx with h | h
    · exact hf x h
    · exact .inr (Nat.le_trans hc.size h)
theorem RDid.pre {w0 w w' : World} {m : Nat} {V F : List Nat} {d : DS} (hc : Chg [] w0 w) (h : RDid w w' m V F d) : RDid w0 w' m V F d := RDid.glue (fun x hx => .inl hx) (fun x hx => .inl hx) (hc.mono (by simp)) h
theorem RDid.trans {w w1 w2 : World} {m : Nat} {V F : List Nat} {d1 d2 : DS} (h1 : RDid w w1 m V F d1) (h2 : ∀ V1 F1, RDiskAt w1 m V1 F1 d1 → RDid w1 w2 m V1 F1 d2) : RDid w w2 m V F d2 := by
  obtain ⟨V1, F1, a1, a2, a3, a4⟩ := h1
  exact RDid.glue a2 a3 a4 (h2 V1 F1 a1)
theorem RDiskOk.head {w : World} {m : Nat} {V F : List Nat} {d : DS} {nv lv av wv : Value} {NV LV AV WV : List Value} (h : RDiskOk w m V F d nv lv av wv NV LV AV WV) : w.heap[m]? = some (.cells #[nv, lv, av, wv, .int .i64 (d.ops : Int), .int .i64 d.fuse, .bool d.dead] 67 (0, 0)) := h.obj.head
/-- A store into a counter. -/
theorem RDiskOk.put {w w' : World} {m : Nat} {V F : List Nat} {d d' : DS} {nv lv av wv : Value} {NV LV AV WV : List Value} (h : RDiskOk w m V F d nv lv av wv NV LV AV WV) (hc : Chg [m] w w') (hn : NoU8 w' m)
    (hh : w'.heap[m]? = some (.cells (rcs d' nv lv av wv) 67 (0, 0))) (e1 : d'.n = d.n) (e2 : d'.now = d.now) (e3 : d'.since = d.since) (e5 : -1 ≤ d'.fuse ∧ d'.fuse ≤ 9223372036854775807) : RDid w w' m V F d' := by
  have hmV : m ∈ V := by rw [h.mem]; exact blks_head
  have hNV : ∀ k, k < d.n → ∀ g, (NV.getD k undef).ownBlock = some g → g ∉ [m] := fun k hk g hg hm => (h.now k hk).2.2 g hg |>.2 (by rw [List.mem_singleton.1 hm]; exact hmV)
  refine ⟨V, F, ⟨nv, lv, av, wv, NV, LV, AV, WV, ⟨hh, fun r hr => ?_, by rw [e1]; exact h.obj.apart⟩, fun k hk => ?_, h.lasts, by rw [e3]; exact h.ats, by rw [e3]; exact h.wrote, by rw [e1]; exact h.few, e5, by rw [e1]; exact h.mem, fun x hx => ?_, h.sub, fun x hx => Nat.lt_of_lt_of_le (h.lim x hx) hc.size⟩, fun x hx => .inl hx, fun x hx => .inl hx, hc.mono (fun x hx => .inl (by rw [List.mem_singleton.1 hx]; exact hmV))⟩
  · rw [e1] at hr
    exact row_keep (h.obj.rows r hr) (fun g hg => hc.block g (World.ownsRow.lt (h.obj.rows r hr) g hg).2 (by
      intro hm
      exact h.obj.row_ne hr hg (List.mem_singleton.1 hm)))
  · rw [e1] at hk
    rw [e2]
    obtain ⟨h1, h2, h3⟩ := h.now k hk
    exact ⟨h1, h2.chg hc (hNV k hk), h3⟩
  · by_cases hxm : x = m
    · rw [hxm]; exact hn
    · exact (h.no8 x hx).keep (hc.block x (h.lim x (h.sub x hx)) (by simp; exact hxm))

set_option maxHeartbeats 2000000 in
set_option maxRecDepth 100000 in
theorem rop_any (m : Nat) (V F : List Nat) (d : DS) (w : World) (h : RDiskAt w m V F d) (ho : d.ops ≤ 1000000000) :
    Calls Tryd.prog 38 #[.pointer (some ⟨m, 0, none⟩)] w fun e w' => e = .returned (.bool (!d.op.1)) ∧ RDid w w' m V F d.op.2 := by
  obtain ⟨nv, lv, av, wv, NV, LV, AV, WV, H⟩ := h
  have HH := Lib.hid H
  have c4 := blk_cell H.head 4 _ rfl
  have c5 := blk_cell H.head 5 _ rfl
  have c6 := blk_cell H.head 6 _ rfl
  have f4 := blk_frozen H.head 4
  have f5 := blk_frozen H.head 5
  have f6 := blk_frozen H.head 6
  have hb := H.fuse
  have hlt := blk_lt H.head
  have n0 : NoU8 w m := H.no8 m (by rw [H.mem]; exact blks_head)
  clear H
  by_cases h0 : d.fuse = 0
  · have ho : Hid (d.op = (false, { d with dead := true })) := Lib.hid (by unfold DS.op; rw [if_pos h0])
    have HF : Hid (RDid w (w.setCell ⟨m, 6, none⟩ (.bool true)) m V F { d with dead := true }) := Lib.hid (HH.out.put ((Chg.refl _ _).setCell (.inl (by simp)) _) (n0.set hlt no8_bool) (set_blk HH.out.head) rfl rfl rfl HH.out.fuse)
    rw [ho.out]
    rw [h0] at c5
    clear h0 hb n0
    go_enter Tryd.func38, Tryd.ntmps38
    go_wp2
    go_ret
    exact ⟨rfl, HF.out⟩
  · have he : (d.fuse == 0) = false := by simp [h0]
    by_cases hp : 0 < d.fuse
    · have ho2 : Hid (d.op = (true, { d with fuse := d.fuse - 1, ops := d.ops + 1 })) := Lib.hid (by unfold DS.op; rw [if_neg h0, if_pos hp])
      have HF : Hid (RDid w ((w.setCell ⟨m, 5, none⟩ (.int .i64 (d.fuse - 1))).setCell ⟨m, 4, none⟩ (.int .i64 ((d.ops : Int) + 1))) m V F { d with fuse := d.fuse - 1, ops := d.ops + 1 }) :=
        Lib.hid (HH.out.put (((Chg.refl _ _).setCell (.inl (by simp)) _).setCell (.inl (by simp)) _) ((n0.set hlt no8_i64).set (by simpa [World.setCell] using hlt) no8_i64) (set_blk (set_blk HH.out.head)) rfl rfl rfl (by show -1 ≤ d.fuse - 1 ∧ d.fuse - 1 ≤ 9223372036854775807; omega))
      have d1 : decide (d.fuse > 0) = true := decide_eq_true hp
      have w1 : IntKind.i64.wrap (d.fuse - 1) = d.fuse - 1 := by rw [IntKind.wrap_i64]; omega
      have w2 : IntKind.i64.wrap ((d.ops : Int) + 1) = (d.ops : Int) + 1 := by rw [IntKind.wrap_i64]; omega
      rw [ho2.out]
      clear ho2 n0
      generalize d.fuse = fu at *
      generalize d.ops = op at *
      go_enter Tryd.func38, Tryd.ntmps38
      go_wp2
      go_ret
      exact ⟨rfl, HF.out⟩
    · have ho2 : Hid (d.op = (true, { d with fuse := d.fuse, ops := d.ops + 1 })) := Lib.hid (by unfold DS.op; rw [if_neg h0, if_neg hp])
      have HF : Hid (RDid w (w.setCell ⟨m, 4, none⟩ (.int .i64 ((d.ops : Int) + 1))) m V F { d with fuse := d.fuse, ops := d.ops + 1 }) :=
        Lib.hid (HH.out.put ((Chg.refl _ _).setCell (.inl (by simp)) _) (n0.set hlt no8_i64) (set_blk HH.out.head) rfl rfl rfl HH.out.fuse)
      have d1 : decide (d.fuse > 0) = false := decide_eq_false hp
      have w2 : IntKind.i64.wrap ((d.ops : Int) + 1) = (d.ops : Int) + 1 := by rw [IntKind.wrap_i64]; omega
      rw [ho2.out]
      clear ho2 n0
      generalize d.fuse = fu at *
      generalize d.ops = op at *
      go_enter Tryd.func38, Tryd.ntmps38
      go_wp2
      go_ret
      exact ⟨rfl, HF.out⟩
end Go.Proofs.YtipfgghdoicdhaaDoor.W

/- The reference's disk: its fields are set. -/
namespace Go.Proofs.YtipfgghdoicdhaaDoor.W
open Go.RowKit
set_option linter.unusedVariables false
set_option linter.unusedSimpArgs false

/-- A field that is a row is another row: grown, or new. -/
theorem ObjAt.field {w w2 : World} {p t : Nat} {cs : Array Value} {a b : List RowD} {r r' : RowD} (h : ObjAt w p t cs (a ++ r :: b)) (j : Nat) (hg : w.grownBy w2 r.v.ownBlock) (hrow : r'.At w2)
    (hat : ∀ k, r'.v.ownBlock = some k → r.v.ownBlock = some k ∨ w.heap.size ≤ k) : ObjAt (w2.setCell ⟨p, j, none⟩ r'.v) p t (cs.setIfInBounds j r'.v) (a ++ r' :: b) ∧ (∀ x ∈ blks p (a ++ r' :: b), x ∈ blks p (a ++ r :: b) ∨ w.heap.size ≤ x) ∧ Chg (blks p (a ++ r :: b)) w (w2.setCell ⟨p, j, none⟩ r'.v) := by
  obtain ⟨g1, g2, g3⟩ := h.grow hg hrow hat
  exact ⟨g1.setHead j r'.v, g2, g3.setCell (p := ⟨p, j, none⟩) (.inl blks_head) _⟩
theorem RDiskOk.turn {w w3 : World} {m : Nat} {V F : List Nat} {d d' : DS} {nv lv av wv av' wv' : Value} {NV LV AV WV AV' WV' : List Value} (h : RDiskOk w m V F d nv lv av wv NV LV AV WV)
    (hobj : ObjAt w3 m 67 (rcs d' nv lv av' wv') (rrows d'.n nv lv av' wv' NV LV AV' WV')) (hb : ∀ x ∈ blks m (rrows d'.n nv lv av' wv' NV LV AV' WV'), x ∈ V ∨ w.heap.size ≤ x) (hc : Chg V w w3)
    (h8 : ∀ x ∈ blks m (rrows d'.n nv lv av' wv' NV LV AV' WV'), NoU8 w3 x) (en : d'.n = d.n) (enow : d'.now = d.now) (ef : d'.fuse = d.fuse) (hA : (∀ c ∈ AV', No8 c) ∧ AV'.length ≤ d'.since.length) (hW : (∀ c ∈ WV', No8 c) ∧ WV'.length ≤ d'.since.length) :
    RDiskOk w3 m (blks m (rrows d'.n nv lv av' wv' NV LV AV' WV')) (F ++ blks m (rrows d'.n nv lv av' wv' NV LV AV' WV')) d' nv lv av' wv' NV LV AV' WV' := by
  refine ⟨hobj, fun k hk => ?_, h.lasts, hA, hW, by rw [en]; exact h.few, by rw [ef]; exact h.fuse, rfl, h8, fun x hx => List.mem_append_right _ hx, fun x hx => ?_⟩
  · rw [en] at hk
    rw [enow]
    obtain ⟨h1, h2, h3⟩ := h.now k hk
    refine ⟨h1, h2.chg hc (fun g hg => (h3 g hg).2), fun g hg => ⟨List.mem_append_left _ (h3 g hg).1, fun hm => ?_⟩⟩
    rcases hb g hm with h4 | h4
    · exact (h3 g hg).2 h4
    · have := h.lim g (h3 g hg).1; omega
  · rcases List.mem_append.1 hx with hx | hx
    · exact Nat.lt_of_lt_of_le (h.lim x hx) hc.size
    · exact hobj.lim x hx
theorem RDiskOk.row {w : World} {m : Nat} {V F : List Nat} {d : DS} {nv lv av wv : Value} {NV LV AV WV : List Value} (h : RDiskOk w m V F d nv lv av wv NV LV AV WV) : w.ownsRow 0 31 1 nv d.n NV ∧ w.ownsRow 0 31 1 lv d.n LV ∧ w.ownsRow 0 3 1 av AV.length AV ∧ w.ownsRow 0 31 1 wv WV.length WV :=
  ⟨h.obj.rows _ (by simp [rrows] : (⟨31, 1, nv, d.n, NV⟩ : RowD) ∈ _), h.obj.rows _ (by simp [rrows] : (⟨31, 1, lv, d.n, LV⟩ : RowD) ∈ _), h.obj.rows _ (by simp [rrows] : (⟨3, 1, av, AV.length, AV⟩ : RowD) ∈ _), h.obj.rows _ (by simp [rrows] : (⟨31, 1, wv, WV.length, WV⟩ : RowD) ∈ _)⟩
theorem RDiskOk.in {w : World} {m : Nat} {V F : List Nat} {d : DS} {nv lv av wv : Value} {NV LV AV WV : List Value} (h : RDiskOk w m V F d nv lv av wv NV LV AV WV) : m ∈ V ∧ (∀ x, nv.ownBlock = some x → x ∈ V) ∧ (∀ x, lv.ownBlock = some x → x ∈ V) ∧ (∀ x, av.ownBlock = some x → x ∈ V) ∧ ∀ x, wv.ownBlock = some x → x ∈ V := by
  rw [h.mem]
  refine ⟨blks_head, fun x hx => ?_, fun x hx => ?_, fun x hx => ?_, fun x hx => ?_⟩
  · exact blks_row (r := ⟨31, 1, nv, d.n, NV⟩) (by simp [rrows]) hx
  · exact blks_row (r := ⟨31, 1, lv, d.n, LV⟩) (by simp [rrows]) hx
  · exact blks_row (r := ⟨3, 1, av, AV.length, AV⟩) (by simp [rrows]) hx
  · exact blks_row (r := ⟨31, 1, wv, WV.length, WV⟩) (by simp [rrows]) hx
theorem ObjAt.other_ne {w : World} {p t : Nat} {cs : Array Value} {a b : List RowD} {r q : RowD} (h : ObjAt w p t cs (a ++ r :: b)) (hq : q ∈ a ∨ q ∈ b) {x : Nat} (hx : q.v.ownBlock = some x) : r.v.ownBlock ≠ some x := fun hr => by
  have hnd := (List.nodup_cons.1 h.apart).2
  rw [List.filterMap_append, List.filterMap_cons, hr] at hnd
  simp only at hnd
  have hd := List.nodup_append.1 hnd
  rcases hq with hq | hq
  · exact hd.2.2 x (List.mem_filterMap.2 ⟨q, hq, hx⟩) x (List.mem_cons_self ..) rfl
  · exact (List.nodup_cons.1 hd.2.1).1 (List.mem_filterMap.2 ⟨q, hq, hx⟩)
/-- No byte comes into an object's blocks. -/
theorem ObjAt.field8 {w w2 : World} {p t : Nat} {cs : Array Value} {a b : List RowD} {r r' : RowD} (h : ObjAt w p t cs (a ++ r :: b)) (h8 : ∀ x ∈ blks p (a ++ r :: b), NoU8 w x) (j : Nat) (hg : w.grownBy w2 r.v.ownBlock)
    (hat : ∀ k, r'.v.ownBlock = some k → r.v.ownBlock = some k ∨ w.heap.size ≤ k) (h8' : ∀ x, r'.v.ownBlock = some x → NoU8 w2 x) (hu : No8 r'.v) : ∀ x ∈ blks p (a ++ r' :: b), NoU8 (w2.setCell ⟨p, j, none⟩ r'.v) x := fun x hx => by
  have hmr : r ∈ a ++ r :: b := List.mem_append_right _ (List.mem_cons_self ..)
  have hpl := blk_lt h.head
  have hp2 : w2.heap[p]? = w.heap[p]? := hg.block p hpl (fun e => h.row_ne hmr e.symm rfl)
  have hset : ∀ x, x ≠ p → (w2.setCell ⟨p, j, none⟩ r'.v).heap[x]? = w2.heap[x]? := fun x hx => Below.heap_setCell w2 ⟨p, j, none⟩ _ x hx
  have hother : ∀ q, q ∈ a ∨ q ∈ b → q ∈ a ++ r :: b → q.v.ownBlock = some x → NoU8 (w2.setCell ⟨p, j, none⟩ r'.v) x := fun q hq hm he => by
    have h1 := h.row_ne hm he
    have h2 := h.other_ne hq he
    have h3 := h.lim x (blks_row hm he)
    exact (h8 x (blks_row hm he)).keep ((hset x h1).trans (hg.block x h3 (fun e => h2 e.symm)))
  rcases mem_blks hx with rfl | ⟨q, hq, he⟩
  · exact ((h8 x blks_head).keep hp2).set (Nat.lt_of_lt_of_le hpl hg.size) hu
  · rcases List.mem_append.1 hq with hq | hq
    · exact hother q (.inl hq) (List.mem_append_left _ hq) he
    · rcases List.mem_cons.1 hq with rfl | hq
      · have hxp : x ≠ p := fun e => by
          rcases hat x he with h1 | h1
          · exact h.row_ne hmr h1 e
          · omega
        exact (h8' x he).keep (hset x hxp)
      · exact hother q (.inr hq) (List.mem_append_right _ (List.mem_cons_of_mem _ hq)) he
/-- At grows. -/
theorem RDiskOk.at {w w2 : World} {m : Nat} {V F : List Nat} {d : DS} {nv lv av wv : Value} {NV LV AV WV : List Value} (h : RDiskOk w m V F d nv lv av wv NV LV AV WV) (x : Nat × List UInt8) (u : Value) (g cap : Nat) (hg : w.grownBy w2 av.ownBlock)
    (hrow : w2.ownsRow 0 3 1 (.slice (some ⟨g, 0, none⟩) (AV.length + 1) cap) (AV.length + 1) (AV ++ [u])) (hat : av.ownBlock = some g ∨ g = w.heap.size) (h8 : NoU8 w2 g) (hu : No8 u) :
    ∃ V' F', RDiskOk (w2.setCell ⟨m, 2, none⟩ (.slice (some ⟨g, 0, none⟩) (AV.length + 1) cap)) m V' F' { d with since := d.since ++ [x] } nv lv (.slice (some ⟨g, 0, none⟩) (AV.length + 1) cap) wv NV LV (AV ++ [u]) WV ∧
      (∀ x ∈ V', x ∈ V ∨ w.heap.size ≤ x) ∧ (∀ x ∈ F', x ∈ F ∨ w.heap.size ≤ x) ∧ Chg V w (w2.setCell ⟨m, 2, none⟩ (.slice (some ⟨g, 0, none⟩) (AV.length + 1) cap)) := by
  have hloc : ∀ k, (Value.slice (some ⟨g, 0, none⟩) (AV.length + 1) cap).ownBlock = some k → av.ownBlock = some k ∨ w.heap.size ≤ k := fun k hk => by
    obtain rfl : g = k := by simpa [Value.ownBlock] using hk
    rcases hat with h4 | h4
    · exact .inl h4
    · exact .inr (by omega)
  have hobj : ObjAt w m 67 (rcs d nv lv av wv) ([⟨31, 1, nv, d.n, NV⟩, ⟨31, 1, lv, d.n, LV⟩] ++ (⟨3, 1, av, AV.length, AV⟩ : RowD) :: [⟨31, 1, wv, WV.length, WV⟩]) := h.obj
  obtain ⟨o1, o2, o3⟩ := hobj.field (r' := ⟨3, 1, .slice (some ⟨g, 0, none⟩) (AV.length + 1) cap, (AV ++ [u]).length, AV ++ [u]⟩) 2 hg (by
    show w2.ownsRow 0 3 1 (.slice (some ⟨g, 0, none⟩) (AV.length + 1) cap) (AV ++ [u]).length (AV ++ [u])
    rw [List.length_append]
    exact hrow) hloc
  have hV : V = blks m (rrows d.n nv lv av wv NV LV AV WV) := h.mem
  have hV' : ∀ x ∈ blks m (rrows d.n nv lv (.slice (some ⟨g, 0, none⟩) (AV.length + 1) cap) wv NV LV (AV ++ [u]) WV), x ∈ V ∨ w.heap.size ≤ x := fun x hx => by rw [hV]; exact o2 x hx
  have hc : Chg V w (w2.setCell ⟨m, 2, none⟩ (.slice (some ⟨g, 0, none⟩) (AV.length + 1) cap)) := by rw [hV]; exact o3
  refine ⟨_, _, h.turn (d' := { d with since := d.since ++ [x] }) o1 hV' hc (hobj.field8 (fun y hy => h.no8 y (by rw [h.mem]; exact hy)) 2 hg (r' := ⟨3, 1, .slice (some ⟨g, 0, none⟩) (AV.length + 1) cap, (AV ++ [u]).length, AV ++ [u]⟩) hloc (fun y hy => by
    obtain rfl : g = y := by simpa [Value.ownBlock] using hy
    exact h8) no8_slice) rfl rfl rfl ⟨fun c hc => ?_, by simp; exact h.ats.2⟩ ⟨h.wrote.1, by simp; exact Nat.le_succ_of_le h.wrote.2⟩, hV', fun y hy => ?_, hc⟩
  · rcases List.mem_append.1 hc with hc | hc
    · exact h.ats.1 c hc
    · rw [List.mem_singleton.1 hc]; exact hu
  · rcases List.mem_append.1 hy with hy | hy
    · exact .inl hy
    · rcases hV' y hy with h4 | h4
      · exact .inl (h.sub y h4)
      · exact .inr h4
/-- Wrote grows, behind At. -/
theorem RDiskOk.more {w w2 : World} {m : Nat} {V F : List Nat} {d : DS} {nv lv av wv : Value} {NV LV AV WV : List Value} (h : RDiskOk w m V F d nv lv av wv NV LV AV WV) (u : Value) (g cap : Nat) (hg : w.grownBy w2 wv.ownBlock)
    (hrow : w2.ownsRow 0 31 1 (.slice (some ⟨g, 0, none⟩) (WV.length + 1) cap) (WV.length + 1) (WV ++ [u])) (hat : wv.ownBlock = some g ∨ g = w.heap.size) (h8 : NoU8 w2 g) (hu : No8 u) (hl : WV.length + 1 ≤ d.since.length) :
    RDid w (w2.setCell ⟨m, 3, none⟩ (.slice (some ⟨g, 0, none⟩) (WV.length + 1) cap)) m V F d := by
  have hloc : ∀ k, (Value.slice (some ⟨g, 0, none⟩) (WV.length + 1) cap).ownBlock = some k → wv.ownBlock = some k ∨ w.heap.size ≤ k := fun k hk => by
    obtain rfl : g = k := by simpa [Value.ownBlock] using hk
    rcases hat with h4 | h4
    · exact .inl h4
    · exact .inr (by omega)
  have hobj : ObjAt w m 67 (rcs d nv lv av wv) ([⟨31, 1, nv, d.n, NV⟩, ⟨31, 1, lv, d.n, LV⟩, ⟨3, 1, av, AV.length, AV⟩] ++ (⟨31, 1, wv, WV.length, WV⟩ : RowD) :: []) := h.obj
  obtain ⟨o1, o2, o3⟩ := hobj.field (r' := ⟨31, 1, .slice (some ⟨g, 0, none⟩) (WV.length + 1) cap, (WV ++ [u]).length, WV ++ [u]⟩) 3 hg (by
    show w2.ownsRow 0 31 1 (.slice (some ⟨g, 0, none⟩) (WV.length + 1) cap) (WV ++ [u]).length (WV ++ [u])
    rw [List.length_append]
    exact hrow) hloc
  have hV : V = blks m (rrows d.n nv lv av wv NV LV AV WV) := h.mem
  have hV' : ∀ x ∈ blks m (rrows d.n nv lv av (.slice (some ⟨g, 0, none⟩) (WV.length + 1) cap) NV LV AV (WV ++ [u])), x ∈ V ∨ w.heap.size ≤ x := fun x hx => by rw [hV]; exact o2 x hx
  have hc : Chg V w (w2.setCell ⟨m, 3, none⟩ (.slice (some ⟨g, 0, none⟩) (WV.length + 1) cap)) := by rw [hV]; exact o3
  refine ⟨_, _, ⟨_, _, _, _, _, _, _, _, h.turn (d' := d) o1 hV' hc (hobj.field8 (fun y hy => h.no8 y (by rw [h.mem]; exact hy)) 3 hg (r' := ⟨31, 1, .slice (some ⟨g, 0, none⟩) (WV.length + 1) cap, (WV ++ [u]).length, WV ++ [u]⟩) hloc (fun y hy => by
    obtain rfl : g = y := by simpa [Value.ownBlock] using hy
    exact h8) no8_slice) rfl rfl rfl h.ats ⟨fun c hc => ?_, by simp; exact hl⟩⟩, hV', fun y hy => ?_, hc⟩
  · rcases List.mem_append.1 hc with hc | hc
    · exact h.wrote.1 c hc
    · rw [List.mem_singleton.1 hc]; exact hu
  · rcases List.mem_append.1 hy with hy | hy
    · exact .inl hy
    · rcases hV' y hy with h4 | h4
      · exact .inl (h.sub y h4)
      · exact .inr h4
/-- A sector is another. -/
theorem RDiskOk.sec {w : World} {m : Nat} {V F : List Nat} {d : DS} {nv lv av wv : Value} {NV LV AV WV : List Value} (h : RDiskOk w m V F d nv lv av wv NV LV AV WV) (k g cap : Nat) (b : List UInt8) (u : Value) (hk : k < d.n) (hnv : nv = .slice (some ⟨g, 0, none⟩) d.n cap) (hb : b.length = 64) (hu : BytesAt w u b)
    (hown : ∀ x, u.ownBlock = some x → x < w.heap.size ∧ x ∉ V) : RDid w (w.setCell ⟨g, k, none⟩ u) m V (F ++ u.ownBlock.toList) { d with now := upd d.now k b } := by
  have hgV : g ∈ V := h.in.2.1 g (by rw [hnv]; rfl)
  have hc : Chg [g] w (w.setCell ⟨g, k, none⟩ u) := (Chg.refl _ w).setCell (p := ⟨g, k, none⟩) (.inl (by simp)) _
  have hcV : Chg V w (w.setCell ⟨g, k, none⟩ u) := hc.mono (fun x hx => .inl (by rw [List.mem_singleton.1 hx]; exact hgV))
  have hrows := h.row
  have hne : ∀ (r : RowD), r ∈ [(⟨31, 1, lv, d.n, LV⟩ : RowD), ⟨3, 1, av, AV.length, AV⟩, ⟨31, 1, wv, WV.length, WV⟩] → r.v.ownBlock ≠ some g := fun r hr he => by
    have hobj : ObjAt w m 67 (rcs d nv lv av wv) ([] ++ (⟨31, 1, nv, d.n, NV⟩ : RowD) :: [⟨31, 1, lv, d.n, LV⟩, ⟨3, 1, av, AV.length, AV⟩, ⟨31, 1, wv, WV.length, WV⟩]) := h.obj
    exact hobj.other_ne (.inr hr) he (by rw [hnv]; rfl)
  have hmg : m ≠ g := fun e => h.obj.row_ne (r := ⟨31, 1, nv, d.n, NV⟩) (by simp [rrows]) (k := g) (by rw [hnv]; rfl) e.symm
  have hlen : NV.length = d.n := by have := hrows.1.1; omega
  refine ⟨V, _, ⟨nv, lv, av, wv, NV.set k u, LV, AV, WV, ⟨hc.keep h.obj.head (by simp; exact hmg), fun r hr => ?_, h.obj.apart⟩, fun j hj => ?_, h.lasts, h.ats, h.wrote, h.few, h.fuse, h.mem, fun x hx => ?_, fun x hx => List.mem_append_left _ (h.sub x hx), fun x hx => ?_⟩, fun x hx => .inl hx, fun x hx => .inl hx, hcV⟩
  · simp only [rrows, List.mem_cons, List.mem_nil_iff, or_false] at hr
    rcases hr with rfl | hr
    · show (w.setCell ⟨g, k, none⟩ u).ownsRow 0 31 1 nv d.n (NV.set k u)
      have h1 := hrows.1
      rw [hnv] at h1 ⊢
      exact row_set h1 k u (by omega)
    · have hmem : r ∈ rrows d.n nv lv av wv NV LV AV WV := by rcases hr with rfl | rfl | rfl <;> simp [rrows]
      have hr' : r ∈ [(⟨31, 1, lv, d.n, LV⟩ : RowD), ⟨3, 1, av, AV.length, AV⟩, ⟨31, 1, wv, WV.length, WV⟩] := by rcases hr with rfl | rfl | rfl <;> simp
      exact row_keep (h.obj.rows r hmem) (fun y hy => hc.block y (World.ownsRow.lt (h.obj.rows r hmem) y hy).2 (by
        intro hm
        rw [List.mem_singleton.1 hm] at hy
        exact hne r hr' hy))
  · show (upd d.now k b j).length = 64 ∧ BytesAt _ ((NV.set k u).getD j undef) (upd d.now k b j) ∧ _
    have hset : (NV.set k u).getD j undef = if j = k then u else NV.getD j undef := by
      rw [List.getD_eq_getElem?_getD, List.getElem?_set, List.getD_eq_getElem?_getD]
      by_cases hjk : k = j
      · subst hjk; simp [hlen, hk]
      · rw [if_neg hjk, if_neg (fun e => hjk e.symm)]
    rw [hset]
    unfold upd
    by_cases hjk : j = k
    · rw [if_pos hjk, if_pos hjk]
      refine ⟨hb, hu.chg hcV (fun x hx => (hown x hx).2), fun x hx => ⟨List.mem_append_right _ (by rw [hx]; simp), (hown x hx).2⟩⟩
    · rw [if_neg hjk, if_neg hjk]
      obtain ⟨h1, h2, h3⟩ := h.now j hj
      exact ⟨h1, h2.chg hcV (fun x hx => (h3 x hx).2), fun x hx => ⟨List.mem_append_left _ (h3 x hx).1, (h3 x hx).2⟩⟩
  · by_cases hxg : x = g
    · rw [hxg]
      exact (h.no8 g hgV).set (h.lim g (h.sub g hgV)) hu.no8
    · exact (h.no8 x hx).keep (hc.block x (h.lim x (h.sub x hx)) (by simp; exact hxg))
  · rcases List.mem_append.1 hx with hx | hx
    · exact Nat.lt_of_lt_of_le (h.lim x hx) hc.size
    · have := (hown x (by simpa using hx)).1
      simpa [World.setCell] using this
/-- A sector that lasts is another. -/
theorem RDiskOk.last {w : World} {m : Nat} {V F : List Nat} {d : DS} {nv lv av wv : Value} {NV LV AV WV : List Value} (h : RDiskOk w m V F d nv lv av wv NV LV AV WV) (k g cap : Nat) (u : Value) (hk : k < d.n) (hlv : lv = .slice (some ⟨g, 0, none⟩) d.n cap) (hu : No8 u) :
    RDiskOk (w.setCell ⟨g, k, none⟩ u) m V F d nv lv av wv NV (LV.set k u) AV WV ∧ Chg V w (w.setCell ⟨g, k, none⟩ u) := by
  have hgV : g ∈ V := h.in.2.2.1 g (by rw [hlv]; rfl)
  have hc : Chg [g] w (w.setCell ⟨g, k, none⟩ u) := (Chg.refl _ w).setCell (p := ⟨g, k, none⟩) (.inl (by simp)) _
  have hcV : Chg V w (w.setCell ⟨g, k, none⟩ u) := hc.mono (fun x hx => .inl (by rw [List.mem_singleton.1 hx]; exact hgV))
  have hrows := h.row
  have hne : ∀ (r : RowD), r ∈ [(⟨31, 1, nv, d.n, NV⟩ : RowD), ⟨3, 1, av, AV.length, AV⟩, ⟨31, 1, wv, WV.length, WV⟩] → r.v.ownBlock ≠ some g := fun r hr he => by
    have hobj : ObjAt w m 67 (rcs d nv lv av wv) ([⟨31, 1, nv, d.n, NV⟩] ++ (⟨31, 1, lv, d.n, LV⟩ : RowD) :: [⟨3, 1, av, AV.length, AV⟩, ⟨31, 1, wv, WV.length, WV⟩]) := h.obj
    refine hobj.other_ne (q := r) ?_ he (by rw [hlv]; rfl)
    simp only [List.mem_cons, List.mem_nil_iff, or_false] at hr ⊢
    exact hr
  have hmg : m ≠ g := fun e => h.obj.row_ne (r := ⟨31, 1, lv, d.n, LV⟩) (by simp [rrows]) (k := g) (by rw [hlv]; rfl) e.symm
  refine ⟨⟨⟨hc.keep h.obj.head (by simp; exact hmg), fun r hr => ?_, h.obj.apart⟩, fun j hj => ?_, fun c hc => ?_, h.ats, h.wrote, h.few, h.fuse, h.mem, fun x hx => ?_, h.sub, fun x hx => Nat.lt_of_lt_of_le (h.lim x hx) hc.size⟩, hcV⟩
  · simp only [rrows, List.mem_cons, List.mem_nil_iff, or_false] at hr
    by_cases hrl : r = ⟨31, 1, lv, d.n, LV.set k u⟩
    · subst hrl
      show (w.setCell ⟨g, k, none⟩ u).ownsRow 0 31 1 lv d.n (LV.set k u)
      have h1 := hrows.2.1
      rw [hlv] at h1 ⊢
      exact row_set h1 k u (by omega)
    · have hmem : r ∈ rrows d.n nv lv av wv NV LV AV WV := by
        rcases hr with rfl | rfl | rfl | rfl
        · simp [rrows]
        · exact absurd rfl hrl
        · simp [rrows]
        · simp [rrows]
      have hr' : r ∈ [(⟨31, 1, nv, d.n, NV⟩ : RowD), ⟨3, 1, av, AV.length, AV⟩, ⟨31, 1, wv, WV.length, WV⟩] := by
        rcases hr with rfl | rfl | rfl | rfl
        · simp
        · exact absurd rfl hrl
        · simp
        · simp
      exact row_keep (h.obj.rows r hmem) (fun y hy => hc.block y (World.ownsRow.lt (h.obj.rows r hmem) y hy).2 (by
        intro hm
        rw [List.mem_singleton.1 hm] at hy
        exact hne r hr' hy))
  · obtain ⟨h1, h2, h3⟩ := h.now j hj
    exact ⟨h1, h2.chg hcV (fun x hx => (h3 x hx).2), h3⟩
  · rcases List.mem_or_eq_of_mem_set hc with hc | hc
    · exact h.lasts c hc
    · rw [hc]; exact hu
  · by_cases hxg : x = g
    · rw [hxg]
      exact (h.no8 g hgV).set (h.lim g (h.sub g hgV)) hu
    · exact (h.no8 x hx).keep (hc.block x (h.lim x (h.sub x hx)) (by simp; exact hxg))
/-- Nothing waits any more. -/
theorem RDiskOk.calm {w : World} {m : Nat} {V F : List Nat} {d : DS} {nv lv av wv : Value} {NV LV AV WV : List Value} (h : RDiskOk w m V F d nv lv av wv NV LV AV WV) (la : Nat → List UInt8) :
    RDid w ((w.setCell ⟨m, 2, none⟩ (.slice none 0 0)).setCell ⟨m, 3, none⟩ (.slice none 0 0)) m V F { d with lasts := la, since := [] } := by
  have hobj : ObjAt w m 67 (rcs d nv lv av wv) ([⟨31, 1, nv, d.n, NV⟩, ⟨31, 1, lv, d.n, LV⟩] ++ (⟨3, 1, av, AV.length, AV⟩ : RowD) :: [⟨31, 1, wv, WV.length, WV⟩]) := h.obj
  have hg0 : ∀ r, w.grownBy w r := fun r => ⟨rfl, rfl, rfl, Nat.le_refl _, fun _ _ _ => rfl⟩
  obtain ⟨o1, o2, o3⟩ := hobj.field (r' := ⟨3, 1, .slice none 0 0, 0, []⟩) 2 (hg0 _) (World.ownsRow_nil _ _ _ _) (fun k hk => by cases hk)
  have o8 := hobj.field8 (fun y hy => h.no8 y (by rw [h.mem]; exact hy)) 2 (hg0 _) (r' := ⟨3, 1, .slice none 0 0, 0, []⟩) (fun k hk => by cases hk) (fun y hy => by cases hy) no8_slice
  have hV : V = blks m (rrows d.n nv lv av wv NV LV AV WV) := h.mem
  have o3 : Chg V w (w.setCell ⟨m, 2, none⟩ (.slice none 0 0)) := by rw [hV]; exact o3
  have hV1 : ∀ x ∈ blks m (rrows d.n nv lv (.slice none 0 0) wv NV LV [] WV), x ∈ V ∨ w.heap.size ≤ x := fun x hx => by rw [hV]; exact o2 x hx
  have h1 := h.turn (d' := d) (av' := .slice none 0 0) (wv' := wv) (AV' := []) (WV' := WV) o1 hV1 o3 o8 rfl rfl rfl ⟨by simp, by simp⟩ h.wrote
  have hw1 : (w.setCell ⟨m, 2, none⟩ (.slice none 0 0)).heap.size = w.heap.size := by simp [World.setCell]
  generalize w.setCell ⟨m, 2, none⟩ (.slice none 0 0) = w1 at *
  have hobj1 : ObjAt w1 m 67 (rcs d nv lv (.slice none 0 0) wv) ([⟨31, 1, nv, d.n, NV⟩, ⟨31, 1, lv, d.n, LV⟩, ⟨3, 1, .slice none 0 0, ([] : List Value).length, []⟩] ++ (⟨31, 1, wv, WV.length, WV⟩ : RowD) :: []) := h1.obj
  have hg1 : ∀ r, w1.grownBy w1 r := fun r => ⟨rfl, rfl, rfl, Nat.le_refl _, fun _ _ _ => rfl⟩
  obtain ⟨q1, q2, q3⟩ := hobj1.field (r' := ⟨31, 1, .slice none 0 0, 0, []⟩) 3 (hg1 _) (World.ownsRow_nil _ _ _ _) (fun k hk => by cases hk)
  have q8 := hobj1.field8 (fun y hy => h1.no8 y hy) 3 (hg1 _) (r' := ⟨31, 1, .slice none 0 0, 0, []⟩) (fun k hk => by cases hk) (fun y hy => by cases hy) no8_slice
  have q2' : ∀ x ∈ blks m (rrows d.n nv lv (.slice none 0 0) (.slice none 0 0) NV LV [] []), x ∈ blks m (rrows d.n nv lv (.slice none 0 0) wv NV LV [] WV) ∨ w1.heap.size ≤ x := q2
  have h2 := h1.turn (d' := { d with lasts := la, since := [] }) (av' := .slice none 0 0) (wv' := .slice none 0 0) (AV' := []) (WV' := []) q1 q2' q3 q8 rfl rfl rfl ⟨by simp, by simp⟩ ⟨by simp, by simp⟩
  have hV2 : ∀ x ∈ blks m (rrows d.n nv lv (.slice none 0 0) (.slice none 0 0) NV LV [] []), x ∈ V ∨ w.heap.size ≤ x := fun x hx => by
    rcases q2' x hx with h4 | h4
    · exact hV1 x h4
    · exact .inr (by omega)
  refine ⟨_, _, ⟨_, _, _, _, _, _, _, _, h2⟩, hV2, fun x hx => ?_, o3.trans q3 hV1⟩
  have hin : ∀ x, x ∈ V ∨ w.heap.size ≤ x → x ∈ F ∨ w.heap.size ≤ x := fun x hx => hx.imp (h.sub x) id
  rcases List.mem_append.1 hx with hx | hx
  · rcases List.mem_append.1 hx with hx | hx
    · exact .inl hx
    · exact hin x (hV1 x hx)
  · exact hin x (hV2 x hx)
end Go.Proofs.YtipfgghdoicdhaaDoor.W

/- Regions that draw their order: a load under a condition that ends far off: the way from it to its end is told. -/
namespace Go.Proofs.YtipfgghdoicdhaaDoor.W
open Go.RowKit
set_option linter.unusedVariables false
set_option linter.unusedSimpArgs false

section
variable {P : Program} {ops : Array Oper} {Q : Exit → Act → World → Prop} {md : Region.Mode} {cs : List (Nat × (World → Prop))}

/-- Operation d waits for i, by this way. -/
def pathB (md : Region.Mode) (ops : Array Oper) : Nat → List Nat → Nat → Bool
  | d, [], i => match ops[d]? with
    | none => false
    | some o => o.after.any fun e => Region.binds md e && e.on == i
  | d, x :: xs, i => (match ops[d]? with
    | none => false
    | some o => o.after.any fun e => Region.binds md e && e.on == x) && pathB md ops x xs i
theorem step_open {L : Array Bool} (hc : Closed md ops L) {d x : Nat} (hx : L.getD x true = false) (h : (match ops[d]? with
    | none => false
    | some o => o.after.any fun e => Region.binds md e && e.on == x) = true) : L.getD d true = false := by
  cases ho : ops[d]? with
  | none => rw [ho] at h; cases h
  | some o =>
    simp only [ho] at h
    obtain ⟨e, he, h1⟩ := Array.any_eq_true'.1 h
    simp only [Bool.and_eq_true, beq_iff_eq] at h1
    cases hd : L.getD d true with
    | false => rfl
    | true =>
      have h2 := hc d o ho hd e he h1.1
      obtain ⟨_, rfl⟩ := h1
      rw [Array.getD_eq_getD_getElem?] at hx h2
      cases hq : L[e.on]? with
      | none => rw [hq] at h2; cases h2
      | some b => rw [hq] at hx h2; simp at hx h2; rw [hx] at h2; cases h2
theorem path_open {L : Array Bool} (hc : Closed md ops L) {i : Nat} (hi : L.getD i true = false) : ∀ (xs : List Nat) (d : Nat), pathB md ops d xs i = true → L.getD d true = false := by
  intro xs
  induction xs with
  | nil => intro d h; exact step_open hc hi h
  | cons x xs ih =>
    intro d h
    unfold pathB at h
    rw [Bool.and_eq_true] at h
    exact step_open hc (ih x h.2) h.1
theorem wpAnyL_loadP (k : Nat) (xs : List Nat) {i d : Nat} {C : World → Prop} {oi : Oper} {v : Value} {fuel : Nat} {L : Array Bool} {a : Act} {w : World} (hk : cs[k]? = some (d, C)) (hi : ops[i]? = some oi)
    (hs : Region.noSelect ops = true) (hcl : closedB md ops L = true) (hf : Region.free md ops L i = true) (hr : (Region.ready md ops L).contains i = true) (hne : cs.all (fun c => c.1 != i) = true) (hanc : pathB md ops d xs i = true)
    (hQ : ∀ c a w, Q (.panic c) (a.put oi.dst v) w → Q (.panic c) a w) (hy : YieldsIf P ops C oi v a) (hS : HoldC cs L w)
    (h : HoldC cs (L.setIfInBounds i true) w → wpAnyL P md ops Q cs fuel (L.setIfInBounds i true) (a.put oi.dst v) w) : wpAnyL P md ops Q cs (fuel + 1) L a w :=
  wpAnyL_first hi (Region.noSelect_spec hs) hQ (fun L w h1 h2 h3 => h3 _ (List.mem_of_getElem? hk) (path_open h1 h2 _ _ hanc)) (fun c hc => by simpa using List.all_eq_true.1 hne c hc) fuel L a w (closed_of hcl) (Region.free_spec hi hf) (by simpa using hr) hy hS (h (hS.set _))
end
end Go.Proofs.YtipfgghdoicdhaaDoor.W

/- The reference's disk: Write. -/
namespace Go.Proofs.YtipfgghdoicdhaaDoor.W
open Go.RowKit
set_option linter.unusedVariables false
set_option linter.unusedSimpArgs false

theorem facts_bytes : (Tryd.prog.info? 31).map (fun i => (i.zero, i.size, i.bytes)) = some (some (.slice none 0 0), 1, 24) := by kernel_rfl
theorem facts_int : (Tryd.prog.info? 3).map (fun i => (i.zero, i.size, i.bytes)) = some (some (.int .i64 0), 1, 8) := by kernel_rfl
theorem write_eq (d : DS) (k : Nat) (b : List UInt8) (hd : d.dead = false) (hk : k < d.n) (hb : b.length = 64) :
    d.write (k : Int) b = if d.op.1 then (0, { d.op.2 with since := d.since ++ [(k, b)], now := upd d.now k b }) else (14, { d.op.2 with since := d.since ++ [(k, b)] }) := by
  unfold DS.write
  rw [if_neg (by rw [hd]; simp), if_pos ⟨by omega, by omega, hb⟩, Int.toNat_natCast]
  unfold DS.op
  by_cases hf : d.fuse = 0
  · simp [hf]
  · simp [hf]
theorem op_rest (d : DS) : d.op.2.n = d.n ∧ d.op.2.now = d.now ∧ d.op.2.since = d.since := by
  unfold DS.op
  split <;> exact ⟨rfl, rfl, rfl⟩

set_option maxHeartbeats 8000000 in
set_option maxRecDepth 100000 in
theorem rwrite_ok (m : Nat) (V F : List Nat) (d : DS) (k : Nat) (a : Option Addr) (cap : Nat) (b : List UInt8) (w : World) (h : RDiskAt w m V F d) (ho : d.ops ≤ 1000000000) (hw : d.since.length ≤ 1000000) (hd : d.dead = false) (hk : k < d.n) (hb : b.length = 64)
    (hv : BytesAt w (.slice a 64 cap) b) (hvo : ∀ x, (Value.slice a 64 cap).ownBlock = some x → x ∉ V) :
    Calls Tryd.prog 13 #[.pointer (some ⟨m, 0, none⟩), .int .i64 (k : Int), .slice a 64 cap] w fun e w' => e = .returned (.int .i64 (d.write (k : Int) b).1) ∧ RDid w w' m V F (d.write (k : Int) b).2 := by
  have CO := Lib.hid (rop_any m V F d w h ho)
  obtain ⟨nv, lv, av, wv, NV, LV, AV, WV, H⟩ := h
  have c0 := blk_cell H.head 0 _ rfl
  have c6 := blk_cell H.head 6 _ rfl
  obtain ⟨gn, cn, hnv, _, _⟩ : ∃ g cap, nv = .slice (some ⟨g, 0, none⟩) d.n cap ∧ True ∧ True := by
    rcases H.row.1.2 with ⟨_, h0⟩ | ⟨g, cap, cur, rfl, _⟩
    · omega
    · exact ⟨g, cap, rfl, trivial, trivial⟩
  subst hnv
  have HWE := Lib.hid (write_eq d k b hd hk hb)
  have HV := Lib.hid hv
  have HVO := Lib.hid hvo
  have HB := Lib.hid hb
  have hkz : ¬ (d.n : Int) ≤ (k : Int) := by omega
  have hkz0 : ¬ (k : Int) < 0 := by omega
  have HD := Lib.hid hd
  have c6' : w.cell? ⟨m, 6, none⟩ = some (.bool false) := by rw [← hd]; exact c6
  have HN := Lib.hid hk
  obtain ⟨n, hn⟩ : ∃ n, n = d.n := ⟨_, rfl⟩
  rw [← hn] at c0 hkz
  have HNN := Lib.hid hn
  clear H hv hvo hb hd c6 hn hk
  go_enter Tryd.func13, Tryd.ntmps13
  go_wp2_with fail
  refine CO.out.mono ?_
  rintro e w1 ⟨rfl, hd1⟩
  obtain ⟨o1, o2, o3⟩ := op_rest d
  obtain ⟨q, hq⟩ : ∃ q, q = d.op.1 := ⟨_, rfl⟩
  obtain ⟨d1, hd1e⟩ : ∃ d1, d1 = d.op.2 := ⟨_, rfl⟩
  rw [← hd1e] at hd1 o1 o2 o3
  rw [← hd1e, ← hq] at HWE
  rw [← hq]
  obtain ⟨V1, F1, ⟨nv1, lv1, av1, wv1, NV1, LV1, AV1, WV1, H1⟩, hV1, hF1, hc1⟩ := hd1
  have HV1 := Lib.hid hV1
  have HF1 := Lib.hid hF1
  have HC1 := Lib.hid hc1
  have HH1 := Lib.hid H1
  have O1 := Lib.hid (And.intro o1 (And.intro o2 o3))
  have l2 := blk_cell H1.head 2 _ rfl
  have m2 := blk_frozen H1.head 2
  have hml := blk_lt H1.head
  clear H1 hV1 hF1 hc1 CO c0 c6' hq hd1e o1 o2 o3
  obtain ⟨i2, hi2, hz2, hs2, hy2⟩ := info_parts facts_int
  obtain ⟨i3, hi3, hz3, hs3, hy3⟩ := info_parts facts_bytes
  have I2 := Lib.hid (And.intro hi2 (And.intro hz2 (And.intro hs2 hy2)))
  have I3 := Lib.hid (And.intro hi3 (And.intro hz3 (And.intro hs3 hy3)))
  have hcA : Chg [] w1 (w1.alloc (.cells #[.int .i64 (k : Int)] 3)) := (Chg.refl _ _).alloc _
  have HA := Lib.hid (HH1.out.keep0 hcA)
  have hl1 : AV1.length + 1 ≤ 1000001 := by have h := HH1.out.ats.2; rw [O1.out.2.2] at h; omega
  have hl2 : WV1.length + 1 ≤ 1000001 := by have h := HH1.out.wrote.2; rw [O1.out.2.2] at h; omega
  obtain ⟨wA, hwA⟩ : ∃ wA, wA = w1.alloc (.cells #[.int .i64 (k : Int)] 3) := ⟨_, rfl⟩
  have HNW := Lib.hid (news_one (w := w1) (e := 3) (u := .int .i64 (k : Int)) rfl)
  have HWA := Lib.hid hwA
  have HCA := Lib.hid hcA
  clear hi2 hz2 hs2 hy2 hi3 hz3 hs3 hy3 hcA hwA
  go_wp2_with (at_builtin; refine wpList_append_no8 rfl (.tmp 34) (.tmp 36) 65 rfl 3 i2 (.int .i64 0) 1 8 Tryd.underlying65 I2.out.1 I2.out.2.1 I2.out.2.2.1 I2.out.2.2.2 rfl (by omega) (one_z8 rfl no8_i64) av1 AV1.length AV1 rfl HA.out.row.2.2.1 HA.out.ats.1 (fun x hx => HA.out.no8 x (HA.out.in.2.2.2.1 x hx)) ⟨w1.heap.size, 0, none⟩ 1 rfl [.int .i64 (k : Int)] rfl HNW.out (fun u hu => by rw [List.mem_singleton.1 hu]; rfl) (fun u hu => by rw [List.mem_singleton.1 hu]; exact no8_i64) (by unfold maxLen; omega) (by omega) ?_; intro g2 cap2 w2 hrow hg hat hlt h8; refine stay_of ?_)
  have hm2 : w2.heap[m]? = _ := (hg.block m (blk_lt HA.out.head) (fun e => HA.out.obj.row_ne (r := ⟨3, 1, av1, AV1.length, AV1⟩) (by simp [rrows]) e.symm rfl)).trans HA.out.head
  have d2 := blk_cell hm2 2 _ rfl
  have e2 := blk_frozen hm2 2
  have f2 := blk_lt hm2
  obtain ⟨V2, F2, H2, hV2, hF2, hc2⟩ := HA.out.at (k, b) (.int .i64 (k : Int)) g2 cap2 hg hrow hat h8 no8_i64
  have hglue : ∀ w' d', RDid (w2.setCell ⟨m, 2, none⟩ (.slice (some ⟨g2, 0, none⟩) (AV1.length + 1) cap2)) w' m V2 F2 d' → RDid w w' m V F d' := fun w' d' h => RDid.glue HV1.out HF1.out HC1.out (RDid.pre HCA.out (RDid.glue hV2 hF2 hc2 h))
  have hlt64 : ∀ x, (Value.slice a 64 cap).ownBlock = some x → x < w.heap.size := HV.out.lt (by intro e; have := HB.out; rw [e] at this; simp at this)
  have hbv : BytesAt (w2.setCell ⟨m, 2, none⟩ (.slice (some ⟨g2, 0, none⟩) (AV1.length + 1) cap2)) (.slice a 64 cap) b := by
    have hsz := HC1.out.size
    refine ((HV.out.chg HC1.out HVO.out).chg HCA.out (by simp)).chg hc2 (fun x hx hm => ?_)
    rcases HV1.out x hm with h4 | h4
    · exact HVO.out x hx h4
    · have := hlt64 x hx; omega
  have hvo2 : ∀ x, (Value.slice a 64 cap).ownBlock = some x → x ∉ V2 := fun x hx hm => by
    have hsz := HC1.out.size
    have hl := hlt64 x hx
    rcases hV2 x hm with h4 | h4
    · rcases HV1.out x h4 with h5 | h5
      · exact HVO.out x hx h5
      · omega
    · simp at h4; omega
  have HG := Lib.hid hglue
  have HH2 := Lib.hid H2
  have HBV := Lib.hid (And.intro hbv hvo2)
  unfold Stay
  clear hglue hbv hvo2 hlt64 H2 hV2 hF2 hc2 hrow hg hat hlt h8 hm2 l2 m2 hml
  go_wp2_with fail
  generalize w2.setCell ⟨m, 2, none⟩ (.slice (some ⟨g2, 0, none⟩) (AV1.length + 1) cap2) = w3 at *
  have p3 : w3.cell? ⟨m, 3, none⟩ = some wv1 := blk_cell HH2.out.head 3 _ rfl
  clear d2 e2 f2
  refine wp_region_L [(11, fun w' => w'.cell? ⟨m, 3, none⟩ = some wv1)] (by kernel_rfl) ?_ (fun hHeld => ?_)
  · exact (HoldC.cons (p3) HoldC.nil)
  refine wpAnyL_take (i := 0) (oi := _) (v := ?_) rfl (by kernel_rfl) (by kernel_rfl) (by kernel_rfl) (by kernel_rfl) (by kernel_rfl) (fun _ _ _ h => h) (Or.inl ⟨by rfl, ?_⟩) (by assumption) (fun hNew => ?_)
  rotate_left
  · intro w _
    go_simp
    try with_reducible rfl
  clear hHeld
  have hHeld := hNew
  clear hNew
  try simp only [List.getElem_toArray, List.getElem_cons_succ, List.getElem_cons_zero, Act.put, List.setIfInBounds_toArray, List.set_cons_zero, List.set_cons_succ]
  refine wpAnyL_take (i := 1) (oi := _) (v := ?_) rfl (by kernel_rfl) (by kernel_rfl) (by kernel_rfl) (by kernel_rfl) (by kernel_rfl) (fun _ _ _ h => h) (Or.inl ⟨by rfl, ?_⟩) (by assumption) (fun hNew => ?_)
  rotate_left
  · intro w _
    go_simp
    try with_reducible rfl
  clear hHeld
  have hHeld := hNew
  clear hNew
  try simp only [List.getElem_toArray, List.getElem_cons_succ, List.getElem_cons_zero, Act.put, List.setIfInBounds_toArray, List.set_cons_zero, List.set_cons_succ]
  refine wpAnyL_take (i := 2) (oi := _) (v := ?_) rfl (by kernel_rfl) (by kernel_rfl) (by kernel_rfl) (by kernel_rfl) (by kernel_rfl) (fun _ _ _ h => h) (Or.inl ⟨by rfl, ?_⟩) (by assumption) (fun hNew => ?_)
  rotate_left
  · intro w _
    go_simp
    try with_reducible rfl
  clear hHeld
  have hHeld := hNew
  clear hNew
  try simp only [List.getElem_toArray, List.getElem_cons_succ, List.getElem_cons_zero, Act.put, List.setIfInBounds_toArray, List.set_cons_zero, List.set_cons_succ]
  refine wpAnyL_take (i := 3) (oi := _) (v := ?_) rfl (by kernel_rfl) (by kernel_rfl) (by kernel_rfl) (by kernel_rfl) (by kernel_rfl) (fun _ _ _ h => h) (Or.inl ⟨by rfl, ?_⟩) (by assumption) (fun hNew => ?_)
  rotate_left
  · intro w _
    go_simp
    try with_reducible rfl
  clear hHeld
  have hHeld := hNew
  clear hNew
  try simp only [List.getElem_toArray, List.getElem_cons_succ, List.getElem_cons_zero, Act.put, List.setIfInBounds_toArray, List.set_cons_zero, List.set_cons_succ]
  refine wpAnyL_take (i := 5) (oi := _) (v := ?_) rfl (by kernel_rfl) (by kernel_rfl) (by kernel_rfl) (by kernel_rfl) (by kernel_rfl) (fun _ _ _ h => h) (Or.inl ⟨by rfl, ?_⟩) (by assumption) (fun hNew => ?_)
  rotate_left
  · intro w _
    go_simp
    try with_reducible rfl
  clear hHeld
  have hHeld := hNew
  clear hNew
  try simp only [List.getElem_toArray, List.getElem_cons_succ, List.getElem_cons_zero, Act.put, List.setIfInBounds_toArray, List.set_cons_zero, List.set_cons_succ]
  refine wpAnyL_load 0 (i := 4) (oi := _) (v := ?_) rfl rfl (by kernel_rfl) (by kernel_rfl) (by kernel_rfl) (by kernel_rfl) (by kernel_rfl) (by kernel_rfl) (fun _ _ _ h => h) (Or.inl ⟨by rfl, ?_⟩) (by assumption) (fun hNew => ?_)
  rotate_left
  · intro w hSw
    (try dsimp only at hSw)
    go_simp
    try with_reducible rfl
  clear hHeld
  have hHeld := hNew
  clear hNew
  try simp only [List.getElem_toArray, List.getElem_cons_succ, List.getElem_cons_zero, Act.put, List.setIfInBounds_toArray, List.set_cons_zero, List.set_cons_succ]
  refine wpAnyL_ready (rs := [6]) (by kernel_rfl) (by simp) ?_
  refine AllReadyL.cons (o := _) rfl (fun K hK => ?_) AllReadyL.nil
  try simp only [List.getElem_toArray, List.getElem_cons_succ, List.getElem_cons_zero]
  go_simp
  refine (rcopy_any (.slice a 64 cap) b w3.drew (HBV.out.1.chg (by exact (Chg.refl [] w3).drew) (by simp)) (by rw [HB.out]; omega)).mono ?_
  rintro e w4 ⟨v4, rfl, hb4, ho4, hc4⟩
  obtain ⟨a4, c4, hv4⟩ := hb4.bytes.slice
  subst hv4
  have hc4 : Chg [] w3 w4 := (by exact (Chg.refl [] w3).drew : Chg [] w3 w3.drew).trans hc4 (by simp)
  have HB4 := Lib.hid hb4
  have hcB : Chg [] w4 (w4.alloc (.cells #[.slice a4 b.length c4] 31)) := (Chg.refl _ _).alloc _
  have H4 := Lib.hid (HH2.out.keep0 (hc4.trans hcB (by simp)))
  have HC4 := Lib.hid (hc4.trans hcB (by simp))
  have p4 := hc4.cell p3 (by simp)
  have p5 := hcB.cell p4 (by simp)
  have HN4 := Lib.hid (news_one (w := w4) (e := 31) (u := .slice a4 b.length c4) rfl)
  have h84 := hb4.bytes.no8
  have hone : (Value.slice a4 b.length c4).oneCell' = true := rfl
  clear hb4 ho4 hc4 hcB p3
  try go_wp2_with fail
  clear hHeld
  refine hK.out _ _ ?_ (fun hHeld => ?_)
  · exact (HoldC.cons (p4) HoldC.nil)
  clear hK K
  try simp only [List.getElem_toArray, List.getElem_cons_succ, List.getElem_cons_zero, Act.put, List.setIfInBounds_toArray, List.set_cons_zero, List.set_cons_succ]
  refine wpAnyL_ready (rs := [7]) (by kernel_rfl) (by simp) ?_
  refine AllReadyL.cons (o := _) rfl (fun K hK => ?_) AllReadyL.nil
  try simp only [List.getElem_toArray, List.getElem_cons_succ, List.getElem_cons_zero]
  go_simp
  clear hHeld
  refine hK.out _ _ ?_ (fun hHeld => ?_)
  · exact (HoldC.cons (p5) HoldC.nil)
  clear hK K
  try simp only [List.getElem_toArray, List.getElem_cons_succ, List.getElem_cons_zero, Act.put, List.setIfInBounds_toArray, List.set_cons_zero, List.set_cons_succ]
  refine wpAnyL_ready (rs := [8]) (by kernel_rfl) (by simp) ?_
  refine AllReadyL.cons (o := _) rfl (fun K hK => ?_) AllReadyL.nil
  try simp only [List.getElem_toArray, List.getElem_cons_succ, List.getElem_cons_zero]
  rw [if_pos (by rfl)]
  refine wp_append_no8 (.tmp 44) (.tmp 47) 22 (by rfl) 31 i3 (.slice none 0 0) 1 24 Tryd.underlying22 I3.out.1 I3.out.2.1 I3.out.2.2.1 I3.out.2.2.2 rfl (by omega) (one_z8 rfl no8_slice) wv1 WV1.length WV1 (by rfl) H4.out.row.2.2.2 H4.out.wrote.1 (fun x hx => H4.out.no8 x (H4.out.in.2.2.2.2 x hx)) ⟨w4.heap.size, 0, none⟩ 1 (by rfl) [.slice a4 b.length c4] rfl HN4.out (fun u hu => by rw [List.mem_singleton.1 hu]; exact hone) (fun u hu => by rw [List.mem_singleton.1 hu]; exact h84) (by unfold maxLen; omega) (by omega) ?_
  intro g5 cap5 w5 hrow hg hat hlt h8
  have hm5 : w5.heap[m]? = _ := (hg.block m (blk_lt H4.out.head) (fun e => H4.out.obj.row_ne (r := ⟨31, 1, wv1, WV1.length, WV1⟩) (by simp [rrows]) e.symm rfl)).trans H4.out.head
  have p6 := blk_cell hm5 3 _ rfl
  have p7 := blk_frozen hm5 3
  have p8 := blk_lt hm5
  have hD6 := H4.out.more (.slice a4 b.length c4) g5 cap5 hg hrow hat h8 h84 (by simp; exact HH1.out.wrote.2)
  have HD6 := Lib.hid (RDid.pre HC4.out hD6)
  clear hrow hg hat hlt h8 hm5 hD6 p4 p5 hone h84
  clear hHeld
  refine hK.out _ _ ?_ (fun hHeld => ?_)
  · exact (HoldC.cons (p6) HoldC.nil)
  clear hK K
  try simp only [List.getElem_toArray, List.getElem_cons_succ, List.getElem_cons_zero, Act.put, List.setIfInBounds_toArray, List.set_cons_zero, List.set_cons_succ]
  refine wpAnyL_take (i := 9) (oi := _) (v := ?_) rfl (by kernel_rfl) (by kernel_rfl) (by kernel_rfl) (by kernel_rfl) (by kernel_rfl) (fun _ _ _ h => h) (Or.inl ⟨by rfl, ?_⟩) (by assumption) (fun hNew => ?_)
  rotate_left
  · intro w _
    go_simp
    try with_reducible rfl
  clear hHeld
  have hHeld := hNew
  clear hNew
  try simp only [List.getElem_toArray, List.getElem_cons_succ, List.getElem_cons_zero, Act.put, List.setIfInBounds_toArray, List.set_cons_zero, List.set_cons_succ]
  refine wpAnyL_take (i := 10) (oi := _) (v := ?_) rfl (by kernel_rfl) (by kernel_rfl) (by kernel_rfl) (by kernel_rfl) (by kernel_rfl) (fun _ _ _ h => h) (Or.inl ⟨by rfl, ?_⟩) (by assumption) (fun hNew => ?_)
  rotate_left
  · intro w _
    go_simp
    try with_reducible rfl
  clear hHeld
  have hHeld := hNew
  clear hNew
  try simp only [List.getElem_toArray, List.getElem_cons_succ, List.getElem_cons_zero, Act.put, List.setIfInBounds_toArray, List.set_cons_zero, List.set_cons_succ]
  refine wpAnyL_ready (rs := [11]) (by kernel_rfl) (by simp) ?_
  refine AllReadyL.cons (o := _) rfl (fun K hK => ?_) AllReadyL.nil
  try simp only [List.getElem_toArray, List.getElem_cons_succ, List.getElem_cons_zero]
  go_simp
  clear hHeld
  refine hK.out _ _ ?_ (fun hHeld => ?_)
  · exact (HoldC.past (by kernel_rfl) HoldC.nil)
  clear hK K
  try simp only [List.getElem_toArray, List.getElem_cons_succ, List.getElem_cons_zero, Act.put, List.setIfInBounds_toArray, List.set_cons_zero, List.set_cons_succ]
  refine wpAnyL_done (by kernel_rfl) ?_ _
  clear hHeld
  generalize w5.setCell ⟨m, 3, none⟩ (.slice (some ⟨g5, 0, none⟩) (WV1.length + 1) cap5) = w6 at *
  clear p6 p7 p8
  cases q
  · simp only [Bool.false_eq_true, if_false] at HWE
    go_wp2
    go_ret
    rw [HWE.out]
    exact ⟨rfl, by
      have h := HG.out _ _ HD6.out
      rw [O1.out.2.2] at h
      exact h⟩
  · simp only [if_true] at HWE
    obtain ⟨V3, F3, ⟨nv3, lv3, av3, wv3, NV3, LV3, AV3, WV3, H3⟩, hV3, hF3, hc3⟩ := HD6.out
    have hn3 : n = d1.n := by rw [HNN.out, O1.out.1]
    obtain ⟨g7, c7, hnv3, -⟩ : ∃ g cap, nv3 = .slice (some ⟨g, 0, none⟩) d1.n cap ∧ True := by
      rcases H3.row.1.2 with ⟨_, h0⟩ | ⟨g, cap, cur, h1, _⟩
      · have : d1.n = 0 := h0
        omega
      · exact ⟨g, cap, h1, trivial⟩
    have p0 : w6.cell? ⟨m, 0, none⟩ = some (.slice (some ⟨g7, 0, none⟩) n c7) := by rw [hn3, ← hnv3]; exact blk_cell H3.head 0 _ rfl
    have hb6 : BytesAt w6 (.slice a 64 cap) b := HBV.out.1.chg hc3 HBV.out.2
    have HH3 := Lib.hid H3
    have HNV := Lib.hid hnv3
    have HN3 := Lib.hid hn3
    have HG3 := Lib.hid (And.intro hV3 (And.intro hF3 hc3))
    have hkz1 : (k : Int).toNat = k := by omega
    clear H3 hV3 hF3 hc3 hnv3 hn3
    go_wp2_with fail
    refine wp_region_L [(8, fun w' => w'.cell? ⟨m, 0, none⟩ = some (.slice (some ⟨g7, 0, none⟩) n c7))] (by kernel_rfl) ?_ (fun hHeld => ?_)
    · exact (HoldC.cons (p0) HoldC.nil)
    refine wpAnyL_take (i := 0) (oi := _) (v := ?_) rfl (by kernel_rfl) (by kernel_rfl) (by kernel_rfl) (by kernel_rfl) (by kernel_rfl) (fun _ _ _ h => h) (Or.inl ⟨by rfl, ?_⟩) (by assumption) (fun hNew => ?_)
    rotate_left
    · intro w _
      go_simp
      try with_reducible rfl
    clear hHeld
    have hHeld := hNew
    clear hNew
    try simp only [List.getElem_toArray, List.getElem_cons_succ, List.getElem_cons_zero, Act.put, List.setIfInBounds_toArray, List.set_cons_zero, List.set_cons_succ]
    refine wpAnyL_take (i := 1) (oi := _) (v := ?_) rfl (by kernel_rfl) (by kernel_rfl) (by kernel_rfl) (by kernel_rfl) (by kernel_rfl) (fun _ _ _ h => h) (Or.inl ⟨by rfl, ?_⟩) (by assumption) (fun hNew => ?_)
    rotate_left
    · intro w _
      go_simp
      try with_reducible rfl
    clear hHeld
    have hHeld := hNew
    clear hNew
    try simp only [List.getElem_toArray, List.getElem_cons_succ, List.getElem_cons_zero, Act.put, List.setIfInBounds_toArray, List.set_cons_zero, List.set_cons_succ]
    refine wpAnyL_take (i := 2) (oi := _) (v := ?_) rfl (by kernel_rfl) (by kernel_rfl) (by kernel_rfl) (by kernel_rfl) (by kernel_rfl) (fun _ _ _ h => h) (Or.inl ⟨by rfl, ?_⟩) (by assumption) (fun hNew => ?_)
    rotate_left
    · intro w _
      go_simp
      try with_reducible rfl
    clear hHeld
    have hHeld := hNew
    clear hNew
    try simp only [List.getElem_toArray, List.getElem_cons_succ, List.getElem_cons_zero, Act.put, List.setIfInBounds_toArray, List.set_cons_zero, List.set_cons_succ]
    refine wpAnyL_take (i := 4) (oi := _) (v := ?_) rfl (by kernel_rfl) (by kernel_rfl) (by kernel_rfl) (by kernel_rfl) (by kernel_rfl) (fun _ _ _ h => h) (Or.inl ⟨by rfl, ?_⟩) (by assumption) (fun hNew => ?_)
    rotate_left
    · intro w _
      go_simp
      try with_reducible rfl
    clear hHeld
    have hHeld := hNew
    clear hNew
    try simp only [List.getElem_toArray, List.getElem_cons_succ, List.getElem_cons_zero, Act.put, List.setIfInBounds_toArray, List.set_cons_zero, List.set_cons_succ]
    refine wpAnyL_take (i := 5) (oi := _) (v := ?_) rfl (by kernel_rfl) (by kernel_rfl) (by kernel_rfl) (by kernel_rfl) (by kernel_rfl) (fun _ _ _ h => h) (Or.inl ⟨by rfl, ?_⟩) (by assumption) (fun hNew => ?_)
    rotate_left
    · intro w _
      go_simp
      try with_reducible rfl
    clear hHeld
    have hHeld := hNew
    clear hNew
    try simp only [List.getElem_toArray, List.getElem_cons_succ, List.getElem_cons_zero, Act.put, List.setIfInBounds_toArray, List.set_cons_zero, List.set_cons_succ]
    refine wpAnyL_load 0 (i := 3) (oi := _) (v := ?_) rfl rfl (by kernel_rfl) (by kernel_rfl) (by kernel_rfl) (by kernel_rfl) (by kernel_rfl) (by kernel_rfl) (fun _ _ _ h => h) (Or.inl ⟨by rfl, ?_⟩) (by assumption) (fun hNew => ?_)
    rotate_left
    · intro w hSw
      (try dsimp only at hSw)
      go_simp
      try with_reducible rfl
    clear hHeld
    have hHeld := hNew
    clear hNew
    try simp only [List.getElem_toArray, List.getElem_cons_succ, List.getElem_cons_zero, Act.put, List.setIfInBounds_toArray, List.set_cons_zero, List.set_cons_succ]
    refine wpAnyL_ready (rs := [6]) (by kernel_rfl) (by simp) ?_
    refine AllReadyL.cons (o := _) rfl (fun K hK => ?_) AllReadyL.nil
    try simp only [List.getElem_toArray, List.getElem_cons_succ, List.getElem_cons_zero]
    go_simp
    refine (rcopy_any (.slice a 64 cap) b w6.drew (hb6.chg (by exact (Chg.refl [] w6).drew) (by simp)) (by rw [HB.out]; omega)).mono ?_
    rintro e w7 ⟨v7, rfl, hb7, ho7, hc7⟩
    have hc7 : Chg [] w6 w7 := (by exact (Chg.refl [] w6).drew : Chg [] w6 w6.drew).trans hc7 (by simp)
    have H7 := Lib.hid (HH3.out.keep0 hc7)
    have p1 := hc7.cell p0 (by simp)
    have hd7 := H7.out.sec k g7 c7 b v7 (by rw [← HN3.out]; omega) HNV.out HB.out hb7.bytes (fun x hx => ⟨hb7.lt x hx, fun hm => by
      have h1 := ho7 x hx
      have h2 := HH3.out.lim x (HH3.out.sub x hm)
      have h3 : w6.drew.heap.size = w6.heap.size := rfl
      omega⟩)
    have HD7 : Hid (RDid w (w7.setCell ⟨g7, k, none⟩ v7) m V F (d.write (k : Int) b).2) := Lib.hid (by
      rw [HWE.out]
      have h1 : RDid w6 (w7.setCell ⟨g7, k, none⟩ v7) m V3 F3 { ({ d1 with since := d1.since ++ [(k, b)] } : DS) with now := upd ({ d1 with since := d1.since ++ [(k, b)] } : DS).now k b } := by
        obtain ⟨V8, F8, q1, q2, q3, q4⟩ := hd7
        refine ⟨V8, F8, q1, fun x hx => (q2 x hx).imp id (fun h => Nat.le_trans hc7.size h), fun x hx => ?_, (hc7.mono (by simp)).trans q4 (fun x hx => .inl hx)⟩
        rcases q3 x hx with h4 | h4
        · rcases List.mem_append.1 h4 with h4 | h4
          · exact .inl h4
          · have h5 := ho7 x (by simpa using h4)
            exact .inr h5
        · exact .inr (Nat.le_trans hc7.size h4)
      have h2 := HG.out _ _ (RDid.glue HG3.out.1 HG3.out.2.1 HG3.out.2.2 h1)
      rw [O1.out.2.2] at h2
      have h3 : upd d.now k b = upd d1.now k b := by rw [O1.out.2.1]
      rw [h3]
      exact h2)
    have gl : g7 < w7.heap.size := Nat.lt_of_lt_of_le (HH3.out.lim g7 (HH3.out.sub g7 (HH3.out.in.2.1 g7 (by rw [HNV.out]; rfl)))) hc7.size
    have gc : ∃ u, w7.cell? ⟨g7, k, none⟩ = some u := by
      have hr := H7.out.row.1
      rw [HNV.out] at hr
      have hl : k < NV3.length := by have := hr.1; rw [← HN3.out] at this; omega
      have := hr.cells (g := g7) rfl k NV3[k] (List.getElem?_eq_getElem hl)
      rw [add_none, Nat.zero_add] at this
      exact ⟨_, this⟩
    obtain ⟨u7, hu7⟩ := gc
    have gf : w7.frozen? ⟨g7, k, none⟩ = false := by
      have hr := H7.out.row.1
      rw [HNV.out] at hr
      rcases hr.2 with ⟨h1, _⟩ | ⟨g', cap', cur, hv, _, hg, _⟩
      · cases h1
      · obtain rfl : g7 = g' := by simp at hv; exact hv.1
        exact blk_frozen hg k
    obtain ⟨a7, c7', hv7⟩ := hb7.bytes.slice
    subst hv7
    clear hb7 ho7 hc7 hd7
    try go_wp2_with fail
    clear hHeld
    refine hK.out _ _ ?_ (fun hHeld => ?_)
    · exact (HoldC.cons (p1) HoldC.nil)
    clear hK K
    try simp only [List.getElem_toArray, List.getElem_cons_succ, List.getElem_cons_zero, Act.put, List.setIfInBounds_toArray, List.set_cons_zero, List.set_cons_succ]
    refine wpAnyL_take (i := 7) (oi := _) (v := ?_) rfl (by kernel_rfl) (by kernel_rfl) (by kernel_rfl) (by kernel_rfl) (by kernel_rfl) (fun _ _ _ h => h) (Or.inl ⟨by rfl, ?_⟩) (by assumption) (fun hNew => ?_)
    rotate_left
    · intro w _
      go_simp
      try with_reducible rfl
    clear hHeld
    have hHeld := hNew
    clear hNew
    try simp only [List.getElem_toArray, List.getElem_cons_succ, List.getElem_cons_zero, Act.put, List.setIfInBounds_toArray, List.set_cons_zero, List.set_cons_succ]
    refine wpAnyL_ready (rs := [8]) (by kernel_rfl) (by simp) ?_
    refine AllReadyL.cons (o := _) rfl (fun K hK => ?_) AllReadyL.nil
    try simp only [List.getElem_toArray, List.getElem_cons_succ, List.getElem_cons_zero]
    go_simp
    clear hHeld
    refine hK.out _ _ ?_ (fun hHeld => ?_)
    · exact (HoldC.past (by kernel_rfl) HoldC.nil)
    clear hK K
    try simp only [List.getElem_toArray, List.getElem_cons_succ, List.getElem_cons_zero, Act.put, List.setIfInBounds_toArray, List.set_cons_zero, List.set_cons_succ]
    refine wpAnyL_done (by kernel_rfl) ?_ _
    clear hHeld
    go_wp2
    go_ret
    exact ⟨by rw [HWE.out]; rfl, HD7.out⟩
end Go.Proofs.YtipfgghdoicdhaaDoor.W

/- The reference's disk: Write of whatever disk, Sync, Image. -/
namespace Go.Proofs.YtipfgghdoicdhaaDoor.W
open Go.RowKit
set_option linter.unusedVariables false
set_option linter.unusedSimpArgs false

set_option maxHeartbeats 4000000 in
set_option maxRecDepth 100000 in
theorem rwrite_dead (m : Nat) (V F : List Nat) (d : DS) (k : Int) (v : Value) (b : List UInt8) (w : World) (h : RDiskAt w m V F d) (hd : d.dead = true) :
    Calls Tryd.prog 13 #[.pointer (some ⟨m, 0, none⟩), .int .i64 k, v] w fun e w' => e = .returned (.int .i64 (d.write k b).1) ∧ RDid w w' m V F (d.write k b).2 := by
  have HF := Lib.hid (RDid.same h)
  obtain ⟨nv, lv, av, wv, NV, LV, AV, WV, H⟩ := h
  have c6 := blk_cell H.head 6 _ rfl
  have c6' : w.cell? ⟨m, 6, none⟩ = some (.bool true) := by rw [← hd]; exact c6
  have HW : Hid (d.write k b = (14, d)) := Lib.hid (by unfold DS.write; rw [if_pos hd])
  rw [HW.out]
  clear H c6 hd
  go_enter Tryd.func13, Tryd.ntmps13
  go_wp2
  go_ret
  exact ⟨rfl, HF.out⟩
theorem rwrite_any (m : Nat) (V F : List Nat) (d : DS) (k : Nat) (v : Value) (b : List UInt8) (w : World) (h : RDiskAt w m V F d) (ho : d.ops ≤ 1000000000) (hw : d.since.length ≤ 1000000) (hk : k < d.n) (hb : b.length = 64)
    (hv : BytesAt w v b) (hvo : ∀ x, v.ownBlock = some x → x ∉ V) :
    Calls Tryd.prog 13 #[.pointer (some ⟨m, 0, none⟩), .int .i64 (k : Int), v] w fun e w' => e = .returned (.int .i64 (d.write (k : Int) b).1) ∧ RDid w w' m V F (d.write (k : Int) b).2 := by
  by_cases hd : d.dead = true
  · exact rwrite_dead m V F d k v b w h hd
  · obtain ⟨a, cap, rfl⟩ := hv.slice
    rw [hb] at hv hvo ⊢
    exact rwrite_ok m V F d k a cap b w h ho hw (by simpa using hd) hk hb hv hvo
theorem RDiskOk.form {w : World} {m : Nat} {V F : List Nat} {d : DS} {nv lv av wv : Value} {NV LV AV WV : List Value} (h : RDiskOk w m V F d nv lv av wv NV LV AV WV) (hn : 0 < d.n) :
    (∃ g cap, nv = .slice (some ⟨g, 0, none⟩) d.n cap) ∧ ∃ g cap, lv = .slice (some ⟨g, 0, none⟩) d.n cap := by
  constructor
  · rcases h.row.1.2 with ⟨_, h0⟩ | ⟨g, cap, cur, h1, _⟩
    · omega
    · exact ⟨g, cap, h1⟩
  · rcases h.row.2.1.2 with ⟨_, h0⟩ | ⟨g, cap, cur, h1, _⟩
    · omega
    · exact ⟨g, cap, h1⟩
theorem own_cell {w : World} {base e g n cap : Nat} {xs : List Value} (h : w.ownsRow base e 1 (.slice (some ⟨g, 0, none⟩) n cap) n xs) (k : Nat) (hk : k < n) : xs.length = n ∧ w.cell? ⟨g, k, none⟩ = some (xs.getD k undef) ∧ w.frozen? ⟨g, k, none⟩ = false ∧ g < w.heap.size := by
  have hl : xs.length = n := by have := h.1; omega
  refine ⟨hl, ?_, ?_, (World.ownsRow.lt h g rfl).2⟩
  · have := h.cells (g := g) rfl k xs[k] (List.getElem?_eq_getElem (by omega))
    rw [add_none, Nat.zero_add] at this
    rw [this, List.getD_eq_getElem?_getD, List.getElem?_eq_getElem (by omega)]
    rfl
  · rcases h.2 with ⟨h1, _⟩ | ⟨g', cap', cur, hv, _, hg, _⟩
    · cases h1
    · obtain rfl : g = g' := by simp at hv; exact hv.1
      exact blk_frozen hg k

set_option maxHeartbeats 8000000 in
set_option maxRecDepth 100000 in
theorem rsync_any (m : Nat) (V F : List Nat) (d : DS) (w : World) (h : RDiskAt w m V F d) (ho : d.ops ≤ 1000000000) :
    Calls Tryd.prog 59 #[.pointer (some ⟨m, 0, none⟩)] w fun e w' => e = .returned (.int .i64 (d.sync).1) ∧ RDid w w' m V F (d.sync).2 := by
  have CO := Lib.hid (rop_any m V F d w h ho)
  have HF := Lib.hid (RDid.same h)
  obtain ⟨nv, lv, av, wv, NV, LV, AV, WV, H⟩ := h
  have c6 := blk_cell H.head 6 _ rfl
  clear H
  by_cases hd : d.dead = true
  · have c6' : w.cell? ⟨m, 6, none⟩ = some (.bool true) := by rw [← hd]; exact c6
    have HS : Hid (d.sync = (14, d)) := Lib.hid (by unfold DS.sync; rw [if_pos hd])
    rw [HS.out]
    clear c6 hd CO
    go_enter Tryd.func59, Tryd.ntmps59
    go_wp2
    go_ret
    exact ⟨rfl, HF.out⟩
  · have hd' : d.dead = false := by simpa using hd
    have c6' : w.cell? ⟨m, 6, none⟩ = some (.bool false) := by rw [← hd']; exact c6
    have HS : Hid (d.sync = if d.op.1 then (0, { d.op.2 with lasts := applied d.op.2.since d.op.2.lasts, since := [] }) else (14, d.op.2)) := Lib.hid (by unfold DS.sync; rw [if_neg hd])
    obtain ⟨q, hq⟩ : ∃ q, q = d.op.1 := ⟨_, rfl⟩
    obtain ⟨d1, hd1⟩ : ∃ d1, d1 = d.op.2 := ⟨_, rfl⟩
    rw [← hq, ← hd1] at HS
    rw [← hq, ← hd1] at CO
    clear c6 hd hd' HF hq hd1
    go_enter Tryd.func59, Tryd.ntmps59
    go_wp2_with fail
    refine CO.out.mono ?_
    rintro e w1 ⟨rfl, hr1⟩
    have HR1 := Lib.hid hr1
    clear hr1 CO
    cases q
    · simp only [Bool.false_eq_true, if_false] at HS
      go_wp2
      go_ret
      rw [HS.out]
      exact ⟨rfl, HR1.out⟩
    · simp only [if_true] at HS
      obtain ⟨n, hn⟩ : ∃ n, n = d1.n := ⟨_, rfl⟩
      have HN := Lib.hid hn
      have hfew : n ≤ 4160 := by
        obtain ⟨_, _, ⟨_, _, _, _, _, _, _, _, H⟩, _⟩ := HR1.out
        rw [hn]; exact H.few
      clear hn c6'
      go_wp2_with fail
      go_loopg [3] n (fun g' s3 wr => ∃ (i : Nat), s3 = .int .i64 (i : Int) ∧ i ≤ n ∧ n ≤ i + g' ∧ Hid (RDid w wr m V F d1))
      case atStart => exact ⟨0, rfl, by omega, by omega, HR1⟩
      case round =>
        obtain ⟨i, rfl, hi, hig, HR⟩ := hrel
        clear HR1
        obtain ⟨V2, F2, ⟨nv, lv, av, wv, NV, LV, AV, WV, H⟩, hV2, hF2, hc2⟩ := HR.out
        have H0 := Lib.hid H
        have HG := Lib.hid (And.intro hV2 (And.intro hF2 hc2))
        have p0 := blk_cell H.head 0 _ rfl
        have p1 := blk_cell H.head 1 _ rfl
        by_cases hlt : i < n
        · obtain ⟨⟨gn, cn, hnv⟩, gl, cl, hlv⟩ := H.form (by rw [← HN.out]; omega)
          have hn1 := H.row.1
          have hl1 := H.row.2.1
          rw [hnv] at hn1
          rw [hlv] at hl1
          obtain ⟨hNl, k0, _, _⟩ := own_cell hn1 i (by rw [← HN.out]; exact hlt)
          obtain ⟨hLl, k1, k2, k3⟩ := own_cell hl1 i (by rw [← HN.out]; exact hlt)
          obtain ⟨b1, b2, b3⟩ := H.now i (by rw [← HN.out]; exact hlt)
          have e0 : wr.cell? ⟨m, 0, none⟩ = some (.slice (some ⟨gn, 0, none⟩) n cn) := by rw [HN.out, ← hnv]; exact p0
          have e1 : wr.cell? ⟨m, 1, none⟩ = some (.slice (some ⟨gl, 0, none⟩) n cl) := by rw [HN.out, ← hlv]; exact p1
          obtain ⟨ax, cx, hx⟩ := b2.slice
          rw [b1] at hx
          rw [hx] at k0 b2
          have B2 := Lib.hid (And.intro b1 b2)
          have HLV := Lib.hid hlv
          have hiz : (i : Int) < (n : Int) := by omega
          have hiz0 : (0 : Int) ≤ (i : Int) := by omega
          have hiz1 : (i : Int).toNat = i := by omega
          have K3 := Lib.hid (And.intro k2 (And.intro k3 (And.intro k1 hLl)))
          clear H hV2 hF2 hc2 p0 p1 hnv hlv hn1 hl1 hNl hLl b1 b2 b3 hx k1 k2 k3
          go_wp2_with fail
          refine wp_region_L [(14, fun w' => w'.cell? ⟨m, 1, none⟩ = some (.slice (some ⟨gl, 0, none⟩) n cl)), (14, fun w' => w'.cell? ⟨m, 0, none⟩ = some (.slice (some ⟨gn, 0, none⟩) n cn)), (14, fun w' => w'.cell? ⟨gn, i, none⟩ = some (.slice ax 64 cx))] (by kernel_rfl) ?_ (fun hHeld => ?_)
          · exact (HoldC.cons (e1) (HoldC.cons (e0) (HoldC.cons (k0) HoldC.nil)))
          refine wpAnyL_take (i := 0) (oi := _) (v := ?_) rfl (by kernel_rfl) (by kernel_rfl) (by kernel_rfl) (by kernel_rfl) (by kernel_rfl) (fun _ _ _ h => h) (Or.inl ⟨by rfl, ?_⟩) (by assumption) (fun hNew => ?_)
          rotate_left
          · intro w _
            go_simp
            try with_reducible rfl
          clear hHeld
          have hHeld := hNew
          clear hNew
          try simp only [List.getElem_toArray, List.getElem_cons_succ, List.getElem_cons_zero, Act.put, List.setIfInBounds_toArray, List.set_cons_zero, List.set_cons_succ]
          refine wpAnyL_take (i := 1) (oi := _) (v := ?_) rfl (by kernel_rfl) (by kernel_rfl) (by kernel_rfl) (by kernel_rfl) (by kernel_rfl) (fun _ _ _ h => h) (Or.inl ⟨by rfl, ?_⟩) (by assumption) (fun hNew => ?_)
          rotate_left
          · intro w _
            go_simp
            try with_reducible rfl
          clear hHeld
          have hHeld := hNew
          clear hNew
          try simp only [List.getElem_toArray, List.getElem_cons_succ, List.getElem_cons_zero, Act.put, List.setIfInBounds_toArray, List.set_cons_zero, List.set_cons_succ]
          refine wpAnyL_take (i := 2) (oi := _) (v := ?_) rfl (by kernel_rfl) (by kernel_rfl) (by kernel_rfl) (by kernel_rfl) (by kernel_rfl) (fun _ _ _ h => h) (Or.inl ⟨by rfl, ?_⟩) (by assumption) (fun hNew => ?_)
          rotate_left
          · intro w _
            go_simp
            try with_reducible rfl
          clear hHeld
          have hHeld := hNew
          clear hNew
          try simp only [List.getElem_toArray, List.getElem_cons_succ, List.getElem_cons_zero, Act.put, List.setIfInBounds_toArray, List.set_cons_zero, List.set_cons_succ]
          refine wpAnyL_take (i := 4) (oi := _) (v := ?_) rfl (by kernel_rfl) (by kernel_rfl) (by kernel_rfl) (by kernel_rfl) (by kernel_rfl) (fun _ _ _ h => h) (Or.inl ⟨by rfl, ?_⟩) (by assumption) (fun hNew => ?_)
          rotate_left
          · intro w _
            go_simp
            try with_reducible rfl
          clear hHeld
          have hHeld := hNew
          clear hNew
          try simp only [List.getElem_toArray, List.getElem_cons_succ, List.getElem_cons_zero, Act.put, List.setIfInBounds_toArray, List.set_cons_zero, List.set_cons_succ]
          refine wpAnyL_take (i := 5) (oi := _) (v := ?_) rfl (by kernel_rfl) (by kernel_rfl) (by kernel_rfl) (by kernel_rfl) (by kernel_rfl) (fun _ _ _ h => h) (Or.inl ⟨by rfl, ?_⟩) (by assumption) (fun hNew => ?_)
          rotate_left
          · intro w _
            go_simp
            try with_reducible rfl
          clear hHeld
          have hHeld := hNew
          clear hNew
          try simp only [List.getElem_toArray, List.getElem_cons_succ, List.getElem_cons_zero, Act.put, List.setIfInBounds_toArray, List.set_cons_zero, List.set_cons_succ]
          refine wpAnyL_take (i := 6) (oi := _) (v := ?_) rfl (by kernel_rfl) (by kernel_rfl) (by kernel_rfl) (by kernel_rfl) (by kernel_rfl) (fun _ _ _ h => h) (Or.inl ⟨by rfl, ?_⟩) (by assumption) (fun hNew => ?_)
          rotate_left
          · intro w _
            go_simp
            try with_reducible rfl
          clear hHeld
          have hHeld := hNew
          clear hNew
          try simp only [List.getElem_toArray, List.getElem_cons_succ, List.getElem_cons_zero, Act.put, List.setIfInBounds_toArray, List.set_cons_zero, List.set_cons_succ]
          refine wpAnyL_take (i := 7) (oi := _) (v := ?_) rfl (by kernel_rfl) (by kernel_rfl) (by kernel_rfl) (by kernel_rfl) (by kernel_rfl) (fun _ _ _ h => h) (Or.inl ⟨by rfl, ?_⟩) (by assumption) (fun hNew => ?_)
          rotate_left
          · intro w _
            go_simp
            try with_reducible rfl
          clear hHeld
          have hHeld := hNew
          clear hNew
          try simp only [List.getElem_toArray, List.getElem_cons_succ, List.getElem_cons_zero, Act.put, List.setIfInBounds_toArray, List.set_cons_zero, List.set_cons_succ]
          refine wpAnyL_take (i := 9) (oi := _) (v := ?_) rfl (by kernel_rfl) (by kernel_rfl) (by kernel_rfl) (by kernel_rfl) (by kernel_rfl) (fun _ _ _ h => h) (Or.inl ⟨by rfl, ?_⟩) (by assumption) (fun hNew => ?_)
          rotate_left
          · intro w _
            go_simp
            try with_reducible rfl
          clear hHeld
          have hHeld := hNew
          clear hNew
          try simp only [List.getElem_toArray, List.getElem_cons_succ, List.getElem_cons_zero, Act.put, List.setIfInBounds_toArray, List.set_cons_zero, List.set_cons_succ]
          refine wpAnyL_load 0 (i := 3) (oi := _) (v := ?_) rfl rfl (by kernel_rfl) (by kernel_rfl) (by kernel_rfl) (by kernel_rfl) (by kernel_rfl) (by kernel_rfl) (fun _ _ _ h => h) (Or.inl ⟨by rfl, ?_⟩) (by assumption) (fun hNew => ?_)
          rotate_left
          · intro w hSw
            (try dsimp only at hSw)
            go_simp
            try with_reducible rfl
          clear hHeld
          have hHeld := hNew
          clear hNew
          try simp only [List.getElem_toArray, List.getElem_cons_succ, List.getElem_cons_zero, Act.put, List.setIfInBounds_toArray, List.set_cons_zero, List.set_cons_succ]
          refine wpAnyL_load 1 (i := 8) (oi := _) (v := ?_) rfl rfl (by kernel_rfl) (by kernel_rfl) (by kernel_rfl) (by kernel_rfl) (by kernel_rfl) (by kernel_rfl) (fun _ _ _ h => h) (Or.inl ⟨by rfl, ?_⟩) (by assumption) (fun hNew => ?_)
          rotate_left
          · intro w hSw
            (try dsimp only at hSw)
            go_simp
            try with_reducible rfl
          clear hHeld
          have hHeld := hNew
          clear hNew
          try simp only [List.getElem_toArray, List.getElem_cons_succ, List.getElem_cons_zero, Act.put, List.setIfInBounds_toArray, List.set_cons_zero, List.set_cons_succ]
          refine wpAnyL_take (i := 10) (oi := _) (v := ?_) rfl (by kernel_rfl) (by kernel_rfl) (by kernel_rfl) (by kernel_rfl) (by kernel_rfl) (fun _ _ _ h => h) (Or.inl ⟨by rfl, ?_⟩) (by assumption) (fun hNew => ?_)
          rotate_left
          · intro w _
            go_simp
            try with_reducible rfl
          clear hHeld
          have hHeld := hNew
          clear hNew
          try simp only [List.getElem_toArray, List.getElem_cons_succ, List.getElem_cons_zero, Act.put, List.setIfInBounds_toArray, List.set_cons_zero, List.set_cons_succ]
          refine wpAnyL_load 2 (i := 11) (oi := _) (v := ?_) rfl rfl (by kernel_rfl) (by kernel_rfl) (by kernel_rfl) (by kernel_rfl) (by kernel_rfl) (by kernel_rfl) (fun _ _ _ h => h) (Or.inl ⟨by rfl, ?_⟩) (by assumption) (fun hNew => ?_)
          rotate_left
          · intro w hSw
            (try dsimp only at hSw)
            go_simp
            try with_reducible rfl
          clear hHeld
          have hHeld := hNew
          clear hNew
          try simp only [List.getElem_toArray, List.getElem_cons_succ, List.getElem_cons_zero, Act.put, List.setIfInBounds_toArray, List.set_cons_zero, List.set_cons_succ]
          refine wpAnyL_ready (rs := [12]) (by kernel_rfl) (by simp) ?_
          refine AllReadyL.cons (o := _) rfl (fun K hK => ?_) AllReadyL.nil
          try simp only [List.getElem_toArray, List.getElem_cons_succ, List.getElem_cons_zero]
          go_simp
          refine (rcopy_any (.slice ax 64 cx) (d1.now i) wr.drew (B2.out.2.chg (by exact (Chg.refl [] wr).drew) (by simp)) (by rw [B2.out.1]; omega)).mono ?_
          rintro e w4 ⟨v4, rfl, hb4, ho4, hc4⟩
          have hc4 : Chg [] wr w4 := (by exact (Chg.refl [] wr).drew : Chg [] wr wr.drew).trans hc4 (by simp)
          have q1 := hc4.cell e1 (by simp)
          have q0 := hc4.cell e0 (by simp)
          have qk := hc4.cell k0 (by simp)
          obtain ⟨r1, r2⟩ := (H0.out.keep0 hc4).last i gl cl v4 (by rw [← HN.out]; exact hlt) HLV.out hb4.bytes.no8
          have HR5 : Hid (RDid w (w4.setCell ⟨gl, i, none⟩ v4) m V F d1) := Lib.hid (RDid.glue HG.out.1 HG.out.2.1 HG.out.2.2 ⟨V2, F2, ⟨_, _, _, _, _, _, _, _, r1⟩, fun x hx => .inl hx, fun x hx => .inl hx, (hc4.mono (by simp)).trans r2 (fun x hx => .inl hx)⟩)
          have s1 := hc4.cell K3.out.2.2.1 (by simp)
          have hglt : gl < w4.heap.size := Nat.lt_of_lt_of_le K3.out.2.1 hc4.size
          have hfro : w4.frozen? ⟨gl, i, none⟩ = false := by
            have hr := (H0.out.keep0 hc4).row.2.1
            rw [HLV.out] at hr
            exact (own_cell hr i (by rw [← HN.out]; exact hlt)).2.2.1
          obtain ⟨a4, c4, hv4⟩ := hb4.bytes.slice
          subst hv4
          clear hb4 ho4 hc4 r1 r2
          try go_wp2_with fail
          clear hHeld
          refine hK.out _ _ ?_ (fun hHeld => ?_)
          · exact (HoldC.cons (q1) (HoldC.cons (q0) (HoldC.cons (qk) HoldC.nil)))
          clear hK K
          try simp only [List.getElem_toArray, List.getElem_cons_succ, List.getElem_cons_zero, Act.put, List.setIfInBounds_toArray, List.set_cons_zero, List.set_cons_succ]
          refine wpAnyL_take (i := 13) (oi := _) (v := ?_) rfl (by kernel_rfl) (by kernel_rfl) (by kernel_rfl) (by kernel_rfl) (by kernel_rfl) (fun _ _ _ h => h) (Or.inl ⟨by rfl, ?_⟩) (by assumption) (fun hNew => ?_)
          rotate_left
          · intro w _
            go_simp
            try with_reducible rfl
          clear hHeld
          have hHeld := hNew
          clear hNew
          try simp only [List.getElem_toArray, List.getElem_cons_succ, List.getElem_cons_zero, Act.put, List.setIfInBounds_toArray, List.set_cons_zero, List.set_cons_succ]
          refine wpAnyL_ready (rs := [14]) (by kernel_rfl) (by simp) ?_
          refine AllReadyL.cons (o := _) rfl (fun K hK => ?_) AllReadyL.nil
          try simp only [List.getElem_toArray, List.getElem_cons_succ, List.getElem_cons_zero]
          go_simp
          clear hHeld
          refine hK.out _ _ ?_ (fun hHeld => ?_)
          · exact (HoldC.past (by kernel_rfl) (HoldC.past (by kernel_rfl) (HoldC.past (by kernel_rfl) HoldC.nil)))
          clear hK K
          try simp only [List.getElem_toArray, List.getElem_cons_succ, List.getElem_cons_zero, Act.put, List.setIfInBounds_toArray, List.set_cons_zero, List.set_cons_succ]
          refine wpAnyL_done (by kernel_rfl) ?_ _
          clear hHeld
          clear q1 q0 qk s1 hglt hfro e0 e1 k0
          generalize w4.setCell ⟨gl, i, none⟩ (.slice a4 (d1.now i).length c4) = w5 at *
          go_wp2
          go_roundg (gk - 1)
          case measure => omega
          case rel => exact ⟨i + 1, by go_num, by omega, by omega, HR5⟩
        · have hnv0 : ∃ a cap, nv = .slice a n cap := by
            rcases H.row.1.2 with ⟨h1, h0⟩ | ⟨g, cap, cur, h1, _⟩
            · exact ⟨none, 0, by rw [h1, HN.out]; simp; exact h0.symm⟩
            · exact ⟨_, cap, by rw [h1, HN.out]⟩
          obtain ⟨a0, c0, hnv⟩ := hnv0
          have e0 : wr.cell? ⟨m, 0, none⟩ = some (.slice a0 n c0) := by rw [← hnv]; exact p0
          have hiz : ¬ (i : Int) < (n : Int) := by omega
          have HC : Hid (RDid w ((wr.setCell ⟨m, 2, none⟩ (.slice none 0 0)).setCell ⟨m, 3, none⟩ (.slice none 0 0)) m V F { d1 with lasts := applied d1.since d1.lasts, since := [] }) := Lib.hid (RDid.glue hV2 hF2 hc2 (H.calm _))
          have p2 := blk_cell H.head 2 _ rfl
          have f2 := blk_frozen H.head 2
          have p3 := blk_cell H.head 3 _ rfl
          have f3 := blk_frozen H.head 3
          have hml := blk_lt H.head
          clear H hV2 hF2 hc2 p0 p1 hnv
          go_wp2
          go_ret
          exact ⟨by rw [HS.out]; rfl, by rw [HS.out]; exact HC.out⟩

set_option maxHeartbeats 8000000 in
set_option maxRecDepth 100000 in
theorem rimage_any (m : Nat) (V F : List Nat) (d : DS) (w : World) (h : RDiskAt w m V F d) :
    Calls Tryd.prog 33 #[.pointer (some ⟨m, 0, none⟩)] w fun e w' => ∃ v, e = .returned v ∧ BRow w' v (flat d.n d.now) ∧ (∀ g, v.ownBlock = some g → w.heap.size ≤ g) ∧ Chg [] w w' := by
  obtain ⟨nv, lv, av, wv, NV, LV, AV, WV, H⟩ := h
  have H0 := Lib.hid H
  have p0 := blk_cell H.head 0 _ rfl
  obtain ⟨n, hn⟩ : ∃ n, n = d.n := ⟨_, rfl⟩
  have HN := Lib.hid hn
  have hfew : n ≤ 4160 := by rw [hn]; exact H.few
  have hnv0 : ∃ a cap, nv = .slice a n cap := by
    rcases H.row.1.2 with ⟨h1, h0⟩ | ⟨g, cap, cur, h1, _⟩
    · exact ⟨none, 0, by rw [h1, HN.out]; simp; exact h0.symm⟩
    · exact ⟨_, cap, by rw [h1, HN.out]⟩
  obtain ⟨a0, c0, hnv⟩ := hnv0
  have e0 : w.cell? ⟨m, 0, none⟩ = some (.slice a0 n c0) := by rw [← hnv]; exact p0
  have HNV := Lib.hid hnv
  clear H p0 hn hnv
  go_enter Tryd.func33, Tryd.ntmps33
  go_wp2_with fail
  go_loopg [3, 4] n (fun g' s3 s4 wr => ∃ (k : Nat) (a3 : Option Addr) (c3 : Nat), s3 = .slice a3 (flat k d.now).length c3 ∧ s4 = .int .i64 k ∧ k ≤ n ∧ n ≤ k + g' ∧ Hid (BRow wr s3 (flat k d.now) ∧ (∀ g, s3.ownBlock = some g → w.heap.size ≤ g) ∧ Chg [] w wr))
  case atStart => exact ⟨0, none, 0, rfl, rfl, by omega, by omega, Lib.hid ⟨BRow.nil _, by simp [Value.ownBlock], Chg.refl _ _⟩⟩
  case round =>
    obtain ⟨k, a3, c3, rfl, rfl, hk, hkg, HR⟩ := hrel
    obtain ⟨s3, hs3⟩ : ∃ s3, s3 = Value.slice a3 (flat k d.now).length c3 := ⟨_, rfl⟩
    have HS3 := Lib.hid hs3
    rw [← hs3] at HR
    clear hs3
    have e0r := HR.out.2.2.cell e0 (by simp)
    by_cases hlt : k < n
    · have Hr := H0.out.keep0 HR.out.2.2
      obtain ⟨⟨gn, cn, hnv2⟩, _⟩ := Hr.form (by rw [← HN.out]; omega)
      have hn1 := Hr.row.1
      rw [hnv2] at hn1
      obtain ⟨hNl, k0, _, _⟩ := own_cell hn1 k (by rw [← HN.out]; exact hlt)
      obtain ⟨b1, b2, b3⟩ := Hr.now k (by rw [← HN.out]; exact hlt)
      obtain ⟨rfl, rfl⟩ : a0 = some ⟨gn, 0, none⟩ ∧ c0 = cn := by
        have := HNV.out.symm.trans hnv2
        rw [HN.out] at this
        simpa using this
      obtain ⟨ax, cx, hx⟩ := b2.slice
      rw [hx] at k0 b2
      have B2 := Lib.hid b2
      have hkz : (k : Int) < (n : Int) := by omega
      have hkz0 : (0 : Int) ≤ (k : Int) := by omega
      have hkz1 : (k : Int).toNat = k := by omega
      have hsz : Hid ((flat k d.now).length + (d.now k).length ≤ 140737488355328) := Lib.hid (by
        rw [flat_len k _ (fun i hi => (Hr.now i (by rw [← HN.out]; omega)).1), b1]; omega)
      clear Hr hnv2 hn1 hNl b1 b2 b3 hx
      go_wp2_with (at_builtin; refine wpList_appB rfl (.tmp 14) (.tmp 21) rfl s3 (flat k d.now) HS3.out.symm HR.out.1 (.slice ax (d.now k).length cx) (d.now k) rfl B2.out hsz.out ?_; intro v1 w2 ho1 hg1 hat1)
      have HO1 := Lib.hid ho1
      have HG1 := Lib.hid hg1
      have HA1 := Lib.hid hat1
      clear ho1 hg1 hat1
      go_roundg (gk - 1)
      case measure => omega
      case rel =>
        have hr : BRow w2 v1 (flat (k + 1) d.now) := by rw [flat_succ]; exact HO1.out
        obtain ⟨a, c, he, _⟩ := hr.bytes
        refine ⟨k + 1, a, c, he, by go_num, by omega, by omega, Lib.hid ⟨hr, fun g hg => ?_, HR.out.2.2.grown HG1.out (fun g hg => .inr (HR.out.2.1 g hg))⟩⟩
        rcases HA1.out with h | h
        · exact HR.out.2.1 g (by rw [← h]; exact hg)
        · rw [h] at hg
          have h1 := HR.out.2.2.size
          have h2 : wr.heap.size = g := by simpa using hg
          omega
    · have hkn : k = n := by omega
      have hkz : ¬ (k : Int) < (n : Int) := by omega
      have HK : Hid (flat k d.now = flat d.n d.now) := Lib.hid (by rw [hkn, HN.out])
      clear hkn
      go_wp2
      go_ret
      exact ⟨s3, by rw [HS3.out]; rfl, by rw [← HK.out]; exact HR.out.1, HR.out.2.1, HR.out.2.2⟩
end Go.Proofs.YtipfgghdoicdhaaDoor.W

/- The reference's slots in memory. -/
namespace Go.Proofs.YtipfgghdoicdhaaDoor.W
open Go.RowKit
set_option linter.unusedVariables false
set_option linter.unusedSimpArgs false

def qcell (x : SRow × Value) : List Value := [.bool x.1.used, x.2, .int .i64 (x.1.n : Int)]
def qcells (R : List (SRow × Value)) : List Value := R.flatMap qcell
theorem qcells_len (R : List (SRow × Value)) : (qcells R).length = R.length * 3 := by
  induction R with
  | nil => rfl
  | cons x R ih => simp [qcells, List.flatMap_cons] at *; rw [ih]; simp [qcell]; omega
theorem qcells_at : ∀ (R : List (SRow × Value)) (i j : Nat) (x : SRow × Value), R[i]? = some x → j < 3 → (qcells R)[i * 3 + j]? = (qcell x)[j]?
  | [], i, j, x, h, _ => by simp at h
  | y :: R, i, j, x, h, hj => by
    have e : qcells (y :: R) = qcell y ++ qcells R := rfl
    have hy : (qcell y).length = 3 := rfl
    rw [e]
    cases i with
    | zero =>
      simp at h; subst h
      rw [Nat.zero_mul, Nat.zero_add, List.getElem?_append_left (by omega)]
    | succ i =>
      rw [List.getElem?_append_right (by omega), hy, show (i + 1) * 3 + j - 3 = i * 3 + j by omega]
      exact qcells_at R i j x (by simpa using h) hj
theorem qcells_app (R : List (SRow × Value)) (x : SRow × Value) : qcells (R ++ [x]) = qcells R ++ qcell x := by simp [qcells]
theorem qcells_set : ∀ (R : List (SRow × Value)) (i : Nat) (x : SRow × Value), i < R.length → qcells (R.set i x) = (((qcells R).set (i * 3) (.bool x.1.used)).set (i * 3 + 1) x.2).set (i * 3 + 2) (.int .i64 (x.1.n : Int))
  | [], i, x, h => by simp at h
  | y :: R, i, x, h => by
    have e : ∀ z, qcells (z :: R) = qcell z ++ qcells R := fun _ => rfl
    cases i with
    | zero => rw [List.set_cons_zero, e, e]; rfl
    | succ i =>
      have ih := qcells_set R i x (by simpa using h)
      have e2 : qcells (y :: R.set i x) = qcell y ++ qcells (R.set i x) := rfl
      rw [List.set_cons_succ, e2, ih, e]
      have h3 : (qcell y).length = 3 := rfl
      rw [List.set_append_right _ _ (by omega), List.set_append_right _ _ (by omega), List.set_append_right _ _ (by omega), h3, show (i + 1) * 3 - 3 = i * 3 by omega, show (i + 1) * 3 + 1 - 3 = i * 3 + 1 by omega, show (i + 1) * 3 + 2 - 3 = i * 3 + 2 by omega]
theorem qcells_no8 {w : World} : ∀ (R : List (SRow × Value)), (∀ x ∈ R, BytesAt w x.2 x.1.key) → ∀ c ∈ qcells R, No8 c := by
  intro R hR c hc
  obtain ⟨x, hx, hc⟩ := List.mem_flatMap.1 hc
  simp only [qcell, List.mem_cons, List.mem_nil_iff, or_false] at hc
  rcases hc with rfl | rfl | rfl
  · exact no8_bool
  · exact (hR x hx).no8
  · exact no8_i64
def rowQ (rv : Value) (R : List (SRow × Value)) : RowD := ⟨95, 3, rv, R.length, qcells R⟩

/-- The reference's slots in block q over its disk in block m; W: what may be written; A: all their blocks. -/
structure RSlotsOk (w : World) (q m : Nat) (V F W A : List Nat) (s : SS) (rv : Value) (R : List (SRow × Value)) : Prop where
  obj : ObjAt w q 93 #[.pointer (some ⟨m, 0, none⟩), .int .i64 (s.first : Int), rv] [rowQ rv R]
  disk : RDiskAt w m V F s.d
  rows : R.map (·.1) = s.rows
  sep : ∀ x ∈ blks q [rowQ rv R], x ∉ F
  keys : ∀ x ∈ R, BytesAt w x.2 x.1.key ∧ ∀ g, x.2.ownBlock = some g → g ∈ A ∧ g ∉ W
  mem : W = V ++ blks q [rowQ rv R]
  no8 : ∀ x ∈ blks q [rowQ rv R], NoU8 w x
  aF : ∀ x ∈ F, x ∈ A
  aB : ∀ x ∈ blks q [rowQ rv R], x ∈ A
  lim : ∀ x ∈ A, x < w.heap.size
  ok : s.Ok
def RSlotsAt (w : World) (q m : Nat) (W A : List Nat) (s : SS) : Prop := ∃ V F rv R, RSlotsOk w q m V F W A s rv R
theorem RSlotsOk.sub {w : World} {q m : Nat} {V F W A : List Nat} {s : SS} {rv : Value} {R : List (SRow × Value)} (h : RSlotsOk w q m V F W A s rv R) : (∀ x ∈ V, x ∈ W) ∧ (∀ x ∈ blks q [rowQ rv R], x ∈ W) ∧ (∀ x ∈ W, x ∈ A) ∧ (∀ x ∈ W, NoU8 w x) ∧ (∀ x ∈ V, x ∈ F) := by
  obtain ⟨hl, hs, h8⟩ := h.disk.lim
  refine ⟨fun x hx => by rw [h.mem]; exact List.mem_append_left _ hx, fun x hx => by rw [h.mem]; exact List.mem_append_right _ hx, fun x hx => ?_, fun x hx => ?_, hs⟩
  · rw [h.mem] at hx
    rcases List.mem_append.1 hx with hx | hx
    · exact h.aF x (hs x hx)
    · exact h.aB x hx
  · rw [h.mem] at hx
    rcases List.mem_append.1 hx with hx | hx
    · exact h8 x hx
    · exact h.no8 x hx
theorem RSlotsOk.keep {w w' : World} {q m : Nat} {V F W A T : List Nat} {s : SS} {rv : Value} {R : List (SRow × Value)} (h : RSlotsOk w q m V F W A s rv R) (hc : Chg T w w') (ha : ∀ x ∈ A, x ∉ T) : RSlotsOk w' q m V F W A s rv R := by
  refine ⟨h.obj.keep hc (fun x hx => ha x (h.aB x hx)), h.disk.keep hc (fun x hx => ha x (h.aF x hx)), h.rows, h.sep, fun x hx => ?_, h.mem, fun x hx => (h.no8 x hx).keep (hc.block x (h.lim x (h.aB x hx)) (ha x (h.aB x hx))), h.aF, h.aB, fun x hx => Nat.lt_of_lt_of_le (h.lim x hx) hc.size, h.ok⟩
  obtain ⟨h1, h2⟩ := h.keys x hx
  exact ⟨h1.chg hc (fun k hk => ha k (h2 k hk).1), h2⟩
theorem RSlotsAt.keep {w w' : World} {q m : Nat} {W A T : List Nat} {s : SS} (h : RSlotsAt w q m W A s) (hc : Chg T w w') (ha : ∀ x ∈ A, x ∉ T) : RSlotsAt w' q m W A s := by
  obtain ⟨V, F, rv, R, h⟩ := h
  exact ⟨V, F, rv, R, h.keep hc ha⟩
theorem RSlotsAt.lim {w : World} {q m : Nat} {W A : List Nat} {s : SS} (h : RSlotsAt w q m W A s) : (∀ x ∈ A, x < w.heap.size) ∧ (∀ x ∈ W, x ∈ A) ∧ ∀ x ∈ W, NoU8 w x := by
  obtain ⟨V, F, rv, R, h⟩ := h
  exact ⟨h.lim, h.sub.2.2.1, h.sub.2.2.2.1⟩
/-- What doing with them leaves. -/
def RSid (w w' : World) (q m : Nat) (W A : List Nat) (s : SS) : Prop := ∃ W' A', RSlotsAt w' q m W' A' s ∧ (∀ x ∈ W', x ∈ W ∨ w.heap.size ≤ x) ∧ (∀ x ∈ A', x ∈ A ∨ w.heap.size ≤ x) ∧ Chg W w w'
theorem RSid.same {w : World} {q m : Nat} {W A : List Nat} {s : SS} (h : RSlotsAt w q m W A s) : RSid w w q m W A s := ⟨W, A, h, fun x hx => .inl hx, fun x hx => .inl hx, Chg.refl _ _⟩
theorem RSid.glue {w w1 w2 : World} {q m : Nat} {W A W1 A1 : List Nat} {s : SS} (hv : ∀ x ∈ W1, x ∈ W ∨ w.heap.size ≤ x) (hf : ∀ x ∈ A1, x ∈ A ∨ w.heap.size ≤ x) (hc : Chg W w w1) (h : RSid w1 w2 q m W1 A1 s) : RSid w w2 q m W A s := by
  obtain ⟨V2, F2, b1, b2, b3, b4⟩ := h
  refine ⟨V2, F2, b1, fun x hx => ?_, fun x hx => ?_, hc.trans b4 hv⟩
  · rcases b2 x hx with h | h
    · exact hv x h
    · exact .inr (Nat.le_trans hc.size h)
  · rcases b3 x hx with h | h
    · exact hf x h
    · exact .inr (Nat.le_trans hc.size h)
theorem RSid.pre {w0 w w' : World} {q m : Nat} {W A : List Nat} {s : SS} (hc : Chg [] w0 w) (h : RSid w w' q m W A s) : RSid w0 w' q m W A s := RSid.glue (fun x hx => .inl hx) (fun x hx => .inl hx) (hc.mono (by simp)) h
theorem RSid.post {w w1 w' : World} {q m : Nat} {W A : List Nat} {s : SS} (h : RSid w w1 q m W A s) (hc : Chg [] w1 w') : RSid w w' q m W A s := by
  obtain ⟨W1, A1, a1, a2, a3, a4⟩ := h
  exact ⟨W1, A1, a1.keep hc (by simp), a2, a3, a4.trans hc (by simp)⟩
theorem RSid.trans {w w1 w2 : World} {q m : Nat} {W A : List Nat} {s1 s2 : SS} (h1 : RSid w w1 q m W A s1) (h2 : ∀ W1 A1, RSlotsAt w1 q m W1 A1 s1 → RSid w1 w2 q m W1 A1 s2) : RSid w w2 q m W A s2 := by
  obtain ⟨V1, F1, a1, a2, a3, a4⟩ := h1
  exact RSid.glue a2 a3 a4 (h2 V1 F1 a1)
/-- The disk has been worked on. -/
theorem RSlotsOk.did {w w' : World} {q m : Nat} {V F W A : List Nat} {s : SS} {rv : Value} {R : List (SRow × Value)} {d : DS} (h : RSlotsOk w q m V F W A s rv R) (hd : RDid w w' m V F d) (hn : d.n = s.d.n) : RSid w w' q m W A { s with d := d } := by
  obtain ⟨V', F', b1, b2, b3, b4⟩ := hd
  obtain ⟨s1, s2, s3, s4, s5⟩ := h.sub
  have hbV : ∀ x ∈ blks q [rowQ rv R], x ∉ V := fun x hx hm => h.sep x hx (s5 x hm)
  have hsz := b4.size
  refine ⟨V' ++ blks q [rowQ rv R], A ++ F', ⟨V', F', rv, R, h.obj.keep b4 hbV, b1, h.rows, fun x hx hm => ?_, fun x hx => ?_, rfl, fun x hx => (h.no8 x hx).keep (b4.block x (h.obj.lim x hx) (hbV x hx)), fun x hx => List.mem_append_right _ hx, fun x hx => List.mem_append_left _ (h.aB x hx), fun x hx => ?_, ⟨by show s.first + 8 * s.rows.length ≤ d.n; rw [hn]; exact h.ok.room, h.ok.rows⟩⟩, fun x hx => ?_, fun x hx => ?_, b4.mono (fun x hx => .inl (s1 x hx))⟩
  · rcases b3 x hm with h1 | h1
    · exact h.sep x hx h1
    · have := h.obj.lim x hx; omega
  · obtain ⟨k1, k2⟩ := h.keys x hx
    refine ⟨k1.chg b4 (fun k hk hm => (k2 k hk).2 (s1 k hm)), fun g hg => ⟨List.mem_append_left _ (k2 g hg).1, fun hm => ?_⟩⟩
    rcases List.mem_append.1 hm with hm | hm
    · rcases b2 g hm with h1 | h1
      · exact (k2 g hg).2 (s1 g h1)
      · have := h.lim g (k2 g hg).1; omega
    · exact (k2 g hg).2 (s2 g hm)
  · rcases List.mem_append.1 hx with hx | hx
    · exact Nat.lt_of_lt_of_le (h.lim x hx) hsz
    · exact b1.lim.1 x hx
  · rcases List.mem_append.1 hx with hx | hx
    · exact (b2 x hx).imp (s1 x) id
    · exact .inl (s2 x hx)
  · rcases List.mem_append.1 hx with hx | hx
    · exact .inl hx
    · exact (b3 x hx).imp (h.aF x) id
theorem RSlotsOk.len {w : World} {q m : Nat} {V F W A : List Nat} {s : SS} {rv : Value} {R : List (SRow × Value)} (h : RSlotsOk w q m V F W A s rv R) : R.length = s.rows.length := by rw [← h.rows, List.length_map]
theorem RSlotsOk.few {w : World} {q m : Nat} {V F W A : List Nat} {s : SS} {rv : Value} {R : List (SRow × Value)} (h : RSlotsOk w q m V F W A s rv R) : s.first + 8 * s.rows.length ≤ s.d.n ∧ s.d.n ≤ 4160 := by
  obtain ⟨_, _, _, _, _, _, _, _, hd⟩ := h.disk
  exact ⟨h.ok.room, hd.few⟩
theorem RSlotsOk.row {w : World} {q m : Nat} {V F W A : List Nat} {s : SS} {rv : Value} {R : List (SRow × Value)} (h : RSlotsOk w q m V F W A s rv R) : w.ownsRow 0 95 3 rv R.length (qcells R) := h.obj.rows _ (List.mem_singleton.2 rfl)
theorem RSlotsOk.form {w : World} {q m : Nat} {V F W A : List Nat} {s : SS} {rv : Value} {R : List (SRow × Value)} (h : RSlotsOk w q m V F W A s rv R) : ∃ a cap, rv = .slice a s.rows.length cap ∧ s.rows.length ≤ cap := by
  rw [← h.len]
  rcases h.row.2 with ⟨h1, h2⟩ | ⟨g, cap, cur, h1, _, _, h3, h4, _⟩
  · exact ⟨none, 0, by rw [h1, h2], by omega⟩
  · exact ⟨_, cap, h1, h3⟩
/-- A row that is there. -/
theorem RSlotsOk.at {w : World} {q m : Nat} {V F W A : List Nat} {s : SS} {rv : Value} {R : List (SRow × Value)} (h : RSlotsOk w q m V F W A s rv R) (i : Nat) (hi : i < s.rows.length) :
    ∃ g cap kv, rv = .slice (some ⟨g, 0, none⟩) s.rows.length cap ∧ s.rows.length ≤ cap ∧ cap ≤ maxLen ∧ w.cell? ⟨g, i * 3, none⟩ = some (.bool (s.rows.getD i noRow).used) ∧
      w.cell? ⟨g, i * 3 + 1, none⟩ = some kv ∧ w.cell? ⟨g, i * 3 + 2, none⟩ = some (.int .i64 ((s.rows.getD i noRow).n : Int)) ∧ BytesAt w kv (s.rows.getD i noRow).key ∧ ∀ k, kv.ownBlock = some k → k ∈ A ∧ k ∉ W := by
  have hl := h.len
  have hr := h.row
  have hiR : i < R.length := by omega
  have hri : s.rows.getD i noRow = (R[i]).1 := by
    rw [← h.rows, List.getD_eq_getElem?_getD, List.getElem?_map, List.getElem?_eq_getElem hiR]; rfl
  rcases hr.2 with ⟨h1, h2⟩ | ⟨g, cap, cur, h1, _, _, h3, h4, _⟩
  · omega
  · subst h1
    have hcell : ∀ j, j < 3 → ∀ u, (qcell R[i])[j]? = some u → w.cell? ⟨g, i * 3 + j, none⟩ = some u := fun j hj u hu => by
      have := hr.cells (g := g) rfl (i * 3 + j) u (by rw [qcells_at R i j R[i] (List.getElem?_eq_getElem hiR) hj]; exact hu)
      rwa [add_none, Nat.zero_add] at this
    refine ⟨g, cap, (R[i]).2, by rw [hl], by omega, h4, ?_, ?_, ?_, ?_⟩
    · rw [hri]; exact hcell 0 (by omega) _ rfl
    · exact hcell 1 (by omega) _ rfl
    · rw [hri]; exact hcell 2 (by omega) _ rfl
    · rw [hri]; exact h.keys _ (List.getElem_mem hiR)
theorem RSlotsOk.there {w : World} {q m : Nat} {V F W A : List Nat} {s : SS} {rv : Value} {R : List (SRow × Value)} (h : RSlotsOk w q m V F W A s rv R) (i : Nat) (hi : i < s.rows.length) (g cap : Nat) (hrv : rv = .slice (some ⟨g, 0, none⟩) s.rows.length cap) : w.there g (i * 3) 3 := by
  have hl := h.len
  rcases h.row.2 with ⟨h1, h2⟩ | ⟨g', cap', cur, h1, _, hb, h3, h4, h5, _⟩
  · omega
  · rw [hrv] at h1
    obtain ⟨rfl, -, rfl⟩ : g = g' ∧ s.rows.length = R.length ∧ cap = cap' := by simpa using h1
    intro j hj
    have hlt : i * 3 + j < cur.size := by
      have : (i + 1) * 3 ≤ cap * 3 := Nat.mul_le_mul_right _ (by omega)
      omega
    exact ⟨by rw [blk_cell hb _ _ (Array.getElem?_eq_getElem hlt)]; rfl, blk_frozen hb _⟩
theorem NoU8.set3 {w : World} {g i : Nat} {a b c : Value} (h : NoU8 w g) (hl : g < w.heap.size) (ha : No8 a) (hb : No8 b) (hc : No8 c) : NoU8 (w.setCells g i [a, b, c]) g := by
  have s1 : (w.setCell ⟨g, i, none⟩ a).heap.size = w.heap.size := by simp [World.setCell]
  have s2 : ((w.setCell ⟨g, i, none⟩ a).setCell ⟨g, i + 1, none⟩ b).heap.size = w.heap.size := by simp [World.setCell]
  exact ((h.set hl ha).set (by rw [s1]; exact hl) hb).set (by rw [s2]; exact hl) hc
/-- A row is set. -/
theorem RSlotsOk.setRow {w : World} {q m : Nat} {V F W A : List Nat} {s : SS} {rv : Value} {R : List (SRow × Value)} {N : Nat} (h : RSlotsOk w q m V F W A s rv R) (i : Nat) (hi : i < s.rows.length) (g cap : Nat) (hrv : rv = .slice (some ⟨g, 0, none⟩) s.rows.length cap)
    (r : SRow) (kv : Value) (hk : BytesAt w kv r.key) (hkU : ∀ k, kv.ownBlock = some k → k < w.heap.size ∧ k ∉ W) (hkA : ∀ k, kv.ownBlock = some k → k ∉ A → N ≤ k) (hN : N ≤ w.heap.size) (hr : r.n ≤ 448 ∧ r.key.length ≤ 40) :
    ∃ A', RSlotsAt (w.setCells g (i * 3) [.bool r.used, kv, .int .i64 (r.n : Int)]) q m W A' { s with rows := s.rows.set i r } ∧ (∀ x ∈ A', x ∈ A ∨ N ≤ x) ∧ Chg W w (w.setCells g (i * 3) [.bool r.used, kv, .int .i64 (r.n : Int)]) := by
  have hl := h.len
  obtain ⟨s1, s2, s3, s4, s5⟩ := h.sub
  have hC : Chg [g] w (w.setCells g (i * 3) [.bool r.used, kv, .int .i64 (r.n : Int)]) := (Chg.refl _ _).setCells (.inl (by simp)) _
  have hob : rv.ownBlock = some g := by rw [hrv]; rfl
  have hgb : g ∈ blks q [rowQ rv R] := blks_row (r := rowQ rv R) (List.mem_singleton.2 rfl) hob
  have hgW := s2 g hgb
  have hrow := h.row
  have hR' : (rowQ rv (R.set i (r, kv))).At (w.setCells g (i * 3) [.bool r.used, kv, .int .i64 (r.n : Int)]) := by
    show (w.setCells g (i * 3) [.bool r.used, kv, .int .i64 (r.n : Int)]).ownsRow 0 95 3 rv (R.set i (r, kv)).length (qcells (R.set i (r, kv)))
    rw [List.length_set, qcells_set R i _ (by omega)]
    rw [hrv, ← hl] at hrow ⊢
    exact row_set (row_set (row_set hrow (i * 3) _ (by omega)) (i * 3 + 1) _ (by omega)) (i * 3 + 2) _ (by omega)
  have hgr := ObjAt.grow (a := []) (b := []) h.obj (r' := rowQ rv (R.set i (r, kv))) (by rw [show (rowQ rv R).v.ownBlock = some g from hob]; exact hC.grownBy) hR' (fun k hk => .inl hk)
  have h8 := (h.no8 g hgb).set3 (i := i * 3) (h.obj.lim g hgb) (no8_bool (x := r.used)) hk.no8 (no8_i64 (x := (r.n : Int)))
  generalize w.setCells g (i * 3) [.bool r.used, kv, .int .i64 (r.n : Int)] = X at *
  have hgu : ∀ x ∈ [g], x ∈ W := fun x hx => (List.mem_singleton.1 hx) ▸ hgW
  have hnot : ∀ k, k ∉ W → k ∉ [g] := fun k hk hm => hk (hgu k hm)
  refine ⟨A ++ kv.ownBlock.toList, ⟨V, F, rv, R.set i (r, kv), hgr.1, h.disk.keep hC (fun x hx hm => ?_), ?_, h.sep, fun x hx => ?_, h.mem, fun x hx => ?_, fun x hx => List.mem_append_left _ (h.aF x hx), fun x hx => List.mem_append_left _ (h.aB x hx), fun x hx => ?_, ⟨?_, fun x hx => ?_⟩⟩, fun x hx => ?_, hC.mono (fun x hx => .inl (hgu x hx))⟩
  · exact h.sep _ hgb (by rw [← List.mem_singleton.1 hm]; exact hx)
  · rw [List.map_set, h.rows]
  · rcases List.mem_or_eq_of_mem_set hx with hx | rfl
    · obtain ⟨k1, k2⟩ := h.keys x hx
      exact ⟨k1.chg hC (fun k hk => hnot k (k2 k hk).2), fun g' hg' => ⟨List.mem_append_left _ (k2 g' hg').1, (k2 g' hg').2⟩⟩
    · exact ⟨hk.chg hC (fun k hk => hnot k (hkU k hk).2), fun g' hg' => ⟨List.mem_append_right _ (by rw [hg']; simp), (hkU g' hg').2⟩⟩
  · by_cases hxg : x = g
    · rw [hxg]; exact h8
    · exact (h.no8 x hx).keep (hC.block x (h.obj.lim x hx) (by simp; exact hxg))
  · rcases List.mem_append.1 hx with hx | hx
    · exact Nat.lt_of_lt_of_le (h.lim x hx) hC.size
    · exact Nat.lt_of_lt_of_le (hkU x (by simpa using hx)).1 hC.size
  · show s.first + 8 * (s.rows.set i r).length ≤ s.d.n
    rw [List.length_set]
    exact h.ok.room
  · rcases List.mem_or_eq_of_mem_set hx with hx | rfl
    · exact h.ok.rows x hx
    · exact hr
  · rcases List.mem_append.1 hx with hx | hx
    · exact .inl hx
    · by_cases hA : x ∈ A
      · exact .inl hA
      · exact .inr (hkA x (by simpa using hx) hA)
end Go.Proofs.YtipfgghdoicdhaaDoor.W

/- The reference's slots: Free, Find. -/
namespace Go.Proofs.YtipfgghdoicdhaaDoor.W
open Go.RowKit
set_option linter.unusedVariables false
set_option linter.unusedSimpArgs false

set_option maxHeartbeats 4000000 in
set_option maxRecDepth 100000 in
theorem rfree_any (q m : Nat) (W A : List Nat) (s : SS) (w : World) (h : RSlotsAt w q m W A s) : Calls Tryd.prog 46 #[.pointer (some ⟨q, 0, none⟩)] w fun e w' => e = .returned (.int .i64 s.free) ∧ w = w' := by
  obtain ⟨V, F, rv, R, H⟩ := h
  have HH := Lib.hid H
  obtain ⟨a, cap0, hrv, hcap⟩ := H.form
  have c2 := blk_cell H.obj.head 2 _ rfl
  have hfew := H.few
  obtain ⟨n, hn⟩ : ∃ n, n = s.rows.length := ⟨_, rfl⟩
  rw [← hn] at hrv hcap
  have HN := Lib.hid hn
  have HRV := Lib.hid hrv
  subst hrv
  have hnf : n ≤ 1000 := by omega
  clear H hfew hn
  go_enter Tryd.func46, Tryd.ntmps46
  go_wp2_with fail
  go_loop [3] (fun i => ∃ k : Nat, k ≤ n ∧ i = .int .i64 k ∧ Hid (∀ x, x < k → (s.rows.getD x noRow).used = true)) (fun i => n - (intOf i).toNat)
  case atStart => exact ⟨0, Nat.zero_le _, rfl, Lib.hid (fun q hq => absurd hq (by omega))⟩
  case round =>
    obtain ⟨k, hk, rfl, HZ⟩ := hrel
    by_cases hlt : k < n
    · obtain ⟨g, cap, kv, hrv2, hcap2, hcm, k0, k1, k2, k3, k4⟩ := HH.out.at k (by rw [← HN.out]; exact hlt)
      have hF := rowFree_drop s.rows k (by rw [← HN.out]; omega) HZ.out 0
      rw [List.drop_eq_getElem_cons (by rw [← HN.out]; exact hlt)] at hF
      have hge : s.rows.getD k noRow = s.rows[k]'(by rw [← HN.out]; exact hlt) := by rw [List.getD_eq_getElem?_getD, List.getElem?_eq_getElem]; rfl
      rw [← hge] at hF
      rw [← HN.out] at hrv2
      obtain ⟨rfl, rfl⟩ : a = some ⟨g, 0, none⟩ ∧ cap0 = cap := by
        have := Value.slice.inj hrv2
        exact ⟨this.1, this.2.2⟩
      have hkz : (k : Int) < (n : Int) := by omega
      have hkz1 : (k : Int).toNat = k := by omega
      have hu : ∃ u, u = (s.rows.getD k noRow).used := ⟨_, rfl⟩
      obtain ⟨u, hu⟩ := hu
      rw [← hu] at k0
      have HU := Lib.hid hu
      have HF := Lib.hid hF
      clear hu hF hge hrv2 k1 k2 k3 k4
      cases u
      · have HX : Hid (s.free = (k : Int)) := Lib.hid (by
          unfold SS.free
          rw [HF.out, rowFree_cons]
          rw [if_pos HU.out.symm]
          simp)
        go_wp2
        go_ret
        exact ⟨by rw [HX.out]; rfl, rfl⟩
      · have HZ1 : Hid (∀ x, x < k + 1 → (s.rows.getD x noRow).used = true) := Lib.hid (fun x hx => by
          rcases Nat.lt_or_ge x k with h | h
          · exact HZ.out x h
          · obtain rfl : x = k := by omega
            exact HU.out.symm)
        go_wp2
        go_round
        case rel => exact ⟨k + 1, by omega, by go_num, HZ1⟩
        case measure => simp [intOf]; omega
    · have hkn : k = n := by omega
      have HX : Hid (s.free = -1) := Lib.hid (by
        unfold SS.free
        rw [rowFree_drop s.rows k (by rw [hkn, HN.out]; exact Nat.le_refl _) HZ.out 0, List.drop_of_length_le (by rw [hkn, HN.out]; exact Nat.le_refl _)]
        rfl)
      have hkz : ¬ (k : Int) < (n : Int) := by omega
      clear hkn
      go_wp2
      go_ret
      exact ⟨by rw [HX.out]; rfl, rfl⟩

set_option maxHeartbeats 4000000 in
set_option maxRecDepth 100000 in
theorem rfind_any (q m : Nat) (W A : List Nat) (s : SS) (kv0 : Value) (key : List UInt8) (w : World) (h : RSlotsAt w q m W A s) (hk0 : BytesAt w kv0 key) (hkl : key.length ≤ 1000000) :
    Calls Tryd.prog 48 #[.pointer (some ⟨q, 0, none⟩), kv0] w fun e w' => e = .returned (.int .i64 (s.find key)) ∧ Chg [] w w' := by
  obtain ⟨V, F, rv, R, H⟩ := h
  have HH := Lib.hid H
  obtain ⟨a, cap0, hrv, hcap⟩ := H.form
  have c2 := blk_cell H.obj.head 2 _ rfl
  have hfew := H.few
  have HK0 := Lib.hid hk0
  obtain ⟨n, hn⟩ : ∃ n, n = s.rows.length := ⟨_, rfl⟩
  rw [← hn] at hrv hcap
  have HN := Lib.hid hn
  have HRV := Lib.hid hrv
  subst hrv
  have hnf : n ≤ 1000 := by omega
  have hk40 : Hid (∀ x, ((s.rows.getD x noRow).key).length ≤ 40) := Lib.hid (fun x => by
    rw [List.getD_eq_getElem?_getD]
    cases he : s.rows[x]? with
    | none => decide
    | some r => exact (H.ok.rows r (List.mem_of_getElem? he)).2)
  clear H hfew hn hk0
  go_enter Tryd.func48, Tryd.ntmps48
  go_wp2_with fail
  go_loopg [5] n (fun g' s5 wr => ∃ k : Nat, s5 = .int .i64 (k : Int) ∧ k ≤ n ∧ n ≤ k + g' ∧ Hid (∀ x, x < k → ((s.rows.getD x noRow).used && decide ((s.rows.getD x noRow).key = key)) = false) ∧ Hid (Chg [] w wr))
  case atStart => exact ⟨0, rfl, Nat.zero_le _, by omega, Lib.hid (fun q hq => absurd hq (by omega)), Lib.hid (Chg.refl _ _)⟩
  case round =>
    obtain ⟨k, rfl, hk, hkg, HZ, HC⟩ := hrel
    have d2 := HC.out.cell c2 (by simp)
    by_cases hlt : k < n
    · obtain ⟨g, cap, kv, hrv2, hcap2, hcm, k0, k1, k2, k3, k4⟩ := (HH.out.keep HC.out (by simp)).at k (by rw [← HN.out]; exact hlt)
      have hF := rowFind_drop key s.rows k (by rw [← HN.out]; omega) HZ.out 0
      rw [List.drop_eq_getElem_cons (by rw [← HN.out]; exact hlt)] at hF
      have hge : s.rows.getD k noRow = s.rows[k]'(by rw [← HN.out]; exact hlt) := by rw [List.getD_eq_getElem?_getD, List.getElem?_eq_getElem]; rfl
      rw [← hge] at hF
      rw [← HN.out] at hrv2
      obtain ⟨rfl, rfl⟩ : a = some ⟨g, 0, none⟩ ∧ cap0 = cap := by
        have := Value.slice.inj hrv2
        exact ⟨this.1, this.2.2⟩
      have hkz : (k : Int) < (n : Int) := by omega
      have hkz1 : (k : Int).toNat = k := by omega
      obtain ⟨u, hu⟩ : ∃ u, u = (s.rows.getD k noRow).used := ⟨_, rfl⟩
      rw [← hu] at k0
      have HU := Lib.hid hu
      have HF := Lib.hid hF
      have CE := Lib.hid (same_any kv kv0 _ key wr k3 (HK0.out.chg HC.out (by simp)) (by have := hk40.out k; omega) (by omega))
      obtain ⟨ak, ck, hkv⟩ := k3.slice
      subst hkv
      clear hu hF hge hrv2 k2 k3 k4
      have stepZ : ((s.rows.getD k noRow).used && decide ((s.rows.getD k noRow).key = key)) = false → Hid (∀ x, x < k + 1 → ((s.rows.getD x noRow).used && decide ((s.rows.getD x noRow).key = key)) = false) := fun h9 => Lib.hid (fun x hx => by
        rcases Nat.lt_or_ge x k with h | h
        · exact HZ.out x h
        · obtain rfl : x = k := by omega
          exact h9)
      have HS := Lib.hid stepZ
      clear stepZ
      cases u
      · have HZ1 := HS.out (by rw [← HU.out]; rfl)
        clear CE
        go_wp2
        go_roundg (gk - 1)
        case rel => exact ⟨k + 1, by go_num, by omega, by omega, HZ1, HC⟩
        case measure => omega
      · by_cases he : (s.rows.getD k noRow).key = key
        · rw [decide_eq_true he] at CE
          have HX : Hid (s.find key = (k : Int)) := Lib.hid (by
            unfold SS.find
            rw [HF.out, rowFind_cons, if_pos (by rw [← HU.out, decide_eq_true he]; rfl)]
            simp)
          clear he
          go_wp2_with fail
          refine CE.out.mono ?_
          rintro e w' ⟨rfl, nn, hq⟩
          have HC2 : Hid (Chg [] w w') := Lib.hid (by rw [hq]; exact HC.out.drewN nn)
          clear hq
          go_wp2
          go_ret
          exact ⟨by rw [HX.out]; rfl, HC2.out⟩
        · rw [decide_eq_false he] at CE
          have HZ1 := HS.out (by rw [decide_eq_false he, Bool.and_false])
          clear he
          go_wp2_with fail
          refine CE.out.mono ?_
          rintro e w' ⟨rfl, nn, hq⟩
          have HC2 : Hid (Chg [] w w') := Lib.hid (by rw [hq]; exact HC.out.drewN nn)
          clear hq
          go_wp2
          go_roundg (gk - 1)
          case rel => exact ⟨k + 1, by go_num, by omega, by omega, HZ1, HC2⟩
          case measure => omega
    · have hkn : k = n := by omega
      have HX : Hid (s.find key = -1) := Lib.hid (by
        unfold SS.find
        rw [rowFind_drop key s.rows k (by rw [hkn, HN.out]; exact Nat.le_refl _) HZ.out 0, List.drop_of_length_le (by rw [hkn, HN.out]; exact Nat.le_refl _)]
        rfl)
      have hkz : ¬ (k : Int) < (n : Int) := by omega
      clear hkn
      go_wp2
      go_ret
      exact ⟨by rw [HX.out]; rfl, HC.out⟩
end Go.Proofs.YtipfgghdoicdhaaDoor.W

/- The reference's slots: Get. -/
namespace Go.Proofs.YtipfgghdoicdhaaDoor.W
open Go.RowKit
set_option linter.unusedVariables false
set_option linter.unusedSimpArgs false

/-- What is read of the disk. -/
theorem RDiskAt.read {w : World} {m : Nat} {V F : List Nat} {d : DS} (h : RDiskAt w m V F d) :
    w.cell? ⟨m, 6, none⟩ = some (.bool d.dead) ∧ d.n ≤ 4160 ∧ ∃ a cap, w.cell? ⟨m, 0, none⟩ = some (.slice a d.n cap) ∧ ∀ k, k < d.n → ∃ g ax cx, a = some ⟨g, 0, none⟩ ∧ w.cell? ⟨g, k, none⟩ = some (.slice ax 64 cx) ∧ BytesAt w (.slice ax 64 cx) (d.now k) ∧ (d.now k).length = 64 := by
  obtain ⟨nv, lv, av, wv, NV, LV, AV, WV, H⟩ := h
  have hrow := H.row.1
  have c0 : w.cell? ⟨m, 0, none⟩ = some nv := blk_cell H.head 0 _ rfl
  refine ⟨blk_cell H.head 6 _ rfl, H.few, ?_⟩
  by_cases hn : 0 < d.n
  · obtain ⟨⟨gn, cn, hnv⟩, _⟩ := H.form hn
    refine ⟨_, cn, by rw [c0, hnv], fun k hk => ?_⟩
    rw [hnv] at hrow
    obtain ⟨hNl, k0, _, _⟩ := own_cell hrow k hk
    obtain ⟨b1, b2, b3⟩ := H.now k hk
    obtain ⟨ax, cx, hx⟩ := b2.slice
    rw [b1] at hx
    rw [hx] at k0 b2
    exact ⟨gn, ax, cx, rfl, k0, b2, b1⟩
  · rcases hrow.2 with ⟨h1, h2⟩ | ⟨g, cap, cur, h1, _⟩
    · exact ⟨none, 0, by rw [c0, h1]; simp; omega, fun k hk => by omega⟩
    · exact ⟨_, cap, by rw [c0, h1], fun k hk => by omega⟩

set_option maxHeartbeats 8000000 in
set_option maxRecDepth 100000 in
theorem rget_any (q m : Nat) (W A : List Nat) (s : SS) (i : Int) (w : World) (h : RSlotsAt w q m W A s) : Calls Tryd.prog 29 #[.pointer (some ⟨q, 0, none⟩), .int .i64 i] w (GetPost (s.get i) w) := by
  obtain ⟨V, F, rv, R, H⟩ := h
  have HH := Lib.hid H
  have c0 : w.cell? ⟨q, 0, none⟩ = some (.pointer (some ⟨m, 0, none⟩)) := blk_cell H.obj.head 0 _ rfl
  have c1 : w.cell? ⟨q, 1, none⟩ = some (.int .i64 (s.first : Int)) := blk_cell H.obj.head 1 _ rfl
  have c2 : w.cell? ⟨q, 2, none⟩ = some rv := blk_cell H.obj.head 2 _ rfl
  obtain ⟨a0, cap0, hrv0, hcap0⟩ := H.form
  have hfew := H.few
  by_cases hi : s.has i
  · have hi' := hi
    obtain ⟨h0, h1⟩ := hi'
    obtain ⟨j, rfl⟩ := Int.eq_ofNat_of_zero_le h0
    have hjl : j < s.rows.length := by omega
    obtain ⟨g, cap, kv, hrv, hcap, hcm, k0, k1, k2, k3, k4⟩ := H.at j hjl
    have hrow : s.row (j : Int) = s.rows.getD j noRow := rfl
    have hn448 : (s.rows.getD j noRow).n ≤ 448 := by
      rw [List.getD_eq_getElem?_getD, List.getElem?_eq_getElem hjl]
      exact (H.ok.rows _ (List.getElem_mem _)).1
    have hroom := H.ok.room
    have q0 : decide ((j : Int) < 0) = false := decide_eq_false (by omega)
    have q1 : decide ((j : Int) ≥ (s.rows.length : Int)) = false := decide_eq_false (by omega)
    by_cases hu : (s.row (j : Int)).used = false
    · have hg : s.get (j : Int) = ([], 6) := by unfold SS.get; rw [if_neg (by simpa using hi), if_pos hu]
      have HP := Lib.hid (fun (w' : World) (hc : Chg [] w w') => GetPost.nil (c := 6) hc)
      have HG := Lib.hid hg
      rw [HG.out]
      rw [hrow] at hu
      rw [hu] at k0
      subst hrv
      generalize s.rows.getD j noRow = r at *
      generalize s.rows.length = n at *
      have hjz : (j : Int) < (n : Int) := by omega
      have hjz1 : (j : Int).toNat = j := by omega
      clear H HH c0 c1 k1 k2 k3 k4 hu hg hi hrow hroom hrv0
      go_enter Tryd.func29, Tryd.ntmps29
      go_wp2
      go_ret2
      exact HP.out _ (Chg.refl _ _)
    · have hu' : (s.rows.getD j noRow).used = true := by rw [← hrow]; simpa using hu
      have hg : s.get (j : Int) = if s.d.dead then ([], 14) else (s.data (j : Int), 0) := by
        unfold SS.get; rw [if_neg (by simpa using hi), if_neg hu]
      have hdat : s.data (j : Int) = (flat (nsec (s.rows.getD j noRow).n) (fun k => s.d.now (s.pos j + 1 + k))).take (s.rows.getD j noRow).n := rfl
      have hpos : s.pos (j : Int) = s.first + 8 * j := rfl
      rw [hu'] at k0
      obtain ⟨p6, hnd, an, cn, p0, hsec⟩ := H.disk.read
      subst hrv
      have HG := Lib.hid hg
      have HDAT := Lib.hid hdat
      have HSEC := Lib.hid (fun wr (hc : Chg [] w wr) => ((H.keep hc (by simp)).disk.read).2.2)
      have hfj : ((s.first : Int) + (j : Int) * 8) = ((s.pos (j : Int) : Nat) : Int) := by rw [hpos]; omega
      have hpl : s.pos (j : Int) + 8 ≤ s.d.n := by rw [hpos]; omega
      have hff : s.first ≤ 4160 := by omega
      generalize hrr : s.rows.getD j noRow = r at *
      generalize s.pos (j : Int) = pos at *
      generalize hrl : s.rows.length = n at *
      generalize s.first = fst at *
      have hjz : (j : Int) < (n : Int) := by omega
      have hjz1 : (j : Int).toNat = j := by omega
      have hj5 : j ≤ 1000 := by omega
      have hnj : ¬ n ≤ j := by omega
      have hm7 : nsec r.n ≤ 7 := by unfold nsec; omega
      have hmn : r.n ≤ nsec r.n * 64 := by unfold nsec; omega
      have hmm : ∀ k, k < nsec r.n ↔ k * 64 < r.n := fun k => by unfold nsec; omega
      obtain ⟨M, hM⟩ : ∃ M, M = nsec r.n := ⟨_, rfl⟩
      rw [← hM] at hm7 hmn hmm
      have HM := Lib.hid hM
      obtain ⟨rn, hrn⟩ : ∃ rn, rn = r.n := ⟨_, rfl⟩
      rw [← hrn] at hmn k2 hn448 hmm
      have HRN := Lib.hid hrn
      have HMM := Lib.hid hmm
      clear H k1 k3 k4 hu' hg hi hrow hdat hroom hM hrn hrr hrl hu hfew hpos hmm hsec hrv0
      by_cases hd : s.d.dead = true
      · have HP := Lib.hid (fun (w' : World) (hc : Chg [] w w') => GetPost.nil (c := 14) hc)
        have HGG : Hid (s.get (j : Int) = ([], 14)) := Lib.hid (by rw [HG.out, if_pos hd])
        rw [HGG.out]
        rw [hd] at p6
        clear hd
        go_enter Tryd.func29, Tryd.ntmps29
        go_wp2
        go_ret2
        exact HP.out _ (Chg.refl _ _)
      · have hd' : s.d.dead = false := by simpa using hd
        have HGG : Hid (s.get (j : Int) = (s.data (j : Int), 0)) := Lib.hid (by rw [HG.out, if_neg hd])
        rw [HGG.out]
        rw [hd'] at p6
        have HC := Lib.hid (And.intro c0 (And.intro c2 (And.intro k0 k2)))
        have HP0 := Lib.hid p0
        clear hd hd'
        go_enter Tryd.func29, Tryd.ntmps29
        go_wp2_with fail
        go_loopg [6, 8] M (fun g' s6 s8 wr => ∃ (k : Nat) (a6 : Option Addr) (c6 : Nat), s6 = .slice a6 (k * 64) c6 ∧ s8 = .int .i64 (k : Int) ∧ k ≤ M ∧ M ≤ k + g' ∧ Hid (BRow wr s6 (flat k (fun k => s.d.now (pos + 1 + k))) ∧ (∀ g, s6.ownBlock = some g → w.heap.size ≤ g) ∧ Chg [] w wr))
        case atStart => exact ⟨0, none, 0, rfl, rfl, by omega, by omega, Lib.hid ⟨BRow.nil _, by simp [Value.ownBlock], Chg.refl _ _⟩⟩
        case round =>
          obtain ⟨k, a6, c6, rfl, rfl, hk, hkg, HR⟩ := hrel
          obtain ⟨s6, hs6⟩ : ∃ s6, s6 = Value.slice a6 (k * 64) c6 := ⟨_, rfl⟩
          have HS6 := Lib.hid hs6
          rw [← hs6] at HR
          clear hs6 c0 c2 k0 k2 p0 p6 c1
          have c0 := HR.out.2.2.cell HC.out.1 (by simp)
          have c2 := HR.out.2.2.cell HC.out.2.1 (by simp)
          have k2 := HR.out.2.2.cell HC.out.2.2.2 (by simp)
          have p0 := HR.out.2.2.cell HP0.out (by simp)
          have hmk := HMM.out k
          by_cases hlt : k < M
          · have hk64 : decide ((k : Int) * 64 < (rn : Int)) = true := decide_eq_true (by have := hmk.1 hlt; omega)
            obtain ⟨a', c', e', hsec⟩ := HSEC.out wr HR.out.2.2
            obtain ⟨rfl, rfl⟩ : an = a' ∧ cn = c' := by
              have := p0.symm.trans e'
              simpa using this
            obtain ⟨gn, ax, cx, rfl, e1, b1, l1⟩ := hsec (pos + 1 + k) (by omega)
            have HB3 := Lib.hid b1
            have HL1 := Lib.hid l1
            have hpk : ((pos : Int) + 1 + (k : Int)).toNat = pos + 1 + k := by omega
            have hpz : (0 : Int) ≤ (pos : Int) + 1 + (k : Int) := by omega
            have hpn : (pos : Int) + 1 + (k : Int) < (s.d.n : Int) := by omega
            have hlen64 : Hid (∀ x, x < s.d.n → (s.d.now x).length = 64) := Lib.hid (fun x hx => by
              obtain ⟨_, _, _, _, _, _, h9⟩ := hsec x hx
              exact h9)
            have hsz : Hid ((flat k (fun k => s.d.now (pos + 1 + k))).length + (s.d.now (pos + 1 + k)).length ≤ 140737488355328) := Lib.hid (by
              rw [flat_len k _ (fun i hi => hlen64.out _ (by omega)), HL1.out]; omega)
            clear e' hsec b1 l1
            go_wp2_with (at_builtin; refine wpList_appB rfl (.tmp 57) (.tmp 69) rfl s6 (flat k (fun k => s.d.now (pos + 1 + k))) HS6.out.symm HR.out.1 _ (s.d.now (pos + 1 + k)) (by rfl) HB3.out hsz.out ?_; intro v4 w4 ho4 hg4 hat4)
            have HO4 := Lib.hid ho4
            have HG4 := Lib.hid hg4
            have HA4 := Lib.hid hat4
            clear ho4 hg4 hat4
            go_roundg (gk - 1)
            case measure => omega
            case rel =>
              have hr : BRow w4 v4 (flat (k + 1) (fun k => s.d.now (pos + 1 + k))) := by rw [flat_succ]; exact HO4.out
              obtain ⟨a, c4, he, _⟩ := hr.bytes
              rw [flat_len (k + 1) _ (fun i hi => hlen64.out _ (by omega))] at he
              refine ⟨k + 1, a, c4, he, by go_num, by omega, by omega, Lib.hid ⟨hr, fun g hg => ?_, HR.out.2.2.grown HG4.out (fun g hg => .inr (HR.out.2.1 g hg))⟩⟩
              rcases HA4.out with h | h
              · exact HR.out.2.1 g (by rw [← h]; exact hg)
              · rw [h] at hg
                have h1 := HR.out.2.2.size
                have h2 : wr.heap.size = g := by simpa using hg
                omega
          · have hkm : k = M := by omega
            have hk64 : decide ((k : Int) * 64 < (rn : Int)) = false := decide_eq_false (by
              have := fun h => hlt (hmk.2 h)
              omega)
            obtain rfl := hkm.symm
            obtain ⟨a', c', e', hsec⟩ := HSEC.out wr HR.out.2.2
            have hlen64 : Hid (∀ x, x < s.d.n → (s.d.now x).length = 64) := Lib.hid (fun x hx => by
              obtain ⟨_, _, _, _, _, _, h9⟩ := hsec x hx
              exact h9)
            have hfl := flat_len M (fun k => s.d.now (pos + 1 + k)) (fun i hi => hlen64.out _ (by omega))
            have hlt2 : ((flat M (fun k => s.d.now (pos + 1 + k))).take rn).length = rn := by rw [List.length_take]; omega
            have hcb : M * 64 ≤ c6 := by
              obtain ⟨_, c, he, h1, _⟩ := HR.out.1.bytes
              rw [HS6.out] at he
              have e1 := (Value.slice.inj he).2.1
              have e2 := (Value.slice.inj he).2.2
              omega
            have hcm6 : c6 ≤ maxLen := by
              obtain ⟨_, c, he, h1, h2, _⟩ := HR.out.1.bytes
              rw [HS6.out] at he
              have e2 := (Value.slice.inj he).2.2
              omega
            have hb : BytesAt wr (.slice a6 rn c6) (s.data (j : Int)) := by
              obtain ⟨a, c, he, h1, h2, h3⟩ := HR.out.1.bytes
              rw [HS6.out] at he
              obtain rfl := (Value.slice.inj he).1
              obtain rfl := (Value.slice.inj he).2.2
              rw [HDAT.out, ← HM.out, ← HRN.out]
              refine ⟨a6, c6, by rw [hlt2], by rw [hlt2]; omega, h2, ?_⟩
              rcases h3 with ⟨h3, h4⟩ | ⟨g, o, e, hcell⟩
              · left
                exact ⟨by rw [h3]; simp, h4⟩
              · right
                refine ⟨g, o, e, fun x hx => ?_⟩
                rw [hlt2] at hx
                rw [getD_take _ _ _ hx]
                exact hcell x (by omega)
            have hdl : (s.data (j : Int)).length ≤ 1000000000 := by rw [HDAT.out, ← HM.out, ← HRN.out, hlt2]; omega
            have CC := Lib.hid (rcopy_any (.slice a6 rn c6) (s.data (j : Int)) wr hb hdl)
            unfold maxLen at hcm6
            have hrz : (rn : Int) ≤ (c6 : Int) := by omega
            have hrz1 : (rn : Int).toNat = rn := by omega
            obtain rfl := HS6.out
            clear e' hsec hfl hlt2 hb hdl
            go_wp2_with fail
            refine CC.out.mono ?_
            rintro e w5 ⟨v5, rfl, hb5, ho5, hc5⟩
            have HFIN : Hid (GetPost (s.data (j : Int), 0) w (.returned (.tuple #[v5, .int .i64 0])) w5) := Lib.hid ⟨⟨_, rfl, hb5.bytes, fun g hg => Nat.le_trans HR.out.2.2.size (ho5 g hg)⟩, HR.out.2.2.trans hc5 (by simp)⟩
            clear hb5 ho5 hc5
            go_wp2
            go_ret2
            exact HFIN.out
  · have hg : s.get i = ([], 1) := by unfold SS.get; rw [if_pos (by simpa using hi)]
    have HP := Lib.hid (fun (w' : World) (hc : Chg [] w w') => GetPost.nil (c := 1) hc)
    have HG := Lib.hid hg
    rw [HG.out]
    have HI := Lib.hid hi
    subst hrv0
    generalize hnn : s.rows.length = n at *
    have HNN := Lib.hid hnn
    clear H HH hg hi hfew c0 c1
    by_cases h0 : i < 0
    · have q0 : decide (i < 0) = true := decide_eq_true h0
      go_enter Tryd.func29, Tryd.ntmps29
      go_wp2
      go_ret2
      exact HP.out _ (Chg.refl _ _)
    · have q0 : decide (i < 0) = false := decide_eq_false h0
      have q1 : decide (i ≥ (n : Int)) = true := decide_eq_true (by
        have h9 := HI.out
        unfold SS.has at h9
        have h8 := HNN.out
        omega)
      go_enter Tryd.func29, Tryd.ntmps29
      go_wp2
      go_ret2
      exact HP.out _ (Chg.refl _ _)
end Go.Proofs.YtipfgghdoicdhaaDoor.W
