/- slices.IndexFunc, ContainsFunc, DeleteFunc over rows. -/
import Derived.Test.YtembgdjdljflhaaI
namespace Go.Proofs.Ytembgdjdljflhaa
open Go.RowKit
set_option linter.unusedVariables false
set_option linter.unusedSimpArgs false

def idx (p : TRow → Bool) (l : List TRow) : Int := match l.findIdx? p with
  | some k => k
  | none => -1
theorem idx_none {p : TRow → Bool} {l : List TRow} (h : ∀ q, q < l.length → p (l.getD q default) = false) : idx p l = -1 := by
  unfold idx
  rw [List.findIdx?_eq_none_iff.2]
  intro x hx
  obtain ⟨i, hi, rfl⟩ := List.mem_iff_getElem.1 hx
  have := h i hi
  rwa [List.getD_eq_getElem?_getD, List.getElem?_eq_getElem hi] at this
theorem idx_at {p : TRow → Bool} {l : List TRow} {j : Nat} (hj : j < l.length) (h : ∀ q, q < j → p (l.getD q default) = false) (hp : p (l.getD j default) = true) : idx p l = j := by
  unfold idx
  rw [List.findIdx?_eq_some_iff_getElem.2 ⟨hj, by rwa [List.getD_eq_getElem?_getD, List.getElem?_eq_getElem hj] at hp, fun q hq => by
    have := h q hq
    rw [List.getD_eq_getElem?_getD, List.getElem?_eq_getElem (by omega)] at this
    simp at this ⊢
    exact this⟩]

/-- A function value that tells 'p' of a row, in each world where block 'kb' is as it is in w. -/
def Tells (g : Nat) (lb : Array Value) (p : TRow → Bool) (kb : Nat) (w : World) : Prop :=
  ∀ W, W.heap[kb]? = w.heap[kb]? → ∀ r, Calls Try.prog g (#[.agg (enc r).toArray] ++ lb) W fun e w' => e = .returned (.bool (p r)) ∧ Below W.heap.size W w'

set_option maxHeartbeats 2000000 in
set_option maxRecDepth 100000 in
theorem index_any (g : Nat) (lb : Array Value) (eg : ∀ args w, (callFunc g args).run Try.prog w = .ok (.enter g args) w) (p : TRow → Bool) (a : Option Addr) (cap kb : Nat) (l : List TRow) (w : World)
    (hr : RowsAt w w.heap.size a l.length (fun i => l.getD i default)) (hkb : kb < w.heap.size) (hl : l.length ≤ 100000) (HP : Hid (Tells g lb p kb w)) :
    Calls Try.prog 56 #[.slice a l.length cap, .func (.func g) #[] lb] w fun e w' => e = .returned (.int .i64 (idx p l)) ∧ Below w.heap.size w w' := by
  have HC := Lib.hid hr
  clear hr
  go_enter Try.func56, Try.ntmps56
  go_wp2
  go_loopg [8] l.length (fun g' i wr => ∃ j : Nat, i = .int .i64 j ∧ j ≤ l.length ∧ l.length ≤ j + g' ∧ Hid (∀ q, q < j → p (l.getD q default) = false) ∧ Below w.heap.size w wr)
  case atStart => exact ⟨0, rfl, by omega, by omega, fun q hq => absurd hq (by omega), Below.refl _ _⟩
  case round =>
    obtain ⟨j, rfl, hj, hjg, HN, hbel⟩ := hrel
    by_cases hlt : j < l.length
    · rcases HC.out with h0 | ⟨gb, rfl, hg, hc⟩
      · omega
      obtain ⟨r, hr, c0, c1, c2, c3⟩ : ∃ r, l.getD j default = r ∧ wr.cell? ⟨gb, j * 4, none⟩ = some (.int .i64 r.c) ∧ wr.cell? ⟨gb, j * 4 + 1, none⟩ = some (.int .i64 r.h) ∧
            wr.cell? ⟨gb, j * 4 + 2, none⟩ = some (.int .i64 r.i) ∧ wr.cell? ⟨gb, j * 4 + 3, none⟩ = some (.bool r.b) := by
          obtain ⟨c0, c1, c2, c3⟩ := hc j hlt
          exact ⟨_, rfl, (hbel.cell (p := ⟨gb, j * 4, none⟩) hg).trans c0, (hbel.cell (p := ⟨gb, j * 4 + 1, none⟩) hg).trans c1, (hbel.cell (p := ⟨gb, j * 4 + 2, none⟩) hg).trans c2, (hbel.cell (p := ⟨gb, j * 4 + 3, none⟩) hg).trans c3⟩
      have hcall := HP.out wr (hbel.block kb hkb) r
      unfold enc at hcall
      clear hc
      have HRR := Lib.hid hr
      clear hr
      cases hq : p r with
      | true =>
        rw [hq] at hcall
        go_wp2_with (go_at_fn g; refine hcall.mono ?_; rintro e w1 ⟨rfl, hb1⟩)
        go_ret
        refine ⟨?_, bt hbel hb1⟩
        rw [idx_at hlt HN.out (by rw [HRR.out]; exact hq)]
        rfl
      | false =>
        rw [hq] at hcall
        go_wp2_with (go_at_fn g; refine hcall.mono ?_; rintro e w1 ⟨rfl, hb1⟩)
        go_roundg (gk - 1)
        case measure => omega
        case rel =>
          refine ⟨j + 1, rfl, by omega, by omega, ?_, bt hbel hb1⟩
          intro q hq'
          rcases Nat.lt_or_ge q j with h | h
          · exact HN.out q h
          · obtain rfl : q = j := by omega
            rw [HRR.out]; exact hq
    · have he : j = l.length := by omega
      go_wp2
      go_ret
      exact ⟨by rw [idx_none (fun q hq => HN.out q (by omega))]; rfl, hbel⟩

def has (p : TRow → Bool) (l : List TRow) : Bool := l.any p
theorem idx_has (p : TRow → Bool) (l : List TRow) : decide (0 ≤ idx p l) = has p l := by
  unfold idx has
  cases h : l.findIdx? p with
  | none =>
    rw [List.findIdx?_eq_none_iff] at h
    have : l.any p = false := by
      rw [List.any_eq_false]; intro x hx; rw [h x hx]; simp
    rw [this]; rfl
  | some k =>
    have := List.findIdx?_eq_some_iff_getElem.1 h
    obtain ⟨hk, hp, _⟩ := this
    have : l.any p = true := List.any_eq_true.2 ⟨l[k], List.getElem_mem hk, hp⟩
    rw [this]; simp

set_option maxHeartbeats 2000000 in
set_option maxRecDepth 100000 in
theorem contains_any (g : Nat) (lb : Array Value) (eg : ∀ args w, (callFunc g args).run Try.prog w = .ok (.enter g args) w) (p : TRow → Bool) (a : Option Addr) (cap kb : Nat) (l : List TRow) (w : World)
    (hr : RowsAt w w.heap.size a l.length (fun i => l.getD i default)) (hkb : kb < w.heap.size) (hl : l.length ≤ 100000) (HP : Hid (Tells g lb p kb w)) :
    Calls Try.prog 38 #[.slice a l.length cap, .func (.func g) #[] lb] w fun e w' => e = .returned (.bool (has p l)) ∧ Below w.heap.size w w' := by
  have H := Lib.hid (index_any g lb eg p a cap kb l w hr hkb hl HP)
  have HH := Lib.hid (idx_has p l)
  clear hr
  generalize hx : idx p l = x at H HH
  clear hx
  go_enter Try.func38, Try.ntmps38
  go_wp2_with (go_at_call 56; refine H.out.mono ?_; rintro e w1 ⟨rfl, hb1⟩)
  go_ret
  exact ⟨by rw [← HH.out]; rfl, hb1⟩

def keep (p : TRow → Bool) (l : List TRow) : List TRow := l.filter fun r => !p r
/-- Between: the first j rows are looked at, i of them are kept, and lie at the head of m. -/
structure Kept (p : TRow → Bool) (l m : List TRow) (i j : Nat) : Prop where
  len : m.length = l.length
  lt : i < j
  head : m.take i = keep p (l.take j)
  tail : m.drop j = l.drop j
theorem take_succ_getD (l : List TRow) (j : Nat) (hj : j < l.length) : l.take (j + 1) = l.take j ++ [l.getD j default] := by
  rw [List.take_add_one, List.getElem?_eq_getElem hj, List.getD_eq_getElem?_getD, List.getElem?_eq_getElem hj]; rfl
theorem Kept.start {p : TRow → Bool} {l : List TRow} {k : Nat} (hk : k < l.length) (h : ∀ q, q < k → p (l.getD q default) = false) (hp : p (l.getD k default) = true) : Kept p l l k (k + 1) := by
  refine ⟨rfl, by omega, ?_, rfl⟩
  unfold keep
  rw [take_succ_getD l k hk, List.filter_append]
  have e1 : (l.take k).filter (fun r => !p r) = l.take k := by
    rw [List.filter_eq_self]
    intro x hx
    obtain ⟨i, hi, rfl⟩ := List.mem_iff_getElem.1 hx
    have hi' : i < k := by rw [List.length_take] at hi; omega
    have := h i hi'
    rw [List.getD_eq_getElem?_getD, List.getElem?_eq_getElem (by omega)] at this
    rw [List.getElem_take]
    simp at this; simp [this]
  rw [e1]; simp only [List.filter_cons, List.filter_nil, hp]; simp
theorem Kept.at {p : TRow → Bool} {l m : List TRow} {i j : Nat} (h : Kept p l m i j) (hj : j < l.length) : m.getD j default = l.getD j default := by
  have e : ∀ x : List TRow, j < x.length → x.getD j default = (x.drop j).getD 0 default := fun x hx => by
    simp [List.getD_eq_getElem?_getD]
  rw [e m (by rw [h.len]; exact hj), e l hj, h.tail]
theorem drop_succ_of (m l : List TRow) (j : Nat) (h : m.drop j = l.drop j) : m.drop (j + 1) = l.drop (j + 1) := by
  rw [← List.drop_drop, ← List.drop_drop, h]
theorem Kept.skip {p : TRow → Bool} {l m : List TRow} {i j : Nat} (h : Kept p l m i j) (hj : j < l.length) (hp : p (l.getD j default) = true) : Kept p l m i (j + 1) := by
  refine ⟨h.len, by have := h.lt; omega, ?_, drop_succ_of _ _ _ h.tail⟩
  rw [h.head, take_succ_getD l j hj]
  unfold keep
  rw [List.filter_append]; simp only [List.filter_cons, List.filter_nil, hp]; simp
theorem Kept.put {p : TRow → Bool} {l m : List TRow} {i j : Nat} (h : Kept p l m i j) (hj : j < l.length) (hp : p (l.getD j default) = false) : Kept p l (m.set i (l.getD j default)) (i + 1) (j + 1) := by
  have hlt := h.lt
  have hlen := h.len
  refine ⟨by rw [List.length_set]; exact h.len, by omega, ?_, ?_⟩
  · rw [take_succ_getD _ i (by rw [List.length_set]; omega)]
    have e1 : (m.set i (l.getD j default)).take i = m.take i := by
      rw [List.take_set_of_le (Nat.le_refl _)]
    have e2 : (m.set i (l.getD j default)).getD i default = l.getD j default := by
      rw [List.getD_eq_getElem?_getD, List.getElem?_set_self (by omega)]; rfl
    rw [e1, e2, h.head, take_succ_getD l j hj]
    unfold keep
    rw [List.filter_append]; simp only [List.filter_cons, List.filter_nil, hp]; simp
  · rw [List.drop_set_of_lt (by omega)]
    exact drop_succ_of _ _ _ h.tail
theorem Kept.done {p : TRow → Bool} {l m : List TRow} {i : Nat} (h : Kept p l m i l.length) : m.take i = keep p l ∧ i = (keep p l).length := by
  have e : m.take i = keep p l := by rw [h.head, List.take_length]
  refine ⟨e, ?_⟩
  rw [← e, List.length_take, h.len]; have := h.lt; omega

/-- Four stores: a row put at place i. -/
theorem put_cells (m : List TRow) (R : List Value) (i : Nat) (hi : i < m.length) (r : TRow) :
    ((((encs m ++ R).toArray.setIfInBounds (i * 4) (.int .i64 r.c)).setIfInBounds (i * 4 + 1) (.int .i64 r.h)).setIfInBounds (i * 4 + 2) (.int .i64 r.i)).setIfInBounds (i * 4 + 3) (.bool r.b) = (encs (m.set i r) ++ R).toArray := by
  apply Array.ext'
  simp only [Array.toList_setIfInBounds, List.toList_toArray]
  induction m generalizing i with
  | nil => simp at hi
  | cons x m ih =>
    cases i with
    | zero => simp [encs_cons, enc]
    | succ i =>
      have := ih i (by simpa using hi)
      simp only [encs_cons, List.set_cons_succ, List.append_assoc]
      have e : ∀ (t : List Value) (k : Nat) (u : Value), (enc x ++ t).set (k + 4) u = enc x ++ t.set k u := fun t k u => by
        rw [List.set_append_right _ _ (by simp [enc])]
        simp [enc]
      rw [show (i + 1) * 4 = i * 4 + 4 by omega, show i * 4 + 4 + 1 = i * 4 + 1 + 4 by omega, show i * 4 + 4 + 2 = i * 4 + 2 + 4 by omega, show i * 4 + 4 + 3 = i * 4 + 3 + 4 by omega, e, e, e, e, this]

theorem encs_take (l : List TRow) (i : Nat) : (encs l).take (i * 4) = encs (l.take i) := by
  induction l generalizing i with
  | nil => simp [encs]
  | cons r l ih =>
    cases i with
    | zero => simp [encs]
    | succ i =>
      rw [List.take_succ_cons, encs_cons, encs_cons, ← ih i, show (i + 1) * 4 = (enc r).length + i * 4 by simp [enc]; omega, List.take_length_add_append]

theorem run_clear_n {P : Program} (w : World) (t e : TypeId) (z : Value) (g o : Nat) (cur : Array Value) (n c : Nat) (ht : P.underlying t = some (.slice e)) (hz : ∀ w, (zeroValue e).run P w = .ok z w) (h0 : 0 < n)
    (hg : w.heap[g]? = some (.cells cur e (0, 0))) (hfit : o + n * z.cells.size ≤ cur.size) (h1 : ∀ v ∈ z.cells.toList, v.oneCell' = true) :
    ∃ cs : List Value, cs.length = n * z.cells.size ∧ ∀ ty, (Builtin.clear_ #[t] ty #[.slice (some ⟨g, o, none⟩) n c]).run P w = .ok (.tuple #[]) (w.setRow g (cur.toList.take o ++ cs ++ cur.toList.drop (o + cs.length)).toArray) := by
  have hl : (Builtin.zeroCells z.cells n).toList.length = n * z.cells.size := by simp [Builtin.zeroCells]
  have hm : ∀ v ∈ (Builtin.zeroCells z.cells n).toList, v.oneCell' = true := by
    intro v hv
    apply h1
    simp only [Builtin.zeroCells] at hv
    simp at hv
    obtain ⟨a, ha, rfl⟩ := hv
    have h0' : 0 < z.cells.size := Nat.pos_of_ne_zero (fun h => by rw [h] at ha; omega)
    have hlt : a % z.cells.size < z.cells.size := Nat.mod_lt _ h0'
    rw [getElem!_pos z.cells _ hlt]
    exact Array.getElem_mem_toList hlt
  refine ⟨(Builtin.zeroCells z.cells n).toList, hl, fun ty => ?_⟩
  have hst := run_storeCells_at P g o e (Builtin.zeroCells z.cells n).toList 0 cur w hg (by rw [hl]; simpa using hfit) hm
  have hn : n ≠ 0 := by omega
  cases n with
  | zero => omega
  | succ n =>
    simp [Builtin.clear_, run_underlying ht, hz, hst]

theorem grownBy_of_below {w w' : World} (h : Below w.heap.size w w') (r : Option Nat) : w.grownBy w' r := ⟨h.os, h.tape, h.output, h.size, fun k hk _ => h.block k hk⟩
theorem row_cells {w : World} {gb : Nat} {m : List TRow} {R : List Value} (h : w.heap[gb]? = some (.cells (encs m ++ R).toArray 35 (0, 0))) (i : Nat) (hi : i < m.length) :
    w.cell? ⟨gb, i * 4, none⟩ = some (.int .i64 (m.getD i default).c) ∧ w.cell? ⟨gb, i * 4 + 1, none⟩ = some (.int .i64 (m.getD i default).h) ∧
    w.cell? ⟨gb, i * 4 + 2, none⟩ = some (.int .i64 (m.getD i default).i) ∧ w.cell? ⟨gb, i * 4 + 3, none⟩ = some (.bool (m.getD i default).b) := by
  have key : ∀ j, j < 4 → ∀ u, (enc (m.getD i default))[j]? = some u → w.cell? ⟨gb, i * 4 + j, none⟩ = some u := by
    intro j hj u hu
    refine blk_cell h _ _ ?_
    rw [List.getElem?_toArray, List.getElem?_append_left (by rw [encs_len]; omega), encs_at m i hi j hj]
    exact hu
  exact ⟨by simpa using key 0 (by omega) _ rfl, key 1 (by omega) _ rfl, key 2 (by omega) _ rfl, key 3 (by omega) _ rfl⟩
theorem row_put {w : World} {gb : Nat} {m : List TRow} {R : List Value} (h : w.heap[gb]? = some (.cells (encs m ++ R).toArray 35 (0, 0))) (i : Nat) (hi : i < m.length) (r : TRow) :
    ((((w.setCell ⟨gb, i * 4, none⟩ (.int .i64 r.c)).setCell ⟨gb, i * 4 + 1, none⟩ (.int .i64 r.h)).setCell ⟨gb, i * 4 + 2, none⟩ (.int .i64 r.i)).setCell ⟨gb, i * 4 + 3, none⟩ (.bool r.b)).heap[gb]? = some (.cells (encs (m.set i r) ++ R).toArray 35 (0, 0)) := by
  rw [← put_cells m R i hi r]
  exact set_blk (set_blk (set_blk (set_blk h)))
theorem grown_set {w w' : World} {g : Nat} (h : w.grownBy w' (some g)) (o : Nat) (u : Value) : w.grownBy (w'.setCell ⟨g, o, none⟩ u) (some g) :=
  ⟨h.os, h.tape, h.output, by simpa [World.setCell] using h.size, fun k hk hne => (Below.heap_setCell _ _ _ k (fun e => hne (by rw [e]))).trans (h.block k hk hne)⟩
theorem grown_below {w w1 w2 : World} {r : Option Nat} (h : w.grownBy w1 r) (hb : Below w1.heap.size w1 w2) : w.grownBy w2 r := grownBy_trans h (grownBy_of_below hb r)
theorem grown_alloc {w w1 : World} {r : Option Nat} (h : w.grownBy w1 r) (o : Obj) : w.grownBy (w1.alloc o) r := grown_below h ((Below.refl _ _).alloc (Nat.le_refl _) o)

/-- What DeleteFunc says. -/
def DelPost (v : Value) (base : Nat) (k : List TRow) (w : World) (e : Ending) (w' : World) : Prop :=
  ∃ v', e = .returned v' ∧ w'.ownsRow base 35 4 v' k.length (encs k) ∧ v'.ownBlock = v.ownBlock ∧ w.grownBy w' v.ownBlock
theorem ownsRow_below {w w' : World} {base : Nat} {e : TypeId} {size : Nat} {v : Value} {n : Nat} {xs : List Value} (h : w.ownsRow base e size v n xs) (hb : Below w.heap.size w w') : w'.ownsRow base e size v n xs := by
  refine ⟨h.1, ?_⟩
  rcases h.2 with h | ⟨g, cap, cur, rfl, hbg, hg, rest⟩
  · exact .inl h
  · exact .inr ⟨g, cap, cur, rfl, hbg, (hb.block g (lt_of_block hg)).trans hg, rest⟩

set_option maxHeartbeats 4000000 in
set_option maxRecDepth 100000 in
theorem delete_any (g : Nat) (lb : Array Value) (eg : ∀ args w, (callFunc g args).run Try.prog w = .ok (.enter g args) w) (p : TRow → Bool) (v : Value) (base kb : Nat) (l : List TRow) (w : World)
    (hown : w.ownsRow base 35 4 v l.length (encs l)) (hkb : kb < w.heap.size) (hne : v.ownBlock ≠ some kb) (hl : l.length ≤ 100000) (HP : Hid (Tells g lb p kb w)) :
    Calls Try.prog 34 #[v, .func (.func g) #[] lb] w fun e w' => DelPost v base (keep p l) w e w' := by
  obtain ⟨a, cap, rfl, hcap, hrows⟩ := own_rows hown
  have HI := Lib.hid (index_any g lb eg p a cap kb l w hrows hkb hl HP)
  by_cases hex : ∃ k, k < l.length ∧ p (l.getD k default) = true ∧ ∀ q, q < k → p (l.getD q default) = false
  · obtain ⟨k0, hk0, hp0, hn0⟩ := hex
    rw [show idx p l = (k0 : Int) from idx_at hk0 hn0 hp0] at HI
    rcases hown.2 with ⟨h, h0⟩ | ⟨gb, cap', cur, hv, hbg, hg, hnc, hcm, hcs, htake⟩
    · omega
    obtain ⟨rfl, rfl⟩ : a = some ⟨gb, 0, none⟩ ∧ cap = cap' := by simpa using hv
    have hgl := lt_of_block hg
    have hgk : gb ≠ kb := by intro e; apply hne; simp [Value.ownBlock, e]
    have hcur : cur = (encs l ++ cur.toList.drop (l.length * 4)).toArray := by
      apply Array.ext'
      simp only [List.toList_toArray]
      rw [← htake, List.take_append_drop]
    obtain ⟨R, hR⟩ : ∃ R, R = cur.toList.drop (l.length * 4) := ⟨_, rfl⟩
    have hRl : R.length + l.length * 4 = cap * 4 := by
      rw [hR, List.length_drop]
      have : cur.toList.length = cap * 4 := by simpa using hcs
      have := Nat.mul_le_mul_right 4 hnc
      omega
    rw [← hR] at hcur
    rw [hcur] at hg
    have HG := Lib.hid hg
    have HST := Lib.hid (Kept.start hk0 hn0 hp0)
    have HRL := Lib.hid hRl
    unfold maxLen at hcm
    clear hcur hR hRl htake hcs hg hp0 hn0 hv hown hrows hne
    go_enter Try.func34, Try.ntmps34
    go_wp2_with (go_at_call 56; refine HI.out.mono ?_; rintro e w1 ⟨rfl, hb1⟩)
    go_loopg [5, 6, 7] l.length (fun g' s5 s6 _ wr => ∃ (i j : Nat) (m : List TRow), s5 = .int .i64 i ∧ s6 = .int .i64 j ∧ j ≤ l.length ∧ l.length ≤ j + g' ∧ Hid (Kept p l m i j) ∧
      Hid (wr.heap[gb]? = some (.cells (encs m ++ R).toArray 35 (0, 0))) ∧ Hid (w.grownBy wr (some gb)))
    case atStart => exact ⟨k0, k0 + 1, l, rfl, rfl, by omega, by omega, HST.out, (hb1.block gb hgl).trans HG.out, grownBy_of_below hb1 _⟩
    case round =>
      obtain ⟨i, j, m, rfl, rfl, hj, hjg, HK, HC, HW⟩ := hrel
      have hgw : gb < wr.heap.size := Nat.lt_of_lt_of_le hgl HW.out.size
      have hkw : kb < wr.heap.size := Nat.lt_of_lt_of_le hkb HW.out.size
      have hkeep : wr.heap[kb]? = w.heap[kb]? := HW.out.block kb hkb (fun e => hgk (Option.some.inj e).symm)
      have HKEEP := Lib.hid hkeep
      have hml := HK.out.len
      have hij := HK.out.lt
      by_cases hlt : j < l.length
      · obtain ⟨r, hr, c0, c1, c2, c3⟩ : ∃ r, l.getD j default = r ∧ wr.cell? ⟨gb, j * 4, none⟩ = some (.int .i64 r.c) ∧ wr.cell? ⟨gb, j * 4 + 1, none⟩ = some (.int .i64 r.h) ∧
            wr.cell? ⟨gb, j * 4 + 2, none⟩ = some (.int .i64 r.i) ∧ wr.cell? ⟨gb, j * 4 + 3, none⟩ = some (.bool r.b) := by
          have := row_cells HC.out j (by omega)
          rw [HK.out.at hlt] at this
          exact ⟨_, rfl, this⟩
        have hcall : ∀ W, W.heap[kb]? = w.heap[kb]? → Calls Try.prog g (#[.agg #[.int .i64 r.c, .int .i64 r.h, .int .i64 r.i, .bool r.b]] ++ lb) W fun e w' => e = .returned (.bool (p r)) ∧ Below W.heap.size W w' := fun W hW => HP.out W hW r
        have HRR := Lib.hid hr
        clear hr hkeep
        have HA := Lib.hid (show (wr.alloc (.cells #[.int .i64 r.c, .int .i64 r.h, .int .i64 r.i, .bool r.b] 35)).heap[wr.heap.size]? = some (.cells #[.int .i64 r.c, .int .i64 r.h, .int .i64 r.i, .bool r.b] 35 (0, 0)) from heap_alloc_new wr _)
        have HAG := Lib.hid (show (wr.alloc (.cells #[.int .i64 r.c, .int .i64 r.h, .int .i64 r.i, .bool r.b] 35)).heap[gb]? = some (.cells (encs m ++ R).toArray 35 (0, 0)) from blk_alloc HC.out)
        have HAW := Lib.hid (grown_alloc HW.out (.cells #[.int .i64 r.c, .int .i64 r.h, .int .i64 r.i, .bool r.b] 35))
        have hasz : (wr.alloc (.cells #[.int .i64 r.c, .int .i64 r.h, .int .i64 r.i, .bool r.b] 35)).heap.size = wr.heap.size + 1 := by simp
        cases hq : p r with
        | true =>
          rw [hq] at hcall
          have HCALL := Lib.hid hcall
          clear hcall
          go_wp2_with (go_at_fn g; refine (HCALL.out _ ((Below.heap_alloc _ _ _ hkw).trans HKEEP.out)).mono ?_; rintro e w1 ⟨rfl, hb1⟩)
          go_roundg (gk - 1)
          case measure => omega
          case rel =>
            refine ⟨i, j + 1, m, rfl, rfl, by omega, by omega, HK.out.skip hlt (by rw [HRR.out]; exact hq), ?_, ?_⟩
            · exact (hb1.block gb (by simp; omega)).trans HAG.out
            · exact grown_below HAW.out hb1
        | false =>
          rw [hq] at hcall
          have HCALL := Lib.hid hcall
          clear hcall
          go_wp2_with (go_at_fn g; refine (HCALL.out _ ((Below.heap_alloc _ _ _ hkw).trans HKEEP.out)).mono ?_; rintro e w1 ⟨rfl, hb1⟩
                       have hla := (hb1.block wr.heap.size (by simp)).trans HA.out
                       have HLG := Lib.hid ((hb1.block gb (by simp; omega)).trans HAG.out)
                       have l0 := blk_cell hla 0 _ rfl
                       have l1 := blk_cell hla 1 _ rfl
                       have l2 := blk_cell hla 2 _ rfl
                       have l3 := blk_cell hla 3 _ rfl
                       obtain ⟨d0, d1, d2, d3⟩ := row_cells HLG.out i (by omega)
                       have f0 := blk_frozen HLG.out (i * 4)
                       have f1 := blk_frozen HLG.out (i * 4 + 1)
                       have f2 := blk_frozen HLG.out (i * 4 + 2)
                       have f3 := blk_frozen HLG.out (i * 4 + 3)
                       have HG1 := Lib.hid (grown_below HAW.out hb1)
                       clear hla hb1)
          go_roundg (gk - 1)
          case measure => omega
          case rel =>
            refine ⟨i + 1, j + 1, m.set i r, rfl, rfl, by omega, by omega, ?_, ?_, ?_⟩
            · have := HK.out.put hlt (by rw [HRR.out]; exact hq)
              rwa [HRR.out] at this
            · exact row_put HLG.out i (by omega) r
            · exact grown_set (grown_set (grown_set (grown_set HG1.out _ _) _ _) _ _) _ _
      · obtain rfl : j = l.length := by omega
        have hdn := HK.out.done
        have hil : i ≤ m.length := by omega
        have hcl : (encs m ++ R).length = cap * 4 := by rw [List.length_append, encs_len, hml]; have := HRL.out; omega
        obtain ⟨zs, hzl, hrz⟩ := run_clear_n (P := Try.prog) wr 32 35 (.agg #[.int .i64 0, .int .i64 0, .int .i64 0, .bool false]) gb (i * 4) (encs m ++ R).toArray (l.length - i) (cap - i) Try.underlying32
          (fun w => by obtain ⟨i0, hi0, hz0, _, _⟩ := info_parts info35; simp [zeroValue, typeInfo, hi0, hz0]) (by omega) HC.out
          (by simp only [List.size_toArray, hcl]; simp [Value.cells]; have := HRL.out; omega) (by intro u hu; simp [Value.cells] at hu; rcases hu with rfl | rfl | rfl | rfl <;> rfl)
        have hz4 : zs.length = (l.length - i) * 4 := hzl
        simp only [List.toList_toArray] at hrz
        have ht : (encs m ++ R).take (i * 4) = encs (m.take i) := by
          rw [List.take_append_of_le_length (by rw [encs_len]; omega), encs_take]
        rw [ht, List.append_assoc] at hrz
        obtain ⟨cs, hcs⟩ : ∃ cs, cs = zs ++ (encs m ++ R).drop (i * 4 + zs.length) := ⟨_, rfl⟩
        have hcsl : (encs (m.take i) ++ cs).length = cap * 4 := by
          rw [hcs]
          simp only [List.length_append, List.length_drop, encs_len, List.length_take, hz4, Nat.min_eq_left hil] at hcl ⊢
          have := HRL.out; omega
        rw [← hcs] at hrz
        obtain ⟨W2, hW2⟩ : ∃ W2, W2 = wr.setRow gb (encs (m.take i) ++ cs).toArray := ⟨_, rfl⟩
        rw [← hW2] at hrz
        have HG2 := Lib.hid (show W2.heap[gb]? = some (.cells (encs (m.take i) ++ cs).toArray 35 (0, 0)) from by rw [hW2]; exact setRow_heap wr gb _ _ 35 _ HC.out)
        have HW2 := Lib.hid (show w.grownBy W2 (some gb) from by
          rw [hW2]
          exact ⟨HW.out.os, HW.out.tape, HW.out.output, by simpa [World.setRow] using HW.out.size, fun q hq hne => (setRow_other wr gb q _ (fun e => hne (by rw [e]))).trans (HW.out.block q hq hne)⟩)
        have HD := Lib.hid hdn
        have HCL := Lib.hid hcsl
        clear hW2 hdn hcsl hcs ht hz4 hzl hcl hkeep
        have hne1 : ¬ (cap = i) := by omega
        go_wp2
        go_ret
        have hd := HD.out
        rw [hd.1] at HG2 HCL
        refine ⟨_, rfl, ?_, rfl, HW2.out⟩
        rw [← hd.2]
        refine ⟨by rw [encs_len, ← hd.2], .inr ⟨gb, cap, _, rfl, hbg, HG2.out, by omega, by unfold maxLen; omega, by simpa using HCL.out, ?_⟩⟩
        simp only []
        rw [List.take_append_of_le_length (by rw [encs_len, ← hd.2]; omega), List.take_of_length_le (by rw [encs_len, ← hd.2]; omega)]
  · have hall : ∀ q, q < l.length → p (l.getD q default) = false := by
      intro q
      induction q using Nat.strongRecOn with
      | _ q ih =>
        intro hq
        cases hp : p (l.getD q default) with
        | false => rfl
        | true => exact absurd ⟨q, hq, hp, fun t ht => ih t ht (by omega)⟩ hex
    have hk : keep p l = l := by
      unfold keep
      rw [List.filter_eq_self]
      intro x hx
      obtain ⟨i, hi, rfl⟩ := List.mem_iff_getElem.1 hx
      have := hall i hi
      rw [List.getD_eq_getElem?_getD, List.getElem?_eq_getElem hi] at this
      simp at this; simp [this]
    rw [idx_none hall] at HI
    rw [hk]
    have HO := Lib.hid hown
    clear hown hrows hk hall hex
    go_enter Try.func34, Try.ntmps34
    go_wp2_with (go_at_call 56; refine HI.out.mono ?_; rintro e w1 ⟨rfl, hb1⟩)
    go_ret
    exact ⟨_, rfl, ownsRow_below HO.out hb1, rfl, grownBy_of_below hb1 _⟩
end Go.Proofs.Ytembgdjdljflhaa
