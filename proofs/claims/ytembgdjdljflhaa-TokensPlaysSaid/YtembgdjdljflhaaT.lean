/- Rows of four cells; the small functions of chapter 15. -/
import Derived.Test.YtembgdjdljflhaaC
import Derived.Deep.LoopGhost
import Derived.Deep.QuietTactic
import Derived.BigQuiet
namespace Go.Proofs.Ytembgdjdljflhaa
open Go.RowKit
set_option linter.unusedVariables false

structure TRow where
  c : Int
  h : Int
  i : Int
  b : Bool
def enc (r : TRow) : List Value := [.int .i64 r.c, .int .i64 r.h, .int .i64 r.i, .bool r.b]
def encs (l : List TRow) : List Value := l.flatMap enc
theorem ret_bool {a b : Bool} (h : a = b) : Ending.returned (.bool a) = .returned (.bool b) := by rw [h]
theorem bt {w w1 w2 : World} (h1 : Below w.heap.size w w1) (h2 : Below w1.heap.size w1 w2) : Below w.heap.size w w2 := h1.trans (h2.mono h1.size)

def mayB (client ino : Int) : Bool := decide (0 ≤ client) && decide (client < 4) && decide (2 ≤ ino) && decide (ino ≤ 128)
set_option maxHeartbeats 1000000 in
theorem may_any (c i : Int) (w : World) : Calls Try.prog 31 #[.int .i64 c, .int .i64 i] w fun e w' => e = .returned (.bool (mayB c i)) ∧ w = w' := by
  go_enter Try.func31, Try.ntmps31
  go_wp2
  all_goals
    go_ret
    refine ⟨ret_bool ?_, rfl⟩
    unfold mayB
    by_cases a1 : 0 ≤ c <;> by_cases a2 : c < 4 <;> by_cases a3 : 2 ≤ i <;> by_cases a4 : i ≤ 128 <;> simp [a1, a2, a3, a4] <;> omega

/-- Two rows by client, handle: as integers wrap. -/
def against (r x : TRow) : Int := if r.c ≠ x.c then wrap64 (r.c - x.c) else wrap64 (r.h - x.h)
set_option maxHeartbeats 1000000 in
theorem against_any (r x : TRow) (w : World) : Calls Try.prog 32 #[.agg (enc r).toArray, .agg (enc x).toArray] w fun e w' => e = .returned (.int .i64 (against r x)) ∧ Below w.heap.size w w' := by
  unfold enc
  go_enter Try.func32, Try.ntmps32
  go_wp2
  all_goals
    go_ret
    refine ⟨?_, ((Below.refl _ _).alloc (Nat.le_refl _) _).alloc (by simp) _⟩
    unfold against
    by_cases h : r.c = x.c <;> simp_all

set_option maxHeartbeats 1000000 in
theorem new_any (w : World) : Calls Try.prog 9 #[] w fun e w' => e = .returned (.pointer (some ⟨w.heap.size, 0, none⟩)) ∧ w' = w.alloc (.cells #[.bool true, .slice none 0 0] 72) := by
  go_enter Try.func9, Try.ntmps9
  go_wp2
  go_ret
  exact ⟨rfl, rfl⟩

instance : Inhabited TRow := ⟨⟨0, 0, 0, false⟩⟩
/-- n rows that lie from the head of a block on, below block 'top'. -/
def RowsAt (w : World) (top : Nat) (a : Option Addr) (n : Nat) (f : Nat → TRow) : Prop :=
  n = 0 ∨ ∃ g, a = some ⟨g, 0, none⟩ ∧ g < top ∧ ∀ i, i < n → w.cell? ⟨g, i * 4, none⟩ = some (.int .i64 (f i).c) ∧ w.cell? ⟨g, i * 4 + 1, none⟩ = some (.int .i64 (f i).h) ∧
    w.cell? ⟨g, i * 4 + 2, none⟩ = some (.int .i64 (f i).i) ∧ w.cell? ⟨g, i * 4 + 3, none⟩ = some (.bool (f i).b)
theorem RowsAt.below {w w' : World} {top : Nat} {a : Option Addr} {n : Nat} {f : Nat → TRow} (h : RowsAt w top a n f) (hb : Below top w w') : RowsAt w' top a n f := by
  rcases h with h0 | ⟨g, rfl, hlt, hc⟩
  · exact .inl h0
  · refine .inr ⟨g, rfl, hlt, fun i hi => ?_⟩
    obtain ⟨c0, c1, c2, c3⟩ := hc i hi
    exact ⟨(hb.cell (p := ⟨g, i * 4, none⟩) hlt).trans c0, (hb.cell (p := ⟨g, i * 4 + 1, none⟩) hlt).trans c1, (hb.cell (p := ⟨g, i * 4 + 2, none⟩) hlt).trans c2, (hb.cell (p := ⟨g, i * 4 + 3, none⟩) hlt).trans c3⟩
theorem encs_len (l : List TRow) : (encs l).length = l.length * 4 := by
  induction l with
  | nil => rfl
  | cons r l ih => simp only [encs, List.flatMap_cons, List.length_append] at ih ⊢; rw [ih]; simp [enc]; omega
theorem encs_cons (r : TRow) (l : List TRow) : encs (r :: l) = enc r ++ encs l := rfl
theorem encs_app (a b : List TRow) : encs (a ++ b) = encs a ++ encs b := by simp [encs]
theorem encs_at (l : List TRow) (i : Nat) (hi : i < l.length) (j : Nat) (hj : j < 4) : (encs l)[i * 4 + j]? = (enc (l.getD i default))[j]? := by
  induction l generalizing i with
  | nil => simp at hi
  | cons r l ih =>
    rw [encs_cons]
    cases i with
    | zero =>
      rw [List.getElem?_append_left (by simp [enc]; omega)]
      simp
    | succ i =>
      rw [List.getElem?_append_right (by simp [enc]; omega)]
      have e : (i + 1) * 4 + j - (enc r).length = i * 4 + j := by simp [enc]; omega
      rw [e, ih i (by simpa using hi)]
      simp
theorem own_rows {w : World} {base : Nat} {v : Value} {l : List TRow} (h : w.ownsRow base 35 4 v l.length (encs l)) :
    ∃ a c, v = .slice a l.length c ∧ l.length ≤ c ∧ RowsAt w w.heap.size a l.length (fun i => l.getD i default) := by
  rcases h.2 with ⟨rfl, h0⟩ | ⟨g, cap, cur, rfl, hbg, hg, hnc, hcm, hcs, htake⟩
  · rw [h0]; exact ⟨none, 0, rfl, Nat.le_refl _, .inl rfl⟩
  · refine ⟨_, _, rfl, hnc, .inr ⟨g, rfl, (Array.getElem?_eq_some_iff.1 hg).1, fun i hi => ?_⟩⟩
    have key : ∀ j, j < 4 → ∀ u, (enc (l.getD i default))[j]? = some u → w.cell? ⟨g, i * 4 + j, none⟩ = some u := by
      intro j hj u hu
      have := h.cells (g := g) rfl (i * 4 + j) u (by rw [encs_at l i hi j hj]; exact hu)
      rw [add_none] at this
      simpa using this
    exact ⟨by simpa using key 0 (by omega) _ rfl, key 1 (by omega) _ rfl, key 2 (by omega) _ rfl, key 3 (by omega) _ rfl⟩

/-- All handles: the struct lies alone in block b, its rows in a row of the program's own. -/
structure IsTok (w : World) (b : Nat) (v : Value) (base : Nat) (l : List TRow) : Prop where
  head : w.heap[b]? = some (.cells #[.bool true, v] 72 (0, 0))
  rows : w.ownsRow base 35 4 v l.length (encs l)
  few : l.length ≤ 100000

def find (l : List TRow) (c h : Int) : Option TRow := l.find? fun r => r.c == c && r.h == h
def ofAns (o : Option TRow) : Value := match o with
  | some r => .tuple #[.agg (enc r).toArray, .bool true]
  | none => .tuple #[.agg (enc ⟨0, 0, 0, false⟩).toArray, .bool false]

theorem head_cells {w : World} {b : Nat} {v : Value} {m : Value} (h : w.heap[b]? = some (.cells #[m, v] 72 (0, 0))) : w.cell? ⟨b, 0, none⟩ = some m ∧ w.cell? ⟨b, 1, none⟩ = some v := by
  simp [World.cell?, h]

set_option maxHeartbeats 2000000 in
theorem rows_any (b : Nat) (v m : Value) (w : World) (h : w.heap[b]? = some (.cells #[m, v] 72 (0, 0))) : Calls Try.prog 37 #[.pointer (some ⟨b, 0, none⟩)] w fun e w' => e = .returned v ∧ w = w' := by
  obtain ⟨h0, h1⟩ := head_cells h
  clear h
  go_enter Try.func37, Try.ntmps37
  go_wp2
  go_ret
  exact ⟨rfl, rfl⟩

theorem blk_cell {w : World} {b t : Nat} {cs : Array Value} (h : w.heap[b]? = some (.cells cs t (0, 0))) (j : Nat) (v : Value) (hv : cs[j]? = some v) : w.cell? ⟨b, j, none⟩ = some v := by
  simp [World.cell?, h, hv]
theorem blk_frozen {w : World} {b t : Nat} {cs : Array Value} (h : w.heap[b]? = some (.cells cs t (0, 0))) (j : Nat) : w.frozen? ⟨b, j, none⟩ = false := by
  simp [World.frozen?, h]; try omega
theorem set_blk {w : World} {b t : Nat} {cs : Array Value} {j : Nat} {u : Value} (h : w.heap[b]? = some (.cells cs t (0, 0))) :
    (w.setCell ⟨b, j, none⟩ u).heap[b]? = some (.cells (cs.setIfInBounds j u) t (0, 0)) := by
  have hlt := lt_of_block h
  have h' : w.heap[b] = .cells cs t (0, 0) := by simpa [Array.getElem?_eq_getElem hlt] using h
  show (w.heap.modify b _)[b]? = _
  rw [Array.getElem?_eq_getElem (by simpa using hlt), Array.getElem_modify_self, h']
  rfl
theorem set4 {w : World} {b t : Nat} {a0 a1 a2 a3 u0 u1 u2 u3 : Value} (h : w.heap[b]? = some (.cells #[a0, a1, a2, a3] t (0, 0))) :
    ((((w.setCell ⟨b, 0, none⟩ u0).setCell ⟨b, 1, none⟩ u1).setCell ⟨b, 2, none⟩ u2).setCell ⟨b, 3, none⟩ u3).heap[b]? = some (.cells #[u0, u1, u2, u3] t (0, 0)) :=
  set_blk (set_blk (set_blk (set_blk h)))
theorem blk_alloc {w : World} {b : Nat} {o o' : Obj} (h : w.heap[b]? = some o) : (w.alloc o').heap[b]? = some o :=
  ((Below.refl w.heap.size w).alloc (Nat.le_refl _) o').block b (Array.getElem?_eq_some_iff.1 h).1 |>.trans h
theorem blk_sets {w : World} {b b' j : Nat} {o : Obj} {u : Value} (h : w.heap[b]? = some o) (hne : b ≠ b') : (w.setCell ⟨b', j, none⟩ u).heap[b]? = some o :=
  (Below.heap_setCell w ⟨b', j, none⟩ u b hne).trans h
theorem find_none (l : List TRow) (c h : Int) (hn : ∀ q, q < l.length → ((l.getD q default).c == c && (l.getD q default).h == h) = false) : find l c h = none := by
  unfold find
  rw [List.find?_eq_none]
  intro x hx
  obtain ⟨i, hi, rfl⟩ := List.mem_iff_getElem.1 hx
  have := hn i hi
  simp [List.getD_eq_getElem?_getD, hi] at this ⊢
  exact this
theorem find_at (l : List TRow) (c h : Int) (j : Nat) (hj : j < l.length) (hn : ∀ q, q < j → ((l.getD q default).c == c && (l.getD q default).h == h) = false)
    (hm : (l.getD j default).c = c ∧ (l.getD j default).h = h) : find l c h = some (l.getD j default) := by
  unfold find
  rw [List.find?_eq_some_iff_getElem]
  refine ⟨by rw [hm.1, hm.2]; simp, j, hj, by simp [List.getD_eq_getElem?_getD, hj], fun q hq => ?_⟩
  have := hn q hq
  rw [List.getD_eq_getElem?_getD, List.getElem?_eq_getElem (show q < l.length by omega)] at this
  simp only [Option.getD_some] at this
  rw [this]; rfl

set_option maxHeartbeats 2000000 in
set_option maxRecDepth 100000 in
theorem of_any (b : Nat) (v : Value) (base : Nat) (l : List TRow) (c n : Int) (w : World) (ht : IsTok w b v base l) :
    Calls Try.prog 15 #[.pointer (some ⟨b, 0, none⟩), .int .i64 c, .int .i64 n] w fun e w' => e = .returned (ofAns (find l c n)) ∧ Below w.heap.size w w' := by
  obtain ⟨a, cap, rfl, hcap, hr⟩ := own_rows ht.rows
  have hfew := ht.few
  have CR : Hid (∀ w' : World, Below w.heap.size w w' → Calls Try.prog 37 #[.pointer (some ⟨b, 0, none⟩)] w' fun e w'' => e = .returned (.slice a l.length cap) ∧ w' = w'') := fun w' hw =>
      rows_any b _ _ w' ((hw.block b (Array.getElem?_eq_some_iff.1 ht.head).1).trans ht.head)
  have HC := Lib.hid hr
  clear hr ht
  go_enter Try.func15, Try.ntmps15
  go_wp2_with fail
  refine (CR.out _ ((Below.refl _ _).alloc (Nat.le_refl _) _)).mono ?_
  rintro e w1 ⟨rfl, rfl⟩
  go_wp2
  go_loopg [13] l.length (fun g' i wr => ∃ j : Nat, i = .int .i64 j ∧ j ≤ l.length ∧ l.length ≤ j + g' ∧ Hid (∀ q, q < j → ((l.getD q default).c == c && (l.getD q default).h == n) = false) ∧
      Hid (wr.heap[w.heap.size]? = some (.cells #[.int .i64 0, .int .i64 0, .int .i64 0, .bool false] 35 (0, 0))) ∧ Below w.heap.size w wr)
  case atStart => exact ⟨0, rfl, by omega, by omega, fun q hq => absurd hq (by omega), heap_alloc_new w _, (Below.refl _ _).alloc (Nat.le_refl _) _⟩
  case round =>
    obtain ⟨j, rfl, hj, hjg, HN, HB, hbel⟩ := hrel
    have hsz : w.heap.size < wr.heap.size := (Array.getElem?_eq_some_iff.1 HB.out).1
    have o0 := blk_cell HB.out 0 _ rfl
    have o1 := blk_cell HB.out 1 _ rfl
    have o2 := blk_cell HB.out 2 _ rfl
    have o3 := blk_cell HB.out 3 _ rfl
    have f0 := blk_frozen HB.out 0
    have f1 := blk_frozen HB.out 1
    have f2 := blk_frozen HB.out 2
    have f3 := blk_frozen HB.out 3
    by_cases hlt : j < l.length
    · rcases HC.out with h0 | ⟨g, rfl, hg, hc⟩
      · omega
      obtain ⟨r, hr, c0, c1, c2, c3⟩ : ∃ r, l.getD j default = r ∧ wr.cell? ⟨g, j * 4, none⟩ = some (.int .i64 r.c) ∧ wr.cell? ⟨g, j * 4 + 1, none⟩ = some (.int .i64 r.h) ∧
            wr.cell? ⟨g, j * 4 + 2, none⟩ = some (.int .i64 r.i) ∧ wr.cell? ⟨g, j * 4 + 3, none⟩ = some (.bool r.b) := by
          obtain ⟨c0, c1, c2, c3⟩ := hc j hlt
          exact ⟨_, rfl, (hbel.cell (p := ⟨g, j * 4, none⟩) hg).trans c0, (hbel.cell (p := ⟨g, j * 4 + 1, none⟩) hg).trans c1, (hbel.cell (p := ⟨g, j * 4 + 2, none⟩) hg).trans c2, (hbel.cell (p := ⟨g, j * 4 + 3, none⟩) hg).trans c3⟩
      clear hc
      have HRR := Lib.hid hr
      clear hr
      by_cases hm1 : r.c = c
      · have m1 : (r.c == c) = true := by simp [hm1]
        have HM1 := Lib.hid hm1
        clear hm1
        by_cases hm2 : r.h = n
        · have m2 : (r.h == n) = true := by simp [hm2]
          have HM2 := Lib.hid hm2
          clear hm2
          go_wp2
          have hb4 := blk_alloc (o' := .cells #[.int .i64 r.c, .int .i64 r.h, .int .i64 r.i, .bool r.b] 35) (set4 (u0 := .int .i64 r.c) (u1 := .int .i64 r.h) (u2 := .int .i64 r.i) (u3 := .bool r.b) HB.out)
          refine bodyPost_ret (v := .tuple #[.agg #[.int .i64 r.c, .int .i64 r.h, .int .i64 r.i, .bool r.b], .bool true]) (by simp [results, Try.results15, go_sem, blk_cell hb4 0 _ rfl, blk_cell hb4 1 _ rfl, blk_cell hb4 2 _ rfl, blk_cell hb4 3 _ rfl]) rfl ⟨?_, ?_⟩
          · rw [find_at l c n j hlt HN.out (by rw [HRR.out]; exact ⟨HM1.out, HM2.out⟩), HRR.out]; rfl
          · exact ((((hbel.setCell (Nat.le_refl _) _).setCell (Nat.le_refl _) _).setCell (Nat.le_refl _) _).setCell (Nat.le_refl _) _).alloc (by simp; omega) _
        · have m2 : (r.h == n) = false := by simp [hm2]
          have HM2 := Lib.hid hm2
          clear hm2
          go_wp2
          go_roundg (gk - 1)
          case measure => omega
          case rel =>
            refine ⟨j + 1, rfl, by omega, by omega, ?_, ?_, ?_⟩
            · intro q hq
              rcases Nat.lt_or_ge q j with hq' | hq'
              · exact HN.out q hq'
              · obtain rfl : q = j := by omega
                rw [HRR.out]
                first | (rw [m1]; rfl) | (rw [m2]; simp)
            · exact blk_alloc HB.out
            · exact hbel.alloc (Nat.le_of_lt hsz) _
      · have m1 : (r.c == c) = false := by simp [hm1]
        have HM1 := Lib.hid hm1
        clear hm1
        go_wp2
        go_roundg (gk - 1)
        case measure => omega
        case rel =>
          refine ⟨j + 1, rfl, by omega, by omega, ?_, ?_, ?_⟩
          · intro q hq
            rcases Nat.lt_or_ge q j with hq' | hq'
            · exact HN.out q hq'
            · obtain rfl : q = j := by omega
              rw [HRR.out]
              first | (rw [m1]; rfl) | (rw [m2]; simp)
          · exact blk_alloc HB.out
          · exact hbel.alloc (Nat.le_of_lt hsz) _
    · have he : j = l.length := by omega
      go_wp2
      have hb4 := set4 (u0 := .int .i64 0) (u1 := .int .i64 0) (u2 := .int .i64 0) (u3 := .bool false) HB.out
      refine bodyPost_ret (v := .tuple #[.agg #[.int .i64 0, .int .i64 0, .int .i64 0, .bool false], .bool false]) (by simp [results, Try.results15, go_sem, blk_cell hb4 0 _ rfl, blk_cell hb4 1 _ rfl, blk_cell hb4 2 _ rfl, blk_cell hb4 3 _ rfl]) rfl ⟨?_, ?_⟩
      · rw [find_none l c n (fun q hq => HN.out q (by omega))]; rfl
      · exact (((hbel.setCell (Nat.le_refl _) _).setCell (Nat.le_refl _) _).setCell (Nat.le_refl _) _).setCell (Nat.le_refl _) _
end Go.Proofs.Ytembgdjdljflhaa
