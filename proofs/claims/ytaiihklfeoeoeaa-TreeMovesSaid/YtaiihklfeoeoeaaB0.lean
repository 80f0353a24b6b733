/- Frames by lists of blocks; rows of bytes in memory. -/
import Derived.Test.YtaiihklfeoeoeaaC
import Derived.Maps.AppendAt
import Derived.OwnWalk
import Derived.Laws.OwnMore
import Derived.Deep.LoopGhost
import Derived.Deep.QuietTactic
import Derived.BigQuiet
namespace Go.Proofs.Ytaiihklfeoeoeaa.W
open Go.RowKit
set_option linter.unusedVariables false
set_option linter.unusedSimpArgs false

/-- w' is w but for the blocks of S, and new ones. -/
structure Chg (S : List Nat) (w w' : World) : Prop where
  os : w'.os = w.os
  tape : w'.tape = w.tape
  output : w'.output = w.output
  size : w.heap.size ≤ w'.heap.size
  block : ∀ k, k < w.heap.size → k ∉ S → w'.heap[k]? = w.heap[k]?
theorem Chg.refl (S : List Nat) (w : World) : Chg S w w := ⟨rfl, rfl, rfl, Nat.le_refl _, fun _ _ _ => rfl⟩
theorem Chg.trans {S T : List Nat} {a b c : World} (h : Chg S a b) (k : Chg T b c) (hT : ∀ x ∈ T, x ∈ S ∨ a.heap.size ≤ x) : Chg S a c :=
  ⟨k.os.trans h.os, k.tape.trans h.tape, k.output.trans h.output, Nat.le_trans h.size k.size, fun x hx hn => (k.block x (Nat.lt_of_lt_of_le hx h.size) (fun ht => by
    rcases hT x ht with h1 | h1
    · exact hn h1
    · omega)).trans (h.block x hx hn)⟩
theorem Chg.mono {S T : List Nat} {a b : World} (h : Chg S a b) (hT : ∀ x ∈ S, x ∈ T ∨ a.heap.size ≤ x) : Chg T a b :=
  ⟨h.os, h.tape, h.output, h.size, fun x hx hn => h.block x hx (fun hs => by
    rcases hT x hs with h1 | h1
    · exact hn h1
    · omega)⟩
theorem Chg.of_below {S : List Nat} {a b : World} (h : Below a.heap.size a b) : Chg S a b := ⟨h.os, h.tape, h.output, h.size, fun x hx _ => h.block x hx⟩
theorem Chg.to_below {S : List Nat} {a b c : World} {B : Nat} (h0 : Below B a b) (h : Chg S b c) (hB : B ≤ b.heap.size) (hS : ∀ x ∈ S, B ≤ x) : Below B a c :=
  ⟨h.os.trans h0.os, h.tape.trans h0.tape, h.output.trans h0.output, Nat.le_trans h0.size h.size, fun x hx => (h.block x (Nat.lt_of_lt_of_le hx hB) (fun hs => by have := hS x hs; omega)).trans (h0.block x hx)⟩
theorem Chg.below {S : List Nat} {a b : World} (h : Chg S a b) (hS : ∀ x ∈ S, a.heap.size ≤ x) : Below a.heap.size a b := Chg.to_below (Below.refl _ _) h (Nat.le_refl _) hS
theorem Chg.drew {S : List Nat} {a b : World} (h : Chg S a b) : Chg S a b.drew := ⟨h.os, h.tape, h.output, h.size, h.block⟩
theorem Chg.drewN {S : List Nat} {a b : World} (h : Chg S a b) (n : Nat) : Chg S a (b.drewN n) := ⟨h.os, h.tape, h.output, h.size, h.block⟩
theorem Chg.alloc {S : List Nat} {a b : World} (h : Chg S a b) (o : Obj) : Chg S a (b.alloc o) :=
  h.trans (T := []) (Chg.of_below ((Below.refl _ _).alloc (Nat.le_refl _) o)) (by simp)
theorem Chg.setCell {S : List Nat} {a b : World} (h : Chg S a b) {p : Addr} (hp : p.block ∈ S ∨ a.heap.size ≤ p.block) (u : Value) : Chg S a (b.setCell p u) :=
  ⟨h.os, h.tape, h.output, by simpa [World.setCell] using h.size, fun k hk hn => (Below.heap_setCell b p u k (by
    rintro rfl
    rcases hp with hp | hp
    · exact hn hp
    · omega)).trans (h.block k hk hn)⟩
theorem Chg.grown {S : List Nat} {a b c : World} {r : Option Nat} (h : Chg S a b) (hg : b.grownBy c r) (hr : ∀ k, r = some k → k ∈ S ∨ a.heap.size ≤ k) : Chg S a c :=
  ⟨hg.os.trans h.os, hg.tape.trans h.tape, hg.output.trans h.output, Nat.le_trans h.size hg.size, fun k hk hn => (hg.block k (Nat.lt_of_lt_of_le hk h.size) (fun e => by
    rcases hr k e.symm with h1 | h1
    · exact hn h1
    · omega)).trans (h.block k hk hn)⟩
theorem Chg.keep {S : List Nat} {a b : World} (h : Chg S a b) {k : Nat} {o : Obj} (hk : a.heap[k]? = some o) (hn : k ∉ S) : b.heap[k]? = some o :=
  (h.block k (Array.getElem?_eq_some_iff.1 hk).1 hn).trans hk
theorem Chg.cell {S : List Nat} {a b : World} (h : Chg S a b) {p : Addr} {v : Value} (hc : a.cell? p = some v) (hn : p.block ∉ S) : b.cell? p = some v :=
  (World.cell?_of_block (h.block p.block (World.block_lt_of_cell? a p hc) hn)).trans hc

theorem ret_bool {a b : Bool} (h : a = b) : Ending.returned (.bool a) = .returned (.bool b) := by rw [h]
theorem ret_int {k : IntKind} {a b : Int} (h : a = b) : Ending.returned (.int k a) = .returned (.int k b) := by rw [h]
theorem bt {w w1 w2 : World} (h1 : Below w.heap.size w w1) (h2 : Below w1.heap.size w1 w2) : Below w.heap.size w w2 := h1.trans (h2.mono h1.size)
theorem blk_lt {w : World} {b : Nat} {o : Obj} (h : w.heap[b]? = some o) : b < w.heap.size := (Array.getElem?_eq_some_iff.1 h).1
theorem blk_cell {w : World} {b t : Nat} {cs : Array Value} (h : w.heap[b]? = some (.cells cs t (0, 0))) (j : Nat) (v : Value) (hv : cs[j]? = some v) : w.cell? ⟨b, j, none⟩ = some v := by
  simp [World.cell?, h, hv]
theorem blk_frozen {w : World} {b t : Nat} {cs : Array Value} (h : w.heap[b]? = some (.cells cs t (0, 0))) (j : Nat) : w.frozen? ⟨b, j, none⟩ = false := by
  simp [World.frozen?, h]; try omega
theorem set_blk {w : World} {b t : Nat} {cs : Array Value} {j : Nat} {u : Value} (h : w.heap[b]? = some (.cells cs t (0, 0))) :
    (w.setCell ⟨b, j, none⟩ u).heap[b]? = some (.cells (cs.setIfInBounds j u) t (0, 0)) := by
  have hlt := blk_lt h
  have h' : w.heap[b] = .cells cs t (0, 0) := by simpa [Array.getElem?_eq_getElem hlt] using h
  show (w.heap.modify b _)[b]? = _
  rw [Array.getElem?_eq_getElem (by simpa using hlt), Array.getElem_modify_self, h']
  rfl
theorem blk_alloc {w : World} {b : Nat} {o o' : Obj} (h : w.heap[b]? = some o) : (w.alloc o').heap[b]? = some o :=
  ((Below.refl w.heap.size w).alloc (Nat.le_refl _) o').block b (Array.getElem?_eq_some_iff.1 h).1 |>.trans h
theorem blk_sets {w : World} {b b' j : Nat} {o : Obj} {u : Value} (h : w.heap[b]? = some o) (hne : b ≠ b') : (w.setCell ⟨b', j, none⟩ u).heap[b]? = some o :=
  (Below.heap_setCell w ⟨b', j, none⟩ u b hne).trans h

/-- A byte as a cell holds it. -/
def bv (x : UInt8) : Value := .int .u8 (x.toNat : Int)
def bvs (l : List UInt8) : List Value := l.map bv
theorem bvs_one (l : List UInt8) : ∀ u ∈ bvs l, u.oneCell' = true := by
  intro u hu
  obtain ⟨x, _, rfl⟩ := List.mem_map.1 hu
  rfl
theorem bvs_len (l : List UInt8) : (bvs l).length = l.length := by simp [bvs]
theorem bvs_at (l : List UInt8) (i : Nat) (hi : i < l.length) : (bvs l)[i]? = some (bv (l.getD i 0)) := by
  simp [bvs, List.getD_eq_getElem?_getD, List.getElem?_eq_getElem hi]

/-- A slice of bytes: what it reads as. -/
def BytesAt (w : World) (v : Value) (l : List UInt8) : Prop :=
  ∃ a cap, v = .slice a l.length cap ∧ l.length ≤ cap ∧ cap ≤ maxLen ∧ ((l = [] ∧ cap = 0) ∨ ∃ g o, a = some ⟨g, o, none⟩ ∧ ∀ i, i < l.length → w.cell? ⟨g, o + i, none⟩ = some (bv (l.getD i 0)))
theorem BytesAt.keep {w w' : World} {v : Value} {l : List UInt8} (h : BytesAt w v l) (hb : ∀ g, v.ownBlock = some g → w'.heap[g]? = w.heap[g]?) : BytesAt w' v l := by
  obtain ⟨a, cap, rfl, h1, h2, h3⟩ := h
  refine ⟨a, cap, rfl, h1, h2, ?_⟩
  rcases h3 with h3 | ⟨g, o, rfl, hc⟩
  · exact .inl h3
  · exact .inr ⟨g, o, rfl, fun i hi => (World.cell?_of_block (w := w) (a := ⟨g, o + i, none⟩) (hb g rfl)).trans (hc i hi)⟩
theorem BytesAt.nil (w : World) : BytesAt w (.slice none 0 0) [] := ⟨none, 0, rfl, by simp, by unfold maxLen; omega, .inl ⟨rfl, rfl⟩⟩

/-- The block that a slice lies in is g, if it lies in any. -/
def InBlk (v : Value) (g : Nat) : Prop := ∀ k, v.ownBlock = some k → k = g

/-- A row of bytes of our own: it may be appended to. -/
def BRow (w : World) (v : Value) (l : List UInt8) : Prop := w.ownsRow 0 5 1 v l.length (bvs l)
theorem BRow.nil (w : World) : BRow w (.slice none 0 0) [] := World.ownsRow_nil _ _ _ _
theorem BRow.lt {w : World} {v : Value} {l : List UInt8} (h : BRow w v l) : ∀ k, v.ownBlock = some k → k < w.heap.size := fun k hk => (World.ownsRow.lt h k hk).2
theorem row_keep {w w' : World} {base e size n : Nat} {v : Value} {xs : List Value} (h : w.ownsRow base e size v n xs) (hb : ∀ g, v.ownBlock = some g → w'.heap[g]? = w.heap[g]?) : w'.ownsRow base e size v n xs := by
  refine ⟨h.1, ?_⟩
  rcases h.2 with h | ⟨g, cap, cur, rfl, hbg, hg, rest⟩
  · exact .inl h
  · exact .inr ⟨g, cap, cur, rfl, hbg, (hb g rfl).trans hg, rest⟩
theorem row_base {w : World} {base e size n : Nat} {v : Value} {xs : List Value} (h : w.ownsRow base e size v n xs) (B : Nat) (hB : ∀ g, v.ownBlock = some g → B ≤ g) : w.ownsRow B e size v n xs := by
  refine ⟨h.1, ?_⟩
  rcases h.2 with h | ⟨g, cap, cur, rfl, hbg, hg, rest⟩
  · exact .inl h
  · exact .inr ⟨g, cap, cur, rfl, hB g rfl, hg, rest⟩
theorem BRow.keep {w w' : World} {v : Value} {l : List UInt8} (h : BRow w v l) (hb : ∀ g, v.ownBlock = some g → w'.heap[g]? = w.heap[g]?) : BRow w' v l := row_keep h hb
theorem BRow.bytes {w : World} {v : Value} {l : List UInt8} (h : BRow w v l) : BytesAt w v l := by
  rcases h.2 with ⟨rfl, h0⟩ | ⟨g, cap, cur, rfl, hbg, hg, hnc, hcm, hcs, htake⟩
  · obtain rfl := List.eq_nil_of_length_eq_zero h0
    exact BytesAt.nil w
  · refine ⟨_, cap, rfl, hnc, hcm, .inr ⟨g, 0, rfl, fun i hi => ?_⟩⟩
    have := h.cells (g := g) rfl i _ (bvs_at l i hi)
    rwa [add_none] at this

theorem elBytes : El Try.prog 22 5 (.int .u8 0) 1 1 := El.mk Try.underlying22 (by kernel_rfl) rfl (by decide)

theorem run_appB {w : World} (ty : TypeId) (v : Value) (l : List UInt8) (hown : BRow w v l) (u : Value) (m : List UInt8) (hm : BytesAt w u m) (hsz : l.length + m.length ≤ 140737488355328) :
    ∃ v' w', (Builtin.append_ #[22, 22] ty #[v, u]).run Try.prog w = .ok v' w' ∧ BRow w' v' (l ++ m) ∧ w.grownBy w' v.ownBlock ∧ (v'.ownBlock = v.ownBlock ∨ v'.ownBlock = some w.heap.size) := by
  obtain ⟨ht, ⟨i, hi, hz, hsize, hby⟩, hzs, hsp⟩ := elBytes
  have hsz' := hsz
  obtain ⟨a, cap, rfl, h1, h2, h3⟩ := hm
  have hrow : ∀ (v' : Value) (w' : World), w'.ownsRow 0 5 1 v' (l.length + m.length) (bvs l ++ bvs m) → BRow w' v' (l ++ m) := by
    intro v' w' h
    unfold BRow
    rw [List.length_append, show bvs (l ++ m) = bvs l ++ bvs m from List.map_append]
    exact h
  cases a with
  | none =>
    obtain ⟨rfl, rfl⟩ : m = [] ∧ cap = 0 := by
      rcases h3 with h3 | ⟨g, o, h, _⟩
      · exact h3
      · cases h
    have hr := run_append_owned_none (P := Try.prog) (w := w) 0 22 ty 5 i 1 ht hi v l.length (bvs l) hown
    exact ⟨v, w, hr, by rw [List.append_nil]; exact hown, ⟨rfl, rfl, rfl, Nat.le_refl _, fun _ _ _ => rfl⟩, .inl rfl⟩
  | some ad =>
    have hnews : ∀ j x, (bvs m)[j]? = some x → w.cell? (ad.add j) = some x := by
      intro j x hj
      rcases h3 with ⟨rfl, _⟩ | ⟨g, o, he, hc⟩
      · simp [bvs] at hj
      · obtain rfl : ad = ⟨g, o, none⟩ := by simpa using he
        have hjl : j < m.length := by
          have := (List.getElem?_eq_some_iff.1 hj).1
          simpa [bvs] using this
        rw [add_none, hc j hjl]
        rw [bvs_at m j hjl] at hj
        exact hj
    obtain ⟨v', w', hr, ho, hg, _, hat⟩ := run_append_own_at (P := Try.prog) w 0 22 ty 5 i _ 1 1 ht hi hz hsize hby hzs hsp v l.length (bvs l) hown ad m.length cap (bvs m) (by simp [bvs]) hnews (bvs_one m) (by unfold maxLen; omega) (by omega) (Nat.zero_le _)
    exact ⟨v', w', hr, hrow _ _ ho, hg, hat⟩
/-- 'out = append(out, src...)': out a row of bytes of our own, src any bytes. -/
theorem wpList_appB {w : World} {ops : Array Oper} {rest : List Oper} {o : Oper} {a : Act} {Q : Exit → Act → World → Prop} (hgd : o.guard = none) (s x : Operand)
    (ho : o.op = .call { callee := .builtin .append, args := #[s, x], argTypes := #[22, 22] })
    (v : Value) (l : List UInt8) (hs : a.eval s = v) (hown : BRow w v l) (u : Value) (m : List UInt8) (hx : a.eval x = u) (hm : BytesAt w u m)
    (hsz : l.length + m.length ≤ 140737488355328)
    (h : ∀ v' w', BRow w' v' (l ++ m) → w.grownBy w' v.ownBlock → (v'.ownBlock = v.ownBlock ∨ v'.ownBlock = some w.heap.size) → wpList Try.prog ops Q rest (a.put o.dst v') w') : wpList Try.prog ops Q (o :: rest) a w := by
  refine wpList_plain hgd fun K hK => ?_
  obtain ⟨v', w', hr, h2, h3, h4⟩ := run_appB o.type v l hown u m hm hsz
  unfold Oper.wp execOp
  simp only [ho, resolve, invoke, builtin, Sem.run_bind, Sem.run_pure, Result.andThen_ok, List.map_toArray, List.map_cons, List.map_nil, hs, hx, hr]
  exact hK _ _ (h v' w' h2 h3 h4)
end Go.Proofs.Ytaiihklfeoeoeaa.W
