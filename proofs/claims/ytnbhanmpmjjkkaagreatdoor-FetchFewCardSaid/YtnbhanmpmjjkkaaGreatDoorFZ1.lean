/- Texts laid together. -/
import Derived.Test.YtnbhanmpmjjkkaaGreatDoorRows
import Derived.WalkKit
import Derived.WalkSpells
import Derived.WalkLawsBesides
import Derived.Lib.Hide
import Derived.Below
import Derived.Maps.AppendAt
import Derived.OwnWalk
import Derived.Laws.OwnMore
import Derived.Deep.LoopGhost
import Derived.Deep.QuietTactic
import Derived.BigQuiet
import Derived.Defers
import Derived.Recover
import Derived.RegionTactic
import Derived.ChangeAlike
import Derived.Laws.BitsLemmas
import Derived.Laws.BitsAllLaws
import Derived.IntWalk
import Derived.Shelf.Abstract
import Derived.Deep.RegionHeld
set_option linter.unusedVariables false
set_option linter.unusedSimpArgs false
set_option maxHeartbeats 64000000
set_option maxRecDepth 100000
namespace Go.Proofs.YtnbhanmpmjjkkaaGreatDoor
theorem LH {p : Prop} (h : p) : Go.RowKit.Hid p := h
end Go.Proofs.YtnbhanmpmjjkkaaGreatDoor
namespace Go.Proofs.YtnbhanmpmjjkkaaGreatDoor
open Go.RowKit
def IsRow (k : IntKind) (w : World) (a : Option Addr) (len cap : Nat) (zs : List Int) : Prop :=
 (a = none /\ len = 0 /\ cap = 0 /\ zs = []) ∨
 ∃ x, a = some x /\ len <= cap /\ cap <= maxLen /\ zs.length = cap /\ (∀ i, i < zs.length -> w.cell? (x.add i) = some (.int k (zs.getD i 0))) /\ ∀ n ∈ zs, (Lit.int k n).wf = true
theorem add_none {b off i : Nat} : (⟨b, off, none⟩ : Addr).add i = ⟨b, off + i, none⟩ := by
 unfold Addr.add; split <;> simp_all
theorem grownBy_trans {a b c : World} {r : Option Nat} (h1 : a.grownBy b r) (h2 : b.grownBy c r) : a.grownBy c r :=
 ⟨h2.os.trans h1.os, h2.tape.trans h1.tape, h2.output.trans h1.output, Nat.le_trans h1.size h2.size, fun k hk hne => (h2.block k (Nat.lt_of_lt_of_le hk h1.size) hne).trans (h1.block k hk hne)⟩
def El (P : Program) (t e : TypeId) (z : Value) (size bytes : Nat) : Prop :=
 P.underlying t = some (.slice e) /\ (∃ i, P.info? e = some i /\ i.zero = some z /\ i.size = size /\ i.bytes = bytes) /\ z.cells.size = size /\ 0 < size
theorem El.mk {P : Program} {t e : TypeId} {z : Value} {size bytes : Nat} (ht : P.underlying t = some (.slice e)) (hi : (P.info? e).map (fun i => (i.zero, i.size, i.bytes)) = some (some z, size, bytes)) (h1 : z.cells.size = size) (h2 : 0 < size) : El P t e z size bytes := by
 obtain ⟨i, a, b, c, d⟩ := info_parts hi
 exact ⟨ht, ⟨i, a, b, c, d⟩, h1, h2⟩
theorem wpList_app1 {P : Program} {w : World} {ops : Array Oper} {rest : List Oper} {o : Oper} {a : Act} {Q : Exit -> Act -> World -> Prop} (hgd : o.guard = none) (s x : Operand) (t : TypeId)
  (ho : o.op = .call { callee := .builtin .append, args := #[s, x], argTypes := #[t, t] })
  (base : Nat) {e : TypeId} {z : Value} {size bytes : Nat} (hE : El P t e z size bytes)
  (v : Value) (n : Nat) (xs : List Value) (hs : a.eval s = v) (hown : w.ownsRow base e size v n xs)
  (c : Nat) (news : Array Value) (hx : a.eval x = .slice (some ⟨w.heap.size, 0, none⟩) 1 c) (hl : news.size = size) (h1 : ∀ u ∈ news.toList, u.oneCell' = true)
  (h63 : n + 1 <= maxLen) (hbytes : (n + 1) * bytes <= 140737488355328) (hbase : base <= w.heap.size)
  (h : ∀ v' w', w'.ownsRow base e size v' (n + 1) (xs ++ news.toList) -> w.grownBy w' v.ownBlock -> wpList P ops Q rest (a.put o.dst v') w') : wpList P ops Q (o :: rest) a (w.alloc (.cells news e)) := by
 obtain ⟨ht, ⟨i, hi, hz, hsize, hby⟩, hzs, hsz⟩ := hE
 refine wpList_append_own _ hgd s x t ho base e i z size bytes ht hi hz hsize hby hzs hsz v n xs hs (hown.alloc _) ⟨w.heap.size, 0, none⟩ 1 c news.toList hx (by simpa using hl) ?_ h1 h63 hbytes (by simp; omega) ?_
 ·intro j u hj
  rw [add_none]
  simp only [Nat.zero_add]
  have hh : (w.alloc (.cells news e)).heap[w.heap.size]? = some (.cells news e (0, 0)) := heap_alloc_new w _
  simp only [World.cell?, hh]
  simpa using hj
 ·intro v' w' h2 h3 _
  exact h v' w' h2 (grownBy_trans (World.grownBy_alloc w _ _) h3)
end Go.Proofs.YtnbhanmpmjjkkaaGreatDoor
namespace Go.Proofs.YtnbhanmpmjjkkaaGreatDoor.W
open Go.RowKit
structure Chg (S : List Nat) (w w' : World) : Prop where
 os : w'.os = w.os
 tape : w'.tape = w.tape
 output : w'.output = w.output
 size : w.heap.size <= w'.heap.size
 block : ∀ k, k < w.heap.size -> k ∉ S -> w'.heap[k]? = w.heap[k]?
theorem Chg.refl (S : List Nat) (w : World) : Chg S w w := ⟨rfl, rfl, rfl, Nat.le_refl _, fun _ _ _ => rfl⟩
theorem Chg.trans {S T : List Nat} {a b c : World} (h : Chg S a b) (k : Chg T b c) (hT : ∀ x ∈ T, x ∈ S ∨ a.heap.size <= x) : Chg S a c :=
 ⟨k.os.trans h.os, k.tape.trans h.tape, k.output.trans h.output, Nat.le_trans h.size k.size, fun x hx hn => (k.block x (Nat.lt_of_lt_of_le hx h.size) (fun ht => by
  rcases hT x ht with h1 | h1
  ·exact hn h1
  ·omega)).trans (h.block x hx hn)⟩
theorem Chg.mono {S T : List Nat} {a b : World} (h : Chg S a b) (hT : ∀ x ∈ S, x ∈ T ∨ a.heap.size <= x) : Chg T a b :=
 ⟨h.os, h.tape, h.output, h.size, fun x hx hn => h.block x hx (fun hs => by
  rcases hT x hs with h1 | h1
  ·exact hn h1
  ·omega)⟩
theorem Chg.of_below {S : List Nat} {a b : World} (h : Below a.heap.size a b) : Chg S a b := ⟨h.os, h.tape, h.output, h.size, fun x hx _ => h.block x hx⟩
theorem Chg.to_below {S : List Nat} {a b c : World} {B : Nat} (h0 : Below B a b) (h : Chg S b c) (hB : B <= b.heap.size) (hS : ∀ x ∈ S, B <= x) : Below B a c :=
 ⟨h.os.trans h0.os, h.tape.trans h0.tape, h.output.trans h0.output, Nat.le_trans h0.size h.size, fun x hx => (h.block x (Nat.lt_of_lt_of_le hx hB) (fun hs => by have := hS x hs; omega)).trans (h0.block x hx)⟩
theorem Chg.below {S : List Nat} {a b : World} (h : Chg S a b) (hS : ∀ x ∈ S, a.heap.size <= x) : Below a.heap.size a b := Chg.to_below (Below.refl _ _) h (Nat.le_refl _) hS
theorem Chg.drew {S : List Nat} {a b : World} (h : Chg S a b) : Chg S a b.drew := ⟨h.os, h.tape, h.output, h.size, h.block⟩
theorem Chg.drewN {S : List Nat} {a b : World} (h : Chg S a b) (n : Nat) : Chg S a (b.drewN n) := ⟨h.os, h.tape, h.output, h.size, h.block⟩
theorem Chg.alloc {S : List Nat} {a b : World} (h : Chg S a b) (o : Obj) : Chg S a (b.alloc o) :=
 h.trans (T := []) (Chg.of_below ((Below.refl _ _).alloc (Nat.le_refl _) o)) (by simp)
theorem Chg.setCell {S : List Nat} {a b : World} (h : Chg S a b) {p : Addr} (hp : p.block ∈ S ∨ a.heap.size <= p.block) (u : Value) : Chg S a (b.setCell p u) :=
 ⟨h.os, h.tape, h.output, by simpa [World.setCell] using h.size, fun k hk hn => (Below.heap_setCell b p u k (by
  rintro rfl
  rcases hp with hp | hp
  ·exact hn hp
  ·omega)).trans (h.block k hk hn)⟩
theorem Chg.grown {S : List Nat} {a b c : World} {r : Option Nat} (h : Chg S a b) (hg : b.grownBy c r) (hr : ∀ k, r = some k -> k ∈ S ∨ a.heap.size <= k) : Chg S a c :=
 ⟨hg.os.trans h.os, hg.tape.trans h.tape, hg.output.trans h.output, Nat.le_trans h.size hg.size, fun k hk hn => (hg.block k (Nat.lt_of_lt_of_le hk h.size) (fun e => by
  rcases hr k e.symm with h1 | h1
  ·exact hn h1
  ·omega)).trans (h.block k hk hn)⟩
theorem Chg.keep {S : List Nat} {a b : World} (h : Chg S a b) {k : Nat} {o : Obj} (hk : a.heap[k]? = some o) (hn : k ∉ S) : b.heap[k]? = some o :=
 (h.block k (Array.getElem?_eq_some_iff.1 hk).1 hn).trans hk
theorem Chg.cell {S : List Nat} {a b : World} (h : Chg S a b) {p : Addr} {v : Value} (hc : a.cell? p = some v) (hn : p.block ∉ S) : b.cell? p = some v :=
 (World.cell?_of_block (h.block p.block (World.block_lt_of_cell? a p hc) hn)).trans hc
theorem ret_bool {a b : Bool} (h : a = b) : Ending.returned (.bool a) = .returned (.bool b) := by rw [h]
theorem ret_int {k : IntKind} {a b : Int} (h : a = b) : Ending.returned (.int k a) = .returned (.int k b) := by rw [h]
theorem blk_lt {w : World} {b : Nat} {o : Obj} (h : w.heap[b]? = some o) : b < w.heap.size := (Array.getElem?_eq_some_iff.1 h).1
theorem blk_cell {w : World} {b t : Nat} {cs : Array Value} (h : w.heap[b]? = some (.cells cs t (0, 0))) (j : Nat) (v : Value) (hv : cs[j]? = some v) : w.cell? ⟨b, j, none⟩ = some v := by
 simp [World.cell?, h, hv]
theorem blk_frozen {w : World} {b t : Nat} {cs : Array Value} (h : w.heap[b]? = some (.cells cs t (0, 0))) (j : Nat) : w.frozen? ⟨b, j, none⟩ = false := by
 simp [World.frozen?, h]; try omega
theorem set_blk {w : World} {b t : Nat} {cs : Array Value} {j : Nat} {u : Value} (h : w.heap[b]? = some (.cells cs t (0, 0))) :
  (w.setCell ⟨b, j, none⟩ u).heap[b]? = some (.cells (cs.setIfInBounds j u) t (0, 0)) := by
 have hlt := blk_lt h
 have h' : w.heap[b] = .cells cs t (0, 0) := by simpa [Array.getElem?_eq_getElem hlt] using h
 show (w.heap.modify b _)[b]? = _
 rw [Array.getElem?_eq_getElem (by simpa using hlt), Array.getElem_modify_self, h']
 rfl
theorem blk_alloc {w : World} {b : Nat} {o o' : Obj} (h : w.heap[b]? = some o) : (w.alloc o').heap[b]? = some o :=
 ((Below.refl w.heap.size w).alloc (Nat.le_refl _) o').block b (Array.getElem?_eq_some_iff.1 h).1 |>.trans h
theorem blk_sets {w : World} {b b' j : Nat} {o : Obj} {u : Value} (h : w.heap[b]? = some o) (hne : b ≠ b') : (w.setCell ⟨b', j, none⟩ u).heap[b]? = some o :=
 (Below.heap_setCell w ⟨b', j, none⟩ u b hne).trans h
def bv (x : UInt8) : Value := .int .u8 (x.toNat : Int)
def bvs (l : List UInt8) : List Value := l.map bv
theorem bvs_one (l : List UInt8) : ∀ u ∈ bvs l, u.oneCell' = true := by
 intro u hu
 obtain ⟨x, _, rfl⟩ := List.mem_map.1 hu
 rfl
theorem bvs_len (l : List UInt8) : (bvs l).length = l.length := by simp [bvs]
theorem bvs_at (l : List UInt8) (i : Nat) (hi : i < l.length) : (bvs l)[i]? = some (bv (l.getD i 0)) := by
 simp [bvs, List.getD_eq_getElem?_getD, List.getElem?_eq_getElem hi]
def BytesAt (w : World) (v : Value) (l : List UInt8) : Prop :=
 ∃ a cap, v = .slice a l.length cap /\ l.length <= cap /\ cap <= maxLen /\ ((l = [] /\ cap = 0) ∨ ∃ g o, a = some ⟨g, o, none⟩ /\ ∀ i, i < l.length -> w.cell? ⟨g, o + i, none⟩ = some (bv (l.getD i 0)))
theorem BytesAt.keep {w w' : World} {v : Value} {l : List UInt8} (h : BytesAt w v l) (hb : ∀ g, v.ownBlock = some g -> w'.heap[g]? = w.heap[g]?) : BytesAt w' v l := by
 obtain ⟨a, cap, rfl, h1, h2, h3⟩ := h
 refine ⟨a, cap, rfl, h1, h2, ?_⟩
 rcases h3 with h3 | ⟨g, o, rfl, hc⟩
 ·exact .inl h3
 ·exact .inr ⟨g, o, rfl, fun i hi => (World.cell?_of_block (w := w) (a := ⟨g, o + i, none⟩) (hb g rfl)).trans (hc i hi)⟩
theorem BytesAt.nil (w : World) : BytesAt w (.slice none 0 0) [] := ⟨none, 0, rfl, by simp, by unfold maxLen; omega, .inl ⟨rfl, rfl⟩⟩
def BRow (w : World) (v : Value) (l : List UInt8) : Prop := w.ownsRow 0 5 1 v l.length (bvs l)
theorem BRow.nil (w : World) : BRow w (.slice none 0 0) [] := World.ownsRow_nil _ _ _ _
theorem BRow.lt {w : World} {v : Value} {l : List UInt8} (h : BRow w v l) : ∀ k, v.ownBlock = some k -> k < w.heap.size := fun k hk => (World.ownsRow.lt h k hk).2
theorem row_keep {w w' : World} {base e size n : Nat} {v : Value} {xs : List Value} (h : w.ownsRow base e size v n xs) (hb : ∀ g, v.ownBlock = some g -> w'.heap[g]? = w.heap[g]?) : w'.ownsRow base e size v n xs := by
 refine ⟨h.1, ?_⟩
 rcases h.2 with h | ⟨g, cap, cur, rfl, hbg, hg, rest⟩
 ·exact .inl h
 ·exact .inr ⟨g, cap, cur, rfl, hbg, (hb g rfl).trans hg, rest⟩
theorem row_base {w : World} {base e size n : Nat} {v : Value} {xs : List Value} (h : w.ownsRow base e size v n xs) (B : Nat) (hB : ∀ g, v.ownBlock = some g -> B <= g) : w.ownsRow B e size v n xs := by
 refine ⟨h.1, ?_⟩
 rcases h.2 with h | ⟨g, cap, cur, rfl, hbg, hg, rest⟩
 ·exact .inl h
 ·exact .inr ⟨g, cap, cur, rfl, hB g rfl, hg, rest⟩
theorem BRow.keep {w w' : World} {v : Value} {l : List UInt8} (h : BRow w v l) (hb : ∀ g, v.ownBlock = some g -> w'.heap[g]? = w.heap[g]?) : BRow w' v l := row_keep h hb
theorem BRow.bytes {w : World} {v : Value} {l : List UInt8} (h : BRow w v l) : BytesAt w v l := by
 rcases h.2 with ⟨rfl, h0⟩ | ⟨g, cap, cur, rfl, hbg, hg, hnc, hcm, hcs, htake⟩
 ·obtain rfl := List.eq_nil_of_length_eq_zero h0
  exact BytesAt.nil w
 ·refine ⟨_, cap, rfl, hnc, hcm, .inr ⟨g, 0, rfl, fun i hi => ?_⟩⟩
  have := h.cells (g := g) rfl i _ (bvs_at l i hi)
  rwa [add_none] at this
theorem elBytes : El Tryz.prog 22 5 (.int .u8 0) 1 1 := El.mk Tryz.underlying22 (by kernel_rfl) rfl (by decide)
theorem run_appB {w : World} (ty : TypeId) (v : Value) (l : List UInt8) (hown : BRow w v l) (u : Value) (m : List UInt8) (hm : BytesAt w u m) (hsz : l.length + m.length <= 140737488355328) :
  ∃ v' w', (Builtin.append_ #[22, 22] ty #[v, u]).run Tryz.prog w = .ok v' w' /\ BRow w' v' (l ++ m) /\ w.grownBy w' v.ownBlock /\ (v'.ownBlock = v.ownBlock ∨ v'.ownBlock = some w.heap.size) := by
 obtain ⟨ht, ⟨i, hi, hz, hsize, hby⟩, hzs, hsp⟩ := elBytes
 have hsz' := hsz
 obtain ⟨a, cap, rfl, h1, h2, h3⟩ := hm
 have hrow : ∀ (v' : Value) (w' : World), w'.ownsRow 0 5 1 v' (l.length + m.length) (bvs l ++ bvs m) -> BRow w' v' (l ++ m) := by
  intro v' w' h
  unfold BRow
  rw [List.length_append, show bvs (l ++ m) = bvs l ++ bvs m from List.map_append]
  exact h
 cases a with
 | none =>
  obtain ⟨rfl, rfl⟩ : m = [] /\ cap = 0 := by
   rcases h3 with h3 | ⟨g, o, h, _⟩
   ·exact h3
   ·cases h
  have hr := run_append_owned_none (P := Tryz.prog) (w := w) 0 22 ty 5 i 1 ht hi v l.length (bvs l) hown
  exact ⟨v, w, hr, by rw [List.append_nil]; exact hown, ⟨rfl, rfl, rfl, Nat.le_refl _, fun _ _ _ => rfl⟩, .inl rfl⟩
 | some ad =>
  have hnews : ∀ j x, (bvs m)[j]? = some x -> w.cell? (ad.add j) = some x := by
   intro j x hj
   rcases h3 with ⟨rfl, _⟩ | ⟨g, o, he, hc⟩
   ·simp [bvs] at hj
   ·obtain rfl : ad = ⟨g, o, none⟩ := by simpa using he
    have hjl : j < m.length := by
     have := (List.getElem?_eq_some_iff.1 hj).1
     simpa [bvs] using this
    rw [add_none, hc j hjl]
    rw [bvs_at m j hjl] at hj
    exact hj
  obtain ⟨v', w', hr, ho, hg, _, hat⟩ := run_append_own_at (P := Tryz.prog) w 0 22 ty 5 i _ 1 1 ht hi hz hsize hby hzs hsp v l.length (bvs l) hown ad m.length cap (bvs m) (by simp [bvs]) hnews (bvs_one m) (by unfold maxLen; omega) (by omega) (Nat.zero_le _)
  exact ⟨v', w', hr, hrow _ _ ho, hg, hat⟩
theorem wpList_appB {w : World} {ops : Array Oper} {rest : List Oper} {o : Oper} {a : Act} {Q : Exit -> Act -> World -> Prop} (hgd : o.guard = none) (s x : Operand)
  (ho : o.op = .call { callee := .builtin .append, args := #[s, x], argTypes := #[22, 22] })
  (v : Value) (l : List UInt8) (hs : a.eval s = v) (hown : BRow w v l) (u : Value) (m : List UInt8) (hx : a.eval x = u) (hm : BytesAt w u m)
  (hsz : l.length + m.length <= 140737488355328)
  (h : ∀ v' w', BRow w' v' (l ++ m) -> w.grownBy w' v.ownBlock -> (v'.ownBlock = v.ownBlock ∨ v'.ownBlock = some w.heap.size) -> wpList Tryz.prog ops Q rest (a.put o.dst v') w') : wpList Tryz.prog ops Q (o :: rest) a w := by
 refine wpList_plain hgd fun K hK => ?_
 obtain ⟨v', w', hr, h2, h3, h4⟩ := run_appB o.type v l hown u m hm hsz
 unfold Oper.wp execOp
 simp only [ho, resolve, invoke, builtin, Sem.run_bind, Sem.run_pure, Result.andThen_ok, List.map_toArray, List.map_cons, List.map_nil, hs, hx, hr]
 exact hK _ _ (h v' w' h2 h3 h4)
def beNum (l : List UInt8) : Nat := l.foldl (fun x c => x * 256 + c.toNat) 0
theorem beNum_snoc (l : List UInt8) (c : UInt8) : beNum (l ++ [c]) = beNum l * 256 + c.toNat := by simp [beNum]
theorem beNum_from (l : List UInt8) : ∀ x : Nat, l.foldl (fun x c => x * 256 + c.toNat) x < (x + 1) * 256 ^ l.length := by
 induction l with
 | nil => intro x; simp
 | cons c l ih =>
  intro x
  have h := ih (x * 256 + c.toNat)
  rw [List.foldl_cons, List.length_cons, Nat.pow_succ']
  have hc := c.toNat_lt
  have h2 : (x * 256 + c.toNat + 1) * 256 ^ l.length <= ((x + 1) * 256) * 256 ^ l.length := Nat.mul_le_mul_right _ (by omega)
  rw [<- Nat.mul_assoc]
  omega
theorem beNum_lt (l : List UInt8) : beNum l < 256 ^ l.length := by
 have := beNum_from l 0
 simpa [beNum] using this
theorem take_snocU (l : List UInt8) (k : Nat) (h : k < l.length) : l.take (k + 1) = l.take k ++ [l.getD k 0] := by
 rw [List.take_succ_eq_append_getElem h, List.getD_eq_getElem?_getD, List.getElem?_eq_getElem h]; rfl
theorem getD_take (l : List UInt8) (n k : Nat) (h : k < n) : (l.take n).getD k 0 = l.getD k 0 := by
 simp [List.getD_eq_getElem?_getD, List.getElem?_take, h]
theorem getD_drop (l : List UInt8) (n k : Nat) : (l.drop n).getD k 0 = l.getD (n + k) 0 := by
 simp [List.getD_eq_getElem?_getD, List.getElem?_drop]
theorem pow6 (k : Nat) (h : k <= 6) : 256 ^ k <= 281474976710656 := by
 have : 256 ^ k <= 256 ^ 6 := Nat.pow_le_pow_right (by omega) h
 simpa using this
theorem beNum_take_le (l : List UInt8) (k : Nat) (h : k <= 6) : beNum (l.take k) < 281474976710656 := by
 refine Nat.lt_of_lt_of_le (beNum_lt _) (pow6 _ ?_)
 exact Nat.le_trans (List.length_take_le _ _) h
theorem or_byte (a : Nat) (c : UInt8) : a * 256 ||| c.toNat = a * 256 + c.toNat := by
 have h := Nat.shiftLeft_add_eq_or_of_lt (show c.toNat < 2 ^ 8 from c.toNat_lt) a
 rw [Nat.shiftLeft_eq] at h
 exact h.symm
def eyeNum (l : List UInt8) (bad : Int) (n : Nat) : Int × List UInt8 × Int :=
 if bad ≠ 0 then (0, l, bad) else if l.length < n then (0, l, 2) else ((beNum (l.take n) : Int), l.drop n, 0)
def xor1 : List UInt8 -> List UInt8 -> List UInt8
 | [], _ => []
 | a :: o, [] => a :: o
 | a :: o, b :: r => (a ^^^ b) :: xor1 o r
theorem xor1_len : ∀ o r : List UInt8, (xor1 o r).length = o.length
 | [], _ => by simp [xor1]
 | a :: o, [] => by simp [xor1]
 | a :: o, b :: r => by simp [xor1, xor1_len o r]
theorem xor1_at : ∀ (o r : List UInt8) (i : Nat), i < o.length -> (xor1 o r).getD i 0 = o.getD i 0 ^^^ r.getD i 0
 | [], _, i, h => by simp at h
 | a :: o, [], i, h => by simp [xor1]
 | a :: o, b :: r, 0, h => by simp [xor1]
 | a :: o, b :: r, i + 1, h => by
  have := xor1_at o r i (by simpa using h)
  simpa [xor1] using this
theorem xor1_at' (o r : List UInt8) (i : Nat) (h : i < o.length) (hr : r.length <= i) : (xor1 o r).getD i 0 = o.getD i 0 := by
 rw [xor1_at o r i h]
 have : r.getD i 0 = 0 := by simp [List.getD_eq_getElem?_getD, List.getElem?_eq_none hr]
 rw [this]; simp
def longestL (l : List (List UInt8)) : Nat := l.foldl (fun n r => max n r.length) 0
theorem longest_from (l : List (List UInt8)) : ∀ n : Nat, l.foldl (fun n r => max n r.length) n = max n (longestL l) := by
 induction l with
 | nil => intro n; simp [longestL]
 | cons r l ih =>
  intro n
  unfold longestL
  rw [List.foldl_cons, List.foldl_cons, ih, ih (max 0 r.length)]
  omega
theorem longest_cons (r : List UInt8) (l : List (List UInt8)) : longestL (r :: l) = max r.length (longestL l) := by
 show List.foldl _ (max 0 r.length) l = _
 rw [longest_from]; omega
theorem longest_app (l m : List (List UInt8)) : longestL (l ++ m) = max (longestL l) (longestL m) := by
 unfold longestL
 rw [List.foldl_append, longest_from m]
 rfl
theorem le_longest {l : List (List UInt8)} {r : List UInt8} (h : r ∈ l) : r.length <= longestL l := by
 induction l with
 | nil => cases h
 | cons x l ih =>
  rw [longest_cons]
  rcases List.mem_cons.1 h with rfl | h
  ·omega
  ·have := ih h; omega
theorem longest_le {l : List (List UInt8)} {m : Nat} (h : ∀ r ∈ l, r.length <= m) : longestL l <= m := by
 induction l with
 | nil => simp [longestL]
 | cons x l ih =>
  rw [longest_cons]
  have := h x (by simp)
  have := ih (fun r hr => h r (by simp [hr]))
  omega
def pxL (l : List (List UInt8)) (i : Nat) : UInt8 := l.foldl (fun a r => a ^^^ r.getD i 0) 0
theorem px_from (l : List (List UInt8)) (i : Nat) : ∀ a : UInt8, l.foldl (fun a r => a ^^^ r.getD i 0) a = a ^^^ pxL l i := by
 induction l with
 | nil => intro a; simp [pxL]
 | cons r l ih =>
  intro a
  unfold pxL
  rw [List.foldl_cons, List.foldl_cons, ih, ih (0 ^^^ r.getD i 0), UInt8.zero_xor, UInt8.xor_assoc]
theorem px_cons (r : List UInt8) (l : List (List UInt8)) (i : Nat) : pxL (r :: l) i = r.getD i 0 ^^^ pxL l i := by
 show List.foldl _ (0 ^^^ r.getD i 0) l = _
 rw [px_from, UInt8.zero_xor]
theorem px_app (l m : List (List UInt8)) (i : Nat) : pxL (l ++ m) i = pxL l i ^^^ pxL m i := by
 unfold pxL
 rw [List.foldl_append, px_from m]
 rfl
theorem xors_len (l : List (List UInt8)) : ∀ o : List UInt8, (l.foldl xor1 o).length = o.length := by
 induction l with
 | nil => intro o; rfl
 | cons r l ih => intro o; rw [List.foldl_cons, ih, xor1_len]
theorem xors_at (l : List (List UInt8)) : ∀ (o : List UInt8) (i : Nat), i < o.length -> (l.foldl xor1 o).getD i 0 = o.getD i 0 ^^^ pxL l i := by
 induction l with
 | nil => intro o i h; simp [pxL]
 | cons r l ih =>
  intro o i h
  rw [List.foldl_cons, ih _ i (by rw [xor1_len]; exact h), xor1_at o r i h, px_cons, UInt8.xor_assoc]
def sumL (l : List (List UInt8)) : List UInt8 := l.foldl xor1 (List.replicate (longestL l) 0)
theorem sumL_len (l : List (List UInt8)) : (sumL l).length = longestL l := by unfold sumL; rw [xors_len, List.length_replicate]
theorem sumL_at (l : List (List UInt8)) (i : Nat) (h : i < longestL l) : (sumL l).getD i 0 = pxL l i := by
 unfold sumL
 rw [xors_at _ _ _ (by rw [List.length_replicate]; exact h)]
 have : (List.replicate (longestL l) (0 : UInt8)).getD i 0 = 0 := by simp [List.getD_eq_getElem?_getD, List.getElem?_replicate]; split <;> rfl
 rw [this, UInt8.zero_xor]
theorem xor_mid (a b c : UInt8) : a ^^^ c ^^^ (a ^^^ (b ^^^ c)) = b := by
 rw [UInt8.xor_comm a c, UInt8.xor_assoc c a, <- UInt8.xor_assoc a a, UInt8.xor_self, UInt8.zero_xor, UInt8.xor_comm b c, <- UInt8.xor_assoc, UInt8.xor_self, UInt8.zero_xor]
theorem px_fill (R : List (List UInt8)) (k i : Nat) (hk : k < R.length) (P : List UInt8) (hP : P.getD i 0 = pxL R i) : pxL (R.eraseIdx k ++ [P]) i = (R.getD k []).getD i 0 := by
 have e1 : R = R.take k ++ (R.getD k [] :: R.drop (k + 1)) := by
  conv => lhs; rw [<- List.take_append_drop k R]
  rw [List.drop_eq_getElem_cons hk]
  congr 2
  simp [List.getD_eq_getElem?_getD, hk]
 have e2 : pxL R i = pxL (R.take k) i ^^^ ((R.getD k []).getD i 0 ^^^ pxL (R.drop (k + 1)) i) := by
  conv => lhs; rw [e1]
  rw [px_app, px_cons]
 rw [List.eraseIdx_eq_take_drop_succ, px_app, px_app, px_cons, hP, e2]
 have : pxL [] i = 0 := rfl
 rw [this, UInt8.xor_zero, xor_mid]
theorem list_of_getD {l m : List UInt8} (h : l.length = m.length) (hq : ∀ q, q < l.length -> l.getD q 0 = m.getD q 0) : l = m := by
 refine List.ext_getElem h (fun q h1 h2 => ?_)
 have := hq q h1
 simpa [List.getD_eq_getElem?_getD, h1, h2] using this
def eachN (size n : Nat) : Nat := if size = 0 then 0 else (size - 1) / (n - 1) + 1
theorem each_le {size n : Nat} (h : 1 <= size) : eachN size n <= size := by
 unfold eachN
 rw [if_neg (by omega)]
 have := Nat.div_le_self (size - 1) (n - 1)
 omega
theorem each_pos {size n : Nat} (h : 1 <= size) : 1 <= eachN size n := by
 unfold eachN
 rw [if_neg (by omega)]
 exact Nat.le_add_left _ _
theorem each_all {size n : Nat} (h : 1 <= size) (hn : 2 <= n) : size <= (n - 1) * eachN size n := by
 unfold eachN
 rw [if_neg (by omega)]
 have h1 := Nat.div_add_mod (size - 1) (n - 1)
 have h2 := Nat.mod_lt (size - 1) (show n - 1 > 0 by omega)
 rw [Nat.mul_succ]
 omega
theorem each_max {size n m : Nat} (hn : 2 <= n) (h : size <= m * (n - 1)) : eachN size n <= m := by
 unfold eachN
 split
 ·omega
 ·have : (size - 1) / (n - 1) < m := (Nat.div_lt_iff_lt_mul (by omega)).2 (by omega)
  omega
def fromN (size n i : Nat) : Nat := min (i * eachN size n) size
def toN (size n i : Nat) : Nat := min (i * eachN size n + eachN size n) size
theorem from_to (size n i : Nat) : fromN size n i <= toN size n i /\ toN size n i <= size /\ toN size n i - fromN size n i <= eachN size n := by
 unfold fromN toN; omega
theorem to_from (size n i : Nat) : toN size n i = fromN size n (i + 1) := by
 unfold fromN toN; rw [Nat.succ_mul]
def partN (data : List UInt8) (n i : Nat) : List UInt8 := (data.drop (fromN data.length n i)).take (toN data.length n i - fromN data.length n i)
theorem part_len (data : List UInt8) (n i : Nat) : (partN data n i).length = toN data.length n i - fromN data.length n i := by
 have := from_to data.length n i
 unfold partN
 rw [List.length_take, List.length_drop]
 omega
theorem part_at (data : List UInt8) (n i j : Nat) (h : j < (partN data n i).length) : (partN data n i).getD j 0 = data.getD (fromN data.length n i + j) 0 := by
 have h1 := part_len data n i
 unfold partN
 rw [List.getD_eq_getElem?_getD, List.getElem?_take_of_lt (by omega), List.getElem?_drop, <- List.getD_eq_getElem?_getD]
def partsN (data : List UInt8) (n : Nat) : List (List UInt8) := (List.range (n - 1)).map (partN data n)
theorem parts_len (data : List UInt8) (n : Nat) : (partsN data n).length = n - 1 := by simp [partsN]
theorem parts_at (data : List UInt8) (n k : Nat) (h : k < n - 1) : (partsN data n).getD k [] = partN data n k := by
 simp [partsN, List.getD_eq_getElem?_getD, h]
def rowN (data : List UInt8) (n i : Nat) : List UInt8 := if i = n - 1 then sumL (partsN data n) else partN data n i
def rowsN (data : List UInt8) (n : Nat) : List (List UInt8) := (List.range n).map (rowN data n)
theorem rows_eq {data : List UInt8} {n : Nat} (hn : 1 <= n) : rowsN data n = partsN data n ++ [sumL (partsN data n)] := by
 unfold rowsN partsN
 conv => lhs; rw [show n = n - 1 + 1 by omega, List.range_succ, List.map_append]
 have e : n - 1 + 1 - 1 = n - 1 := by omega
 congr 1
 ·refine List.map_congr_left (fun i hi => ?_)
  have := List.mem_range.1 hi
  unfold rowN
  rw [if_neg (by omega)]
  rw [show n - 1 + 1 = n by omega]
 ·simp only [List.map_cons, List.map_nil]
  congr 1
  unfold rowN
  rw [if_pos (by omega), show n - 1 + 1 = n by omega]
  rfl
theorem longest_parts {data : List UInt8} {n : Nat} (h : 1 <= data.length) (hn : 2 <= n) : longestL (partsN data n) = eachN data.length n := by
 refine Nat.le_antisymm (longest_le (fun r hr => ?_)) ?_
 ·obtain ⟨i, _, rfl⟩ := List.mem_map.1 hr
  rw [part_len]
  exact (from_to _ _ _).2.2
 ·have h0 : partN data n 0 ∈ partsN data n := List.mem_map.2 ⟨0, List.mem_range.2 (by omega), rfl⟩
  have h1 := le_longest h0
  rw [part_len] at h1
  have h2 := each_le (n := n) h
  unfold toN fromN at h1
  omega
def longN (size n i : Nat) : Nat := if i = n - 1 then eachN size n else toN size n i - fromN size n i
theorem row_len {data : List UInt8} {n i : Nat} (h : 1 <= data.length) (hn : 2 <= n) : (rowN data n i).length = longN data.length n i := by
 unfold rowN longN
 split
 ·rw [sumL_len, longest_parts h hn]
 ·exact part_len _ _ _
theorem long_le (size n i : Nat) : longN size n i <= eachN size n := by
 unfold longN
 split
 ·omega
 ·exact (from_to _ _ _).2.2
theorem fill_row {data : List UInt8} {n k : Nat} (h : 1 <= data.length) (hn : 2 <= n) (hk : k < n - 1) :
  longN data.length n k <= longestL ((rowsN data n).eraseIdx k) /\ (sumL ((rowsN data n).eraseIdx k)).take (longN data.length n k) = partN data n k := by
 have hlp := parts_len data n
 have e : (rowsN data n).eraseIdx k = (partsN data n).eraseIdx k ++ [sumL (partsN data n)] := by
  rw [rows_eq (by omega), List.eraseIdx_append_of_lt_length (by omega)]
 have hm : eachN data.length n <= longestL ((rowsN data n).eraseIdx k) := by
  rw [e]
  have := le_longest (l := (partsN data n).eraseIdx k ++ [sumL (partsN data n)]) (r := sumL (partsN data n)) (by simp)
  rw [sumL_len, longest_parts h hn] at this
  exact this
 have hl := long_le data.length n k
 refine ⟨by omega, ?_⟩
 have hpl : (partN data n k).length = longN data.length n k := by
  rw [part_len]; unfold longN; rw [if_neg (by omega)]
 refine list_of_getD (by rw [List.length_take, sumL_len, hpl]; omega) (fun q hq => ?_)
 rw [List.length_take, sumL_len] at hq
 have e1 : ((sumL ((rowsN data n).eraseIdx k)).take (longN data.length n k)).getD q 0 = (sumL ((rowsN data n).eraseIdx k)).getD q 0 := by
  simp only [List.getD_eq_getElem?_getD]
  rw [List.getElem?_take_of_lt (by omega)]
 rw [e1, sumL_at _ _ (by omega), e, px_fill _ _ _ (by omega) _ (sumL_at _ _ (by rw [longest_parts h hn]; omega)), parts_at _ _ _ hk]
theorem byte_at {data : List UInt8} {n p : Nat} (hn : 2 <= n) (hp : p < data.length) :
  p / eachN data.length n < n - 1 /\ p % eachN data.length n < (partN data n (p / eachN data.length n)).length /\ (partN data n (p / eachN data.length n)).getD (p % eachN data.length n) 0 = data.getD p 0 := by
 have he := each_pos (size := data.length) (n := n) (by omega)
 have ha := each_all (size := data.length) (n := n) (by omega) hn
 generalize hE : eachN data.length n = E at *
 have h1 := Nat.div_add_mod p E
 have h2 := Nat.mod_lt p (show E > 0 by omega)
 have hq : p / E < n - 1 := (Nat.div_lt_iff_lt_mul (by omega)).2 (by omega)
 have hf : fromN data.length n (p / E) = p / E * E := by
  unfold fromN; rw [hE, Nat.mul_comm]; omega
 have ht : toN data.length n (p / E) = min (p / E * E + E) data.length := by
  unfold toN; rw [hE]
 rw [Nat.mul_comm] at h1
 have hl : p % E < (partN data n (p / E)).length := by
  rw [part_len, hf, ht]; omega
 refine ⟨hq, hl, ?_⟩
 rw [part_at _ _ _ _ hl, hf, h1]
theorem assert_nil (w : World) : (Instr.typeAssert .nilIface 20 202 true).run Tryz.prog w = .ok (.tuple #[.agg #[.int .i64 0], .bool false]) w := by kernel_rfl
theorem assert_give (x : Int) (w : World) : (Instr.typeAssert (.iface 202 (.agg #[.int .i64 x])) 20 202 true).run Tryz.prog w = .ok (.tuple #[.agg #[.int .i64 x], .bool true]) w := by kernel_rfl
theorem catch_idle (pa pb : Value) (w : World) :
  CallsD Tryz.prog 170 #[pa, pb] .returning w fun e u' w' => e = .returned (.tuple #[]) /\ u' = .returning /\ w' = w.alloc (.cells #[.int .i64 0] 202) := by
 have hta := assert_nil
 refine callsD_of_wpS Tryz.func170 rfl fun c₀ cs hu => ?_
 rw [Tryz.ntmps170]
 change Code.wpS Tryz.prog _ _ ⟨#[pa, pb, undef, undef, undef, undef, undef, undef, undef, undef, undef, undef, undef, undef, undef, undef, undef, undef, undef], []⟩ _ _
 apply wpS_seq
 apply wpS_region
 simp [wpOpsS, go_sem, recoverD, hu, Exit.thenS, hta]
 apply wpS_seq
 apply wpS_region
 simp [wpOpsS, go_sem, Exit.thenS]
 refine wpS_cond (t := false) (by simp [Act.eval]) ?_
 simp only [Bool.false_eq_true, if_false]
 refine wpS_of_wp (wp_skip ?_)
 cases c₀
 simp_all [bodyPostS, results, Tryz.results170]
theorem catch_panic (b pa pb : Nat) (av : Option Addr) (L cap : Nat) (v1 bad : Value) (x : Int) (older : List PanicEntry) (w : World) (ha : w.heap[pa]? = some (.cells #[.slice av L cap] 22 (0, 0))) (hp : w.heap[pb]? = some (.cells #[.pointer (some ⟨b, 0, none⟩)] 166 (0, 0)))
  (hb : w.heap[b]? = some (.cells #[.bool true, v1, bad] 199 (0, 0))) :
  CallsD Tryz.prog 170 #[.pointer (some ⟨pa, 0, none⟩), .pointer (some ⟨pb, 0, none⟩)] (.panicking ({ v := .iface 202 (.agg #[.int .i64 x]), recovered := false } :: older)) w fun e u' w' =>
   e = .returned (.tuple #[]) /\ u' = .panicking ({ v := .iface 202 (.agg #[.int .i64 x]), recovered := true } :: older) /\ Chg [b] w w' /\ w'.heap[b]? = some (.cells #[.bool true, .slice av L cap, .int .i64 x] 199 (0, 0)) := by
 have hta := assert_give x
 have ha0 := blk_cell ha 0 _ rfl
 have hp0 := blk_cell hp 0 _ rfl
 have hf1 := blk_frozen hb 1
 have hf2 := blk_frozen hb 2
 have hb1 := blk_cell hb 1 _ rfl
 have hb2 := blk_cell hb 2 _ rfl
 have l1 := blk_lt ha
 have l2 := blk_lt hp
 have l3 := blk_lt hb
 have l4 : ¬ (b = w.heap.size) := Nat.ne_of_lt l3
 have HB := LH hb
 clear ha hp hb
 refine callsD_of_wpS Tryz.func170 rfl fun c₀ cs hu => ?_
 rw [Tryz.ntmps170]
 change Code.wpS Tryz.prog _ _ ⟨#[_, _, undef, undef, undef, undef, undef, undef, undef, undef, undef, undef, undef, undef, undef, undef, undef, undef, undef], []⟩ _ _
 apply wpS_seq
 apply wpS_region
 simp [wpOpsS, go_sem, recoverD, hu, Exit.thenS, hta]
 apply wpS_seq
 apply wpS_region
 simp [wpOpsS, go_sem, Exit.thenS]
 refine wpS_cond (t := true) (by simp [Act.eval]) ?_
 simp only [if_true]
 refine wpS_of_wp ?_
 go_region
 refine ⟨rfl, _, rfl, .tuple #[], by simp [results, Tryz.results170], rfl, rfl, ?_, ?_⟩
 ·exact ((((Chg.refl [b] w).setCell (p := ⟨b, 1, none⟩) (.inl (by simp)) _).setCell (p := ⟨b, 2, none⟩) (.inl (by simp)) _).alloc _).drew
 ·exact blk_alloc (set_blk (set_blk HB.out))
theorem take_ok (b g o cap : Nat) (l : List UInt8) (bad : Value) (n : Nat) (w : World) (h : w.heap[b]? = some (.cells #[.bool true, .slice (some ⟨g, o, none⟩) l.length cap, bad] 199 (0, 0)))
  (hl : l.length <= cap) (hc : cap <= maxLen) (hn : n <= l.length) :
  Calls Tryz.prog 171 #[.pointer (some ⟨b, 0, none⟩), .int .i64 n] w fun e w' => e = .returned (.slice (some ⟨g, o, none⟩) n n) /\
   w' = w.setCell ⟨b, 1, none⟩ (.slice (some ⟨g, if cap = n then o else o + n, none⟩) (l.length - n) (cap - n)) := by
 have c1 := blk_cell h 1 _ rfl
 have f1 := blk_frozen h 1
 have hlt := blk_lt h
 unfold maxLen at hc
 clear h
 by_cases hcn : cap = n
 ·go_enter Tryz.func171, Tryz.ntmps171
  go_wp2
  go_ret
  exact ⟨rfl, rfl⟩
 ·go_enter Tryz.func171, Tryz.ntmps171
  go_wp2
  go_ret
  exact ⟨rfl, rfl⟩
def gaveUp (x : Int) : Ending := .panicked [{ v := .iface 202 (.agg #[.int .i64 x]), recovered := false }]
theorem take_short (b : Nat) (a : Option Addr) (L cap : Nat) (bad : Value) (n : Int) (w : World) (h : w.heap[b]? = some (.cells #[.bool true, .slice a L cap, bad] 199 (0, 0)))
  (hL : L <= 1000000000000) (hn : (L : Int) < n) :
  Calls Tryz.prog 171 #[.pointer (some ⟨b, 0, none⟩), .int .i64 n] w fun e w' => e = gaveUp 2 /\ w = w' := by
 have c1 := blk_cell h 1 _ rfl
 have f1 := blk_frozen h 1
 have hlt := blk_lt h
 clear h
 unfold gaveUp
 go_enter Tryz.func171, Tryz.ntmps171
 go_wp2
 exact ⟨rfl, rfl, rfl⟩
theorem wmay_yes (n : Int) (w : World) (h1 : 1 <= n) (h7 : n <= 7) : Calls Tryz.prog 146 #[.int .i64 n] w fun e w' => e = .returned (.bool true) /\ w = w' := by
 go_enter Tryz.func146, Tryz.ntmps146
 go_wp2
 go_ret
 exact ⟨rfl, rfl⟩
theorem read_done (b : Nat) (v : Value) (bad : Int) (k : FuncId) (cap : Array Value) (w : World) (h : w.heap[b]? = some (.cells #[.bool true, v, .int .i64 bad] 199 (0, 0))) (hbad : bad ≠ 0) :
  Calls Tryz.prog 144 #[.pointer (some ⟨b, 0, none⟩), .func (.func k) #[] cap] w fun e w' => e = .returned (.tuple #[]) /\ w' = w.alloc (.cells #[.pointer (some ⟨b, 0, none⟩)] 166) := by
 have h0 := blk_cell h 0 _ rfl
 have h2 := blk_cell h 2 _ rfl
 have hl := blk_lt h
 have hz : (bad != 0) = true := by simp [hbad]
 have HB := LH hbad
 clear h hbad
 go_enter_defers Tryz.func144, Tryz.ntmps144
 go_wp2
 exact ⟨.tuple #[], by simp [results, Tryz.results144], rfl, rfl⟩
theorem read_ret (b : Nat) (v : Value) (k : FuncId) (cap : Array Value) (w : World) (ent : ∀ args w, (callFunc k args).run Tryz.prog w = .ok (.enter k args) w) (a : Option Addr) (L c : Nat) (hv : v = .slice a L c)
  (h : w.heap[b]? = some (.cells #[.bool true, v, .int .i64 0] 199 (0, 0))) (Q : World -> Prop) (HS : Hid (Calls Tryz.prog k cap ((w.alloc (.cells #[.pointer (some ⟨b, 0, none⟩)] 166)).alloc (.cells #[v] 22)) fun e w' => e = .returned (.tuple #[]) /\ Q w')) :
  Calls Tryz.prog 144 #[.pointer (some ⟨b, 0, none⟩), .func (.func k) #[] cap] w fun e w' => e = .returned (.tuple #[]) /\ ∃ w1, Q w1 /\ w' = w1.alloc (.cells #[.int .i64 0] 202) := by
 subst hv
 have h0 := blk_cell h 0 _ rfl
 have h1 := blk_cell h 1 _ rfl
 have h2 := blk_cell h 2 _ rfl
 have hl := blk_lt h
 have hmf : ∀ (fn : Fn) (first cap : Array Value) (w : World), (Instr.makeFunc fn first cap).run Tryz.prog w = .ok (.func fn first cap) w := fun _ _ _ _ => rfl
 clear h
 go_enter_defers Tryz.func144, Tryz.ntmps144
 go_wp2
 refine HS.out.mono ?_
 rintro e w1 ⟨rfl, hq⟩
 have HQ := LH hq
 clear hq HS
 go_wp2
 refine leaves_cons (f := 170) (args := #[.pointer (some ⟨w.heap.size + 1, 0, none⟩), .pointer (some ⟨w.heap.size, 0, none⟩)]) (by simp) (by simp [go_sem]) ?_
 refine (catch_idle _ _ _).mono ?_
 rintro e u' w'' ⟨rfl, rfl, rfl⟩
 exact ⟨.tuple #[], by simp [results, Tryz.results144], rfl, _, HQ.out, rfl⟩
theorem read_panic (b : Nat) (v : Value) (k : FuncId) (cap : Array Value) (w : World) (ent : ∀ args w, (callFunc k args).run Tryz.prog w = .ok (.enter k args) w) (a : Option Addr) (L c : Nat) (hv : v = .slice a L c) (x : Int)
  (h : w.heap[b]? = some (.cells #[.bool true, v, .int .i64 0] 199 (0, 0))) (S : List Nat) (hS : ∀ k ∈ S, k < w.heap.size)
  (HS : Hid (Calls Tryz.prog k cap ((w.alloc (.cells #[.pointer (some ⟨b, 0, none⟩)] 166)).alloc (.cells #[v] 22)) fun e w' => e = gaveUp x /\ ∃ v1, Chg S ((w.alloc (.cells #[.pointer (some ⟨b, 0, none⟩)] 166)).alloc (.cells #[v] 22)) w' /\ w'.heap[b]? = some (.cells #[.bool true, v1, .int .i64 0] 199 (0, 0)))) :
  Calls Tryz.prog 144 #[.pointer (some ⟨b, 0, none⟩), .func (.func k) #[] cap] w fun e w' => e = .returned (.tuple #[]) /\ Chg (b :: S) w w' /\ w'.heap[b]? = some (.cells #[.bool true, v, .int .i64 x] 199 (0, 0)) := by
 subst hv
 have h0 := blk_cell h 0 _ rfl
 have h1 := blk_cell h 1 _ rfl
 have h2 := blk_cell h 2 _ rfl
 have hl := blk_lt h
 have HSS := LH hS
 have hmf : ∀ (fn : Fn) (first cap : Array Value) (w : World), (Instr.makeFunc fn first cap).run Tryz.prog w = .ok (.func fn first cap) w := fun _ _ _ _ => rfl
 clear h hS
 go_enter_defers Tryz.func144, Tryz.ntmps144
 go_wp2
 refine HS.out.mono ?_
 rintro e w1 ⟨rfl, v1, hch, hb⟩
 have hA : w1.heap[w.heap.size]? = some (.cells #[.pointer (some ⟨b, 0, none⟩)] 166 (0, 0)) :=
  hch.keep (blk_alloc (heap_alloc_new w _)) (fun hm => by have := HSS.out _ hm; omega)
 have hB : w1.heap[w.heap.size + 1]? = some (.cells #[.slice a L c] 22 (0, 0)) := by
  refine hch.keep ?_ (fun hm => by have := HSS.out _ hm; omega)
  have := heap_alloc_new (w.alloc (.cells #[.pointer (some ⟨b, 0, none⟩)] 166)) (.cells #[.slice a L c] 22)
  simpa using this
 have CP := LH (catch_panic b (w.heap.size + 1) w.heap.size a L c v1 _ x [] w1 hB hA hb)
 have HC := LH hch
 clear hch hA hB hb HS
 refine leaves_cons (f := 170) (args := #[.pointer (some ⟨w.heap.size + 1, 0, none⟩), .pointer (some ⟨w.heap.size, 0, none⟩)]) (by simp) (by simp [go_sem]) ?_
 refine CP.out.mono ?_
 rintro e u' w'' ⟨rfl, rfl, hc2, hb2⟩
 refine ⟨.tuple #[], by simp [results, Tryz.results144], rfl, ?_, hb2⟩
 have h3 : Chg S w w1 := (((Chg.refl S w).alloc _).alloc _).trans HC.out (fun x hx => .inl hx)
 exact (h3.mono (fun x hx => .inl (List.mem_cons_of_mem _ hx))).trans hc2 (fun x hx => .inl (by simp at hx; simp [hx]))
theorem ofInt_i64 (a : Nat) (ha : a < 9223372036854775808) : (BitVec.ofInt 64 (a : Int)).toNat = a := by
 rw [BitVec.ofInt_natCast, BitVec.toNat_ofNat]; exact Nat.mod_eq_of_lt (by omega)
theorem i64_or_nat (a b : Nat) (ha : a < 9223372036854775808) (hb : b < 9223372036854775808) : bits .or .i64 (a : Int) (b : Int) = ((a ||| b : Nat) : Int) := by
 have hx : a ||| b < 2 ^ 63 := Nat.or_lt_two_pow (by omega) (by omega)
 show IntKind.i64.wrap ((BitVec.ofInt 64 (a : Int) ||| BitVec.ofInt 64 (b : Int)).toNat : Int) = _
 rw [BitVec.toNat_or, ofInt_i64 a ha, ofInt_i64 b hb, IntKind.wrap_i64]
 omega
theorem number_ok (b g o cap : Nat) (l : List UInt8) (bad : Value) (n : Nat) (w : World) (h : w.heap[b]? = some (.cells #[.bool true, .slice (some ⟨g, o, none⟩) l.length cap, bad] 199 (0, 0)))
  (hgb : g ≠ b) (hl : l.length <= cap) (hc : cap <= maxLen) (hcell : ∀ i, i < l.length -> w.cell? ⟨g, o + i, none⟩ = some (bv (l.getD i 0))) (h1 : 1 <= n) (h7 : n <= 7) (hn : n <= l.length) :
  Calls Tryz.prog 147 #[.pointer (some ⟨b, 0, none⟩), .int .i64 n] w fun e w' => e = .returned (.int .i64 (beNum (l.take n))) /\
   w' = w.setCell ⟨b, 1, none⟩ (.slice (some ⟨g, if cap = n then o else o + n, none⟩) (l.length - n) (cap - n)) := by
 have CT := LH (take_ok b g o cap l bad n w h hl hc hn)
 obtain ⟨w1, hw1⟩ : ∃ w1, w1 = w.setCell ⟨b, 1, none⟩ (.slice (some ⟨g, if cap = n then o else o + n, none⟩) (l.length - n) (cap - n)) := ⟨_, rfl⟩
 rw [<- hw1] at CT ⊢
 have HC : Hid (∀ i, i < n -> w1.cell? ⟨g, o + i, none⟩ = some (bv (l.getD i 0))) := by
  intro i hi
  rw [hw1]
  exact (World.cell?_of_block (w := w) (a := ⟨g, o + i, none⟩) (Below.heap_setCell w _ _ g (by simpa using hgb))).trans (hcell i (by omega))
 clear h hl hc hcell hw1
 go_enter Tryz.func147, Tryz.ntmps147
 go_wp2_with (go_at_call 171; refine CT.out.mono ?_; rintro e w2 ⟨rfl, rfl⟩)
 go_loop [5, 12] (fun x i => ∃ k : Nat, k <= n /\ i = .int .i64 k /\ x = .int .i64 (beNum (l.take k))) (fun _ i => n - (intOf i).toNat)
 case atStart => exact ⟨0, Nat.zero_le _, rfl, rfl⟩
 case round =>
  obtain ⟨k, hk, rfl, rfl⟩ := hrel
  by_cases hlt : k < n
  ·have hcl := HC.out k hlt
   have hb := beNum_take_le l k (by omega)
   have hkz : (k : Int) < (n : Int) := by omega
   have hkz1 : (k : Int).toNat = k := by omega
   obtain ⟨c, hc⟩ : ∃ c, c = l.getD k 0 := ⟨_, rfl⟩
   rw [<- hc] at hcl
   have hc8 := c.toNat_lt
   have HX : Hid (beNum (l.take (k + 1)) = beNum (l.take k) * 256 + c.toNat) := LH (by rw [take_snocU l k (by omega), beNum_snoc, hc])
   clear hc
   obtain ⟨x, hx⟩ : ∃ x, x = beNum (l.take k) := ⟨_, rfl⟩
   rw [<- hx] at hb HX ⊢
   clear hx
   unfold bv at hcl
   have hor : bits .or .i64 ((x : Int) * 256) (c.toNat : Int) = ((x * 256 + c.toNat : Nat) : Int) := by
    have := i64_or_nat (x * 256) c.toNat (by omega) (by omega)
    rw [or_byte] at this
    simpa using this
   go_wp2
   go_round
   case rel => exact ⟨k + 1, by omega, by go_num, by rw [HX.out]; go_num⟩
   case measure => simp [intOf]; omega
  ·go_wp2
   go_ret
   obtain rfl : k = n := by omega
   exact ⟨rfl, rfl⟩
theorem number_short (b : Nat) (a : Option Addr) (L cap : Nat) (bad : Value) (n : Int) (w : World) (h : w.heap[b]? = some (.cells #[.bool true, .slice a L cap, bad] 199 (0, 0)))
  (hL : L <= 1000000000000) (hn : (L : Int) < n) :
  Calls Tryz.prog 147 #[.pointer (some ⟨b, 0, none⟩), .int .i64 n] w fun e w' => e = gaveUp 2 /\ w = w' := by
 have CT := LH (take_short b a L cap bad n w h hL hn)
 clear h
 unfold gaveUp at *
 go_enter Tryz.func147, Tryz.ntmps147
 go_wp2_with fail
 refine CT.out.mono ?_
 rintro e w1 ⟨rfl, rfl⟩
 exact ⟨rfl, rfl, rfl⟩
def EyeV (w : World) (v : Value) (g : Nat) (l : List UInt8) : Prop :=
 (v = .slice none 0 0 /\ l = []) ∨ ∃ o cap, v = .slice (some ⟨g, o, none⟩) l.length cap /\ l.length <= cap /\ cap <= maxLen /\ ∀ i, i < l.length -> w.cell? ⟨g, o + i, none⟩ = some (bv (l.getD i 0))
theorem EyeV.keep {w w' : World} {v : Value} {g : Nat} {l : List UInt8} (h : EyeV w v g l) (hb : w'.heap[g]? = w.heap[g]?) : EyeV w' v g l := by
 rcases h with h | ⟨o, cap, rfl, h1, h2, hc⟩
 ·exact .inl h
 ·exact .inr ⟨o, cap, rfl, h1, h2, fun i hi => (World.cell?_of_block (w := w) (a := ⟨g, o + i, none⟩) hb).trans (hc i hi)⟩
theorem EyeV.keepC {w w' : World} {v : Value} {g : Nat} {l : List UInt8} {S : List Nat} (h : EyeV w v g l) (hg : g < w.heap.size ∨ v = .slice none 0 0) (hc : Chg S w w') (hn : g ∉ S) : EyeV w' v g l := by
 rcases h with h | ⟨o, cap, rfl, h1, h2, hcell⟩
 ·exact .inl h
 ·have hg' : g < w.heap.size := by
   rcases hg with hg | hg
   ·exact hg
   ·cases hg
  exact EyeV.keep (.inr ⟨o, cap, rfl, h1, h2, hcell⟩) (hc.block g hg' hn)
theorem or_lt {w w' : World} {g : Nat} {p : Prop} {S : List Nat} (h : g < w.heap.size ∨ p) (hc : Chg S w w') : g < w'.heap.size ∨ p := by
 rcases h with h | h
 ·exact .inl (Nat.lt_of_lt_of_le h hc.size)
 ·exact .inr h
theorem EyeV.slice {w : World} {v : Value} {g : Nat} {l : List UInt8} (h : EyeV w v g l) : ∃ a cap, v = .slice a l.length cap := by
 rcases h with ⟨rfl, rfl⟩ | ⟨o, cap, rfl, _⟩
 ·exact ⟨_, _, rfl⟩
 ·exact ⟨_, _, rfl⟩
def EyeAt (w : World) (b g : Nat) (l : List UInt8) (bad : Int) : Prop :=
 ∃ v, w.heap[b]? = some (.cells #[.bool true, v, .int .i64 bad] 199 (0, 0)) /\ EyeV w v g l /\ g ≠ b /\ (g < w.heap.size ∨ v = .slice none 0 0) /\ l.length <= 1000000
theorem EyeAt.keep {w w' : World} {b g : Nat} {l : List UInt8} {bad : Int} {S : List Nat} (h : EyeAt w b g l bad) (hc : Chg S w w') (hb : b ∉ S) (hg : g ∉ S) : EyeAt w' b g l bad := by
 obtain ⟨v, h1, h2, h3, h4, h5⟩ := h
 exact ⟨v, hc.keep h1 hb, h2.keepC h4 hc hg, h3, or_lt h4 hc, h5⟩
theorem EyeV.dropped {w : World} {g o cap n : Nat} {l : List UInt8} (hl : l.length <= cap) (hc : cap <= maxLen) (hcell : ∀ i, i < l.length -> w.cell? ⟨g, o + i, none⟩ = some (bv (l.getD i 0))) (hn : n <= l.length) :
  EyeV w (.slice (some ⟨g, if cap = n then o else o + n, none⟩) (l.length - n) (cap - n)) g (l.drop n) := by
 right
 have hdl : (l.drop n).length = l.length - n := List.length_drop ..
 refine ⟨if cap = n then o else o + n, cap - n, by rw [hdl], by omega, by omega, fun i hi => ?_⟩
 have h2 : ¬ (cap = n) := by omega
 rw [if_neg h2, getD_drop, Nat.add_assoc]
 exact hcell (n + i) (by omega)
theorem enters1 : ∀ args w, (callFunc 145 args).run Tryz.prog w = .ok (.enter 145 args) w := enters_of Tryz.func145 (by kernel_rfl) rfl
theorem step_ok (b g o cap pw pe px : Nat) (l : List UInt8) (bad : Value) (n : Nat) (w : World) (h : w.heap[b]? = some (.cells #[.bool true, .slice (some ⟨g, o, none⟩) l.length cap, bad] 199 (0, 0)))
  (hgb : g ≠ b) (hl : l.length <= cap) (hc : cap <= maxLen) (hcell : ∀ i, i < l.length -> w.cell? ⟨g, o + i, none⟩ = some (bv (l.getD i 0))) (h1 : 1 <= n) (h7 : n <= 7) (hn : n <= l.length)
  (hw : w.heap[pw]? = some (.cells #[.int .i64 n] 3 (0, 0))) (he : w.heap[pe]? = some (.cells #[.pointer (some ⟨b, 0, none⟩)] 166 (0, 0))) (hx : w.heap[px]? = some (.cells #[.int .i64 0] 3 (0, 0))) (hxb : px ≠ b) :
  Calls Tryz.prog 145 #[.pointer (some ⟨pw, 0, none⟩), .pointer (some ⟨pe, 0, none⟩), .pointer (some ⟨px, 0, none⟩)] w fun e w' => e = .returned (.tuple #[]) /\
   w' = (w.setCell ⟨b, 1, none⟩ (.slice (some ⟨g, if cap = n then o else o + n, none⟩) (l.length - n) (cap - n))).setCell ⟨px, 0, none⟩ (.int .i64 (beNum (l.take n))) := by
 have CN := LH (number_ok b g o cap l bad n w h hgb hl hc hcell h1 h7 hn)
 obtain ⟨w1, hw1⟩ : ∃ w1, w1 = w.setCell ⟨b, 1, none⟩ (.slice (some ⟨g, if cap = n then o else o + n, none⟩) (l.length - n) (cap - n)) := ⟨_, rfl⟩
 rw [<- hw1] at CN ⊢
 have hx1 : w1.heap[px]? = some (.cells #[.int .i64 0] 3 (0, 0)) := by rw [hw1]; exact blk_sets hx hxb
 have w0 := blk_cell hw 0 _ rfl
 have e0 := blk_cell he 0 _ rfl
 have x0 := blk_cell hx1 0 _ rfl
 have x1 := blk_frozen hx1 0
 clear h hl hc hcell hw1 hw he hx hx1
 go_enter Tryz.func145, Tryz.ntmps145
 go_wp2_with fail
 refine (wmay_yes _ _ (by omega) (by omega)).mono ?_
 rintro e w' ⟨rfl, rfl⟩
 go_wp2_with fail
 refine CN.out.mono ?_
 rintro e w' ⟨rfl, rfl⟩
 go_wp2
 go_end0
 exact ⟨rfl, rfl⟩
theorem step_short (b pw pe : Nat) (px : Value) (a : Option Addr) (L cap : Nat) (bad : Value) (n : Nat) (w : World) (h : w.heap[b]? = some (.cells #[.bool true, .slice a L cap, bad] 199 (0, 0)))
  (hL : L <= 1000000000000) (hn : L < n) (h1 : 1 <= n) (h7 : n <= 7)
  (hw : w.heap[pw]? = some (.cells #[.int .i64 n] 3 (0, 0))) (he : w.heap[pe]? = some (.cells #[.pointer (some ⟨b, 0, none⟩)] 166 (0, 0))) :
  Calls Tryz.prog 145 #[.pointer (some ⟨pw, 0, none⟩), .pointer (some ⟨pe, 0, none⟩), px] w fun e w' => e = gaveUp 2 /\ w = w' := by
 have CN := LH (number_short b a L cap bad n w h hL (by omega))
 have w0 := blk_cell hw 0 _ rfl
 have e0 := blk_cell he 0 _ rfl
 clear h hw he
 unfold gaveUp at *
 go_enter Tryz.func145, Tryz.ntmps145
 go_wp2_with fail
 refine (wmay_yes _ _ (by omega) (by omega)).mono ?_
 rintro e w' ⟨rfl, rfl⟩
 go_wp2_with fail
 refine CN.out.mono ?_
 rintro e w' ⟨rfl, rfl⟩
 exact ⟨rfl, rfl, rfl⟩
theorem enum_any (b g : Nat) (l : List UInt8) (bad : Int) (width : Int) (w : World) (h : EyeAt w b g l bad) (h1 : 1 <= width) (h7 : width <= 7) :
  Calls Tryz.prog 112 #[.pointer (some ⟨b, 0, none⟩), .int .i64 width] w fun e w' => e = .returned (.int .i64 (eyeNum l bad width.toNat).1) /\
   EyeAt w' b g (eyeNum l bad width.toNat).2.1 (eyeNum l bad width.toNat).2.2 /\ Chg [b] w w' := by
 obtain ⟨n, rfl⟩ := Int.eq_ofNat_of_zero_le (show 0 <= width by omega)
 rw [Int.toNat_natCast]
 have hE := h
 obtain ⟨v, hb, hv, hgb, hg, hll⟩ := h
 have hbl := blk_lt hb
 obtain ⟨w3, hw3⟩ : ∃ w3, w3 = ((w.alloc (.cells #[.pointer (some ⟨b, 0, none⟩)] 166)).alloc (.cells #[.int .i64 n] 3)).alloc (.cells #[.int .i64 0] 3) := ⟨_, rfl⟩
 have hs3 : w3.heap.size = w.heap.size + 3 := by rw [hw3]; simp
 have hb3 : w3.heap[b]? = some (.cells #[.bool true, v, .int .i64 bad] 199 (0, 0)) := by rw [hw3]; exact blk_alloc (blk_alloc (blk_alloc hb))
 have hpe : w3.heap[w.heap.size]? = some (.cells #[.pointer (some ⟨b, 0, none⟩)] 166 (0, 0)) := by rw [hw3]; exact blk_alloc (blk_alloc (heap_alloc_new w _))
 have hpw : w3.heap[w.heap.size + 1]? = some (.cells #[.int .i64 n] 3 (0, 0)) := by
  rw [hw3]
  have := heap_alloc_new (w.alloc (.cells #[.pointer (some ⟨b, 0, none⟩)] 166)) (.cells #[.int .i64 n] 3)
  exact blk_alloc (by simpa using this)
 have hpx : w3.heap[w.heap.size + 1 + 1]? = some (.cells #[.int .i64 0] 3 (0, 0)) := by
  rw [hw3]
  have := heap_alloc_new ((w.alloc (.cells #[.pointer (some ⟨b, 0, none⟩)] 166)).alloc (.cells #[.int .i64 n] 3)) (.cells #[.int .i64 0] 3)
  simpa using this
 have hc3 : Chg [b] w w3 := by rw [hw3]; exact (((Chg.refl [b] w).alloc _).alloc _).alloc _
 have hv3 : EyeV w3 v g l := hv.keepC hg hc3 (by simp; exact hgb)
 have hg3 := or_lt hg hc3
 obtain ⟨r, hr⟩ : ∃ r, r = eyeNum l bad n := ⟨_, rfl⟩
 have CR : Hid (Calls Tryz.prog 144 #[.pointer (some ⟨b, 0, none⟩), .func (.func 145) #[] #[.pointer (some ⟨w.heap.size + 1, 0, none⟩), .pointer (some ⟨w.heap.size, 0, none⟩), .pointer (some ⟨w.heap.size + 1 + 1, 0, none⟩)]] w3
   fun e w' => e = .returned (.tuple #[]) /\ Hid (Chg [b, w.heap.size + 1 + 1] w3 w' /\ EyeAt w' b g r.2.1 r.2.2 /\ w'.heap[w.heap.size + 1 + 1]? = some (.cells #[.int .i64 r.1] 3 (0, 0)))) := by
  have hgb3 : b < w3.heap.size := blk_lt hb3
  by_cases hbad : bad = 0
  ·subst hbad
   by_cases hlen : l.length < n
   ·have hr' : r = (0, l, 2) := by rw [hr]; unfold eyeNum; rw [if_neg (by simp), if_pos hlen]
    obtain ⟨a, cap, rfl⟩ := hv3.slice
    refine (read_panic b _ 145 _ w3 enters1 a l.length cap rfl 2 hb3 [] (by simp) ?_).mono ?_
    ·refine (step_short b _ _ _ a l.length cap _ n _ (blk_alloc (blk_alloc hb3)) (by omega) hlen (by omega) (by omega) (blk_alloc (blk_alloc hpw)) (blk_alloc (blk_alloc hpe))).mono ?_
     rintro e w' ⟨rfl, rfl⟩
     exact ⟨rfl, _, Chg.refl _ _, blk_alloc (blk_alloc hb3)⟩
    ·rintro e w' ⟨rfl, hc, hh⟩
     refine ⟨rfl, hc.mono (by simp), ?_, ?_⟩
     ·rw [hr']
      exact ⟨_, hh, hv3.keepC hg3 hc (by simp; exact hgb), hgb, or_lt hg3 hc, hll⟩
     ·rw [hr']; exact hc.keep hpx (by simp; omega)
   ·have hr' : r = ((beNum (l.take n) : Int), l.drop n, 0) := by rw [hr]; unfold eyeNum; rw [if_neg (by simp), if_neg hlen]
    rcases hv3 with ⟨rfl, rfl⟩ | ⟨o, cap, rfl, hlc, hcm, hcell⟩
    ·simp at hlen; omega
    have hg4 : g < w.heap.size := by
     rcases hg with hg | hg
     ·exact hg
     ·cases hg
    obtain ⟨w5, hw5⟩ : ∃ w5, w5 = (w3.alloc (.cells #[.pointer (some ⟨b, 0, none⟩)] 166)).alloc (.cells #[.slice (some ⟨g, o, none⟩) l.length cap] 22) := ⟨_, rfl⟩
    have hc5 : Chg [] w3 w5 := by rw [hw5]; exact ((Chg.refl [] w3).alloc _).alloc _
    have hcell5 : ∀ i, i < l.length -> w5.cell? ⟨g, o + i, none⟩ = some (bv (l.getD i 0)) := fun i hi => hc5.cell (hcell i hi) (by simp)
    have CS := step_ok b g o cap _ _ _ l _ n w5 (hc5.keep hb3 (by simp)) hgb hlc hcm hcell5 (by omega) (by omega) (by omega) (hc5.keep hpw (by simp)) (hc5.keep hpe (by simp)) (hc5.keep hpx (by simp)) (by omega)
    rw [hw5] at CS
    refine (read_ret b _ 145 _ w3 enters1 _ _ _ rfl hb3 _ CS).mono ?_
    rintro e w' ⟨rfl, w1, hq, rfl⟩
    rw [<- hw5] at hq
    have hcq : Chg [b, w.heap.size + 1 + 1] w3 w1 := by
     rw [hq]
     exact ((hc5.mono (by simp)).setCell (p := ⟨b, 1, none⟩) (.inl (by simp)) _).setCell (p := ⟨w.heap.size + 1 + 1, 0, none⟩) (.inl (by simp)) _
    have hb1 : w1.heap[b]? = some (.cells #[.bool true, .slice (some ⟨g, if cap = n then o else o + n, none⟩) (l.length - n) (cap - n), .int .i64 0] 199 (0, 0)) := by
     rw [hq]; exact blk_sets (set_blk (hc5.keep hb3 (by simp))) (by omega)
    have hx1 : w1.heap[w.heap.size + 1 + 1]? = some (.cells #[.int .i64 (beNum (l.take n))] 3 (0, 0)) := by
     rw [hq]; exact set_blk (blk_sets (hc5.keep hpx (by simp)) (by omega))
    refine ⟨rfl, hcq.alloc _, ?_, ?_⟩
    ·rw [hr']
     refine ⟨_, blk_alloc hb1, ?_, hgb, ?_, ?_⟩
     ·exact (EyeV.dropped hlc hcm hcell (by omega)).keep ((hcq.alloc _).block g (by omega) (by simp; omega))
     ·exact .inl (Nat.lt_of_lt_of_le (by omega) (hcq.alloc _).size)
     ·show (l.drop n).length <= _
      rw [List.length_drop]; omega
    ·rw [hr']; exact blk_alloc hx1
  ·have hr' : r = (0, l, bad) := by rw [hr]; unfold eyeNum; rw [if_pos hbad]
   refine (read_done b v bad 145 _ w3 hb3 hbad).mono ?_
   rintro e w' ⟨rfl, rfl⟩
   rw [hr']
   refine ⟨rfl, (Chg.refl _ _).alloc _, ⟨v, blk_alloc hb3, hv3.keepC hg3 ((Chg.refl [] w3).alloc _) (by simp), hgb, or_lt hg3 ((Chg.refl [] w3).alloc _), hll⟩, blk_alloc hpx⟩
 rw [<- hr]
 have HC := LH hc3
 have HW := LH hw3
 have hmf : ∀ (fn : Fn) (first cap : Array Value) (w : World), (Instr.makeFunc fn first cap).run Tryz.prog w = .ok (.func fn first cap) w := fun _ _ _ _ => rfl
 clear hb hv hb3 hpe hpw hpx hc3 hr hE hw3 hv3
 go_enter Tryz.func112, Tryz.ntmps112
 go_wp2_with fail
 rw [<- HW.out]
 refine CR.out.mono ?_
 rintro e w4 ⟨rfl, H4⟩
 have x0 := blk_cell H4.out.2.2 0 _ rfl
 go_wp2
 go_ret
 exact ⟨rfl, H4.out.2.1, HC.out.trans H4.out.1 (by
  intro x hx
  simp at hx
  rcases hx with rfl | rfl
  ·exact .inl (by simp)
  ·exact .inr (by omega))⟩
theorem efail_any (b g : Nat) (l : List UInt8) (bad : Int) (w : World) (h : EyeAt w b g l bad) :
  Calls Tryz.prog 114 #[.pointer (some ⟨b, 0, none⟩)] w fun e w' => e = .returned (.int .i64 bad) /\ w = w' := by
 obtain ⟨v, hb, _, _, _, _⟩ := h
 have h0 := blk_cell hb 0 _ rfl
 have h2 := blk_cell hb 2 _ rfl
 clear hb
 go_enter Tryz.func114, Tryz.ntmps114
 go_wp2
 go_ret
 exact ⟨rfl, rfl⟩
theorem eleft_any (b g : Nat) (l : List UInt8) (bad : Int) (w : World) (h : EyeAt w b g l bad) :
  Calls Tryz.prog 156 #[.pointer (some ⟨b, 0, none⟩)] w fun e w' => e = .returned (.int .i64 l.length) /\ w = w' := by
 obtain ⟨v, hb, hv, _, _, _⟩ := h
 obtain ⟨a, cap, rfl⟩ := hv.slice
 have h1 := blk_cell hb 1 _ rfl
 clear hb hv
 go_enter Tryz.func156, Tryz.ntmps156
 go_wp2
 go_ret
 exact ⟨rfl, rfl⟩
theorem clone_any (v : Value) (l : List UInt8) (w : World) (h : BytesAt w v l) (hl : l.length <= 1000000000) :
  Calls Tryz.prog 40 #[v] w fun e w' => ∃ v', e = .returned v' /\ BRow w' v' l /\ (∀ g, v'.ownBlock = some g -> w.heap.size <= g) /\ Chg [] w w' := by
 obtain ⟨a, cap, rfl, h1, h2, h3⟩ := h
 cases a with
 | none =>
  obtain ⟨rfl, rfl⟩ : l = [] /\ cap = 0 := by
   rcases h3 with h3 | ⟨g, o, h, _⟩
   ·exact h3
   ·cases h
  have hq : ∀ w, (binOp .eql 22 (.slice none 0 0) (.slice none 0 0)).run Tryz.prog w = .ok (.bool true) w := fun w => Lib.run_eql_slice_nil w 22 5 none 0 0 0 0 Tryz.underlying22
  go_enter Tryz.func40, Tryz.ntmps40
  go_wp2
  go_ret
  exact ⟨_, rfl, BRow.nil _, by simp [Value.ownBlock], Chg.refl _ _⟩
 | some ad =>
  have hB : BytesAt w (.slice (some ad) l.length cap) l := ⟨_, _, rfl, h1, h2, h3⟩
  have hr : BRow (w.alloc (.cells #[] 5)) (.slice (some ⟨w.heap.size, 0, none⟩) 0 0) [] := World.ownsRow_made w #[] 0 (Nat.zero_le _) (by unfold maxLen; omega) rfl
  have hc0 : Chg [] w (w.alloc (.cells #[] 5)) := (Chg.refl [] w).alloc _
  have hB1 : BytesAt (w.alloc (.cells #[] 5)) (.slice (some ad) l.length cap) l := by
   refine ⟨_, _, rfl, h1, h2, ?_⟩
   rcases h3 with h3 | ⟨g, o, he, hcell⟩
   ·exact .inl h3
   ·exact .inr ⟨g, o, he, fun i hi => hc0.cell (hcell i hi) (by simp)⟩
  have HB := LH hB1
  have HR := LH hr
  have HC := LH hc0
  have hq : ∀ w, (binOp .eql 22 (.slice (some ad) l.length cap) (.slice none 0 0)).run Tryz.prog w = .ok (.bool false) w := fun w => Lib.run_eql_slice_nil w 22 5 (some ad) _ _ 0 0 Tryz.underlying22
  clear hB hB1 hr hc0 h3
  go_enter Tryz.func40, Tryz.ntmps40
  go_wp2_with (at_builtin; refine wpList_appB rfl _ _ rfl (.slice (some ⟨w.heap.size, 0, none⟩) 0 0) [] rfl HR.out _ l rfl HB.out (by simp; omega) ?_; intro v1 w1 ho1 hg1 hat1)
  go_ret
  refine ⟨v1, rfl, by simpa using ho1, ?_, HC.out.grown hg1 (by simp [Value.ownBlock])⟩
  intro g hg
  rcases hat1 with h | h
  ·rw [h] at hg; simp [Value.ownBlock] at hg; omega
  ·rw [h] at hg; simp at hg; omega
theorem neweye_any (v : Value) (l : List UInt8) (w : World) (h : BytesAt w v l) (hl : l.length <= 1000000) :
  Calls Tryz.prog 111 #[v] w fun e w' => ∃ b g, e = .returned (.pointer (some ⟨b, 0, none⟩)) /\ EyeAt w' b g l 0 /\ w.heap.size <= b /\ w.heap.size <= g /\ Chg [] w w' := by
 have CC := LH (clone_any v l w h (by omega))
 clear h
 go_enter Tryz.func111, Tryz.ntmps111
 go_wp2_with fail
 refine CC.out.mono ?_
 rintro e w1 ⟨v1, rfl, hr, hg, hc⟩
 have hsl : ∃ a cap, v1 = .slice a l.length cap := by
  obtain ⟨a, cap, h, _⟩ := hr.bytes
  exact ⟨a, cap, h⟩
 obtain ⟨a, cap, rfl⟩ := hsl
 have HR := LH hr
 have HG := LH hg
 have HC := LH hc
 clear hr hg hc CC
 go_wp2
 go_ret
 have hw : w.heap.size <= w1.heap.size := HC.out.size
 have hca := (Chg.refl [] w1).alloc (.cells #[.bool true, .slice a l.length cap, .int .i64 0] 199)
 cases a with
 | none =>
  have hn : (Value.slice none l.length cap = .slice none 0 0) /\ l = [] := by
   rcases HR.out.2 with ⟨h1, h2⟩ | ⟨g, c, cur, h1, _⟩
   ·exact ⟨h1, List.eq_nil_of_length_eq_zero h2⟩
   ·cases h1
  exact ⟨w1.heap.size, w1.heap.size + 1, rfl, ⟨_, heap_alloc_new w1 _, .inl hn, by omega, .inr hn.1, hl⟩, hw, by omega, HC.out.alloc _⟩
 | some x =>
  have hx := HG.out x.block rfl
  have hl2 := HR.out.lt x.block rfl
  refine ⟨w1.heap.size, x.block, rfl, ⟨_, heap_alloc_new w1 _, ?_, by omega, .inl (by simp; omega), hl⟩, hw, hx, HC.out.alloc _⟩
  rcases HR.out.2 with ⟨h1, h2⟩ | ⟨g, c, cur, h1, _⟩
  ·cases h1
  ·obtain ⟨aa, cc, h3, h4, h5, h6⟩ := (HR.out.keep (fun g' hg' => hca.block g' (HR.out.lt g' hg') (by simp))).bytes
   obtain ⟨rfl, rfl⟩ : x = ⟨g, 0, none⟩ /\ cap = c := by simpa using h1
   obtain ⟨rfl, rfl⟩ : some (⟨g, 0, none⟩ : Addr) = aa /\ cap = cc := by simpa using h3
   refine .inr ⟨0, cap, rfl, h4, h5, ?_⟩
   rcases h6 with ⟨h6, _⟩ | ⟨g2, o2, h6, h7⟩
   ·intro i hi
    rw [h6] at hi; simp at hi
   ·obtain ⟨rfl, rfl⟩ : g = g2 /\ 0 = o2 := by simpa using h6
    exact h7
def penAdd (l : List UInt8) (bad : Int) (m : List UInt8) : List UInt8 × Int :=
 if bad ≠ 0 then (l, bad) else if 65536 < l.length + m.length then (l, 3) else (l ++ m, 0)
def beBytes : Nat -> Nat -> List UInt8
 | 0, _ => []
 | n + 1, x => UInt8.ofNat (x / 256 ^ n) :: beBytes n x
theorem beBytes_len (n x : Nat) : (beBytes n x).length = n := by
 induction n with
 | zero => rfl
 | succ n ih => simp [beBytes, ih]
def penNum (l : List UInt8) (bad : Int) (x : Int) (n : Nat) : List UInt8 × Int :=
 if bad ≠ 0 then (l, bad) else if x < 0 ∨ ((256 ^ n : Nat) : Int) <= x then (l, 1) else penAdd l bad (beBytes n x.toNat)
def PenAt (t : TypeId) (w : World) (b : Nat) (g : Option Nat) (l : List UInt8) (bad : Int) : Prop :=
 ∃ v, w.heap[b]? = some (.cells #[v, .int .i64 bad] t (0, 0)) /\ BRow w v l /\ v.ownBlock = g /\ g ≠ some b /\ l.length <= 65536
theorem PenAt.keep {t : TypeId} {w w' : World} {b : Nat} {g : Option Nat} {l : List UInt8} {bad : Int} {S : List Nat} (h : PenAt t w b g l bad) (hc : Chg S w w') (hb : b ∉ S) (hg : ∀ k, g = some k -> k ∉ S) : PenAt t w' b g l bad := by
 obtain ⟨v, h1, h2, h3, h4, h5⟩ := h
 exact ⟨v, hc.keep h1 hb, h2.keep (fun k hk => hc.block k (h2.lt k hk) (hg k (h3.symm.trans hk))), h3, h4, h5⟩
theorem PenAt.lt {t : TypeId} {w : World} {b : Nat} {g : Option Nat} {l : List UInt8} {bad : Int} (h : PenAt t w b g l bad) : b < w.heap.size /\ ∀ k, g = some k -> k < w.heap.size := by
 obtain ⟨v, h1, h2, h3, h4, h5⟩ := h
 exact ⟨blk_lt h1, fun k hk => h2.lt k (h3.trans hk)⟩
def Wrote (t : TypeId) (w w' : World) (b : Nat) (g : Option Nat) (r : List UInt8 × Int) : Prop :=
 ∃ g', PenAt t w' b g' r.1 r.2 /\ (g' = g ∨ ∃ k, g' = some k /\ w.heap.size <= k) /\ Chg (b :: g.toList) w w'
theorem Wrote.same {t : TypeId} {w : World} {b : Nat} {g : Option Nat} {l : List UInt8} {bad : Int} (h : PenAt t w b g l bad) : Wrote t w w b g (l, bad) := ⟨g, h, .inl rfl, Chg.refl _ _⟩
theorem PenAt.stored {t : TypeId} {w w1 : World} {b : Nat} {g : Option Nat} {l' : List UInt8} {bad : Int} {v v' : Value} (hb : w.heap[b]? = some (.cells #[v, .int .i64 bad] t (0, 0))) (hg : v.ownBlock = g) (hne : g ≠ some b)
  (hr : BRow w1 v' l') (hgr : w.grownBy w1 v.ownBlock) (hat : v'.ownBlock = v.ownBlock ∨ v'.ownBlock = some w.heap.size) (hl : l'.length <= 65536) : Wrote t w (w1.setCell ⟨b, 0, none⟩ v') b g (l', bad) := by
 have hbl := blk_lt hb
 have hb1 : w1.heap[b]? = some (.cells #[v, .int .i64 bad] t (0, 0)) := (hgr.block b hbl (fun e => hne (by rw [<- hg]; exact e.symm))).trans hb
 have hne' : v'.ownBlock ≠ some b := by
  rcases hat with h | h
  ·rw [h, hg]; exact hne
  ·rw [h]; intro e; simp at e; omega
 refine ⟨v'.ownBlock, ⟨v', set_blk hb1, hr.keep (fun k hk => Below.heap_setCell w1 _ _ k (fun e => hne' (by rw [hk, e]))), rfl, hne', hl⟩, ?_, ?_⟩
 ·rcases hat with h | h
  ·exact .inl (h.trans hg)
  ·exact .inr ⟨_, h, Nat.le_refl _⟩
 ·refine ((Chg.refl _ w).grown hgr (fun k hk => .inl ?_)).setCell (p := ⟨b, 0, none⟩) (.inl (List.mem_cons_self ..)) _
  rw [hg] at hk; rw [hk]; simp
theorem BRow.slice {w : World} {v : Value} {l : List UInt8} (h : BRow w v l) : ∃ a cap, v = .slice a l.length cap := by
 obtain ⟨a, cap, h, _⟩ := h.bytes
 exact ⟨a, cap, h⟩
theorem PenAt.app {t : TypeId} {w w1 : World} {b : Nat} {g : Option Nat} {l m : List UInt8} {bad : Int} {v v' : Value} (hb : w.heap[b]? = some (.cells #[v, .int .i64 bad] t (0, 0))) (hg : v.ownBlock = g) (hne : g ≠ some b) (hlong : ¬ 65536 < l.length + m.length)
  (hr : BRow w1 v' (l ++ m)) (hgr : w.grownBy w1 v.ownBlock) (hat : v'.ownBlock = v.ownBlock ∨ v'.ownBlock = some w.heap.size) :
  Hid (Wrote t w (w1.setCell ⟨b, 0, none⟩ v') b g (l ++ m, bad)) /\ w1.cell? ⟨b, 0, none⟩ = some v /\ w1.frozen? ⟨b, 0, none⟩ = false /\ ∃ a c, v' = .slice a (l.length + m.length) c := by
 have hb1 : w1.heap[b]? = some (.cells #[v, .int .i64 bad] t (0, 0)) := (hgr.block b (blk_lt hb) (fun e => hne (by rw [<- hg]; exact e.symm))).trans hb
 refine ⟨PenAt.stored hb hg hne hr hgr hat (by rw [List.length_append]; omega), blk_cell hb1 0 _ rfl, blk_frozen hb1 0, ?_⟩
 obtain ⟨a, c, h⟩ := hr.slice
 exact ⟨a, c, by rw [h, List.length_append]⟩
theorem put_any (b : Nat) (g : Option Nat) (l : List UInt8) (bad : Int) (a : Option Addr) (cap : Nat) (m : List UInt8) (w : World) (h : PenAt 194 w b g l bad) (hm : BytesAt w (.slice a m.length cap) m) (hml : m.length <= 1000000) :
  Calls Tryz.prog 159 #[.pointer (some ⟨b, 0, none⟩), .int .i64 0, .slice a m.length cap] w fun e w' => e = .returned (.tuple #[]) /\ Wrote 194 w w' b g (penAdd l bad m) := by
 have hP := LH h
 obtain ⟨v, hb, hr, hg, hne, hl⟩ := h
 have b0 := blk_cell hb 0 _ rfl
 have b1 := blk_cell hb 1 _ rfl
 have f0 := blk_frozen hb 0
 have f1 := blk_frozen hb 1
 have hbl := blk_lt hb
 by_cases hbad : bad = 0
 ·subst hbad
  obtain ⟨av, cv, rfl⟩ := hr.slice
  by_cases hlong : 65536 < l.length + m.length
  ·have HR : Hid (penAdd l 0 m = (l, 3)) := LH (by unfold penAdd; rw [if_neg (by simp), if_pos hlong])
   have HF : Hid (Wrote 194 w (w.setCell ⟨b, 1, none⟩ (.int .i64 3)) b g (l, 3)) := by
    have hc := (Chg.refl (b :: g.toList) w).setCell (p := ⟨b, 1, none⟩) (.inl (by simp)) (.int .i64 3)
    exact ⟨g, ⟨_, set_blk hb, hr.keep (fun k hk => Below.heap_setCell w _ _ k (fun e => hne (by rw [<- hg, hk, e]))), hg, hne, hl⟩, .inl rfl, hc⟩
   have q1 : decide ((65536 : Int) - (l.length : Int) < (m.length : Int)) = true := by simp; omega
   have h3 : (65536 : Int) - (l.length : Int) < (m.length : Int) := by omega
   rw [HR.out]
   clear hb hr hm hg
   go_enter Tryz.func159, Tryz.ntmps159
   go_wp2
   go_end0
   exact ⟨rfl, HF.out⟩
  ·have HR : Hid (penAdd l 0 m = (l ++ m, 0)) := LH (by unfold penAdd; rw [if_neg (by simp), if_neg hlong])
   have h3 : ¬ ((65536 : Int) - (l.length : Int) < (m.length : Int)) := by omega
   have HRow := LH hr
   have HB := LH hb
   have HG := LH hg
   have HM := LH hm
   rw [HR.out]
   clear hb hr hm hg
   go_enter Tryz.func159, Tryz.ntmps159
   go_wp2_with (at_builtin; refine wpList_appB rfl _ _ rfl _ l rfl HRow.out _ m rfl HM.out (by omega) ?_; intro v1 w1 ho1 hg1 hat1
                obtain ⟨HF, d0, e0, a1, c1, rfl⟩ := PenAt.app HB.out HG.out hne hlong ho1 hg1 hat1
                clear ho1 hg1 hat1)
   go_end0
   exact ⟨rfl, HF.out⟩
 ·have HR : Hid (penAdd l bad m = (l, bad)) := LH (by unfold penAdd; rw [if_pos hbad])
  have q2 : (bad != 0) = true := by simp [hbad]
  rw [HR.out]
  clear hb hr hbad hm hg
  go_enter Tryz.func159, Tryz.ntmps159
  go_wp2
  go_end0
  exact ⟨rfl, Wrote.same hP.out⟩
theorem put_err (b : Nat) (g : Option Nat) (l : List UInt8) (bad x : Int) (v3 : Value) (w : World) (h : PenAt 194 w b g l bad) (hx : x ≠ 0) :
  Calls Tryz.prog 159 #[.pointer (some ⟨b, 0, none⟩), .int .i64 x, v3] w fun e w' => e = .returned (.tuple #[]) /\ Wrote 194 w w' b g (l, if bad ≠ 0 then bad else x) := by
 have hP := LH h
 obtain ⟨v, hb, hr, hg, hne, hl⟩ := h
 have b1 := blk_cell hb 1 _ rfl
 have f1 := blk_frozen hb 1
 have hbl := blk_lt hb
 have q3 : (x != 0) = true := by simp [hx]
 by_cases hbad : bad = 0
 ·subst hbad
  have HF : Hid (Wrote 194 w (w.setCell ⟨b, 1, none⟩ (.int .i64 x)) b g (l, x)) := by
   have hc := (Chg.refl (b :: g.toList) w).setCell (p := ⟨b, 1, none⟩) (.inl (by simp)) (.int .i64 x)
   exact ⟨g, ⟨_, set_blk hb, hr.keep (fun k hk => Below.heap_setCell w _ _ k (fun e => hne (by rw [<- hg, hk, e]))), hg, hne, hl⟩, .inl rfl, hc⟩
  rw [if_neg (by simp)]
  clear hb hr hg hx
  go_enter Tryz.func159, Tryz.ntmps159
  go_wp2
  go_end0
  exact ⟨rfl, HF.out⟩
 ·rw [if_pos hbad]
  have q2 : (bad != 0) = true := by simp [hbad]
  clear hb hr hbad hg hx
  go_enter Tryz.func159, Tryz.ntmps159
  go_wp2
  go_end0
  exact ⟨rfl, Wrote.same hP.out⟩
theorem radd_any (b : Nat) (g : Option Nat) (l : List UInt8) (bad : Int) (a : Option Addr) (cap : Nat) (m : List UInt8) (w : World) (h : PenAt 122 w b g l bad) (hm : BytesAt w (.slice a m.length cap) m) (hml : m.length <= 1000000) :
  Calls Tryz.prog 84 #[.pointer (some ⟨b, 0, none⟩), .slice a m.length cap] w fun e w' => e = .returned (.tuple #[]) /\ Wrote 122 w w' b g (penAdd l bad m) := by
 have hP := LH h
 obtain ⟨v, hb, hr, hg, hne, hl⟩ := h
 have b0 := blk_cell hb 0 _ rfl
 have b1 := blk_cell hb 1 _ rfl
 have f0 := blk_frozen hb 0
 have f1 := blk_frozen hb 1
 have hbl := blk_lt hb
 by_cases hbad : bad = 0
 ·subst hbad
  obtain ⟨av, cv, rfl⟩ := hr.slice
  by_cases hlong : 65536 < l.length + m.length
  ·have HR : Hid (penAdd l 0 m = (l, 3)) := LH (by unfold penAdd; rw [if_neg (by simp), if_pos hlong])
   have HF : Hid (Wrote 122 w (w.setCell ⟨b, 1, none⟩ (.int .i64 3)) b g (l, 3)) := by
    have hc := (Chg.refl (b :: g.toList) w).setCell (p := ⟨b, 1, none⟩) (.inl (by simp)) (.int .i64 3)
    exact ⟨g, ⟨_, set_blk hb, hr.keep (fun k hk => Below.heap_setCell w _ _ k (fun e => hne (by rw [<- hg, hk, e]))), hg, hne, hl⟩, .inl rfl, hc⟩
   have h3 : (65536 : Int) < (l.length : Int) + (m.length : Int) := by omega
   rw [HR.out]
   clear hb hr hm hg
   go_enter Tryz.func84, Tryz.ntmps84
   go_wp2
   go_end0
   exact ⟨rfl, HF.out⟩
  ·have HR : Hid (penAdd l 0 m = (l ++ m, 0)) := LH (by unfold penAdd; rw [if_neg (by simp), if_neg hlong])
   have h3 : ¬ ((65536 : Int) < (l.length : Int) + (m.length : Int)) := by omega
   have HRow := LH hr
   have HB := LH hb
   have HG := LH hg
   have HM := LH hm
   rw [HR.out]
   clear hb hr hm hg
   go_enter Tryz.func84, Tryz.ntmps84
   go_wp2_with (at_builtin; refine wpList_appB rfl _ _ rfl _ l rfl HRow.out _ m rfl HM.out (by omega) ?_; intro v1 w1 ho1 hg1 hat1
                obtain ⟨HF, d0, e0, a1, c1, rfl⟩ := PenAt.app HB.out HG.out hne hlong ho1 hg1 hat1
                clear ho1 hg1 hat1)
   go_end0
   exact ⟨rfl, HF.out⟩
 ·have HR : Hid (penAdd l bad m = (l, bad)) := LH (by unfold penAdd; rw [if_pos hbad])
  have q2 : (bad == 0) = false := by simp [hbad]
  rw [HR.out]
  clear hb hr hbad hm hg
  go_enter Tryz.func84, Tryz.ntmps84
  go_wp2
  go_end0
  exact ⟨rfl, Wrote.same hP.out⟩
theorem pow_wrap (n : Nat) (h : n <= 7) : ∃ M : Nat, M = 256 ^ n /\ wrap64 ((2 : Int) ^ (8 * n)) = (M : Int) := by
 have hp : (256 : Nat) ^ n = 2 ^ (8 * n) := by rw [show (256 : Nat) = 2 ^ 8 from rfl, <- Nat.pow_mul]
 have hle : (2 : Nat) ^ (8 * n) <= 2 ^ 56 := Nat.pow_le_pow_right (by omega) (by omega)
 refine ⟨_, rfl, ?_⟩
 rw [hp]
 have : ((2 : Int) ^ (8 * n)) = ((2 ^ (8 * n) : Nat) : Int) := by push_cast; rfl
 rw [this]
 generalize (2 : Nat) ^ (8 * n) = z at *
 rw [wrap64]
 omega
theorem byte_of (x k : Nat) : bv (UInt8.ofNat (x / 256 ^ k)) = .int .u8 ((x : Int) / 2 ^ (8 * k) % 256) := by
 unfold bv
 rw [UInt8.toNat_ofNat', show (256 : Nat) ^ k = 2 ^ (8 * k) by rw [show (256 : Nat) = 2 ^ 8 from rfl, <- Nat.pow_mul]]
 congr 1
theorem one_byte (w : World) (c : UInt8) (v : Value) (hv : bv c = v) : BytesAt (w.alloc (.cells #[v] 5)) (.slice (some ⟨w.heap.size, 0, none⟩) 1 1) [c] := by
 refine ⟨_, 1, rfl, by simp, by unfold maxLen; omega, .inr ⟨_, 0, rfl, fun i hi => ?_⟩⟩
 have : i = 0 := by simpa using hi
 subst this
 have h := blk_cell (heap_alloc_new w (.cells #[v] 5)) 0 v rfl
 rw [hv.symm] at h
 rw [<- hv]
 exact h
theorem Wrote.before {t : TypeId} {w0 w w' : World} {b : Nat} {g : Option Nat} {r : List UInt8 × Int} (h : Wrote t w w' b g r) (hc : Chg [] w0 w) : Wrote t w0 w' b g r := by
 obtain ⟨g', h1, h2, h3⟩ := h
 refine ⟨g', h1, ?_, (hc.mono (by simp)).trans h3 (fun x hx => .inl hx)⟩
 rcases h2 with h2 | ⟨k, h2, h4⟩
 ·exact .inl h2
 ·exact .inr ⟨k, h2, Nat.le_trans hc.size h4⟩
theorem pnum_ok (b : Nat) (g : Option Nat) (l : List UInt8) (bad : Int) (x n : Nat) (w : World) (h : PenAt 194 w b g l bad) (h1 : 1 <= n) (h7 : n <= 7) (hx : x < 256 ^ n) :
  Calls Tryz.prog 134 #[.pointer (some ⟨b, 0, none⟩), .int .i64 x, .int .i64 n] w fun e w' => e = .returned (.tuple #[]) /\ Wrote 194 w w' b g (penAdd l bad (beBytes n x)) := by
 have HP := LH h
 have hbl := h.lt.1
 have hp : (256 : Nat) ^ n = 2 ^ (8 * n) := by rw [show (256 : Nat) = 2 ^ 8 from rfl, <- Nat.pow_mul]
 have hq : (((x : Int) / 2 ^ (8 * n)) != 0) = false := by
  rw [bne_eq_false_iff_eq]
  have : x / 2 ^ (8 * n) = 0 := Nat.div_eq_of_lt (by rw [<- hp]; exact hx)
  exact_mod_cast this
 have hx0 : (0 : Int) <= (x : Int) := by omega
 have HX := LH hx
 clear h hp hx
 go_enter Tryz.func134, Tryz.ntmps134
 go_wp2_with (go_at_call 146; refine (wmay_yes _ _ (by omega) (by omega)).mono ?_; rintro e w' ⟨rfl, rfl⟩)
 go_loopg [6, 7] n (fun g' s6 s7 wr => ∃ (m : Nat) (o : List UInt8), s7 = .int .i64 ((m : Int) - 1) /\ m <= n /\ m <= g' /\ Hid (BRow wr s6 o) /\ Hid (o ++ beBytes m x = beBytes n x) /\ Chg [] w wr /\ (∀ k, s6.ownBlock = some k -> w.heap.size <= k) /\ o.length + m <= 10)
 case atStart => exact ⟨n, [], rfl, by omega, by omega, BRow.nil _, LH (List.nil_append _), Chg.refl _ _, by simp [Value.ownBlock], by simp; omega⟩
 case round =>
  obtain ⟨m, o, rfl, hm, hmg, HR, HE, hc, hfr, hol⟩ := hrel
  have HC := LH hc
  have HF := LH hfr
  have hws := hc.size
  clear hc hfr
  cases m with
  | zero =>
   obtain ⟨a6, c6, rfl⟩ := HR.out.slice
   have ho : o = beBytes n x := by simpa [beBytes] using HE.out
   have CP := LH (put_any b g l bad a6 c6 o wr (HP.out.keep HC.out (by simp) (by simp)) HR.out.bytes (by omega))
   rw [ho] at CP
   have HO := LH ho
   have h00 : ((0 : Nat) : Int) - 1 = -1 := by omega
   rw [<- ho] at CP
   clear ho
   go_wp2_with fail
   refine CP.out.mono ?_
   rintro e w2 ⟨rfl, HW⟩
   have HW2 := LH HW
   clear HW
   go_wp2
   go_end0
   rw [<- HO.out]
   refine ⟨rfl, Wrote.before HW2.out HC.out⟩
  | succ k =>
   rw [show (((k + 1 : Nat) : Int) - 1) = (k : Int) from by omega]
   have hk0 : (0 : Int) <= (k : Int) := by omega
   have hv : bv (UInt8.ofNat (x / 256 ^ k)) = .int .u8 ((x : Int) / 2 ^ (8 * k) % 256) := byte_of x k
   have HB := LH (one_byte wr _ _ hv)
   have HE2 : Hid ((o ++ [UInt8.ofNat (x / 256 ^ k)]) ++ beBytes k x = beBytes n x) := LH (by rw [List.append_assoc]; exact HE.out)
   have HR2 := LH (HR.out.keep (w' := wr.alloc (.cells #[.int .u8 ((x : Int) / 2 ^ (8 * k) % 256)] 5)) (fun g hg => heap_alloc_old wr _ (HR.out.lt g hg)))
   clear hv
   go_wp2_with (at_builtin; refine wpList_appB rfl _ _ rfl _ o rfl HR2.out _ _ rfl HB.out (by simp; omega) ?_; intro v1 w1 ho1 hg1 hat1)
   go_roundg (gk - 1)
   case measure => omega
   case rel =>
    refine ⟨k, _, rfl, by omega, by omega, ho1, HE2.out, (HC.out.alloc _).grown hg1 (fun q hq => .inr (HF.out q hq)), ?_, by simp; omega⟩
    intro q hq
    rcases hat1 with h | h
    ·exact HF.out q (h.symm.trans hq)
    ·have : wr.heap.size + 1 = q := by
      have := h.symm.trans hq
      simpa using this
     omega
theorem pnum_bad (b : Nat) (g : Option Nat) (l : List UInt8) (bad : Int) (x : Int) (n : Nat) (w : World) (h : PenAt 194 w b g l bad) (h1 : 1 <= n) (h7 : n <= 7) (hx : x < 0 ∨ ((256 ^ n : Nat) : Int) <= x) :
  Calls Tryz.prog 134 #[.pointer (some ⟨b, 0, none⟩), .int .i64 x, .int .i64 n] w fun e w' => e = .returned (.tuple #[]) /\ Wrote 194 w w' b g (l, if bad ≠ 0 then bad else 1) := by
 have CP := LH (put_err b g l bad 1 (.slice none 0 0) w h (by omega))
 generalize (if bad ≠ 0 then bad else (1 : Int)) = x1 at *
 clear h
 by_cases h0 : x < 0
 ·clear hx
  go_enter Tryz.func134, Tryz.ntmps134
  go_wp2_with (go_at_call 146; refine (wmay_yes _ _ (by omega) (by omega)).mono ?_; rintro e w' ⟨rfl, rfl⟩)
  refine CP.out.mono ?_
  rintro e w2 ⟨rfl, HW⟩
  have HW2 := LH HW
  clear HW
  go_wp2
  refine bodyPost_ret (results_none rfl _ _ _) rfl ?_
  exact ⟨rfl, HW2.out⟩
 ·have hp : (256 : Nat) ^ n = 2 ^ (8 * n) := by rw [show (256 : Nat) = 2 ^ 8 from rfl, <- Nat.pow_mul]
  obtain ⟨y, rfl⟩ := Int.eq_ofNat_of_zero_le (show 0 <= x by omega)
  have hy : 256 ^ n <= y := by omega
  have hq : (((y : Int) / 2 ^ (8 * n)) != 0) = true := by
   rw [bne_iff_ne]
   intro e
   have e' : y / 2 ^ (8 * n) = 0 := by exact_mod_cast e
   rw [Nat.div_eq_zero_iff] at e'
   have := Nat.two_pow_pos (8 * n)
   omega
  clear hp hx hy
  go_enter Tryz.func134, Tryz.ntmps134
  go_wp2_with (go_at_call 146; refine (wmay_yes _ _ (by omega) (by omega)).mono ?_; rintro e w' ⟨rfl, rfl⟩)
  refine CP.out.mono ?_
  rintro e w2 ⟨rfl, HW⟩
  have HW2 := LH HW
  clear HW
  go_wp2
  refine bodyPost_ret (results_none rfl _ _ _) rfl ?_
  exact ⟨rfl, HW2.out⟩
theorem pnum_any (b : Nat) (g : Option Nat) (l : List UInt8) (bad : Int) (x width : Int) (w : World) (h : PenAt 194 w b g l bad) (h1 : 1 <= width) (h7 : width <= 7) :
  Calls Tryz.prog 134 #[.pointer (some ⟨b, 0, none⟩), .int .i64 x, .int .i64 width] w fun e w' => e = .returned (.tuple #[]) /\ Wrote 194 w w' b g (penNum l bad x width.toNat) := by
 obtain ⟨n, rfl⟩ := Int.eq_ofNat_of_zero_le (show 0 <= width by omega)
 rw [Int.toNat_natCast]
 by_cases hx : x < 0 ∨ ((256 ^ n : Nat) : Int) <= x
 ·have e : penNum l bad x n = (l, if bad ≠ 0 then bad else 1) := by
   unfold penNum
   rw [if_pos hx]
   split <;> rfl
  rw [e]
  exact pnum_bad b g l bad x n w h (by omega) (by omega) hx
 ·obtain ⟨y, rfl⟩ := Int.eq_ofNat_of_zero_le (show 0 <= x by omega)
  have e : penNum l bad y n = penAdd l bad (beBytes n y) := by
   unfold penNum
   rw [if_neg hx, Int.toNat_natCast]
   split
   ·unfold penAdd; rw [if_pos (by assumption)]
   ·rfl
  rw [e]
  exact pnum_ok b g l bad y n w h (by omega) (by omega) (by omega)
theorem rpnum_ok (b : Nat) (g : Option Nat) (l : List UInt8) (x n : Nat) (w : World) (h : PenAt 122 w b g l 0) (h1 : 1 <= n) (h7 : n <= 7) (hx : x < 256 ^ n) :
  Calls Tryz.prog 64 #[.pointer (some ⟨b, 0, none⟩), .int .i64 x, .int .i64 n] w fun e w' => e = .returned (.tuple #[]) /\ Wrote 122 w w' b g (penAdd l 0 (beBytes n x)) := by
 have HP := LH h
 have hbl := h.lt.1
 obtain ⟨v, hb, _⟩ := h
 have b1 := blk_cell hb 1 _ rfl
 have hx0 : (0 : Int) <= (x : Int) := by omega
 have q1 : decide ((n : Int) < 1) = false := by simp; omega
 have q7 : decide ((7 : Int) < (n : Int)) = false := by simp; omega
 have q0 : decide ((x : Int) < 0) = false := by simp
 obtain ⟨M, hM, hw⟩ := pow_wrap n h7
 have hlt : (x : Int) < (M : Int) := by omega
 have hlt' : ¬ ((M : Int) <= (x : Int)) := by omega
 have f1 := blk_frozen hb 1
 clear hb hx hM
 go_enter Tryz.func64, Tryz.ntmps64
 go_wp2_with fail
 go_loopg [6, 7] n (fun g' s6 s7 wr => ∃ (m : Nat) (o : List UInt8), s7 = .int .i64 ((m : Int) - 1) /\ m <= n /\ m <= g' /\ Hid (BRow wr s6 o) /\ Hid (o ++ beBytes m x = beBytes n x) /\ Chg [] w wr /\ (∀ k, s6.ownBlock = some k -> w.heap.size <= k) /\ o.length + m <= 10)
 case atStart => exact ⟨n, [], rfl, by omega, by omega, BRow.nil _, LH (List.nil_append _), Chg.refl _ _, by simp [Value.ownBlock], by simp; omega⟩
 case round =>
  obtain ⟨m, o, rfl, hm, hmg, HR, HE, hc, hfr, hol⟩ := hrel
  have HC := LH hc
  have HF := LH hfr
  have hws := hc.size
  clear hc hfr
  cases m with
  | zero =>
   obtain ⟨a6, c6, rfl⟩ := HR.out.slice
   have ho : o = beBytes n x := by simpa [beBytes] using HE.out
   have CP := LH (radd_any b g l 0 a6 c6 o wr (HP.out.keep HC.out (by simp) (by simp)) HR.out.bytes (by omega))
   rw [ho] at CP
   have HO := LH ho
   have h00 : ((0 : Nat) : Int) - 1 = -1 := by omega
   rw [<- ho] at CP
   clear ho
   go_wp2_with fail
   refine CP.out.mono ?_
   rintro e w2 ⟨rfl, HW⟩
   have HW2 := LH HW
   clear HW
   go_wp2
   go_end0
   rw [<- HO.out]
   refine ⟨rfl, Wrote.before HW2.out HC.out⟩
  | succ k =>
   rw [show (((k + 1 : Nat) : Int) - 1) = (k : Int) from by omega]
   have hk0 : (0 : Int) <= (k : Int) := by omega
   have hv : bv (UInt8.ofNat (x / 256 ^ k)) = .int .u8 ((x : Int) / 2 ^ (8 * k) % 256) := byte_of x k
   have HB := LH (one_byte wr _ _ hv)
   have HE2 : Hid ((o ++ [UInt8.ofNat (x / 256 ^ k)]) ++ beBytes k x = beBytes n x) := LH (by rw [List.append_assoc]; exact HE.out)
   have HR2 := LH (HR.out.keep (w' := wr.alloc (.cells #[.int .u8 ((x : Int) / 2 ^ (8 * k) % 256)] 5)) (fun g hg => heap_alloc_old wr _ (HR.out.lt g hg)))
   clear hv
   go_wp2_with (at_builtin; refine wpList_appB rfl _ _ rfl _ o rfl HR2.out _ _ rfl HB.out (by simp; omega) ?_; intro v1 w1 ho1 hg1 hat1)
   go_roundg (gk - 1)
   case measure => omega
   case rel =>
    refine ⟨k, _, rfl, by omega, by omega, ho1, HE2.out, (HC.out.alloc _).grown hg1 (fun q hq => .inr (HF.out q hq)), ?_, by simp; omega⟩
    intro q hq
    rcases hat1 with h | h
    ·exact HF.out q (h.symm.trans hq)
    ·have : wr.heap.size + 1 = q := by
      have := h.symm.trans hq
      simpa using this
     omega
theorem rpnum_bad (b : Nat) (g : Option Nat) (l : List UInt8) (bad : Int) (x : Int) (n : Nat) (w : World) (h : PenAt 122 w b g l bad) (h1 : 1 <= n) (h7 : n <= 7) (hx : bad ≠ 0 ∨ x < 0 ∨ ((256 ^ n : Nat) : Int) <= x) :
  Calls Tryz.prog 64 #[.pointer (some ⟨b, 0, none⟩), .int .i64 x, .int .i64 n] w fun e w' => e = .returned (.tuple #[]) /\ Wrote 122 w w' b g (l, if bad ≠ 0 then bad else 1) := by
 have hP := LH h
 obtain ⟨v, hb, hr, hg, hne, hl⟩ := h
 have b1 := blk_cell hb 1 _ rfl
 have f1 := blk_frozen hb 1
 have hbl := blk_lt hb
 by_cases hbad : bad = 0
 ·subst hbad
  have HF : Hid (Wrote 122 w (w.setCell ⟨b, 1, none⟩ (.int .i64 1)) b g (l, 1)) := by
   have hc := (Chg.refl (b :: g.toList) w).setCell (p := ⟨b, 1, none⟩) (.inl (by simp)) (.int .i64 1)
   exact ⟨g, ⟨_, set_blk hb, hr.keep (fun k hk => Below.heap_setCell w _ _ k (fun e => hne (by rw [<- hg, hk, e]))), hg, hne, hl⟩, .inl rfl, hc⟩
  rw [if_neg (by simp)]
  have q1 : decide ((n : Int) < 1) = false := by simp; omega
  have q7 : decide ((7 : Int) < (n : Int)) = false := by simp; omega
  obtain ⟨M, hM, hw⟩ := pow_wrap n h7
  rw [<- hM] at hx
  have hx2 : x < 0 ∨ (M : Int) <= x := by
   rcases hx with h | h
   ·exact absurd rfl h
   ·exact h
  clear hb hr hM hx hg
  by_cases h0 : x < 0
  ·have q0 : decide (x < 0) = true := by simpa using h0
   clear hx2
   go_enter Tryz.func64, Tryz.ntmps64
   go_wp2_with fail
   refine bodyPost_ret (results_none rfl _ _ _) rfl ?_
   exact ⟨rfl, HF.out⟩
  ·have q0 : decide (x < 0) = false := by simpa using h0
   have hlt : (M : Int) <= x := by omega
   clear hx2
   go_enter Tryz.func64, Tryz.ntmps64
   go_wp2_with fail
   refine bodyPost_ret (results_none rfl _ _ _) rfl ?_
   exact ⟨rfl, HF.out⟩
 ·rw [if_pos hbad]
  have q1 : (bad == 0) = false := by simp [hbad]
  have q2 : (bad != 0) = true := by simp [hbad]
  clear hb hr hbad hg hx
  go_enter Tryz.func64, Tryz.ntmps64
  go_wp2_with fail
  refine bodyPost_ret (results_none rfl _ _ _) rfl ?_
  exact ⟨rfl, Wrote.same hP.out⟩
theorem rpnum_any (b : Nat) (g : Option Nat) (l : List UInt8) (bad : Int) (x width : Int) (w : World) (h : PenAt 122 w b g l bad) (h1 : 1 <= width) (h7 : width <= 7) :
  Calls Tryz.prog 64 #[.pointer (some ⟨b, 0, none⟩), .int .i64 x, .int .i64 width] w fun e w' => e = .returned (.tuple #[]) /\ Wrote 122 w w' b g (penNum l bad x width.toNat) := by
 obtain ⟨n, rfl⟩ := Int.eq_ofNat_of_zero_le (show 0 <= width by omega)
 rw [Int.toNat_natCast]
 by_cases hx : bad ≠ 0 ∨ x < 0 ∨ ((256 ^ n : Nat) : Int) <= x
 ·have e : penNum l bad x n = (l, if bad ≠ 0 then bad else 1) := by
   unfold penNum
   by_cases hb : bad ≠ 0
   ·rw [if_pos hb, if_pos hb]
   ·rw [if_neg hb, if_neg hb, if_pos (by rcases hx with h | h; exact absurd h hb; exact h)]
  rw [e]
  exact rpnum_bad b g l bad x n w h (by omega) (by omega) hx
 ·obtain ⟨y, rfl⟩ := Int.eq_ofNat_of_zero_le (show 0 <= x by omega)
  obtain rfl : bad = 0 := by omega
  have e : penNum l 0 y n = penAdd l 0 (beBytes n y) := by
   unfold penNum
   rw [if_neg (by simp), if_neg (by omega), Int.toNat_natCast]
  rw [e]
  exact rpnum_ok b g l y n w h (by omega) (by omega) (by omega)
theorem pbytes_any (b : Nat) (g : Option Nat) (l : List UInt8) (w : World) (h : PenAt 194 w b g l 0) :
  Calls Tryz.prog 135 #[.pointer (some ⟨b, 0, none⟩)] w fun e w' => ∃ v', e = .returned (.tuple #[v', .int .i64 0]) /\ BRow w' v' l /\ (∀ g, v'.ownBlock = some g -> w.heap.size <= g) /\ Chg [] w w' := by
 obtain ⟨v, hb, hr, hg, hne, hl⟩ := h
 obtain ⟨av, cv, rfl⟩ := hr.slice
 have b0 := blk_cell hb 0 _ rfl
 have b1 := blk_cell hb 1 _ rfl
 have CC := LH (clone_any _ l w hr.bytes (by omega))
 clear hb hr hg
 go_enter Tryz.func135, Tryz.ntmps135
 go_wp2_with fail
 refine CC.out.mono ?_
 rintro e w1 ⟨v1, rfl, h1, h2, h3⟩
 have H := LH (And.intro h1 (And.intro h2 h3))
 clear h1 h2 h3
 go_wp2
 go_ret2
 exact ⟨_, rfl, H.out⟩
structure Id where
 c : Int
 l : Int
 n : Int
 i : Int
deriving DecidableEq
instance : Inhabited Id := ⟨⟨0, 0, 0, 0⟩⟩
abbrev idC (x : Id) : Array Value := #[.int .i64 x.c, .int .i64 x.l, .int .i64 x.n, .int .i64 x.i]
abbrev idV (x : Id) : Value := .agg (idC x)
def withinB6 (x m : Int) : Bool := decide (0 <= x) && decide (x <= m)
def mayId (x : Id) : Bool := withinB6 x.c 4 && withinB6 x.l 1048576 && withinB6 x.n 1073741824 && withinB6 x.i 15
theorem mayid_any (x : Id) (w : World) : Calls Tryz.prog 105 #[idV x] w fun e w' => e = .returned (.bool (mayId x)) /\ Chg [] w w' := by
 obtain ⟨c, l, n, i⟩ := x
 unfold mayId withinB6
 dsimp only
 go_enter Tryz.func105, Tryz.ntmps105
 go_wp2
 all_goals
  go_ret
  refine ⟨?_, (Chg.refl [] w).alloc _⟩
  first
   | (simp_all; done)
   | (simp; omega)
section
variable {P : Program} {ops : Array Oper} {Q : Exit -> Act -> World -> Prop} {md : Region.Mode} {cs : List (Nat × (World -> Prop))}
def HoldC (cs : List (Nat × (World -> Prop))) (L : Array Bool) (w : World) : Prop := ∀ c ∈ cs, L.getD c.1 true = false -> c.2 w
theorem HoldC.nil {L : Array Bool} {w : World} : HoldC [] L w := fun c hc => by cases hc
theorem HoldC.cons {L : Array Bool} {w : World} {d : Nat} {C : World -> Prop} (h : C w) (hr : HoldC cs L w) : HoldC ((d, C) :: cs) L w := fun c hc h0 => by
 rcases List.mem_cons.1 hc with rfl | hc
 ·exact h
 ·exact hr c hc h0
theorem HoldC.past {L : Array Bool} {w : World} {d : Nat} {C : World -> Prop} (h : L.getD d true = true) (hr : HoldC cs L w) : HoldC ((d, C) :: cs) L w := fun c hc h0 => by
 rcases List.mem_cons.1 hc with rfl | hc
 ·rw [h] at h0; cases h0
 ·exact hr c hc h0
theorem getD_set_false {L : Array Bool} {i j : Nat} (h : (L.setIfInBounds i true).getD j true = false) : L.getD j true = false := by
 by_cases hij : i = j
 ·subst hij
  rw [Array.getD_eq_getD_getElem?] at h
  by_cases hl : i < L.size
  ·simp [hl] at h
  ·simp [Array.getElem?_eq_none (Nat.le_of_not_lt hl), hl] at h
 ·rwa [getD_set_ne true hij] at h
theorem HoldC.set {L : Array Bool} {w : World} (h : HoldC cs L w) (i : Nat) : HoldC cs (L.setIfInBounds i true) w := fun c hc h0 => h c hc (getD_set_false h0)
def wpAnyL (P : Program) (md : Region.Mode) (ops : Array Oper) (Q : Exit -> Act -> World -> Prop) (cs : List (Nat × (World -> Prop))) : Nat -> Array Bool -> Act -> World -> Prop
 | 0, L, a, w => Region.ready md ops L = [] /\ Q .normal a w
 | n + 1, L, a, w => (Region.ready md ops L = [] -> Q .normal a w) /\
  ∀ i ∈ Region.ready md ops L, wpOp P ops Q i (fun a' w' => HoldC cs (L.setIfInBounds i true) w' /\ wpAnyL P md ops Q cs n (L.setIfInBounds i true) a' w') a w
theorem wpAny_of_L : ∀ (n : Nat) (L : Array Bool) (a : Act) (w : World), wpAnyL P md ops Q cs n L a w -> wpAny P md ops Q n L a w
 | 0, _, _, _, h => h
 | n + 1, _, _, _, h => ⟨h.1, fun i hi => wpOp_mono (fun a' w' h' => wpAny_of_L n _ a' w' h'.2) (h.2 i hi)⟩
def closedB (md : Region.Mode) (ops : Array Oper) (L : Array Bool) : Bool :=
 (List.range ops.size).all fun j => !(L.getD j true) || match ops[j]? with
  | none => true
  | some o => o.after.all fun e => !Region.binds md e || L.getD e.on false
def Closed (md : Region.Mode) (ops : Array Oper) (L : Array Bool) : Prop := ∀ j o, ops[j]? = some o -> L.getD j true = true -> ∀ e ∈ o.after, Region.binds md e = true -> L.getD e.on false = true
theorem closed_of {L : Array Bool} (h : closedB md ops L = true) : Closed md ops L := fun j o hj hl e he hb => by
 unfold closedB at h
 rw [List.all_eq_true] at h
 have h1 := h j (List.mem_range.2 (Array.getElem?_eq_some_iff.1 hj).1)
 simp only [hj, hl, Bool.not_true, Bool.false_or] at h1
 have h2 := Array.all_eq_true_iff_forall_mem.1 h1 e he
 simpa [hb] using h2
theorem Closed.step {L : Array Bool} (h : Closed md ops L) {i : Nat} (hi : i ∈ Region.ready md ops L) : Closed md ops (L.setIfInBounds i true) := fun j o hj hl e he hb => by
 obtain ⟨h0, oi, ho, hall⟩ := mem_ready.1 hi
 by_cases hij : i = j
 ·subst hij
  rw [ho] at hj; cases hj
  exact getD_set_true (hall e he hb)
 ·rw [getD_set_ne true hij] at hl
  exact getD_set_true (h j o hj hl e he hb)
def ancB (md : Region.Mode) (ops : Array Oper) : Nat -> Nat -> Nat -> Bool
 | 0, _, _ => false
 | n + 1, d, i => match ops[d]? with
  | none => false
  | some o => o.after.any fun e => Region.binds md e && (e.on == i || ancB md ops n e.on i)
theorem anc_open {L : Array Bool} (hc : Closed md ops L) {i : Nat} (hi : L.getD i true = false) : ∀ n d, ancB md ops n d i = true -> L.getD d true = false := by
 intro n
 induction n with
 | zero => intro d h; cases h
 | succ n ih =>
  intro d h
  unfold ancB at h
  cases ho : ops[d]? with
  | none => rw [ho] at h; cases h
  | some o =>
   simp only [ho] at h
   obtain ⟨e, he, h1⟩ := Array.any_eq_true'.1 h
   simp only [Bool.and_eq_true, Bool.or_eq_true, beq_iff_eq] at h1
   cases hd : L.getD d true with
   | false => rfl
   | true =>
    have h2 := hc d o ho hd e he h1.1
    rcases h1.2 with rfl | h3
    ·rw [Array.getD_eq_getD_getElem?] at hi h2
     cases hx : L[e.on]? with
     | none => rw [hx] at h2; cases h2
     | some b => rw [hx] at hi h2; simp at hi h2; rw [hi] at h2; cases h2
    ·have h4 := ih e.on h3
     rw [Array.getD_eq_getD_getElem?] at h4 h2
     cases hx : L[e.on]? with
     | none => rw [hx] at h2; cases h2
     | some b => rw [hx] at h4 h2; simp at h4 h2; rw [h4] at h2; cases h2
theorem wpAnyL_first {i : Nat} {oi : Oper} {v : Value} {C : World -> Prop} (hi : ops[i]? = some oi) (hsel : ∀ (j : Nat) (o : Oper) cs b, ops[j]? = some o -> o.op ≠ .select cs b)
  (hQ : ∀ c a w, Q (.panic c) (a.put oi.dst v) w -> Q (.panic c) a w) (hC : ∀ L w, Closed md ops L -> L.getD i true = false -> HoldC cs L w -> C w) (hne : ∀ c ∈ cs, c.1 ≠ i) :
  ∀ (fuel : Nat) (L : Array Bool) (a : Act) (w : World), Closed md ops L ->
   (∀ j oj, ops[j]? = some oj -> j ≠ i -> L.getD j true = false -> (∀ e ∈ oj.after, Region.binds md e = true -> e.on ≠ i) -> oi.apart ops oj = true) ->
   i ∈ Region.ready md ops L -> YieldsIf P ops C oi v a -> HoldC cs L w ->
   wpAnyL P md ops Q cs fuel (L.setIfInBounds i true) (a.put oi.dst v) w -> wpAnyL P md ops Q cs (fuel + 1) L a w := by
 intro fuel
 induction fuel with
 | zero =>
  intro L a w hcl _ hr hy hS H
  refine ⟨fun h => (by rw [h] at hr; cases hr), fun j hj => ?_⟩
  by_cases hji : j = i
  ·subst hji; exact hy.wpOp hi (hC L w hcl (mem_ready.1 hr).1 hS) ⟨hS.set _, H⟩
  ·have := ready_mono hj hji
   rw [H.1] at this
   cases this
 | succ fuel ih =>
  intro L a w hcl hfree hr hy hS H
  refine ⟨fun h => (by rw [h] at hr; cases hr), fun j hj => ?_⟩
  by_cases hji : j = i
  ·subst hji; exact hy.wpOp hi (hC L w hcl (mem_ready.1 hr).1 hS) ⟨hS.set _, H⟩
  ·have h1 := H.2 j (ready_mono hj hji)
   obtain ⟨hjun, oj, hoj, hall⟩ := mem_ready.1 hj
   have h0 := (mem_ready.1 hr).1
   have hnot : ∀ e ∈ oj.after, Region.binds md e = true -> e.on ≠ i := fun e he hb heq => by
    have h1 := hall e he hb
    rw [heq] at h1
    rcases Nat.lt_or_ge i L.size with h' | h'
    ·simp [h'] at h0 h1; rw [h0] at h1; cases h1
    ·simp [Array.getElem?_eq_none h'] at h1
   have h2 := wpOp_putIf hoj (hfree j oj hoj hji hjun hnot) (fun cs b => hsel i oi cs b hi) (fun cs b => hsel j oj cs b hoj) hQ hy h1
   refine wpOp_mono (fun a' w' h3 => ?_) h2
   have hS' : HoldC cs (L.setIfInBounds j true) w' := fun c hc h4 => h3.2.1 c hc (by
    rw [Array.setIfInBounds_comm _ _ (Ne.symm hji), getD_set_ne true (Ne.symm (hne c hc))]
    exact h4)
   refine ⟨hS', ih (L.setIfInBounds j true) a' w' (hcl.step hj) (fun k ok hk hki hun hno => ?_) (ready_mono hr (Ne.symm hji)) h3.1 hS' ?_⟩
   ·refine hfree k ok hk hki ?_ hno
    by_cases hjk : j = k
    ·subst hjk; exact hjun
    ·rw [getD_set_ne true hjk] at hun; exact hun
   ·rw [Array.setIfInBounds_comm _ _ hji]
    exact h3.2.2
theorem wpAnyL_take {i : Nat} {oi : Oper} {v : Value} {fuel : Nat} {L : Array Bool} {a : Act} {w : World} (hi : ops[i]? = some oi)
  (hs : Region.noSelect ops = true) (hcl : closedB md ops L = true) (hf : Region.free md ops L i = true) (hr : (Region.ready md ops L).contains i = true) (hne : cs.all (fun c => c.1 != i) = true)
  (hQ : ∀ c a w, Q (.panic c) (a.put oi.dst v) w -> Q (.panic c) a w) (hy : YieldsIf P ops (fun _ => True) oi v a) (hS : HoldC cs L w)
  (h : HoldC cs (L.setIfInBounds i true) w -> wpAnyL P md ops Q cs fuel (L.setIfInBounds i true) (a.put oi.dst v) w) : wpAnyL P md ops Q cs (fuel + 1) L a w :=
 wpAnyL_first hi (Region.noSelect_spec hs) hQ (fun _ _ _ _ _ => trivial) (fun c hc => by simpa using List.all_eq_true.1 hne c hc) fuel L a w (closed_of hcl) (Region.free_spec hi hf) (by simpa using hr) hy hS (h (hS.set _))
theorem wpAnyL_load (k : Nat) {i d : Nat} {C : World -> Prop} {oi : Oper} {v : Value} {fuel : Nat} {L : Array Bool} {a : Act} {w : World} (hk : cs[k]? = some (d, C)) (hi : ops[i]? = some oi)
  (hs : Region.noSelect ops = true) (hcl : closedB md ops L = true) (hf : Region.free md ops L i = true) (hr : (Region.ready md ops L).contains i = true) (hne : cs.all (fun c => c.1 != i) = true) (hanc : ancB md ops ops.size d i = true)
  (hQ : ∀ c a w, Q (.panic c) (a.put oi.dst v) w -> Q (.panic c) a w) (hy : YieldsIf P ops C oi v a) (hS : HoldC cs L w)
  (h : HoldC cs (L.setIfInBounds i true) w -> wpAnyL P md ops Q cs fuel (L.setIfInBounds i true) (a.put oi.dst v) w) : wpAnyL P md ops Q cs (fuel + 1) L a w :=
 wpAnyL_first hi (Region.noSelect_spec hs) hQ (fun L w h1 h2 h3 => h3 _ (List.mem_of_getElem? hk) (anc_open h1 h2 _ _ hanc)) (fun c hc => by simpa using List.all_eq_true.1 hne c hc) fuel L a w (closed_of hcl) (Region.free_spec hi hf) (by simpa using hr) hy hS (h (hS.set _))
theorem tk (i : Nat) (v : Value) {oi : Oper} {fuel : Nat} {L : Array Bool} {a : Act} {w : World} (hi : ops[i]? = some oi)
  (hb : (Region.noSelect ops && (closedB md ops L && (Region.free md ops L i && ((Region.ready md ops L).contains i && cs.all (fun c => c.1 != i))))) = true)
  (hQ : ∀ c a w, Q (.panic c) (a.put oi.dst v) w -> Q (.panic c) a w) (hy : YieldsIf P ops (fun _ => True) oi v a) (hS : HoldC cs L w)
  (h : HoldC cs (L.setIfInBounds i true) w -> wpAnyL P md ops Q cs fuel (L.setIfInBounds i true) (a.put oi.dst v) w) : wpAnyL P md ops Q cs (fuel + 1) L a w := by
 simp only [Bool.and_eq_true] at hb
 exact wpAnyL_take hi hb.1 hb.2.1 hb.2.2.1 hb.2.2.2.1 hb.2.2.2.2 hQ hy hS h
theorem ld (k i : Nat) (v : Value) {d : Nat} {C : World -> Prop} {oi : Oper} {fuel : Nat} {L : Array Bool} {a : Act} {w : World} (hk : cs[k]? = some (d, C)) (hi : ops[i]? = some oi)
  (hb : (Region.noSelect ops && (closedB md ops L && (Region.free md ops L i && ((Region.ready md ops L).contains i && (cs.all (fun c => c.1 != i) && ancB md ops ops.size d i))))) = true)
  (hQ : ∀ c a w, Q (.panic c) (a.put oi.dst v) w -> Q (.panic c) a w) (hy : YieldsIf P ops C oi v a) (hS : HoldC cs L w)
  (h : HoldC cs (L.setIfInBounds i true) w -> wpAnyL P md ops Q cs fuel (L.setIfInBounds i true) (a.put oi.dst v) w) : wpAnyL P md ops Q cs (fuel + 1) L a w := by
 simp only [Bool.and_eq_true] at hb
 exact wpAnyL_load k hk hi hb.1 hb.2.1 hb.2.2.1 hb.2.2.2.1 hb.2.2.2.2.1 hb.2.2.2.2.2 hQ hy hS h
theorem gA {α : Type} {xs : List α} {i : Nat} (h : i < xs.toArray.size) : xs.toArray[i] = xs[i]'(by simpa using h) := List.getElem_toArray h
theorem gB {α : Type} {a : α} {l : List α} {i : Nat} (h : i + 1 < (a :: l).length) : (a :: l)[i + 1]'h = l[i]'(Nat.lt_of_succ_lt_succ h) := rfl
theorem gC {α : Type} {a : α} {l : List α} (h : 0 < (a :: l).length) : (a :: l)[0]'h = a := rfl
theorem gD {α : Type} {l : List α} {i : Nat} {a : α} : l.toArray.setIfInBounds i a = (l.set i a).toArray := List.setIfInBounds_toArray l i a
theorem gE {α : Type} {x a : α} {xs : List α} : (x :: xs).set 0 a = a :: xs := rfl
theorem gF {α : Type} {x a : α} {xs : List α} {n : Nat} : (x :: xs).set (n + 1) a = x :: xs.set n a := rfl
theorem wpAnyL_done {L : Array Bool} {a : Act} {w : World} (hr : Region.ready md ops L = []) (h : Q .normal a w) : ∀ fuel, wpAnyL P md ops Q cs fuel L a w
 | 0 => ⟨hr, h⟩
 | _ + 1 => ⟨fun _ => h, by rw [hr]; simp⟩
def AllReadyL (P : Program) (md : Region.Mode) (ops : Array Oper) (Q : Exit -> Act -> World -> Prop) (cs : List (Nat × (World -> Prop))) (fuel : Nat) (L : Array Bool) (a : Act) (w : World) (rs : List Nat) : Prop :=
 ∀ i ∈ rs, wpOp P ops Q i (fun a' w' => HoldC cs (L.setIfInBounds i true) w' /\ wpAnyL P md ops Q cs fuel (L.setIfInBounds i true) a' w') a w
theorem AllReadyL.nil {fuel : Nat} {L : Array Bool} {a : Act} {w : World} : AllReadyL P md ops Q cs fuel L a w [] := fun _ h => by cases h
theorem AllReadyL.cons {fuel : Nat} {L : Array Bool} {a : Act} {w : World} {i : Nat} {o : Oper} {rs : List Nat} (ho : ops[i]? = some o)
  (h : ∀ K' : Act -> World -> Prop, Shut (∀ a w, HoldC cs (L.setIfInBounds i true) w -> (HoldC cs (L.setIfInBounds i true) w -> wpAnyL P md ops Q cs fuel (L.setIfInBounds i true) a w) -> K' a w) -> if Region.wanted o (yielded ops a.tmps) = true then Oper.wp P o a w K' Q else K' (a.put o.dst undef) w)
  (hs : AllReadyL P md ops Q cs fuel L a w rs) : AllReadyL P md ops Q cs fuel L a w (i :: rs) := fun j hj => by
 rcases List.mem_cons.1 hj with rfl | hj
 ·exact wpOp_step ho (fun K' hK => h K' (fun a w hS hW => hK a w ⟨hS, hW hS⟩))
 ·exact hs j hj
theorem wpAnyL_ready {rs : List Nat} {fuel : Nat} {L : Array Bool} {a : Act} {w : World} (hr : Region.ready md ops L = rs) (hne : rs ≠ [])
  (h : AllReadyL P md ops Q cs fuel L a w rs) : wpAnyL P md ops Q cs (fuel + 1) L a w := ⟨fun h0 => absurd (hr ▸ h0) hne, hr ▸ h⟩
theorem wp_region_L {id : Nat} {a : Act} {w : World} (cs : List (Nat × (World -> Prop))) (hm : P.follows .mixedOrders = true) (hS : HoldC cs (Array.replicate ops.size false) w.drew)
  (h : HoldC cs (Array.replicate ops.size false) w.drew -> wpAnyL P .any ops Q cs ops.size (Array.replicate ops.size false) a w.drew) : (Code.region id ops true).wp P Q a w :=
 wp_region_any hm (wpAny_of_L _ _ _ _ (h hS))
end
structure Sp where
 c : Int
 l : Int
 n : Int
abbrev spC (s : Sp) : Array Value := #[.int .i64 s.c, .int .i64 s.l, .int .i64 s.n]
abbrev spV (s : Sp) : Value := .agg (spC s)
structure Sp.Ok (s : Sp) : Prop where
 c0 : 0 <= s.c
 c1 : s.c <= 4
 l0 : 0 <= s.l
 l1 : s.l <= 1048576
 n0 : 0 <= s.n
 n1 : s.n <= 1073741824
theorem lservers_ok (n : Int) (w : World) (h3 : 3 <= n) (h16 : n <= 16) : Calls Tryz.prog 52 #[.int .i64 n] w fun e w' => e = .returned (.bool true) /\ w = w' := by
 go_enter Tryz.func52, Tryz.ntmps52
 go_wp2
 go_ret
 exact ⟨rfl, rfl⟩
theorem bwithin_ok (x m : Int) (w : World) (h0 : 0 <= x) (h1 : x <= m) : Calls Tryz.prog 47 #[.int .i64 x, .int .i64 m] w fun e w' => e = .returned (.bool true) /\ w = w' := by
 go_enter Tryz.func47, Tryz.ntmps47
 go_wp2
 go_ret
 exact ⟨rfl, rfl⟩
theorem rmayn_ok (n : Int) (w : World) (h3 : 3 <= n) (h16 : n <= 16) : Calls Tryz.prog 28 #[.int .i64 n] w fun e w' => e = .returned (.bool true) /\ w = w' := by
 go_enter Tryz.func28, Tryz.ntmps28
 go_wp2
 go_ret
 exact ⟨rfl, rfl⟩
theorem lmust_ok (e : Int) (w : World) : Calls Tryz.prog 113 #[.bool true, .int .i64 e] w fun e w' => e = .returned (.tuple #[]) /\ w = w' := by
 go_enter Tryz.func113, Tryz.ntmps113
 go_wp2
 go_end0
 exact ⟨rfl, rfl⟩
theorem lsized_ok (x n : Int) (w : World) (h0 : 0 <= x) (h3 : 3 <= n) (h16 : n <= 16) (h1 : x <= 400 * (n - 1)) : Calls Tryz.prog 116 #[.int .i64 x, .int .i64 n] w fun e w' => e = .returned (.bool true) /\ w = w' := by
 have hw : IntKind.i64.wrap (n - 1) = n - 1 := IntWalk.i64_in _ ⟨by omega, by omega⟩
 have hw2 : IntKind.i64.wrap (400 * (n - 1)) = 400 * (n - 1) := IntWalk.i64_in _ ⟨by omega, by omega⟩
 go_enter Tryz.func116, Tryz.ntmps116
 go_wp2
 go_ret
 exact ⟨rfl, rfl⟩
theorem lmay_ok (s : Sp) (w : World) (h : s.Ok) : Calls Tryz.prog 115 #[spV s] w fun e w' => e = .returned (.bool true) /\ Chg [] w w' := by
 obtain ⟨c, l, n⟩ := s
 obtain ⟨h1, h2, h3, h4, h5, h6⟩ := h
 dsimp only at h1 h2 h3 h4 h5 h6
 go_enter Tryz.func115, Tryz.ntmps115
 go_wp2
 go_ret
 exact ⟨rfl, (Chg.refl [] w).alloc _⟩
theorem each_int (size n : Nat) (h : 1 <= size) (hn : 3 <= n) : Int.tdiv ((size : Int) - 1) ((n : Int) - 1) + 1 = (eachN size n : Int) := by
 unfold eachN
 rw [if_neg (by omega), show (size : Int) - 1 = ((size - 1 : Nat) : Int) by omega, show (n : Int) - 1 = ((n - 1 : Nat) : Int) by omega, <- Int.ofNat_tdiv]
 rfl
theorem leach_ok (size n : Nat) (w : World) (h : 1 <= size) (hs : size <= 100000) (h3 : 3 <= n) (h16 : n <= 16) : Calls Tryz.prog 73 #[.int .i64 (size : Int), .int .i64 (n : Int)] w fun e w' => e = .returned (.int .i64 (eachN size n : Int)) /\ w = w' := by
 have CS := LH (lservers_ok (n : Int) w (by omega) (by omega))
 have h0 : ¬ (size : Int) <= 0 := by omega
 have hw : IntKind.i64.wrap ((size : Int) - 1) = (size : Int) - 1 := IntWalk.i64_in _ ⟨by omega, by omega⟩
 have hw2 : IntKind.i64.wrap ((n : Int) - 1) = (n : Int) - 1 := IntWalk.i64_in _ ⟨by omega, by omega⟩
 have hz : ¬ (n : Int) - 1 = 0 := by omega
 have hE := each_int size n h h3
 have hle := each_le (n := n) h
 have hw4 : IntKind.i64.wrap (Int.tdiv ((size : Int) - 1) ((n : Int) - 1)) = Int.tdiv ((size : Int) - 1) ((n : Int) - 1) := IntWalk.i64_in _ ⟨by omega, by omega⟩
 have hw3 : IntKind.i64.wrap (Int.tdiv ((size : Int) - 1) ((n : Int) - 1) + 1) = Int.tdiv ((size : Int) - 1) ((n : Int) - 1) + 1 := IntWalk.i64_in _ ⟨by omega, by omega⟩
 go_enter Tryz.func73, Tryz.ntmps73
 go_wp2_with (go_at_call 52; refine CS.out.mono ?_; rintro e w' ⟨rfl, hq⟩; subst hq)
 go_ret
 exact ⟨by rw [<- hE]; simp_all, rfl⟩
theorem place_num (s c i n : Nat) (h : 0 < n) : ((s % n + c % n + i % n) % n + n) % n = (s + c + i) % n := by
 rw [Nat.add_mod_right, Nat.mod_mod, Nat.add_mod (s % n + c % n) (i % n), Nat.mod_mod, <- Nat.add_mod s c, <- Nat.add_mod]
def placeN (s : Sp) (i n : Nat) : Nat := (s.n.toNat + s.c.toNat + i) % n
theorem place_lt (s : Sp) (i : Nat) {n : Nat} (h : 0 < n) : placeN s i n < n := Nat.mod_lt _ h
theorem place_inj {s : Sp} {i j n : Nat} (hi : i < n) (hj : j < n) (h : placeN s i n = placeN s j n) : i = j := by
 unfold placeN at h
 generalize s.n.toNat + s.c.toNat = a at h
 have h1 := Nat.mod_add_div (a + i) n
 have h2 := Nat.mod_add_div (a + j) n
 rw [h] at h1
 generalize (a + i) / n = p at *
 generalize (a + j) / n = q at *
 rcases Nat.lt_trichotomy p q with hpq | hpq | hpq
 ·have : n * (p + 1) <= n * q := Nat.mul_le_mul_left n hpq
  rw [Nat.mul_succ] at this
  omega
 ·subst hpq; omega
 ·have : n * (q + 1) <= n * p := Nat.mul_le_mul_left n hpq
  rw [Nat.mul_succ] at this
  omega
theorem lplace_ok (s : Sp) (i n : Nat) (w : World) (h : s.Ok) (hi : i < n) (h3 : 3 <= n) (h16 : n <= 16) : Calls Tryz.prog 32 #[spV s, .int .i64 (i : Int), .int .i64 (n : Int)] w fun e w' => e = .returned (.int .i64 (placeN s i n : Int)) /\ Chg [] w w' := by
 obtain ⟨c, l, m⟩ := s
 obtain ⟨h1, h2, h4, h5, h6, h7⟩ := h
 dsimp only at h1 h2 h4 h5 h6 h7
 obtain ⟨c, rfl⟩ := Int.eq_ofNat_of_zero_le h1
 obtain ⟨m, rfl⟩ := Int.eq_ofNat_of_zero_le h6
 have CS := LH (fun w => lservers_ok (n : Int) w (by omega) (by omega))
 have hz : ¬ (n : Int) = 0 := by omega
 have hz0 : ¬ n = 0 := by omega
 have e1 : Int.tmod (m : Int) (n : Int) = ((m % n : Nat) : Int) := (Int.ofNat_tmod m n).symm
 have e2 : Int.tmod (c : Int) (n : Int) = ((c % n : Nat) : Int) := (Int.ofNat_tmod c n).symm
 have e3 : Int.tmod (i : Int) (n : Int) = ((i % n : Nat) : Int) := (Int.ofNat_tmod i n).symm
 have l1 := Nat.mod_lt m (show n > 0 by omega)
 have l2 := Nat.mod_lt c (show n > 0 by omega)
 have l3 := Nat.mod_lt i (show n > 0 by omega)
 have l4 := Nat.mod_lt (m % n + c % n + i % n) (show n > 0 by omega)
 have hw1 : IntKind.i64.wrap (((m % n : Nat) : Int) + ((c % n : Nat) : Int)) = ((m % n + c % n : Nat) : Int) := by rw [IntWalk.i64_in _ ⟨by omega, by omega⟩]; omega
 have hw2 : IntKind.i64.wrap (((m % n + c % n : Nat) : Int) + ((i % n : Nat) : Int)) = ((m % n + c % n + i % n : Nat) : Int) := by rw [IntWalk.i64_in _ ⟨by omega, by omega⟩]; omega
 have e4 : Int.tmod ((m % n + c % n + i % n : Nat) : Int) (n : Int) = (((m % n + c % n + i % n) % n : Nat) : Int) := (Int.ofNat_tmod _ n).symm
 have hw3 : IntKind.i64.wrap ((((m % n + c % n + i % n) % n : Nat) : Int) + (n : Int)) = (((m % n + c % n + i % n) % n + n : Nat) : Int) := by rw [IntWalk.i64_in _ ⟨by omega, by omega⟩]; omega
 have e5 : Int.tmod (((m % n + c % n + i % n) % n + n : Nat) : Int) (n : Int) = ((m + c + i) % n : Nat) := by rw [<- Int.ofNat_tmod, place_num _ _ _ _ (by omega)]
 have hP : placeN ⟨(c : Int), l, (m : Int)⟩ i n = (m + c + i) % n := rfl
 rw [hP]
 generalize hA : m % n = A at *
 generalize hB : c % n = B at *
 generalize hC : i % n = C at *
 generalize hD : (A + B + C) % n = D at *
 generalize hE : (m + c + i) % n = E at *
 clear hw1 hw2 hw3
 push_cast at e4 e5
 have hw1 : IntKind.i64.wrap ((A : Int) + (B : Int)) = (A : Int) + (B : Int) := IntWalk.i64_in _ ⟨by omega, by omega⟩
 have hw2 : IntKind.i64.wrap ((A : Int) + (B : Int) + (C : Int)) = (A : Int) + (B : Int) + (C : Int) := IntWalk.i64_in _ ⟨by omega, by omega⟩
 have hw3 : IntKind.i64.wrap ((D : Int) + (n : Int)) = (D : Int) + (n : Int) := IntWalk.i64_in _ ⟨by omega, by omega⟩
 go_enter Tryz.func32, Tryz.ntmps32
 go_wp2_with (go_at_call 52; refine (CS.out _).mono ?_; rintro e w' ⟨rfl, hq⟩; subst hq)
 refine wp_region_L [(19, fun w' => w'.cell? ⟨w.heap.size, 2, none⟩ = some (.int .i64 (m : Int))), (19, fun w' => w'.cell? ⟨w.heap.size, 0, none⟩ = some (.int .i64 (c : Int)))] (by kernel_rfl) ?_ (fun hHeld => ?_)
 ·exact (HoldC.cons (blk_cell (heap_alloc_new w _) 2 _ rfl) (HoldC.cons (blk_cell (heap_alloc_new w _) 0 _ rfl) HoldC.nil))
 refine tk 0 ?_ rfl (by kernel_rfl) (fun _ _ _ h => h) (.inl ⟨by rfl, ?_⟩) hHeld ?_; rotate_left; · (intro w _; go_simp; try with_reducible rfl)
 clear hHeld; intro hHeld; try simp only [gA,gB,gC,Act.put,gD,gE,gF]
 refine tk 2 ?_ rfl (by kernel_rfl) (fun _ _ _ h => h) (.inl ⟨by rfl, ?_⟩) hHeld ?_; rotate_left; · (intro w _; go_simp; try with_reducible rfl)
 clear hHeld; intro hHeld; try simp only [gA,gB,gC,Act.put,gD,gE,gF]
 refine tk 4 ?_ rfl (by kernel_rfl) (fun _ _ _ h => h) (.inl ⟨by rfl, ?_⟩) hHeld ?_; rotate_left; · (intro w _; go_simp; try with_reducible rfl)
 clear hHeld; intro hHeld; try simp only [gA,gB,gC,Act.put,gD,gE,gF]
 refine tk 6 ?_ rfl (by kernel_rfl) (fun _ _ _ h => h) (.inl ⟨by rfl, ?_⟩) hHeld ?_; rotate_left; · (intro w _; go_simp; try with_reducible rfl)
 clear hHeld; intro hHeld; try simp only [gA,gB,gC,Act.put,gD,gE,gF]
 refine tk 9 ?_ rfl (by kernel_rfl) (fun _ _ _ h => h) (.inl ⟨by rfl, ?_⟩) hHeld ?_; rotate_left; · (intro w _; go_simp; try with_reducible rfl)
 clear hHeld; intro hHeld; try simp only [gA,gB,gC,Act.put,gD,gE,gF]
 refine tk 10 ?_ rfl (by kernel_rfl) (fun _ _ _ h => h) (.inl ⟨by rfl, ?_⟩) hHeld ?_; rotate_left; · (intro w _; go_simp; try with_reducible rfl)
 clear hHeld; intro hHeld; try simp only [gA,gB,gC,Act.put,gD,gE,gF]
 refine tk 11 ?_ rfl (by kernel_rfl) (fun _ _ _ h => h) (.inl ⟨by rfl, ?_⟩) hHeld ?_; rotate_left; · (intro w _; go_simp; try with_reducible rfl)
 clear hHeld; intro hHeld; try simp only [gA,gB,gC,Act.put,gD,gE,gF]
 refine tk 13 ?_ rfl (by kernel_rfl) (fun _ _ _ h => h) (.inl ⟨by rfl, ?_⟩) hHeld ?_; rotate_left; · (intro w _; go_simp; try with_reducible rfl)
 clear hHeld; intro hHeld; try simp only [gA,gB,gC,Act.put,gD,gE,gF]
 refine tk 15 ?_ rfl (by kernel_rfl) (fun _ _ _ h => h) (.inl ⟨by rfl, ?_⟩) hHeld ?_; rotate_left; · (intro w _; go_simp; try with_reducible rfl)
 clear hHeld; intro hHeld; try simp only [gA,gB,gC,Act.put,gD,gE,gF]
 refine tk 17 ?_ rfl (by kernel_rfl) (fun _ _ _ h => h) (.inl ⟨by rfl, ?_⟩) hHeld ?_; rotate_left; · (intro w _; go_simp; try with_reducible rfl)
 clear hHeld; intro hHeld; try simp only [gA,gB,gC,Act.put,gD,gE,gF]
 refine ld 0 1 ?_ rfl rfl (by kernel_rfl) (fun _ _ _ h => h) (.inl ⟨by rfl, ?_⟩) hHeld ?_; rotate_left; · (intro w hSw; (try dsimp only at hSw); go_simp; try with_reducible rfl)
 clear hHeld; intro hHeld; try simp only [gA,gB,gC,Act.put,gD,gE,gF]
 refine tk 3 ?_ rfl (by kernel_rfl) (fun _ _ _ h => h) (.inl ⟨by rfl, ?_⟩) hHeld ?_; rotate_left; · (intro w _; go_simp; try with_reducible rfl)
 clear hHeld; intro hHeld; try simp only [gA,gB,gC,Act.put,gD,gE,gF]
 refine ld 1 5 ?_ rfl rfl (by kernel_rfl) (fun _ _ _ h => h) (.inl ⟨by rfl, ?_⟩) hHeld ?_; rotate_left; · (intro w hSw; (try dsimp only at hSw); go_simp; try with_reducible rfl)
 clear hHeld; intro hHeld; try simp only [gA,gB,gC,Act.put,gD,gE,gF]
 refine tk 7 ?_ rfl (by kernel_rfl) (fun _ _ _ h => h) (.inl ⟨by rfl, ?_⟩) hHeld ?_; rotate_left; · (intro w _; go_simp; try with_reducible rfl)
 clear hHeld; intro hHeld; try simp only [gA,gB,gC,Act.put,gD,gE,gF]
 refine tk 8 ?_ rfl (by kernel_rfl) (fun _ _ _ h => h) (.inl ⟨by rfl, ?_⟩) hHeld ?_; rotate_left; · (intro w _; go_simp; try with_reducible rfl)
 clear hHeld; intro hHeld; try simp only [gA,gB,gC,Act.put,gD,gE,gF]
 refine tk 12 ?_ rfl (by kernel_rfl) (fun _ _ _ h => h) (.inl ⟨by rfl, ?_⟩) hHeld ?_; rotate_left; · (intro w _; go_simp; try with_reducible rfl)
 clear hHeld; intro hHeld; try simp only [gA,gB,gC,Act.put,gD,gE,gF]
 refine tk 14 ?_ rfl (by kernel_rfl) (fun _ _ _ h => h) (.inl ⟨by rfl, ?_⟩) hHeld ?_; rotate_left; · (intro w _; go_simp; try with_reducible rfl)
 clear hHeld; intro hHeld; try simp only [gA,gB,gC,Act.put,gD,gE,gF]
 refine tk 16 ?_ rfl (by kernel_rfl) (fun _ _ _ h => h) (.inl ⟨by rfl, ?_⟩) hHeld ?_; rotate_left; · (intro w _; go_simp; try with_reducible rfl)
 clear hHeld; intro hHeld; try simp only [gA,gB,gC,Act.put,gD,gE,gF]
 refine tk 18 ?_ rfl (by kernel_rfl) (fun _ _ _ h => h) (.inl ⟨by rfl, ?_⟩) hHeld ?_; rotate_left; · (intro w _; go_simp; try with_reducible rfl)
 clear hHeld; intro hHeld; try simp only [gA,gB,gC,Act.put,gD,gE,gF]
 refine wpAnyL_ready (rs := [19]) (by kernel_rfl) (by simp) (AllReadyL.cons (o := _) rfl (fun K hK => ?_) AllReadyL.nil)
 try simp only [gA,gB,gC]
 go_simp
 clear hHeld
 refine hK.out _ _ ?_ (fun hHeld => ?_)
 ·exact (HoldC.past (by kernel_rfl) (HoldC.past (by kernel_rfl) HoldC.nil))
 clear hK K
 try simp only [gA,gB,gC,Act.put,gD,gE,gF]
 refine wpAnyL_done (by kernel_rfl) ?_ _
 clear hHeld
 go_wp2
 go_ret
 exact ⟨rfl, ((Chg.refl [] w).alloc _).drew⟩
theorem rplace_ok (s : Sp) (i n : Nat) (w : World) (h : s.Ok) (hi : i < n) (h3 : 3 <= n) (h16 : n <= 16) : Calls Tryz.prog 24 #[spV s, .int .i64 (i : Int), .int .i64 (n : Int)] w fun e w' => e = .returned (.int .i64 (placeN s i n : Int)) /\ Chg [] w w' := by
 obtain ⟨c, l, m⟩ := s
 obtain ⟨h1, h2, h4, h5, h6, h7⟩ := h
 dsimp only at h1 h2 h4 h5 h6 h7
 obtain ⟨c, rfl⟩ := Int.eq_ofNat_of_zero_le h1
 obtain ⟨m, rfl⟩ := Int.eq_ofNat_of_zero_le h6
 have CS := LH (fun w => rmayn_ok (n : Int) w (by omega) (by omega))
 have hz : ¬ (n : Int) = 0 := by omega
 have hz0 : ¬ n = 0 := by omega
 have e1 : Int.tmod (m : Int) (n : Int) = ((m % n : Nat) : Int) := (Int.ofNat_tmod m n).symm
 have e2 : Int.tmod (c : Int) (n : Int) = ((c % n : Nat) : Int) := (Int.ofNat_tmod c n).symm
 have e3 : Int.tmod (i : Int) (n : Int) = ((i % n : Nat) : Int) := (Int.ofNat_tmod i n).symm
 have l1 := Nat.mod_lt m (show n > 0 by omega)
 have l2 := Nat.mod_lt c (show n > 0 by omega)
 have l3 := Nat.mod_lt i (show n > 0 by omega)
 have l4 := Nat.mod_lt (m % n + c % n + i % n) (show n > 0 by omega)
 have hw1 : IntKind.i64.wrap (((m % n : Nat) : Int) + ((c % n : Nat) : Int)) = ((m % n + c % n : Nat) : Int) := by rw [IntWalk.i64_in _ ⟨by omega, by omega⟩]; omega
 have hw2 : IntKind.i64.wrap (((m % n + c % n : Nat) : Int) + ((i % n : Nat) : Int)) = ((m % n + c % n + i % n : Nat) : Int) := by rw [IntWalk.i64_in _ ⟨by omega, by omega⟩]; omega
 have e4 : Int.tmod ((m % n + c % n + i % n : Nat) : Int) (n : Int) = (((m % n + c % n + i % n) % n : Nat) : Int) := (Int.ofNat_tmod _ n).symm
 have hw3 : IntKind.i64.wrap ((((m % n + c % n + i % n) % n : Nat) : Int) + (n : Int)) = (((m % n + c % n + i % n) % n + n : Nat) : Int) := by rw [IntWalk.i64_in _ ⟨by omega, by omega⟩]; omega
 have e5 : Int.tmod (((m % n + c % n + i % n) % n + n : Nat) : Int) (n : Int) = ((m + c + i) % n : Nat) := by rw [<- Int.ofNat_tmod, place_num _ _ _ _ (by omega)]
 have hP : placeN ⟨(c : Int), l, (m : Int)⟩ i n = (m + c + i) % n := rfl
 rw [hP]
 generalize hA : m % n = A at *
 generalize hB : c % n = B at *
 generalize hC : i % n = C at *
 generalize hD : (A + B + C) % n = D at *
 generalize hE : (m + c + i) % n = E at *
 clear hw1 hw2 hw3
 push_cast at e4 e5
 have hw1 : IntKind.i64.wrap ((A : Int) + (B : Int)) = (A : Int) + (B : Int) := IntWalk.i64_in _ ⟨by omega, by omega⟩
 have hw2 : IntKind.i64.wrap ((A : Int) + (B : Int) + (C : Int)) = (A : Int) + (B : Int) + (C : Int) := IntWalk.i64_in _ ⟨by omega, by omega⟩
 have hw3 : IntKind.i64.wrap ((D : Int) + (n : Int)) = (D : Int) + (n : Int) := IntWalk.i64_in _ ⟨by omega, by omega⟩
 go_enter Tryz.func24, Tryz.ntmps24
 go_wp2_with (go_at_call 28; refine (CS.out _).mono ?_; rintro e w' ⟨rfl, hq⟩; subst hq)
 refine wp_region_L [(19, fun w' => w'.cell? ⟨w.heap.size, 2, none⟩ = some (.int .i64 (m : Int))), (19, fun w' => w'.cell? ⟨w.heap.size, 0, none⟩ = some (.int .i64 (c : Int)))] (by kernel_rfl) ?_ (fun hHeld => ?_)
 ·exact (HoldC.cons (blk_cell (heap_alloc_new w _) 2 _ rfl) (HoldC.cons (blk_cell (heap_alloc_new w _) 0 _ rfl) HoldC.nil))
 refine tk 0 ?_ rfl (by kernel_rfl) (fun _ _ _ h => h) (.inl ⟨by rfl, ?_⟩) hHeld ?_; rotate_left; · (intro w _; go_simp; try with_reducible rfl)
 clear hHeld; intro hHeld; try simp only [gA,gB,gC,Act.put,gD,gE,gF]
 refine tk 2 ?_ rfl (by kernel_rfl) (fun _ _ _ h => h) (.inl ⟨by rfl, ?_⟩) hHeld ?_; rotate_left; · (intro w _; go_simp; try with_reducible rfl)
 clear hHeld; intro hHeld; try simp only [gA,gB,gC,Act.put,gD,gE,gF]
 refine tk 4 ?_ rfl (by kernel_rfl) (fun _ _ _ h => h) (.inl ⟨by rfl, ?_⟩) hHeld ?_; rotate_left; · (intro w _; go_simp; try with_reducible rfl)
 clear hHeld; intro hHeld; try simp only [gA,gB,gC,Act.put,gD,gE,gF]
 refine tk 6 ?_ rfl (by kernel_rfl) (fun _ _ _ h => h) (.inl ⟨by rfl, ?_⟩) hHeld ?_; rotate_left; · (intro w _; go_simp; try with_reducible rfl)
 clear hHeld; intro hHeld; try simp only [gA,gB,gC,Act.put,gD,gE,gF]
 refine tk 9 ?_ rfl (by kernel_rfl) (fun _ _ _ h => h) (.inl ⟨by rfl, ?_⟩) hHeld ?_; rotate_left; · (intro w _; go_simp; try with_reducible rfl)
 clear hHeld; intro hHeld; try simp only [gA,gB,gC,Act.put,gD,gE,gF]
 refine tk 10 ?_ rfl (by kernel_rfl) (fun _ _ _ h => h) (.inl ⟨by rfl, ?_⟩) hHeld ?_; rotate_left; · (intro w _; go_simp; try with_reducible rfl)
 clear hHeld; intro hHeld; try simp only [gA,gB,gC,Act.put,gD,gE,gF]
 refine tk 11 ?_ rfl (by kernel_rfl) (fun _ _ _ h => h) (.inl ⟨by rfl, ?_⟩) hHeld ?_; rotate_left; · (intro w _; go_simp; try with_reducible rfl)
 clear hHeld; intro hHeld; try simp only [gA,gB,gC,Act.put,gD,gE,gF]
 refine tk 13 ?_ rfl (by kernel_rfl) (fun _ _ _ h => h) (.inl ⟨by rfl, ?_⟩) hHeld ?_; rotate_left; · (intro w _; go_simp; try with_reducible rfl)
 clear hHeld; intro hHeld; try simp only [gA,gB,gC,Act.put,gD,gE,gF]
 refine tk 15 ?_ rfl (by kernel_rfl) (fun _ _ _ h => h) (.inl ⟨by rfl, ?_⟩) hHeld ?_; rotate_left; · (intro w _; go_simp; try with_reducible rfl)
 clear hHeld; intro hHeld; try simp only [gA,gB,gC,Act.put,gD,gE,gF]
 refine tk 17 ?_ rfl (by kernel_rfl) (fun _ _ _ h => h) (.inl ⟨by rfl, ?_⟩) hHeld ?_; rotate_left; · (intro w _; go_simp; try with_reducible rfl)
 clear hHeld; intro hHeld; try simp only [gA,gB,gC,Act.put,gD,gE,gF]
 refine ld 0 1 ?_ rfl rfl (by kernel_rfl) (fun _ _ _ h => h) (.inl ⟨by rfl, ?_⟩) hHeld ?_; rotate_left; · (intro w hSw; (try dsimp only at hSw); go_simp; try with_reducible rfl)
 clear hHeld; intro hHeld; try simp only [gA,gB,gC,Act.put,gD,gE,gF]
 refine tk 3 ?_ rfl (by kernel_rfl) (fun _ _ _ h => h) (.inl ⟨by rfl, ?_⟩) hHeld ?_; rotate_left; · (intro w _; go_simp; try with_reducible rfl)
 clear hHeld; intro hHeld; try simp only [gA,gB,gC,Act.put,gD,gE,gF]
 refine ld 1 5 ?_ rfl rfl (by kernel_rfl) (fun _ _ _ h => h) (.inl ⟨by rfl, ?_⟩) hHeld ?_; rotate_left; · (intro w hSw; (try dsimp only at hSw); go_simp; try with_reducible rfl)
 clear hHeld; intro hHeld; try simp only [gA,gB,gC,Act.put,gD,gE,gF]
 refine tk 7 ?_ rfl (by kernel_rfl) (fun _ _ _ h => h) (.inl ⟨by rfl, ?_⟩) hHeld ?_; rotate_left; · (intro w _; go_simp; try with_reducible rfl)
 clear hHeld; intro hHeld; try simp only [gA,gB,gC,Act.put,gD,gE,gF]
 refine tk 8 ?_ rfl (by kernel_rfl) (fun _ _ _ h => h) (.inl ⟨by rfl, ?_⟩) hHeld ?_; rotate_left; · (intro w _; go_simp; try with_reducible rfl)
 clear hHeld; intro hHeld; try simp only [gA,gB,gC,Act.put,gD,gE,gF]
 refine tk 12 ?_ rfl (by kernel_rfl) (fun _ _ _ h => h) (.inl ⟨by rfl, ?_⟩) hHeld ?_; rotate_left; · (intro w _; go_simp; try with_reducible rfl)
 clear hHeld; intro hHeld; try simp only [gA,gB,gC,Act.put,gD,gE,gF]
 refine tk 14 ?_ rfl (by kernel_rfl) (fun _ _ _ h => h) (.inl ⟨by rfl, ?_⟩) hHeld ?_; rotate_left; · (intro w _; go_simp; try with_reducible rfl)
 clear hHeld; intro hHeld; try simp only [gA,gB,gC,Act.put,gD,gE,gF]
 refine tk 16 ?_ rfl (by kernel_rfl) (fun _ _ _ h => h) (.inl ⟨by rfl, ?_⟩) hHeld ?_; rotate_left; · (intro w _; go_simp; try with_reducible rfl)
 clear hHeld; intro hHeld; try simp only [gA,gB,gC,Act.put,gD,gE,gF]
 refine tk 18 ?_ rfl (by kernel_rfl) (fun _ _ _ h => h) (.inl ⟨by rfl, ?_⟩) hHeld ?_; rotate_left; · (intro w _; go_simp; try with_reducible rfl)
 clear hHeld; intro hHeld; try simp only [gA,gB,gC,Act.put,gD,gE,gF]
 refine wpAnyL_ready (rs := [19]) (by kernel_rfl) (by simp) (AllReadyL.cons (o := _) rfl (fun K hK => ?_) AllReadyL.nil)
 try simp only [gA,gB,gC]
 go_simp
 clear hHeld
 refine hK.out _ _ ?_ (fun hHeld => ?_)
 ·exact (HoldC.past (by kernel_rfl) (HoldC.past (by kernel_rfl) HoldC.nil))
 clear hK K
 try simp only [gA,gB,gC,Act.put,gD,gE,gF]
 refine wpAnyL_done (by kernel_rfl) ?_ _
 clear hHeld
 go_wp2
 go_ret
 exact ⟨rfl, ((Chg.refl [] w).alloc _).drew⟩
theorem reach_ok (size n : Nat) (w : World) (h : 1 <= size) (hs : size <= 100000) (h3 : 3 <= n) (h16 : n <= 16) : Calls Tryz.prog 29 #[.int .i64 (size : Int), .int .i64 (n : Int)] w fun e w' => e = .returned (.int .i64 (eachN size n : Int)) /\ w = w' := by
 have CS := LH (rmayn_ok (n : Int) w (by omega) (by omega))
 have h0 : ¬ (size : Int) <= 0 := by omega
 have hw : IntKind.i64.wrap ((size : Int) - 1) = (size : Int) - 1 := IntWalk.i64_in _ ⟨by omega, by omega⟩
 have hw2 : IntKind.i64.wrap ((n : Int) - 1) = (n : Int) - 1 := IntWalk.i64_in _ ⟨by omega, by omega⟩
 have hz : ¬ (n : Int) - 1 = 0 := by omega
 have hE := each_int size n h h3
 have hle := each_le (n := n) h
 have hw4 : IntKind.i64.wrap (Int.tdiv ((size : Int) - 1) ((n : Int) - 1)) = Int.tdiv ((size : Int) - 1) ((n : Int) - 1) := IntWalk.i64_in _ ⟨by omega, by omega⟩
 have hw3 : IntKind.i64.wrap (Int.tdiv ((size : Int) - 1) ((n : Int) - 1) + 1) = Int.tdiv ((size : Int) - 1) ((n : Int) - 1) + 1 := IntWalk.i64_in _ ⟨by omega, by omega⟩
 go_enter Tryz.func29, Tryz.ntmps29
 go_wp2_with (go_at_call 28; refine CS.out.mono ?_; rintro e w' ⟨rfl, hq⟩; subst hq)
 go_ret
 exact ⟨by rw [<- hE]; simp_all, rfl⟩
theorem each_mul (size n i : Nat) (h : 1 <= size) (hs : size <= 100000) (hi : i < 16) : i * eachN size n <= 1600000 := by
 have := each_le (n := n) h
 calc i * eachN size n <= 16 * 100000 := Nat.mul_le_mul (by omega) (by omega)
  _ = 1600000 := rfl
theorem ret_ii {a b c d : Int} (h : a = c) (k : b = d) : Ending.returned (.tuple #[.int .i64 a, .int .i64 b]) = .returned (.tuple #[.int .i64 c, .int .i64 d]) := by rw [h, k]
theorem lpart_ok (i size n : Nat) (w : World) (h : 1 <= size) (hs : size <= 100000) (h3 : 3 <= n) (h16 : n <= 16) (hi : i < n) : Calls Tryz.prog 149 #[.int .i64 (i : Int), .int .i64 (size : Int), .int .i64 (n : Int)] w fun e w' => e = .returned (.tuple #[.int .i64 (fromN size n i : Int), .int .i64 (toN size n i : Int)]) /\ w = w' := by
 have CE := LH (leach_ok size n w h hs h3 h16)
 have hm := each_mul size n i h hs (by omega)
 have hle := each_le (n := n) h
 unfold fromN toN
 generalize hE : eachN size n = E at *
 have hi1 : (i : Int) * (E : Int) = ((i * E : Nat) : Int) := by rw [Int.natCast_mul]
 generalize hM : i * E = M at *
 have hw1 : IntKind.i64.wrap ((i : Int) * (E : Int)) = (M : Int) := by rw [hi1]; exact IntWalk.i64_in _ ⟨by omega, by omega⟩
 have hw2 : IntKind.i64.wrap ((M : Int) + (E : Int)) = ((M + E : Nat) : Int) := by rw [IntWalk.i64_in _ ⟨by omega, by omega⟩]; omega
 go_enter Tryz.func149, Tryz.ntmps149
 go_wp2_with (go_at_call 73; refine CE.out.mono ?_; rintro e w' ⟨rfl, hq⟩; subst hq)
 all_goals
  go_ret2
  exact ⟨ret_ii (by omega) (by omega), rfl⟩
abbrev hdC (s : Sp) (i n size : Int) : Array Value := #[.int .i64 s.c, .int .i64 s.l, .int .i64 s.n, .int .i64 i, .int .i64 n, .int .i64 size]
theorem llong_ok (s : Sp) (i size n : Nat) (w : World) (h : 1 <= size) (hs : size <= 100000) (h3 : 3 <= n) (h16 : n <= 16) (hi : i < n) : Calls Tryz.prog 117 #[.agg (hdC s i n size)] w fun e w' => e = .returned (.int .i64 (longN size n i : Int)) /\ Chg [] w w' := by
 have CE := LH (fun w => leach_ok size n w h hs h3 h16)
 have CP := LH (fun w => lpart_ok i size n w h hs h3 h16 hi)
 have hft := from_to size n i
 have hle := each_le (n := n) h
 have hw1 : IntKind.i64.wrap ((n : Int) - 1) = (n : Int) - 1 := IntWalk.i64_in _ ⟨by omega, by omega⟩
 have hw2 : IntKind.i64.wrap ((toN size n i : Int) - (fromN size n i : Int)) = ((toN size n i - fromN size n i : Nat) : Int) := by rw [IntWalk.i64_in _ ⟨by omega, by omega⟩]; omega
 unfold longN
 by_cases hl : i = n - 1
 ·rw [if_pos hl]
  have hli : (i : Int) = (n : Int) - 1 := by omega
  go_enter Tryz.func117, Tryz.ntmps117
  go_wp2_with (first | (go_at_call 73; refine (CE.out _).mono ?_; rintro e w' ⟨rfl, hq⟩; subst hq))
  go_ret
  exact ⟨rfl, (Chg.refl [] w).alloc _⟩
 ·rw [if_neg hl]
  have hli : ¬ (i : Int) = (n : Int) - 1 := by omega
  go_enter Tryz.func117, Tryz.ntmps117
  go_wp2_with (first | (go_at_call 149; refine (CP.out _).mono ?_; rintro e w' ⟨rfl, hq⟩; subst hq))
  go_ret
  exact ⟨rfl, (Chg.refl [] w).alloc _⟩
theorem lspan_ok (at_ count size n : Nat) (w : World) (hc : 1 <= count) (hac : at_ + count <= size) (hs : size <= 400 * (n - 1)) (h3 : 3 <= n) (h16 : n <= 16) :
  Calls Tryz.prog 96 #[.int .i64 (at_ : Int), .int .i64 (count : Int), .int .i64 (size : Int), .int .i64 (n : Int)] w fun e w' => e = .returned (.tuple #[.int .i64 ((at_ / eachN size n : Nat) : Int), .int .i64 (((at_ + count - 1) / eachN size n : Nat) : Int), .int .i64 0]) /\ Chg [] w w' := by
 have CS := LH (fun w => lservers_ok (n : Int) w (by omega) (by omega))
 have CZ := LH (fun w => lsized_ok (size : Int) (n : Int) w (by omega) (by omega) (by omega) (by omega))
 have CE := LH (fun w => leach_ok size n w (by omega) (by omega) h3 h16)
 have hp := each_pos (size := size) (n := n) (by omega)
 generalize eachN size n = E at *
 have h0 : ¬ (at_ : Int) < 0 := by omega
 have h1 : ¬ (count : Int) < 1 := by omega
 have h2 : ¬ (size : Int) < (count : Int) := by omega
 have hw1 : IntKind.i64.wrap ((size : Int) - (count : Int)) = (size : Int) - (count : Int) := IntWalk.i64_in _ ⟨by omega, by omega⟩
 have h4 : ¬ (size : Int) - (count : Int) < (at_ : Int) := by omega
 have hw2 : IntKind.i64.wrap ((at_ : Int) + (count : Int)) = (at_ : Int) + (count : Int) := IntWalk.i64_in _ ⟨by omega, by omega⟩
 have hw3 : IntKind.i64.wrap ((at_ : Int) + (count : Int) - 1) = ((at_ + count - 1 : Nat) : Int) := by rw [IntWalk.i64_in _ ⟨by omega, by omega⟩]; omega
 have hz : ¬ (E : Int) = 0 := by omega
 have hz0 : ¬ E = 0 := by omega
 have hd1 := Nat.div_le_self at_ E
 have hd2 := Nat.div_le_self (at_ + count - 1) E
 have e1 : Int.tdiv (at_ : Int) (E : Int) = ((at_ / E : Nat) : Int) := (Int.ofNat_tdiv at_ E).symm
 have e2 : Int.tdiv ((at_ + count - 1 : Nat) : Int) (E : Int) = (((at_ + count - 1) / E : Nat) : Int) := (Int.ofNat_tdiv _ E).symm
 generalize hQ : at_ / E = q1 at *
 generalize hR : at_ + count - 1 = r1 at *
 generalize hQ2 : r1 / E = q2 at *
 have hw4 : IntKind.i64.wrap (q1 : Int) = (q1 : Int) := IntWalk.i64_in _ ⟨by omega, by omega⟩
 have hw5 : IntKind.i64.wrap (q2 : Int) = (q2 : Int) := IntWalk.i64_in _ ⟨by omega, by omega⟩
 go_enter Tryz.func96, Tryz.ntmps96
 go_wp2_with (first | (go_at_call 52; refine (CS.out _).mono ?_; rintro e w' ⟨rfl, hq⟩; subst hq) | (go_at_call 116; refine (CZ.out _).mono ?_; rintro e w' ⟨rfl, hq⟩; subst hq) | (go_at_call 73; refine (CE.out _).mono ?_; rintro e w' ⟨rfl, hq⟩; subst hq))
 refine wp_region_L [] (by kernel_rfl) ?_ (fun hHeld => ?_)
 ·exact HoldC.nil
 refine tk 0 ?_ rfl (by kernel_rfl) (fun _ _ _ h => h) (.inl ⟨by rfl, ?_⟩) hHeld ?_; rotate_left; · (intro w _; go_simp; try with_reducible rfl)
 clear hHeld; intro hHeld; try simp only [gA,gB,gC,Act.put,gD,gE,gF]
 refine tk 1 ?_ rfl (by kernel_rfl) (fun _ _ _ h => h) (.inl ⟨by rfl, ?_⟩) hHeld ?_; rotate_left; · (intro w _; go_simp; try with_reducible rfl)
 clear hHeld; intro hHeld; try simp only [gA,gB,gC,Act.put,gD,gE,gF]
 refine tk 2 ?_ rfl (by kernel_rfl) (fun _ _ _ h => h) (.inl ⟨by rfl, ?_⟩) hHeld ?_; rotate_left; · (intro w _; go_simp; try with_reducible rfl)
 clear hHeld; intro hHeld; try simp only [gA,gB,gC,Act.put,gD,gE,gF]
 refine tk 3 ?_ rfl (by kernel_rfl) (fun _ _ _ h => h) (.inl ⟨by rfl, ?_⟩) hHeld ?_; rotate_left; · (intro w _; go_simp; try with_reducible rfl)
 clear hHeld; intro hHeld; try simp only [gA,gB,gC,Act.put,gD,gE,gF]
 refine tk 4 ?_ rfl (by kernel_rfl) (fun _ _ _ h => h) (.inl ⟨by rfl, ?_⟩) hHeld ?_; rotate_left; · (intro w _; go_simp; try with_reducible rfl)
 clear hHeld; intro hHeld; try simp only [gA,gB,gC,Act.put,gD,gE,gF]
 refine tk 5 ?_ rfl (by kernel_rfl) (fun _ _ _ h => h) (.inl ⟨by rfl, ?_⟩) hHeld ?_; rotate_left; · (intro w _; go_simp; try with_reducible rfl)
 clear hHeld; intro hHeld; try simp only [gA,gB,gC,Act.put,gD,gE,gF]
 refine tk 6 ?_ rfl (by kernel_rfl) (fun _ _ _ h => h) (.inl ⟨by rfl, ?_⟩) hHeld ?_; rotate_left; · (intro w _; go_simp; try with_reducible rfl)
 clear hHeld; intro hHeld; try simp only [gA,gB,gC,Act.put,gD,gE,gF]
 refine tk 7 ?_ rfl (by kernel_rfl) (fun _ _ _ h => h) (.inl ⟨by rfl, ?_⟩) hHeld ?_; rotate_left; · (intro w _; go_simp; try with_reducible rfl)
 clear hHeld; intro hHeld; try simp only [gA,gB,gC,Act.put,gD,gE,gF]
 refine tk 8 ?_ rfl (by kernel_rfl) (fun _ _ _ h => h) (.inl ⟨by rfl, ?_⟩) hHeld ?_; rotate_left; · (intro w _; go_simp; try with_reducible rfl)
 clear hHeld; intro hHeld; try simp only [gA,gB,gC,Act.put,gD,gE,gF]
 refine tk 9 ?_ rfl (by kernel_rfl) (fun _ _ _ h => h) (.inl ⟨by rfl, ?_⟩) hHeld ?_; rotate_left; · (intro w _; go_simp; try with_reducible rfl)
 clear hHeld; intro hHeld; try simp only [gA,gB,gC,Act.put,gD,gE,gF]
 refine tk 10 ?_ rfl (by kernel_rfl) (fun _ _ _ h => h) (.inl ⟨by rfl, ?_⟩) hHeld ?_; rotate_left; · (intro w _; go_simp; try with_reducible rfl)
 clear hHeld; intro hHeld; try simp only [gA,gB,gC,Act.put,gD,gE,gF]
 refine tk 11 ?_ rfl (by kernel_rfl) (fun _ _ _ h => h) (.inl ⟨by rfl, ?_⟩) hHeld ?_; rotate_left; · (intro w _; go_simp; try with_reducible rfl)
 clear hHeld; intro hHeld; try simp only [gA,gB,gC,Act.put,gD,gE,gF]
 refine wpAnyL_done (by kernel_rfl) ?_ _
 clear hHeld
 go_wp2
 go_ret3
 exact ⟨rfl, (Chg.refl [] w).drew⟩
def ltrim (l : List UInt8) : List UInt8 := l.dropWhile (· == 0)
def rtrim (l : List UInt8) : List UInt8 := (l.reverse.dropWhile (· == 0)).reverse
def allZ (l : List UInt8) : Bool := l.all (· == 0)
theorem ltrim_nil (l : List UInt8) : (ltrim l = []) ↔ allZ l = true := by
 unfold ltrim allZ
 induction l with
 | nil => simp
 | cons a l ih =>
  rw [List.dropWhile_cons, List.all_cons]
  by_cases h : (a == 0) = true
  ·rw [if_pos h, ih, h, Bool.true_and]
  ·rw [if_neg h]
   simp at h
   simp [h]
theorem allZ_rtrim (l : List UInt8) : allZ (rtrim l) = allZ l := by
 unfold rtrim allZ
 rw [List.all_reverse, <- List.all_reverse (l := l)]
 generalize l.reverse = m
 induction m with
 | nil => rfl
 | cons a m ih =>
  rw [List.dropWhile_cons]
  by_cases h : (a == 0) = true
  ·rw [if_pos h, ih, List.all_cons, h, Bool.true_and]
  ·rw [if_neg h]
theorem trimmed_len (l : List UInt8) : (ltrim (rtrim l)).length = 0 ↔ allZ l = true := by
 rw [List.length_eq_zero_iff, ltrim_nil, allZ_rtrim]
theorem ltrim_at (l : List UInt8) (k : Nat) (hk : k <= l.length) (hz : ∀ q, q < k -> l.getD q 0 = 0) (hs : k < l.length -> l.getD k 0 ≠ 0) : ltrim l = l.drop k := by
 induction l generalizing k with
 | nil => simp at hk; subst hk; rfl
 | cons a l ih =>
  unfold ltrim
  rw [List.dropWhile_cons]
  cases k with
  | zero =>
   have := hs (by simp)
   simp at this
   rw [if_neg (by simpa using this)]
   rfl
  | succ k =>
   have h0 := hz 0 (by omega)
   simp at h0
   rw [if_pos (by simpa using h0)]
   exact ih k (by simpa using hk) (fun q hq => by simpa using hz (q + 1) (by omega)) (fun h => by simpa using hs (by simpa using h))
theorem rtrim_at (l : List UInt8) (k : Nat) (hk : k <= l.length) (hz : ∀ q, k <= q -> q < l.length -> l.getD q 0 = 0) (hs : 0 < k -> l.getD (k - 1) 0 ≠ 0) : rtrim l = l.take k := by
 unfold rtrim
 have hr : ∀ q, q < l.length -> l.reverse.getD q 0 = l.getD (l.length - 1 - q) 0 := by
  intro q hq
  simp only [List.getD_eq_getElem?_getD]
  rw [List.getElem?_reverse hq]
 have h := ltrim_at l.reverse (l.length - k) (by simp) (fun q hq => by
  rw [hr q (by omega)]
  exact hz _ (by omega) (by omega)) (fun h => by
  simp at h
  rw [hr _ (by omega)]
  have : l.length - 1 - (l.length - k) = k - 1 := by omega
  rw [this]
  exact hs (by omega))
 unfold ltrim at h
 rw [h, List.reverse_drop]
 simp
 congr 1
 omega
theorem bv_eq_zero (a : UInt8) : (((a.toNat : Int) == 0) = true) ↔ a = 0 := by
 rw [beq_iff_eq]
 constructor
 ·intro h; exact UInt8.toNat_inj.1 (by simpa using h)
 ·rintro rfl; rfl
theorem trimL_any (v : Value) (l : List UInt8) (w : World) (h : BytesAt w v l) (hl : l.length <= 1000000000) :
  Calls Tryz.prog 119 #[v, .int .u8 0] w fun e w' => (∃ v', e = .returned v' /\ BytesAt w v' (ltrim l)) /\ w = w' := by
 obtain ⟨a, cap, rfl, h1, h2, h3⟩ := h
 unfold maxLen at h2
 by_cases hn : l = []
 ·subst hn
  go_enter Tryz.func119, Tryz.ntmps119
  go_wp2
  go_loopg [0] 0 (fun g' s0 wr => ∃ a cap, s0 = .slice a 0 cap /\ wr = w)
  case atStart => exact ⟨_, _, rfl, rfl⟩
  case round =>
   obtain ⟨a1, cap1, rfl, rfl⟩ := hrel
   go_wp2
   go_ret
   exact ⟨⟨_, rfl, BytesAt.nil _⟩, rfl⟩
 ·rcases h3 with ⟨rfl, _⟩ | ⟨g, o, rfl, hc⟩
  ·exact absurd rfl hn
  have HC := LH hc
  have hpos : 0 < l.length := List.length_pos_iff.2 hn
  clear hc hn
  go_enter Tryz.func119, Tryz.ntmps119
  go_wp2
  go_loopg [0] l.length (fun g' s0 wr => ∃ (k o' : Nat), s0 = .slice (some ⟨g, o', none⟩) (l.length - k) (cap - k) /\ k <= l.length /\ l.length <= k + g' /\ (k < l.length -> o' = o + k) /\ Hid (∀ q, q < k -> l.getD q 0 = 0) /\ wr = w)
  case atStart => exact ⟨0, o, rfl, by omega, by omega, fun _ => rfl, LH (fun q hq => absurd hq (by omega)), rfl⟩
  case round =>
   obtain ⟨k, o', rfl, hk, hkg, ho, HZ, rfl⟩ := hrel
   by_cases hlt : k < l.length
   ·obtain rfl := ho hlt
    have hcell := HC.out k hlt
    obtain ⟨x, hx⟩ : ∃ x, x = l.getD k 0 := ⟨_, rfl⟩
    rw [<- hx] at hcell
    unfold bv at hcell
    have HX := LH hx
    clear hx ho
    obtain ⟨m, hm⟩ : ∃ m, m = l.length - k := ⟨_, rfl⟩
    obtain ⟨c, hcc⟩ : ∃ c, c = cap - k := ⟨_, rfl⟩
    rw [<- hm, <- hcc]
    have hm1 : 1 <= m := by omega
    have hm2 : m <= c := by omega
    have hm3 : c <= 9223372036854775807 := by omega
    have HM := LH hm
    have HCC := LH hcc
    clear hm hcc
    have hmz : (0 : Int) < (m : Int) := by omega
    have hmd : decide ((m : Int) > 0) = true := decide_eq_true (by omega)
    have hmd2 : decide (0 < m) = true := decide_eq_true (by omega)
    by_cases hx0 : x = 0
    ·have hq : (((x.toNat : Int)) == 0) = true := (bv_eq_zero x).2 hx0
     have HZ1 : Hid (∀ q, q < k + 1 -> l.getD q 0 = 0) := LH (fun q hq => by
      rcases Nat.lt_or_ge q k with h | h
      ·exact HZ.out q h
      ·obtain rfl : q = k := by omega
       rw [<- HX.out, hx0])
     clear hx0
     by_cases hc1 : c = 1
     ·obtain rfl : m = 1 := by omega
      subst hc1
      go_wp2
      go_roundg (gk - 1)
      case measure => have := HM.out; omega
      case rel => exact ⟨k + 1, o + k, by rw [show l.length - (k + 1) = 0 by (have := HM.out; omega), show cap - (k + 1) = 0 by (have := HCC.out; omega)], by omega, by omega, fun h => by (have := HM.out; omega), HZ1, rfl⟩
     ·go_wp2
      go_roundg (gk - 1)
      case measure => have := HM.out; omega
      case rel => exact ⟨k + 1, o + k + 1, by rw [show l.length - (k + 1) = m - 1 by (have := HM.out; omega), show cap - (k + 1) = c - 1 by (have := HCC.out; omega)], by omega, by omega, fun h => by omega, HZ1, rfl⟩
    ·have hq : (((x.toNat : Int)) == 0) = false := by
      cases h : ((x.toNat : Int) == 0)
      ·rfl
      ·exact absurd ((bv_eq_zero x).1 h) hx0
     have HT : Hid (ltrim l = l.drop k) := LH (ltrim_at l k hk HZ.out (fun _ => by rw [<- HX.out]; exact hx0))
     have hm0 : ((m : Int) == 0) = false := by simp; omega
     clear hx0
     go_wp2
     go_ret
     refine ⟨⟨_, rfl, ?_⟩, rfl⟩
     rw [HT.out, HM.out, HCC.out]
     refine ⟨_, cap - k, by rw [List.length_drop]; rfl, by rw [List.length_drop]; omega, by unfold maxLen; omega, .inr ⟨g, o + k, rfl, fun i hi => ?_⟩⟩
     rw [List.length_drop] at hi
     have hg : (l.drop k).getD i 0 = l.getD (k + i) 0 := by simp [List.getD_eq_getElem?_getD, List.getElem?_drop]
     rw [hg, Nat.add_assoc]
     exact HC.out (k + i) (by omega)
   ·obtain rfl : k = l.length := by omega
    have HT : Hid (ltrim l = []) := LH (by rw [ltrim_at l l.length (Nat.le_refl _) HZ.out (fun h => absurd h (by omega))]; simp)
    rw [Nat.sub_self]
    clear ho
    go_wp2
    go_ret
    exact ⟨⟨_, rfl, by rw [HT.out]; exact BytesAt.nil _⟩, rfl⟩
theorem trimR_any (v : Value) (l : List UInt8) (w : World) (h : BytesAt w v l) (hl : l.length <= 1000000000) :
  Calls Tryz.prog 120 #[v, .int .u8 0] w fun e w' => (∃ v', e = .returned v' /\ BytesAt w v' (rtrim l)) /\ w = w' := by
 obtain ⟨a, cap, rfl, h1, h2, h3⟩ := h
 have HB := LH (show BytesAt w (.slice a l.length cap) l from ⟨a, cap, rfl, h1, h2, h3⟩)
 unfold maxLen at h2
 by_cases hn : l = []
 ·subst hn
  go_enter Tryz.func120, Tryz.ntmps120
  go_wp2
  go_loopg [0] 0 (fun g' s0 wr => s0 = .slice a 0 cap /\ wr = w)
  case atStart => exact ⟨rfl, rfl⟩
  case round =>
   obtain ⟨rfl, rfl⟩ := hrel
   go_wp2
   go_ret
   exact ⟨⟨_, rfl, HB.out⟩, rfl⟩
 ·rcases h3 with ⟨rfl, _⟩ | ⟨g, o, rfl, hc⟩
  ·exact absurd rfl hn
  have HC := LH hc
  have hpos : 0 < l.length := List.length_pos_iff.2 hn
  clear hc hn
  go_enter Tryz.func120, Tryz.ntmps120
  go_wp2
  go_loopg [0] l.length (fun g' s0 wr => ∃ (k : Nat), s0 = .slice (some ⟨g, o, none⟩) k cap /\ k <= l.length /\ k <= g' /\ Hid (∀ q, k <= q -> q < l.length -> l.getD q 0 = 0) /\ wr = w)
  case atStart => exact ⟨l.length, rfl, by omega, by omega, LH (fun q hq hq2 => absurd hq2 (by omega)), rfl⟩
  case round =>
   obtain ⟨k, rfl, hk, hkg, HZ, rfl⟩ := hrel
   cases k with
   | zero =>
    have HT : Hid (rtrim l = []) := LH (by rw [rtrim_at l 0 (by omega) HZ.out (fun h => absurd h (by omega))]; simp)
    go_wp2
    go_ret
    refine ⟨⟨_, rfl, ?_⟩, rfl⟩
    rw [HT.out]
    exact ⟨_, cap, rfl, by simp, by unfold maxLen; omega, .inr ⟨g, o, rfl, fun i hi => absurd hi (by simp)⟩⟩
   | succ k =>
    have hcell := HC.out k (by omega)
    obtain ⟨x, hx⟩ : ∃ x, x = l.getD k 0 := ⟨_, rfl⟩
    rw [<- hx] at hcell
    unfold bv at hcell
    have HX := LH hx
    clear hx
    have hkz : ((k + 1 : Nat) : Int) - 1 = (k : Int) := by omega
    have hkc : k <= cap := by omega
    have hkt : (k : Int).toNat = k := by omega
    by_cases hx0 : x = 0
    ·have hq : (((x.toNat : Int)) == 0) = true := (bv_eq_zero x).2 hx0
     have HZ1 : Hid (∀ q, k <= q -> q < l.length -> l.getD q 0 = 0) := LH (fun q hq hql => by
      rcases Nat.lt_or_ge k q with h | h
      ·exact HZ.out q h hql
      ·obtain rfl : q = k := by omega
       rw [<- HX.out, hx0])
     clear hx0
     go_wp2
     go_roundg k
     case measure => omega
     case rel => exact ⟨k, rfl, by omega, by omega, HZ1, rfl⟩
    ·have hq : (((x.toNat : Int)) == 0) = false := by
      cases h : ((x.toNat : Int) == 0)
      ·rfl
      ·exact absurd ((bv_eq_zero x).1 h) hx0
     have HT : Hid (rtrim l = l.take (k + 1)) := LH (rtrim_at l (k + 1) hk HZ.out (fun _ => by rw [show k + 1 - 1 = k by omega, <- HX.out]; exact hx0))
     clear hx0
     go_wp2
     go_ret
     refine ⟨⟨_, rfl, ?_⟩, rfl⟩
     rw [HT.out]
     have hlen : (l.take (k + 1)).length = k + 1 := by rw [List.length_take]; omega
     refine ⟨some ⟨g, o, none⟩, cap, by rw [hlen]; rfl, by omega, by unfold maxLen; omega, .inr ⟨g, o, rfl, fun i hi => ?_⟩⟩
     rw [hlen] at hi
     have hg : (l.take (k + 1)).getD i 0 = l.getD i 0 := by simp [List.getD_eq_getElem?_getD, List.getElem?_take, hi]
     rw [hg]
     exact HC.out i (by omega)
theorem trim_any (v : Value) (l : List UInt8) (w : World) (h : BytesAt w v l) (hl : l.length <= 1000000000) :
  Calls Tryz.prog 90 #[v, .string { data := #[0] }] w fun e w' => (∃ v', e = .returned v' /\ BytesAt w v' (ltrim (rtrim l))) /\ ∃ n, w' = w.drewN n := by
 have hdr : ∀ {u : Value} {m : List UInt8}, BytesAt w u m -> BytesAt w.drew u m := fun h => h.keep (fun _ _ => rfl)
 have CR := LH (trimR_any v l w.drew (hdr h) hl)
 have hrl : (rtrim l).length <= l.length := by
  unfold rtrim
  rw [List.length_reverse]
  exact Nat.le_trans (List.Sublist.length_le (List.dropWhile_sublist _)) (by simp)
 have CL := LH (fun u (hu : BytesAt w.drew u (rtrim l)) => trimL_any u (rtrim l) w.drew hu (by omega))
 obtain ⟨a, cap, rfl, h1, h2, h3⟩ := h
 by_cases hn : l = []
 ·subst hn
  go_enter Tryz.func90, Tryz.ntmps90
  go_wp2
  go_ret
  exact ⟨⟨_, rfl, by rw [show ltrim (rtrim []) = [] from rfl]; exact BytesAt.nil _⟩, 0, rfl⟩
 ·have hpos : 0 < l.length := List.length_pos_iff.2 hn
  have hl0 : ((l.length : Int) == 0) = false := by simp; omega
  clear h3 hn hdr hrl
  go_enter Tryz.func90, Tryz.ntmps90
  go_wp2_with fail
  refine wp_region_L [] (by kernel_rfl) ?_ (fun hHeld => ?_)
  ·exact HoldC.nil
  refine tk 0 ?_ rfl (by kernel_rfl) (fun _ _ _ h => h) (.inl ⟨by rfl, ?_⟩) hHeld ?_; rotate_left; · (intro w _; go_simp; try with_reducible rfl)
  clear hHeld; intro hHeld; try simp only [gA,gB,gC,Act.put,gD,gE,gF]
  refine tk 1 ?_ rfl (by kernel_rfl) (fun _ _ _ h => h) (.inl ⟨by rfl, ?_⟩) hHeld ?_; rotate_left; · (intro w _; go_simp; try with_reducible rfl)
  clear hHeld; intro hHeld; try simp only [gA,gB,gC,Act.put,gD,gE,gF]
  refine tk 2 ?_ rfl (by kernel_rfl) (fun _ _ _ h => h) (.inl ⟨by rfl, ?_⟩) hHeld ?_; rotate_left; · (intro w _; go_simp; try with_reducible rfl)
  clear hHeld; intro hHeld; try simp only [gA,gB,gC,Act.put,gD,gE,gF]
  refine tk 4 ?_ rfl (by kernel_rfl) (fun _ _ _ h => h) (.inl ⟨by rfl, ?_⟩) hHeld ?_; rotate_left; · (intro w _; go_simp; try with_reducible rfl)
  clear hHeld; intro hHeld; try simp only [gA,gB,gC,Act.put,gD,gE,gF]
  refine tk 5 ?_ rfl (by kernel_rfl) (fun _ _ _ h => h) (.inl ⟨by rfl, ?_⟩) hHeld ?_; rotate_left; · (intro w _; go_simp; try with_reducible rfl)
  clear hHeld; intro hHeld; try simp only [gA,gB,gC,Act.put,gD,gE,gF]
  refine wpAnyL_ready (rs := [3]) (by kernel_rfl) (by simp) (AllReadyL.cons (o := _) rfl (fun K hK => ?_) AllReadyL.nil)
  try simp only [gA,gB,gC]
  go_simp
  refine CR.out.mono ?_
  rintro e w' ⟨⟨v1, rfl, hv1⟩, hq⟩
  subst hq
  try go_wp2_with fail
  clear hHeld
  refine hK.out _ _ ?_ (fun hHeld => ?_)
  ·exact HoldC.nil
  clear hK K
  try simp only [gA,gB,gC,Act.put,gD,gE,gF]
  refine wpAnyL_ready (rs := [6]) (by kernel_rfl) (by simp) (AllReadyL.cons (o := _) rfl (fun K hK => ?_) AllReadyL.nil)
  try simp only [gA,gB,gC]
  go_simp
  refine (CL.out v1 hv1).mono ?_
  rintro e w' ⟨⟨v2, rfl, hv2⟩, hq⟩
  subst hq
  try go_wp2_with fail
  clear hHeld
  refine hK.out _ _ ?_ (fun hHeld => ?_)
  ·exact HoldC.nil
  clear hK K
  try simp only [gA,gB,gC,Act.put,gD,gE,gF]
  refine tk 7 ?_ rfl (by kernel_rfl) (fun _ _ _ h => h) (.inl ⟨by rfl, ?_⟩) hHeld ?_; rotate_left; · (intro w _; go_simp; try with_reducible rfl)
  clear hHeld; intro hHeld; try simp only [gA,gB,gC,Act.put,gD,gE,gF]
  refine wpAnyL_done (by kernel_rfl) ?_ _
  clear hHeld
  have HV2 := LH hv2
  clear hv1 hv2 CR CL
  go_wp2
  go_ret
  exact ⟨⟨v2, rfl, HV2.out.keep (fun _ _ => rfl)⟩, 1, rfl⟩
theorem noughts_any (v : Value) (l : List UInt8) (w : World) (h : BytesAt w v l) (hl : l.length <= 1000000000) :
  Calls Tryz.prog 154 #[v] w fun e w' => e = .returned (.bool (allZ l)) /\ ∃ n, w' = w.drewN n := by
 have CT := LH (trim_any v l w h hl)
 have hz := trimmed_len l
 have HZ : Hid ((((ltrim (rtrim l)).length : Int) == 0) = allZ l) := LH (by
  rw [Bool.eq_iff_iff, <- hz]
  simp)
 clear hz h
 go_enter Tryz.func154, Tryz.ntmps154
 go_wp2_with fail
 refine CT.out.mono ?_
 rintro e w' ⟨⟨v1, rfl, a, cap, rfl, _⟩, n, rfl⟩
 clear CT
 go_wp2
 go_ret
 exact ⟨by rw [<- HZ.out]; rfl, n, rfl⟩
end Go.Proofs.YtnbhanmpmjjkkaaGreatDoor.W
/- Package wire's eye: Raw, whole. -/
namespace Go.Proofs.YtnbhanmpmjjkkaaGreatDoor.W
open Go.RowKit
def eyeRaw (l : List UInt8) (bad : Int) (most : Nat) : List UInt8 × List UInt8 × Int :=
 if bad ≠ 0 then ([], l, bad) else if l.length < 2 then ([], l, 2) else
 if most < beNum (l.take 2) then ([], l, 3) else if (l.drop 2).length < beNum (l.take 2) then ([], l, 2) else ((l.drop 2).take (beNum (l.take 2)), (l.drop 2).drop (beNum (l.take 2)), 0)
theorem enters3 : ∀ args w, (callFunc 174 args).run Tryz.prog w = .ok (.enter 174 args) w := enters_of Tryz.func174 (by kernel_rfl) rfl
def rawW1 (b g o cap : Nat) (l : List UInt8) (w : World) : World := w.setCell ⟨b, 1, none⟩ (.slice (some ⟨g, if cap = 2 then o else o + 2, none⟩) (l.length - 2) (cap - 2))
structure RawPre (b g o cap pm pe most : Nat) (l : List UInt8) (bad : Value) (w : World) : Prop where
 h : w.heap[b]? = some (.cells #[.bool true, .slice (some ⟨g, o, none⟩) l.length cap, bad] 199 (0, 0))
 hgb : g ≠ b
 hl : l.length <= cap
 hc : cap <= maxLen
 hcell : ∀ i, i < l.length -> w.cell? ⟨g, o + i, none⟩ = some (bv (l.getD i 0))
 h2 : 2 <= l.length
 hll : l.length <= 1000000
 hm : w.heap[pm]? = some (.cells #[.int .i64 most] 3 (0, 0))
 he : w.heap[pe]? = some (.cells #[.pointer (some ⟨b, 0, none⟩)] 166 (0, 0))
 hpm : pm ≠ b
 hpe : pe ≠ b
theorem rstep_short (b cap pm pe most : Nat) (bad : Value) (w : World) (pbv : Value) (a : Option Addr) (L : Nat) (h : w.heap[b]? = some (.cells #[.bool true, .slice a L cap, bad] 199 (0, 0)))
  (hL : L < 2) (hm : w.heap[pm]? = some (.cells #[.int .i64 most] 3 (0, 0))) (he : w.heap[pe]? = some (.cells #[.pointer (some ⟨b, 0, none⟩)] 166 (0, 0))) :
  Calls Tryz.prog 174 #[.pointer (some ⟨pm, 0, none⟩), .pointer (some ⟨pe, 0, none⟩), pbv] w fun e w' => e = gaveUp 2 /\ w = w' := by
 have CN := LH (number_short b a L cap bad 2 w h (by omega) (by omega))
 have w0 := blk_cell hm 0 _ rfl
 have e0 := blk_cell he 0 _ rfl
 clear h hm he
 unfold gaveUp at *
 go_enter Tryz.func174, Tryz.ntmps174
 go_wp2_with fail
 refine CN.out.mono ?_
 rintro e w' ⟨rfl, rfl⟩
 exact ⟨rfl, rfl, rfl⟩
theorem rstep_long (b g o cap pm pe most : Nat) (l : List UInt8) (bad : Value) (w : World) (H : RawPre b g o cap pm pe most l bad w) (pbv : Value) (hn : most < beNum (l.take 2)) :
  Calls Tryz.prog 174 #[.pointer (some ⟨pm, 0, none⟩), .pointer (some ⟨pe, 0, none⟩), pbv] w fun e w' => e = gaveUp 3 /\ w' = rawW1 b g o cap l w := by
 have H0 := H
 obtain ⟨h, hgb, hl, hc, hcell, h2, hll, hm, he, hpm, hpe⟩ := H
 have CN := LH (number_ok b g o cap l bad 2 w h hgb hl hc hcell (by omega) (by omega) h2)
 obtain ⟨w1, hw1⟩ : ∃ w1, w1 = rawW1 b g o cap l w := ⟨_, rfl⟩
 unfold rawW1 at hw1
 have hb2 := beNum_take_le l 2 (by omega)
 have w0 := blk_cell hm 0 _ rfl
 have e0 := blk_cell he 0 _ rfl
 have w01 : w1.cell? ⟨pm, 0, none⟩ = some (.int .i64 most) := by rw [hw1]; exact blk_cell (blk_sets hm hpm) 0 _ rfl
 rw [<- hw1] at CN
 unfold rawW1
 rw [<- hw1]
 generalize beNum (l.take 2) = n at *
 have hnz : ((most : Nat) : Int) < (n : Int) := by omega
 clear h hm he hl hc hcell hw1
 try clear H0
 unfold gaveUp at *
 go_enter Tryz.func174, Tryz.ntmps174
 go_wp2_with fail
 refine CN.out.mono ?_
 rintro e w' ⟨rfl, rfl⟩
 go_wp2
 exact ⟨rfl, rfl, rfl⟩
theorem rawW1_at {b g o cap pm pe most : Nat} {l : List UInt8} {bad : Value} {w : World} (H : RawPre b g o cap pm pe most l bad w) : (rawW1 b g o cap l w).heap[b]? = some (.cells #[.bool true, .slice (some ⟨g, if cap = 2 then o else o + 2, none⟩) (l.drop 2).length (cap - 2), bad] 199 (0, 0)) := by
 rw [List.length_drop]; exact set_blk H.h
theorem rawW1_cell {b g o cap pm pe most : Nat} {l : List UInt8} {bad : Value} {w : World} (H : RawPre b g o cap pm pe most l bad w) : ∀ i, i < (l.drop 2).length -> (rawW1 b g o cap l w).cell? ⟨g, (if cap = 2 then o else o + 2) + i, none⟩ = some (bv ((l.drop 2).getD i 0)) := fun i hi => by
 rw [List.length_drop] at hi
 have h1 := H.hl
 rw [if_neg (by omega), getD_drop, Nat.add_assoc]
 exact (World.cell?_of_block (w := w) (a := ⟨g, o + (2 + i), none⟩) (Below.heap_setCell w _ _ g (by simpa using H.hgb))).trans (H.hcell (2 + i) (by omega))
theorem rstep_short2 (b g o cap pm pe most : Nat) (l : List UInt8) (bad : Value) (w : World) (H : RawPre b g o cap pm pe most l bad w) (pbv : Value) (hn : beNum (l.take 2) <= most) (hs : (l.drop 2).length < beNum (l.take 2)) :
  Calls Tryz.prog 174 #[.pointer (some ⟨pm, 0, none⟩), .pointer (some ⟨pe, 0, none⟩), pbv] w fun e w' => e = gaveUp 2 /\ w' = rawW1 b g o cap l w := by
 have H0 := H
 obtain ⟨h, hgb, hl, hc, hcell, h2, hll, hm, he, hpm, hpe⟩ := H
 have CN := LH (number_ok b g o cap l bad 2 w h hgb hl hc hcell (by omega) (by omega) h2)
 have CT := LH (take_short b _ _ _ bad ((beNum (l.take 2) : Nat) : Int) (rawW1 b g o cap l w) (rawW1_at H0) (by rw [List.length_drop]; omega) (by omega))
 have hb2 := beNum_take_le l 2 (by omega)
 have w0 := blk_cell hm 0 _ rfl
 have e0 := blk_cell he 0 _ rfl
 have w01 : (rawW1 b g o cap l w).cell? ⟨pm, 0, none⟩ = some (.int .i64 most) := blk_cell (blk_sets hm hpm) 0 _ rfl
 have e01 : (rawW1 b g o cap l w).cell? ⟨pe, 0, none⟩ = some (.pointer (some ⟨b, 0, none⟩)) := blk_cell (blk_sets he hpe) 0 _ rfl
 obtain ⟨w1, hw1⟩ : ∃ w1, w1 = rawW1 b g o cap l w := ⟨_, rfl⟩
 rw [<- hw1] at CT w01 e01 ⊢
 unfold rawW1 at hw1
 rw [<- hw1] at CN
 generalize beNum (l.take 2) = n at *
 have hnz : ¬ ((most : Nat) : Int) < (n : Int) := by omega
 clear h hm he hl hc hcell hw1
 try clear H0
 unfold gaveUp at *
 go_enter Tryz.func174, Tryz.ntmps174
 go_wp2_with fail
 refine CN.out.mono ?_
 rintro e w' ⟨rfl, rfl⟩
 go_wp2_with fail
 refine CT.out.mono ?_
 rintro e w' ⟨rfl, rfl⟩
 exact ⟨rfl, rfl, rfl⟩
theorem rstep_ok (b g o cap pm pe pb most : Nat) (l : List UInt8) (bad : Value) (w : World) (H : RawPre b g o cap pm pe most l bad w) (hpg : pb ≠ g) (hn : beNum (l.take 2) <= most) (hs : beNum (l.take 2) <= (l.drop 2).length) (hb : w.heap[pb]? = some (.cells #[.slice none 0 0] 22 (0, 0))) (hpb : pb ≠ b) :
  Calls Tryz.prog 174 #[.pointer (some ⟨pm, 0, none⟩), .pointer (some ⟨pe, 0, none⟩), .pointer (some ⟨pb, 0, none⟩)] w fun e w' => e = .returned (.tuple #[]) /\ ∃ v' o' cap', BRow w' v' ((l.drop 2).take (beNum (l.take 2))) /\ (∀ k, v'.ownBlock = some k -> w.heap.size <= k) /\
   Chg [b, pb] w w' /\ w'.heap[pb]? = some (.cells #[v'] 22 (0, 0)) /\ w'.heap[b]? = some (.cells #[.bool true, .slice (some ⟨g, o', none⟩) ((l.drop 2).drop (beNum (l.take 2))).length cap', bad] 199 (0, 0)) /\
   EyeV w' (.slice (some ⟨g, o', none⟩) ((l.drop 2).drop (beNum (l.take 2))).length cap') g ((l.drop 2).drop (beNum (l.take 2))) := by
 have hat := rawW1_at H
 have hce := rawW1_cell H
 have H0 := H
 obtain ⟨h, hgb, hl, hc, hcell, h2, hll, hm, he, hpm, hpe⟩ := H
 have CN := LH (number_ok b g o cap l bad 2 w h hgb hl hc hcell (by omega) (by omega) h2)
 have hgl : g < w.heap.size := World.block_lt_of_cell? w _ (hcell 0 (by omega))
 obtain ⟨o2, ho2⟩ : ∃ o2, o2 = if cap = 2 then o else o + 2 := ⟨_, rfl⟩
 rw [<- ho2] at hat hce
 have hbl := blk_lt h
 obtain ⟨w1, hw1⟩ : ∃ w1, w1 = rawW1 b g o cap l w := ⟨_, rfl⟩
 have hc1 : Chg [b] w w1 := by rw [hw1]; exact (Chg.refl _ _).setCell (.inl (by simp)) _
 have w01 : w1.cell? ⟨pm, 0, none⟩ = some (.int .i64 most) := by rw [hw1]; exact blk_cell (blk_sets hm hpm) 0 _ rfl
 have e01 : w1.cell? ⟨pe, 0, none⟩ = some (.pointer (some ⟨b, 0, none⟩)) := by rw [hw1]; exact blk_cell (blk_sets he hpe) 0 _ rfl
 have hpb1 : w1.heap[pb]? = some (.cells #[.slice none 0 0] 22 (0, 0)) := by rw [hw1]; exact blk_sets hb hpb
 rw [<- hw1] at hat hce
 unfold rawW1 at hw1
 rw [<- hw1] at CN
 have hb2 := beNum_take_le l 2 (by omega)
 have w0 := blk_cell hm 0 _ rfl
 have e0 := blk_cell he 0 _ rfl
 generalize hnn : beNum (l.take 2) = n at *
 clear hnn
 generalize hd : l.drop 2 = l2 at *
 have hl2 : l2.length = l.length - 2 := by rw [<- hd, List.length_drop]
 clear hd
 have CT := LH (take_ok b g o2 (cap - 2) l2 bad n w1 hat (by omega) (by unfold maxLen at *; omega) hs)
 obtain ⟨w2, hw2⟩ : ∃ w2, w2 = w1.setCell ⟨b, 1, none⟩ (.slice (some ⟨g, if cap - 2 = n then o2 else o2 + n, none⟩) (l2.length - n) (cap - 2 - n)) := ⟨_, rfl⟩
 rw [<- hw2] at CT
 have hc2 : Chg [b] w1 w2 := by rw [hw2]; exact (Chg.refl _ _).setCell (.inl (by simp)) _
 have hce2 : ∀ i, i < l2.length -> w2.cell? ⟨g, o2 + i, none⟩ = some (bv (l2.getD i 0)) := fun i hi => hc2.cell (hce i hi) (by simp; exact hgb)
 have hB : BytesAt w2 (.slice (some ⟨g, o2, none⟩) n n) (l2.take n) := by
  have hlen : (l2.take n).length = n := by rw [List.length_take]; omega
  refine ⟨_, n, by rw [hlen], by omega, by unfold maxLen at *; omega, .inr ⟨g, o2, rfl, fun i hi => ?_⟩⟩
  rw [hlen] at hi
  rw [getD_take _ _ _ hi]
  exact hce2 i (by omega)
 have hlen3 : Hid ((l2.take n).length = n) := LH (by rw [List.length_take]; omega)
 have CC := LH (clone_any _ _ w2 hB (by rw [List.length_take]; omega))
 have hat2 : w2.heap[b]? = some (.cells #[.bool true, .slice (some ⟨g, if cap - 2 = n then o2 else o2 + n, none⟩) (l2.length - n) (cap - 2 - n), bad] 199 (0, 0)) := by rw [hw2]; exact set_blk hat
 have hpb2 : w2.heap[pb]? = some (.cells #[.slice none 0 0] 22 (0, 0)) := hc2.keep hpb1 (by simp; exact hpb)
 have hE2 : EyeV w2 (.slice (some ⟨g, if cap - 2 = n then o2 else o2 + n, none⟩) (l2.length - n) (cap - 2 - n)) g (l2.drop n) := EyeV.dropped (by omega) (by unfold maxLen at *; omega) hce2 (by omega)
 have HC1 := LH hc1
 have HC2 := LH hc2
 have HAT := LH hat2
 have HPB := LH hpb2
 have HE := LH hE2
 have hnz : ¬ ((most : Nat) : Int) < (n : Int) := by omega
 have hdl : Hid ((l2.drop n).length = l2.length - n) := LH (List.length_drop ..)
 try clear H0
 clear h hm he hb hl hc hcell hw1 hw2 hat hce hce2 hB hat2 hpb2 hE2 hc1 hc2 ho2 hpb1
 have hl2a : l2.length + 2 = l.length := by omega
 clear hl2
 go_enter Tryz.func174, Tryz.ntmps174
 go_wp2_with fail
 refine CN.out.mono ?_
 rintro e w' ⟨rfl, rfl⟩
 go_wp2_with fail
 refine CT.out.mono ?_
 rintro e w' ⟨rfl, hq⟩
 obtain rfl := hq.symm
 go_wp2_with fail
 refine CC.out.mono ?_
 rintro e w3 ⟨v3, rfl, hr3, hn3, hc3⟩
 obtain ⟨a3, k3, he3, _⟩ := hr3.bytes
 have hpb3 := hc3.keep HPB.out (by simp)
 have p0 := blk_cell hpb3 0 _ rfl
 have p1 := blk_frozen hpb3 0
 have hpl := blk_lt hpb3
 have hgs : w.heap.size <= w2.heap.size := Nat.le_trans HC1.out.size HC2.out.size
 have HR3 := LH hr3
 have HN3 := LH hn3
 have HC3 := LH hc3
 have HPB3 := LH hpb3
 rw [hlen3.out] at he3
 obtain rfl := he3
 clear hr3 hn3 hc3 hpb3
 go_wp2
 go_end0
 have hpbl : pb < w2.heap.size := blk_lt HPB.out
 have hset : Chg [pb] w3 (w3.setCell ⟨pb, 0, none⟩ (.slice a3 n k3)) := (Chg.refl _ _).setCell (.inl (by simp)) _
 refine ⟨rfl, _, (if cap - 2 = n then o2 else o2 + n), (cap - 2 - n), HR3.out.keep (fun k hk => hset.block k (HR3.out.lt k hk) (by simp; have := HN3.out k hk; omega)), fun k hk => Nat.le_trans hgs (HN3.out k hk), ?_, set_blk HPB3.out, ?_, ?_⟩
 ·refine ((HC1.out.mono (by simp)).trans (HC2.out.mono (by simp)) (fun x hx => .inl hx)).trans ((HC3.out.mono (by simp)).trans hset (T := [pb]) (S := [pb]) (fun x hx => .inl hx)) (fun x hx => .inl (by simp at hx; simp [hx]))
 ·rw [hdl.out]
  exact blk_sets (HC3.out.keep HAT.out (by simp)) (fun e => hpb e.symm)
 ·rw [hdl.out]
  have hgl2 : g < w2.heap.size := Nat.lt_of_lt_of_le hgl hgs
  refine HE.out.keep ((hset.block g (Nat.lt_of_lt_of_le hgl2 HC3.out.size) ?_).trans (HC3.out.block g hgl2 (by simp)))
  simp; exact fun e => hpg e.symm
end Go.Proofs.YtnbhanmpmjjkkaaGreatDoor.W
namespace Go.Proofs.YtnbhanmpmjjkkaaGreatDoor.W
open Go.RowKit
def RawLeft (w w' : World) (b g pb : Nat) (r : List UInt8 × List UInt8 × Int) : Prop :=
 ∃ v, Chg [b, pb] w w' /\ EyeAt w' b g r.2.1 r.2.2 /\ w'.heap[pb]? = some (.cells #[v] 22 (0, 0)) /\ BRow w' v r.1 /\ ∀ k, v.ownBlock = some k -> w.heap.size <= k
theorem eraw_any (b g : Nat) (l : List UInt8) (bad : Int) (most : Nat) (w : World) (h : EyeAt w b g l bad) (hmo : most <= 1000000) :
  Calls Tryz.prog 155 #[.pointer (some ⟨b, 0, none⟩), .int .i64 (most : Int)] w fun e w' => ∃ v, e = .returned v /\ BRow w' v (eyeRaw l bad most).1 /\ (∀ k, v.ownBlock = some k -> w.heap.size <= k) /\
   EyeAt w' b g (eyeRaw l bad most).2.1 (eyeRaw l bad most).2.2 /\ Chg [b] w w' := by
 have hE := h
 obtain ⟨v, hb, hv, hgb, hg, hll⟩ := h
 have hbl := blk_lt hb
 obtain ⟨w3, hw3⟩ : ∃ w3, w3 = ((w.alloc (.cells #[.pointer (some ⟨b, 0, none⟩)] 166)).alloc (.cells #[.int .i64 most] 3)).alloc (.cells #[.slice none 0 0] 22) := ⟨_, rfl⟩
 have hs3 : w3.heap.size = w.heap.size + 3 := by rw [hw3]; simp
 have hb3 : w3.heap[b]? = some (.cells #[.bool true, v, .int .i64 bad] 199 (0, 0)) := by rw [hw3]; exact blk_alloc (blk_alloc (blk_alloc hb))
 have hpe : w3.heap[w.heap.size]? = some (.cells #[.pointer (some ⟨b, 0, none⟩)] 166 (0, 0)) := by rw [hw3]; exact blk_alloc (blk_alloc (heap_alloc_new w _))
 have hpm : w3.heap[w.heap.size + 1]? = some (.cells #[.int .i64 most] 3 (0, 0)) := by
  rw [hw3]
  have := heap_alloc_new (w.alloc (.cells #[.pointer (some ⟨b, 0, none⟩)] 166)) (.cells #[.int .i64 most] 3)
  exact blk_alloc (by simpa using this)
 have hpb : w3.heap[w.heap.size + 1 + 1]? = some (.cells #[.slice none 0 0] 22 (0, 0)) := by
  rw [hw3]
  have := heap_alloc_new ((w.alloc (.cells #[.pointer (some ⟨b, 0, none⟩)] 166)).alloc (.cells #[.int .i64 most] 3)) (.cells #[.slice none 0 0] 22)
  simpa using this
 have hc3 : Chg [b] w w3 := by rw [hw3]; exact (((Chg.refl [b] w).alloc _).alloc _).alloc _
 have hv3 : EyeV w3 v g l := hv.keepC hg hc3 (by simp; exact hgb)
 have hg3 := or_lt hg hc3
 obtain ⟨r, hr⟩ : ∃ r, r = eyeRaw l bad most := ⟨_, rfl⟩
 have CR : Hid (Calls Tryz.prog 144 #[.pointer (some ⟨b, 0, none⟩), .func (.func 174) #[] #[.pointer (some ⟨w.heap.size + 1, 0, none⟩), .pointer (some ⟨w.heap.size, 0, none⟩), .pointer (some ⟨w.heap.size + 1 + 1, 0, none⟩)]] w3
   fun e w' => e = .returned (.tuple #[]) /\ Hid (RawLeft w3 w' b g (w.heap.size + 1 + 1) r)) := by
  have hgb3 : b < w3.heap.size := blk_lt hb3
  by_cases hbad : bad = 0
  ·subst hbad
   by_cases hlen : l.length < 2
   ·have hr' : r = ([], l, 2) := by rw [hr]; unfold eyeRaw; rw [if_neg (by simp), if_pos hlen]
    obtain ⟨a, cap, rfl⟩ := hv3.slice
    refine (read_panic b _ 174 _ w3 enters3 a l.length cap rfl 2 hb3 [] (by simp) ?_).mono ?_
    ·refine (rstep_short b cap _ _ most _ _ _ a l.length (blk_alloc (blk_alloc hb3)) hlen (blk_alloc (blk_alloc hpm)) (blk_alloc (blk_alloc hpe))).mono ?_
     rintro e w' ⟨rfl, rfl⟩
     exact ⟨rfl, _, Chg.refl _ _, blk_alloc (blk_alloc hb3)⟩
    ·rintro e w' ⟨rfl, hc, hh⟩
     rw [hr']
     exact ⟨rfl, _, hc.mono (by simp), ⟨_, hh, hv3.keepC hg3 hc (by simp; exact hgb), hgb, or_lt hg3 hc, hll⟩, hc.keep hpb (by simp; omega), BRow.nil _, by simp [Value.ownBlock]⟩
   ·rcases hv3 with ⟨rfl, rfl⟩ | ⟨o, cap, rfl, hlc, hcm, hcell⟩
    ·simp at hlen
    have hg4 : g < w.heap.size := by
     rcases hg with hg | hg
     ·exact hg
     ·cases hg
    obtain ⟨w5, hw5⟩ : ∃ w5, w5 = (w3.alloc (.cells #[.pointer (some ⟨b, 0, none⟩)] 166)).alloc (.cells #[.slice (some ⟨g, o, none⟩) l.length cap] 22) := ⟨_, rfl⟩
    have hc5 : Chg [] w3 w5 := by rw [hw5]; exact ((Chg.refl [] w3).alloc _).alloc _
    have hcell5 : ∀ i, i < l.length -> w5.cell? ⟨g, o + i, none⟩ = some (bv (l.getD i 0)) := fun i hi => hc5.cell (hcell i hi) (by simp)
    have hpre : RawPre b g o cap (w.heap.size + 1) w.heap.size most l (.int .i64 0) w5 := ⟨hc5.keep hb3 (by simp), hgb, hlc, hcm, hcell5, by omega, hll, hc5.keep hpm (by simp), hc5.keep hpe (by simp), by omega, by omega⟩
    have hbW1 : (rawW1 b g o cap l w5).heap[b]? = _ := rawW1_at hpre
    have hcW1 : Chg [b] w5 (rawW1 b g o cap l w5) := (Chg.refl _ _).setCell (.inl (by simp)) _
    have hfail : ∀ x : Int, r = ([], l, x) -> Hid (Calls Tryz.prog 174 #[.pointer (some ⟨w.heap.size + 1, 0, none⟩), .pointer (some ⟨w.heap.size, 0, none⟩), .pointer (some ⟨w.heap.size + 1 + 1, 0, none⟩)] w5 fun e w' => e = gaveUp x /\ w' = rawW1 b g o cap l w5) ->
      Calls Tryz.prog 144 #[.pointer (some ⟨b, 0, none⟩), .func (.func 174) #[] #[.pointer (some ⟨w.heap.size + 1, 0, none⟩), .pointer (some ⟨w.heap.size, 0, none⟩), .pointer (some ⟨w.heap.size + 1 + 1, 0, none⟩)]] w3
       fun e w' => e = .returned (.tuple #[]) /\ Hid (RawLeft w3 w' b g (w.heap.size + 1 + 1) r) := by
     intro x hr' HX
     rw [hw5] at HX
     refine (read_panic b _ 174 _ w3 enters3 _ l.length cap rfl x hb3 [b] (by simpa using hgb3) (LH (HX.out.mono ?_))).mono ?_
     ·rintro e w' ⟨rfl, rfl⟩
      rw [<- hw5]
      exact ⟨rfl, _, hcW1, hbW1⟩
     ·rintro e w' ⟨rfl, hc, hh⟩
      rw [hr']
      have hc' : Chg [b] w3 w' := hc.mono (by simp)
      exact ⟨rfl, _, hc.mono (by simp), ⟨_, hh, EyeV.keep (.inr ⟨o, cap, rfl, hlc, hcm, hcell⟩) (hc'.block g (by omega) (by simp; exact hgb)), hgb, or_lt hg3 hc, hll⟩, hc'.keep hpb (by simp; omega), BRow.nil _, by simp [Value.ownBlock]⟩
    by_cases hlong : most < beNum (l.take 2)
    ·exact hfail 3 (by rw [hr]; unfold eyeRaw; rw [if_neg (by simp), if_neg hlen, if_pos hlong]) (LH (rstep_long b g o cap _ _ most l _ w5 hpre _ hlong))
    ·by_cases hsh : (l.drop 2).length < beNum (l.take 2)
     ·exact hfail 2 (by rw [hr]; unfold eyeRaw; rw [if_neg (by simp), if_neg hlen, if_neg hlong, if_pos hsh]) (LH (rstep_short2 b g o cap _ _ most l _ w5 hpre _ (by omega) hsh))
     ·have hr' : r = ((l.drop 2).take (beNum (l.take 2)), (l.drop 2).drop (beNum (l.take 2)), 0) := by
       rw [hr]; unfold eyeRaw; rw [if_neg (by simp), if_neg hlen, if_neg hlong, if_neg hsh]
      have CS := rstep_ok b g o cap _ _ (w.heap.size + 1 + 1) most l _ w5 hpre (by omega) (by omega) (by omega) (hc5.keep hpb (by simp)) (by omega)
      rw [hw5] at CS
      refine (read_ret b _ 174 _ w3 enters3 _ _ _ rfl hb3 _ CS).mono ?_
      rintro e w' ⟨rfl, w1, hq, rfl⟩
      rw [<- hw5] at hq
      obtain ⟨v', o', cap', q1, q2, q3, q4, q5, q6⟩ := hq
      have hq35 : Chg [b, w.heap.size + 1 + 1] w3 w1 := (hc5.mono (by simp)).trans q3 (fun x hx => .inl hx)
      have hca : Chg [] w1 (w1.alloc (.cells #[.int .i64 0] 202)) := (Chg.refl _ _).alloc _
      rw [hr']
      refine ⟨rfl, v', hq35.alloc _, ⟨_, blk_alloc q5, q6.keep (hca.block g (Nat.lt_of_lt_of_le (by omega) hq35.size) (by simp)), hgb, .inl (Nat.lt_of_lt_of_le (by omega) (hq35.alloc _).size), ?_⟩, blk_alloc q4, q1.keep (fun k hk => hca.block k (q1.lt k hk) (by simp)), fun k hk => Nat.le_trans hc5.size (q2 k hk)⟩
      show ((l.drop 2).drop _).length <= _
      rw [List.length_drop, List.length_drop]; omega
  ·have hr' : r = ([], l, bad) := by rw [hr]; unfold eyeRaw; rw [if_pos hbad]
   refine (read_done b v bad 174 _ w3 hb3 hbad).mono ?_
   rintro e w' ⟨rfl, rfl⟩
   rw [hr']
   exact ⟨rfl, _, (Chg.refl _ _).alloc _, ⟨v, blk_alloc hb3, hv3.keepC hg3 ((Chg.refl [] w3).alloc _) (by simp), hgb, or_lt hg3 ((Chg.refl [] w3).alloc _), hll⟩, blk_alloc hpb, BRow.nil _, by simp [Value.ownBlock]⟩
 rw [<- hr]
 have HC := LH hc3
 have HW := LH hw3
 have hmf : ∀ (fn : Fn) (first cap : Array Value) (w : World), (Instr.makeFunc fn first cap).run Tryz.prog w = .ok (.func fn first cap) w := fun _ _ _ _ => rfl
 clear hb hv hb3 hpe hpm hpb hc3 hr hE hw3 hv3
 go_enter Tryz.func155, Tryz.ntmps155
 go_wp2_with fail
 rw [<- HW.out]
 refine CR.out.mono ?_
 rintro e w4 ⟨rfl, H4⟩
 obtain ⟨v4, k1, k2, k3, k4, k5⟩ := H4.out
 have x0 := blk_cell k3 0 _ rfl
 have HK := LH (And.intro k1 (And.intro k2 (And.intro k4 k5)))
 obtain ⟨a4, c4, hv4, _⟩ := k4.bytes
 have HV4 := LH hv4
 obtain rfl := hv4
 clear k1 k2 k3 k4 k5 H4 CR
 go_wp2
 go_ret
 refine ⟨_, rfl, HK.out.2.2.1, fun k hk => Nat.le_trans HC.out.size (HK.out.2.2.2 k hk), HK.out.2.1, HC.out.trans HK.out.1 (by
  intro x hx
  simp at hx
  rcases hx with rfl | rfl
  ·exact .inl (by simp)
  ·exact .inr (by omega))⟩
end Go.Proofs.YtnbhanmpmjjkkaaGreatDoor.W
