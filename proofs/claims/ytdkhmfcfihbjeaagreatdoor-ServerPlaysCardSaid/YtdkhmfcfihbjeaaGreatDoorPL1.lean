/- Texts laid together. -/
import Derived.Test.YtdkhmfcfihbjeaaGreatDoorRows
import Derived.WalkKit
import Derived.WalkSpells
import Derived.WalkLawsBesides
import Derived.Lib.Hide
import Derived.Below
import Derived.Maps.AppendAt
import Derived.OwnWalk
import Derived.Laws.OwnMore
import Derived.Deep.LoopGhost
import Derived.Deep.QuietTactic
import Derived.BigQuiet
import Derived.Defers
import Derived.Recover
import Derived.RegionTactic
import Derived.ChangeAlike
import Derived.Laws.BitsLemmas
import Derived.Laws.BitsAllLaws
import Derived.IntWalk
import Derived.Shelf.Abstract
import Derived.Maps.OwnSet
import Derived.Maps.RangeWalk
import Derived.DeepKeys4
import Derived.Deep.MidRow
import Derived.Deep.RegionHeld
set_option linter.unusedVariables false
set_option linter.unusedSimpArgs false
set_option maxHeartbeats 64000000
set_option maxRecDepth 100000
namespace Go.Proofs.YtdkhmfcfihbjeaaGreatDoor
theorem LH {p : Prop} (h : p) : Go.RowKit.Hid p := h
end Go.Proofs.YtdkhmfcfihbjeaaGreatDoor
namespace Go.Proofs.YtdkhmfcfihbjeaaGreatDoor
open Go.RowKit
def IsRow (k : IntKind) (w : World) (a : Option Addr) (len cap : Nat) (zs : List Int) : Prop :=
 (a = none /\ len = 0 /\ cap = 0 /\ zs = []) ∨
 ∃ x, a = some x /\ len <= cap /\ cap <= maxLen /\ zs.length = cap /\ (∀ i, i < zs.length -> w.cell? (x.add i) = some (.int k (zs.getD i 0))) /\ ∀ n ∈ zs, (Lit.int k n).wf = true
theorem add_none {b off i : Nat} : (⟨b, off, none⟩ : Addr).add i = ⟨b, off + i, none⟩ := by
 unfold Addr.add; split <;> simp_all
theorem grownBy_trans {a b c : World} {r : Option Nat} (h1 : a.grownBy b r) (h2 : b.grownBy c r) : a.grownBy c r :=
 ⟨h2.os.trans h1.os, h2.tape.trans h1.tape, h2.output.trans h1.output, Nat.le_trans h1.size h2.size, fun k hk hne => (h2.block k (Nat.lt_of_lt_of_le hk h1.size) hne).trans (h1.block k hk hne)⟩
def El (P : Program) (t e : TypeId) (z : Value) (size bytes : Nat) : Prop :=
 P.underlying t = some (.slice e) /\ (∃ i, P.info? e = some i /\ i.zero = some z /\ i.size = size /\ i.bytes = bytes) /\ z.cells.size = size /\ 0 < size
theorem El.mk {P : Program} {t e : TypeId} {z : Value} {size bytes : Nat} (ht : P.underlying t = some (.slice e)) (hi : (P.info? e).map (fun i => (i.zero, i.size, i.bytes)) = some (some z, size, bytes)) (h1 : z.cells.size = size) (h2 : 0 < size) : El P t e z size bytes := by
 obtain ⟨i, a, b, c, d⟩ := info_parts hi
 exact ⟨ht, ⟨i, a, b, c, d⟩, h1, h2⟩
theorem wpList_app1 {P : Program} {w : World} {ops : Array Oper} {rest : List Oper} {o : Oper} {a : Act} {Q : Exit -> Act -> World -> Prop} (hgd : o.guard = none) (s x : Operand) (t : TypeId)
  (ho : o.op = .call { callee := .builtin .append, args := #[s, x], argTypes := #[t, t] })
  (base : Nat) {e : TypeId} {z : Value} {size bytes : Nat} (hE : El P t e z size bytes)
  (v : Value) (n : Nat) (xs : List Value) (hs : a.eval s = v) (hown : w.ownsRow base e size v n xs)
  (c : Nat) (news : Array Value) (hx : a.eval x = .slice (some ⟨w.heap.size, 0, none⟩) 1 c) (hl : news.size = size) (h1 : ∀ u ∈ news.toList, u.oneCell' = true)
  (h63 : n + 1 <= maxLen) (hbytes : (n + 1) * bytes <= 140737488355328) (hbase : base <= w.heap.size)
  (h : ∀ v' w', w'.ownsRow base e size v' (n + 1) (xs ++ news.toList) -> w.grownBy w' v.ownBlock -> wpList P ops Q rest (a.put o.dst v') w') : wpList P ops Q (o :: rest) a (w.alloc (.cells news e)) := by
 obtain ⟨ht, ⟨i, hi, hz, hsize, hby⟩, hzs, hsz⟩ := hE
 refine wpList_append_own _ hgd s x t ho base e i z size bytes ht hi hz hsize hby hzs hsz v n xs hs (hown.alloc _) ⟨w.heap.size, 0, none⟩ 1 c news.toList hx (by simpa using hl) ?_ h1 h63 hbytes (by simp; omega) ?_
 ·intro j u hj
  rw [add_none]
  simp only [Nat.zero_add]
  have hh : (w.alloc (.cells news e)).heap[w.heap.size]? = some (.cells news e (0, 0)) := heap_alloc_new w _
  simp only [World.cell?, hh]
  simpa using hj
 ·intro v' w' h2 h3 _
  exact h v' w' h2 (grownBy_trans (World.grownBy_alloc w _ _) h3)
end Go.Proofs.YtdkhmfcfihbjeaaGreatDoor
namespace Go.Proofs.YtdkhmfcfihbjeaaGreatDoor.W
open Go.RowKit
structure Chg (S : List Nat) (w w' : World) : Prop where
 os : w'.os = w.os
 tape : w'.tape = w.tape
 output : w'.output = w.output
 size : w.heap.size <= w'.heap.size
 block : ∀ k, k < w.heap.size -> k ∉ S -> w'.heap[k]? = w.heap[k]?
theorem Chg.refl (S : List Nat) (w : World) : Chg S w w := ⟨rfl, rfl, rfl, Nat.le_refl _, fun _ _ _ => rfl⟩
theorem Chg.trans {S T : List Nat} {a b c : World} (h : Chg S a b) (k : Chg T b c) (hT : ∀ x ∈ T, x ∈ S ∨ a.heap.size <= x) : Chg S a c :=
 ⟨k.os.trans h.os, k.tape.trans h.tape, k.output.trans h.output, Nat.le_trans h.size k.size, fun x hx hn => (k.block x (Nat.lt_of_lt_of_le hx h.size) (fun ht => by
  rcases hT x ht with h1 | h1
  ·exact hn h1
  ·omega)).trans (h.block x hx hn)⟩
theorem Chg.mono {S T : List Nat} {a b : World} (h : Chg S a b) (hT : ∀ x ∈ S, x ∈ T ∨ a.heap.size <= x) : Chg T a b :=
 ⟨h.os, h.tape, h.output, h.size, fun x hx hn => h.block x hx (fun hs => by
  rcases hT x hs with h1 | h1
  ·exact hn h1
  ·omega)⟩
theorem Chg.of_below {S : List Nat} {a b : World} (h : Below a.heap.size a b) : Chg S a b := ⟨h.os, h.tape, h.output, h.size, fun x hx _ => h.block x hx⟩
theorem Chg.to_below {S : List Nat} {a b c : World} {B : Nat} (h0 : Below B a b) (h : Chg S b c) (hB : B <= b.heap.size) (hS : ∀ x ∈ S, B <= x) : Below B a c :=
 ⟨h.os.trans h0.os, h.tape.trans h0.tape, h.output.trans h0.output, Nat.le_trans h0.size h.size, fun x hx => (h.block x (Nat.lt_of_lt_of_le hx hB) (fun hs => by have := hS x hs; omega)).trans (h0.block x hx)⟩
theorem Chg.below {S : List Nat} {a b : World} (h : Chg S a b) (hS : ∀ x ∈ S, a.heap.size <= x) : Below a.heap.size a b := Chg.to_below (Below.refl _ _) h (Nat.le_refl _) hS
theorem Chg.drew {S : List Nat} {a b : World} (h : Chg S a b) : Chg S a b.drew := ⟨h.os, h.tape, h.output, h.size, h.block⟩
theorem Chg.drewN {S : List Nat} {a b : World} (h : Chg S a b) (n : Nat) : Chg S a (b.drewN n) := ⟨h.os, h.tape, h.output, h.size, h.block⟩
theorem Chg.alloc {S : List Nat} {a b : World} (h : Chg S a b) (o : Obj) : Chg S a (b.alloc o) :=
 h.trans (T := []) (Chg.of_below ((Below.refl _ _).alloc (Nat.le_refl _) o)) (by simp)
theorem Chg.setCell {S : List Nat} {a b : World} (h : Chg S a b) {p : Addr} (hp : p.block ∈ S ∨ a.heap.size <= p.block) (u : Value) : Chg S a (b.setCell p u) :=
 ⟨h.os, h.tape, h.output, by simpa [World.setCell] using h.size, fun k hk hn => (Below.heap_setCell b p u k (by
  rintro rfl
  rcases hp with hp | hp
  ·exact hn hp
  ·omega)).trans (h.block k hk hn)⟩
theorem Chg.grown {S : List Nat} {a b c : World} {r : Option Nat} (h : Chg S a b) (hg : b.grownBy c r) (hr : ∀ k, r = some k -> k ∈ S ∨ a.heap.size <= k) : Chg S a c :=
 ⟨hg.os.trans h.os, hg.tape.trans h.tape, hg.output.trans h.output, Nat.le_trans h.size hg.size, fun k hk hn => (hg.block k (Nat.lt_of_lt_of_le hk h.size) (fun e => by
  rcases hr k e.symm with h1 | h1
  ·exact hn h1
  ·omega)).trans (h.block k hk hn)⟩
theorem Chg.keep {S : List Nat} {a b : World} (h : Chg S a b) {k : Nat} {o : Obj} (hk : a.heap[k]? = some o) (hn : k ∉ S) : b.heap[k]? = some o :=
 (h.block k (Array.getElem?_eq_some_iff.1 hk).1 hn).trans hk
theorem Chg.cell {S : List Nat} {a b : World} (h : Chg S a b) {p : Addr} {v : Value} (hc : a.cell? p = some v) (hn : p.block ∉ S) : b.cell? p = some v :=
 (World.cell?_of_block (h.block p.block (World.block_lt_of_cell? a p hc) hn)).trans hc
theorem ret_bool {a b : Bool} (h : a = b) : Ending.returned (.bool a) = .returned (.bool b) := by rw [h]
theorem blk_lt {w : World} {b : Nat} {o : Obj} (h : w.heap[b]? = some o) : b < w.heap.size := (Array.getElem?_eq_some_iff.1 h).1
theorem blk_cell {w : World} {b t : Nat} {cs : Array Value} (h : w.heap[b]? = some (.cells cs t (0, 0))) (j : Nat) (v : Value) (hv : cs[j]? = some v) : w.cell? ⟨b, j, none⟩ = some v := by
 simp [World.cell?, h, hv]
theorem blk_frozen {w : World} {b t : Nat} {cs : Array Value} (h : w.heap[b]? = some (.cells cs t (0, 0))) (j : Nat) : w.frozen? ⟨b, j, none⟩ = false := by
 simp [World.frozen?, h]; try omega
theorem set_blk {w : World} {b t : Nat} {cs : Array Value} {j : Nat} {u : Value} (h : w.heap[b]? = some (.cells cs t (0, 0))) :
  (w.setCell ⟨b, j, none⟩ u).heap[b]? = some (.cells (cs.setIfInBounds j u) t (0, 0)) := by
 have hlt := blk_lt h
 have h' : w.heap[b] = .cells cs t (0, 0) := by simpa [Array.getElem?_eq_getElem hlt] using h
 show (w.heap.modify b _)[b]? = _
 rw [Array.getElem?_eq_getElem (by simpa using hlt), Array.getElem_modify_self, h']
 rfl
theorem blk_alloc {w : World} {b : Nat} {o o' : Obj} (h : w.heap[b]? = some o) : (w.alloc o').heap[b]? = some o :=
 ((Below.refl w.heap.size w).alloc (Nat.le_refl _) o').block b (Array.getElem?_eq_some_iff.1 h).1 |>.trans h
theorem blk_sets {w : World} {b b' j : Nat} {o : Obj} {u : Value} (h : w.heap[b]? = some o) (hne : b ≠ b') : (w.setCell ⟨b', j, none⟩ u).heap[b]? = some o :=
 (Below.heap_setCell w ⟨b', j, none⟩ u b hne).trans h
def bv (x : UInt8) : Value := .int .u8 (x.toNat : Int)
def bvs (l : List UInt8) : List Value := l.map bv
theorem bvs_one (l : List UInt8) : ∀ u ∈ bvs l, u.oneCell' = true := by
 intro u hu
 obtain ⟨x, _, rfl⟩ := List.mem_map.1 hu
 rfl
theorem bvs_len (l : List UInt8) : (bvs l).length = l.length := by simp [bvs]
theorem bvs_at (l : List UInt8) (i : Nat) (hi : i < l.length) : (bvs l)[i]? = some (bv (l.getD i 0)) := by
 simp [bvs, List.getD_eq_getElem?_getD, List.getElem?_eq_getElem hi]
def BytesAt (w : World) (v : Value) (l : List UInt8) : Prop :=
 ∃ a cap, v = .slice a l.length cap /\ l.length <= cap /\ cap <= maxLen /\ ((l = [] /\ cap = 0) ∨ ∃ g o, a = some ⟨g, o, none⟩ /\ ∀ i, i < l.length -> w.cell? ⟨g, o + i, none⟩ = some (bv (l.getD i 0)))
theorem BytesAt.keep {w w' : World} {v : Value} {l : List UInt8} (h : BytesAt w v l) (hb : ∀ g, v.ownBlock = some g -> w'.heap[g]? = w.heap[g]?) : BytesAt w' v l := by
 obtain ⟨a, cap, rfl, h1, h2, h3⟩ := h
 refine ⟨a, cap, rfl, h1, h2, ?_⟩
 rcases h3 with h3 | ⟨g, o, rfl, hc⟩
 ·exact .inl h3
 ·exact .inr ⟨g, o, rfl, fun i hi => (World.cell?_of_block (w := w) (a := ⟨g, o + i, none⟩) (hb g rfl)).trans (hc i hi)⟩
theorem BytesAt.nil (w : World) : BytesAt w (.slice none 0 0) [] := ⟨none, 0, rfl, by simp, by unfold maxLen; omega, .inl ⟨rfl, rfl⟩⟩
def BRow (w : World) (v : Value) (l : List UInt8) : Prop := w.ownsRow 0 5 1 v l.length (bvs l)
theorem BRow.nil (w : World) : BRow w (.slice none 0 0) [] := World.ownsRow_nil _ _ _ _
theorem BRow.lt {w : World} {v : Value} {l : List UInt8} (h : BRow w v l) : ∀ k, v.ownBlock = some k -> k < w.heap.size := fun k hk => (World.ownsRow.lt h k hk).2
theorem row_keep {w w' : World} {base e size n : Nat} {v : Value} {xs : List Value} (h : w.ownsRow base e size v n xs) (hb : ∀ g, v.ownBlock = some g -> w'.heap[g]? = w.heap[g]?) : w'.ownsRow base e size v n xs := by
 refine ⟨h.1, ?_⟩
 rcases h.2 with h | ⟨g, cap, cur, rfl, hbg, hg, rest⟩
 ·exact .inl h
 ·exact .inr ⟨g, cap, cur, rfl, hbg, (hb g rfl).trans hg, rest⟩
theorem row_base {w : World} {base e size n : Nat} {v : Value} {xs : List Value} (h : w.ownsRow base e size v n xs) (B : Nat) (hB : ∀ g, v.ownBlock = some g -> B <= g) : w.ownsRow B e size v n xs := by
 refine ⟨h.1, ?_⟩
 rcases h.2 with h | ⟨g, cap, cur, rfl, hbg, hg, rest⟩
 ·exact .inl h
 ·exact .inr ⟨g, cap, cur, rfl, hB g rfl, hg, rest⟩
theorem BRow.keep {w w' : World} {v : Value} {l : List UInt8} (h : BRow w v l) (hb : ∀ g, v.ownBlock = some g -> w'.heap[g]? = w.heap[g]?) : BRow w' v l := row_keep h hb
theorem BRow.bytes {w : World} {v : Value} {l : List UInt8} (h : BRow w v l) : BytesAt w v l := by
 rcases h.2 with ⟨rfl, h0⟩ | ⟨g, cap, cur, rfl, hbg, hg, hnc, hcm, hcs, htake⟩
 ·obtain rfl := List.eq_nil_of_length_eq_zero h0
  exact BytesAt.nil w
 ·refine ⟨_, cap, rfl, hnc, hcm, .inr ⟨g, 0, rfl, fun i hi => ?_⟩⟩
  have := h.cells (g := g) rfl i _ (bvs_at l i hi)
  rwa [add_none] at this
theorem elBytes : El Tryz.prog 30 5 (.int .u8 0) 1 1 := El.mk Tryz.underlying30 (by kernel_rfl) rfl (by decide)
theorem run_appB {w : World} (ty : TypeId) (v : Value) (l : List UInt8) (hown : BRow w v l) (u : Value) (m : List UInt8) (hm : BytesAt w u m) (hsz : l.length + m.length <= 140737488355328) :
  ∃ v' w', (Builtin.append_ #[30, 30] ty #[v, u]).run Tryz.prog w = .ok v' w' /\ BRow w' v' (l ++ m) /\ w.grownBy w' v.ownBlock /\ (v'.ownBlock = v.ownBlock ∨ v'.ownBlock = some w.heap.size) := by
 obtain ⟨ht, ⟨i, hi, hz, hsize, hby⟩, hzs, hsp⟩ := elBytes
 have hsz' := hsz
 obtain ⟨a, cap, rfl, h1, h2, h3⟩ := hm
 have hrow : ∀ (v' : Value) (w' : World), w'.ownsRow 0 5 1 v' (l.length + m.length) (bvs l ++ bvs m) -> BRow w' v' (l ++ m) := by
  intro v' w' h
  unfold BRow
  rw [List.length_append, show bvs (l ++ m) = bvs l ++ bvs m from List.map_append]
  exact h
 cases a with
 | none =>
  obtain ⟨rfl, rfl⟩ : m = [] /\ cap = 0 := by
   rcases h3 with h3 | ⟨g, o, h, _⟩
   ·exact h3
   ·cases h
  have hr := run_append_owned_none (P := Tryz.prog) (w := w) 0 30 ty 5 i 1 ht hi v l.length (bvs l) hown
  exact ⟨v, w, hr, by rw [List.append_nil]; exact hown, ⟨rfl, rfl, rfl, Nat.le_refl _, fun _ _ _ => rfl⟩, .inl rfl⟩
 | some ad =>
  have hnews : ∀ j x, (bvs m)[j]? = some x -> w.cell? (ad.add j) = some x := by
   intro j x hj
   rcases h3 with ⟨rfl, _⟩ | ⟨g, o, he, hc⟩
   ·simp [bvs] at hj
   ·obtain rfl : ad = ⟨g, o, none⟩ := by simpa using he
    have hjl : j < m.length := by
     have := (List.getElem?_eq_some_iff.1 hj).1
     simpa [bvs] using this
    rw [add_none, hc j hjl]
    rw [bvs_at m j hjl] at hj
    exact hj
  obtain ⟨v', w', hr, ho, hg, _, hat⟩ := run_append_own_at (P := Tryz.prog) w 0 30 ty 5 i _ 1 1 ht hi hz hsize hby hzs hsp v l.length (bvs l) hown ad m.length cap (bvs m) (by simp [bvs]) hnews (bvs_one m) (by unfold maxLen; omega) (by omega) (Nat.zero_le _)
  exact ⟨v', w', hr, hrow _ _ ho, hg, hat⟩
theorem wpList_appB {w : World} {ops : Array Oper} {rest : List Oper} {o : Oper} {a : Act} {Q : Exit -> Act -> World -> Prop} (hgd : o.guard = none) (s x : Operand)
  (ho : o.op = .call { callee := .builtin .append, args := #[s, x], argTypes := #[30, 30] })
  (v : Value) (l : List UInt8) (hs : a.eval s = v) (hown : BRow w v l) (u : Value) (m : List UInt8) (hx : a.eval x = u) (hm : BytesAt w u m)
  (hsz : l.length + m.length <= 140737488355328)
  (h : ∀ v' w', BRow w' v' (l ++ m) -> w.grownBy w' v.ownBlock -> (v'.ownBlock = v.ownBlock ∨ v'.ownBlock = some w.heap.size) -> wpList Tryz.prog ops Q rest (a.put o.dst v') w') : wpList Tryz.prog ops Q (o :: rest) a w := by
 refine wpList_plain hgd fun K hK => ?_
 obtain ⟨v', w', hr, h2, h3, h4⟩ := run_appB o.type v l hown u m hm hsz
 unfold Oper.wp execOp
 simp only [ho, resolve, invoke, builtin, Sem.run_bind, Sem.run_pure, Result.andThen_ok, List.map_toArray, List.map_cons, List.map_nil, hs, hx, hr]
 exact hK _ _ (h v' w' h2 h3 h4)
theorem assert_nil (w : World) : (Instr.typeAssert .nilIface 20 162 true).run Tryz.prog w = .ok (.tuple #[.agg #[.int .i64 0], .bool false]) w := by kernel_rfl
theorem assert_give (x : Int) (w : World) : (Instr.typeAssert (.iface 162 (.agg #[.int .i64 x])) 20 162 true).run Tryz.prog w = .ok (.tuple #[.agg #[.int .i64 x], .bool true]) w := by kernel_rfl
theorem catch_idle (pa pb : Value) (w : World) :
  CallsD Tryz.prog 139 #[pa, pb] .returning w fun e u' w' => e = .returned (.tuple #[]) /\ u' = .returning /\ w' = w.alloc (.cells #[.int .i64 0] 162) := by
 have hta := assert_nil
 refine callsD_of_wpS Tryz.func139 rfl fun c₀ cs hu => ?_
 rw [Tryz.ntmps139]
 change Code.wpS Tryz.prog _ _ ⟨#[pa, pb, undef, undef, undef, undef, undef, undef, undef, undef, undef, undef, undef, undef, undef, undef, undef, undef, undef], []⟩ _ _
 apply wpS_seq
 apply wpS_region
 simp [wpOpsS, go_sem, recoverD, hu, Exit.thenS, hta]
 apply wpS_seq
 apply wpS_region
 simp [wpOpsS, go_sem, Exit.thenS]
 refine wpS_cond (t := false) (by simp [Act.eval]) ?_
 simp only [Bool.false_eq_true, if_false]
 refine wpS_of_wp (wp_skip ?_)
 cases c₀
 simp_all [bodyPostS, results, Tryz.results139]
theorem catch_panic (b pa pb : Nat) (av : Option Addr) (L cap : Nat) (v1 bad : Value) (x : Int) (older : List PanicEntry) (w : World) (ha : w.heap[pa]? = some (.cells #[.slice av L cap] 30 (0, 0))) (hp : w.heap[pb]? = some (.cells #[.pointer (some ⟨b, 0, none⟩)] 120 (0, 0)))
  (hb : w.heap[b]? = some (.cells #[.bool true, v1, bad] 159 (0, 0))) :
  CallsD Tryz.prog 139 #[.pointer (some ⟨pa, 0, none⟩), .pointer (some ⟨pb, 0, none⟩)] (.panicking ({ v := .iface 162 (.agg #[.int .i64 x]), recovered := false } :: older)) w fun e u' w' =>
   e = .returned (.tuple #[]) /\ u' = .panicking ({ v := .iface 162 (.agg #[.int .i64 x]), recovered := true } :: older) /\ Chg [b] w w' /\ w'.heap[b]? = some (.cells #[.bool true, .slice av L cap, .int .i64 x] 159 (0, 0)) := by
 have hta := assert_give x
 have ha0 := blk_cell ha 0 _ rfl
 have hp0 := blk_cell hp 0 _ rfl
 have hf1 := blk_frozen hb 1
 have hf2 := blk_frozen hb 2
 have hb1 := blk_cell hb 1 _ rfl
 have hb2 := blk_cell hb 2 _ rfl
 have l1 := blk_lt ha
 have l2 := blk_lt hp
 have l3 := blk_lt hb
 have l4 : ¬ (b = w.heap.size) := Nat.ne_of_lt l3
 have HB := LH hb
 clear ha hp hb
 refine callsD_of_wpS Tryz.func139 rfl fun c₀ cs hu => ?_
 rw [Tryz.ntmps139]
 change Code.wpS Tryz.prog _ _ ⟨#[_, _, undef, undef, undef, undef, undef, undef, undef, undef, undef, undef, undef, undef, undef, undef, undef, undef, undef], []⟩ _ _
 apply wpS_seq
 apply wpS_region
 simp [wpOpsS, go_sem, recoverD, hu, Exit.thenS, hta]
 apply wpS_seq
 apply wpS_region
 simp [wpOpsS, go_sem, Exit.thenS]
 refine wpS_cond (t := true) (by simp [Act.eval]) ?_
 simp only [if_true]
 refine wpS_of_wp ?_
 go_region
 refine ⟨rfl, _, rfl, .tuple #[], by simp [results, Tryz.results139], rfl, rfl, ?_, ?_⟩
 ·exact ((((Chg.refl [b] w).setCell (p := ⟨b, 1, none⟩) (.inl (by simp)) _).setCell (p := ⟨b, 2, none⟩) (.inl (by simp)) _).alloc _).drew
 ·exact blk_alloc (set_blk (set_blk HB.out))
def beNum (l : List UInt8) : Nat := l.foldl (fun x c => x * 256 + c.toNat) 0
theorem beNum_snoc (l : List UInt8) (c : UInt8) : beNum (l ++ [c]) = beNum l * 256 + c.toNat := by simp [beNum]
theorem beNum_from (l : List UInt8) : ∀ x : Nat, l.foldl (fun x c => x * 256 + c.toNat) x < (x + 1) * 256 ^ l.length := by
 induction l with
 | nil => intro x; simp
 | cons c l ih =>
  intro x
  have h := ih (x * 256 + c.toNat)
  rw [List.foldl_cons, List.length_cons, Nat.pow_succ']
  have hc := c.toNat_lt
  have h2 : (x * 256 + c.toNat + 1) * 256 ^ l.length <= ((x + 1) * 256) * 256 ^ l.length := Nat.mul_le_mul_right _ (by omega)
  rw [<- Nat.mul_assoc]
  omega
theorem beNum_lt (l : List UInt8) : beNum l < 256 ^ l.length := by
 have := beNum_from l 0
 simpa [beNum] using this
theorem take_snocU (l : List UInt8) (k : Nat) (h : k < l.length) : l.take (k + 1) = l.take k ++ [l.getD k 0] := by
 rw [List.take_succ_eq_append_getElem h, List.getD_eq_getElem?_getD, List.getElem?_eq_getElem h]; rfl
theorem getD_take (l : List UInt8) (n k : Nat) (h : k < n) : (l.take n).getD k 0 = l.getD k 0 := by
 simp [List.getD_eq_getElem?_getD, List.getElem?_take, h]
theorem getD_drop (l : List UInt8) (n k : Nat) : (l.drop n).getD k 0 = l.getD (n + k) 0 := by
 simp [List.getD_eq_getElem?_getD, List.getElem?_drop]
theorem pow6 (k : Nat) (h : k <= 6) : 256 ^ k <= 281474976710656 := by
 have : 256 ^ k <= 256 ^ 6 := Nat.pow_le_pow_right (by omega) h
 simpa using this
theorem beNum_take_le (l : List UInt8) (k : Nat) (h : k <= 6) : beNum (l.take k) < 281474976710656 := by
 refine Nat.lt_of_lt_of_le (beNum_lt _) (pow6 _ ?_)
 exact Nat.le_trans (List.length_take_le _ _) h
theorem or_byte (a : Nat) (c : UInt8) : a * 256 ||| c.toNat = a * 256 + c.toNat := by
 have h := Nat.shiftLeft_add_eq_or_of_lt (show c.toNat < 2 ^ 8 from c.toNat_lt) a
 rw [Nat.shiftLeft_eq] at h
 exact h.symm
def eyeNum (l : List UInt8) (bad : Int) (n : Nat) : Int × List UInt8 × Int :=
 if bad ≠ 0 then (0, l, bad) else if l.length < n then (0, l, 2) else ((beNum (l.take n) : Int), l.drop n, 0)
def eyeBool (l : List UInt8) (bad : Int) : Bool × List UInt8 × Int :=
 if bad ≠ 0 then (false, l, bad) else match l with
 | [] => (false, [], 2)
 | c :: r => if 1 < c.toNat then (false, c :: r, 4) else (c.toNat == 1, r, 0)
theorem take_ok (b g o cap : Nat) (l : List UInt8) (bad : Value) (n : Nat) (w : World) (h : w.heap[b]? = some (.cells #[.bool true, .slice (some ⟨g, o, none⟩) l.length cap, bad] 159 (0, 0)))
  (hl : l.length <= cap) (hc : cap <= maxLen) (hn : n <= l.length) :
  Calls Tryz.prog 105 #[.pointer (some ⟨b, 0, none⟩), .int .i64 n] w fun e w' => e = .returned (.slice (some ⟨g, o, none⟩) n n) /\
   w' = w.setCell ⟨b, 1, none⟩ (.slice (some ⟨g, if cap = n then o else o + n, none⟩) (l.length - n) (cap - n)) := by
 have c1 := blk_cell h 1 _ rfl
 have f1 := blk_frozen h 1
 have hlt := blk_lt h
 unfold maxLen at hc
 clear h
 by_cases hcn : cap = n
 ·go_enter Tryz.func105, Tryz.ntmps105
  go_wp2
  go_ret
  exact ⟨rfl, rfl⟩
 ·go_enter Tryz.func105, Tryz.ntmps105
  go_wp2
  go_ret
  exact ⟨rfl, rfl⟩
def gaveUp (x : Int) : Ending := .panicked [{ v := .iface 162 (.agg #[.int .i64 x]), recovered := false }]
theorem take_short (b : Nat) (a : Option Addr) (L cap : Nat) (bad : Value) (n : Int) (w : World) (h : w.heap[b]? = some (.cells #[.bool true, .slice a L cap, bad] 159 (0, 0)))
  (hL : L <= 1000000000000) (hn : (L : Int) < n) :
  Calls Tryz.prog 105 #[.pointer (some ⟨b, 0, none⟩), .int .i64 n] w fun e w' => e = gaveUp 2 /\ w = w' := by
 have c1 := blk_cell h 1 _ rfl
 have f1 := blk_frozen h 1
 have hlt := blk_lt h
 clear h
 unfold gaveUp
 go_enter Tryz.func105, Tryz.ntmps105
 go_wp2
 exact ⟨rfl, rfl, rfl⟩
theorem wmay_yes (n : Int) (w : World) (h1 : 1 <= n) (h7 : n <= 7) : Calls Tryz.prog 97 #[.int .i64 n] w fun e w' => e = .returned (.bool true) /\ w = w' := by
 go_enter Tryz.func97, Tryz.ntmps97
 go_wp2
 go_ret
 exact ⟨rfl, rfl⟩
theorem read_done (b : Nat) (v : Value) (bad : Int) (k : FuncId) (cap : Array Value) (w : World) (h : w.heap[b]? = some (.cells #[.bool true, v, .int .i64 bad] 159 (0, 0))) (hbad : bad ≠ 0) :
  Calls Tryz.prog 101 #[.pointer (some ⟨b, 0, none⟩), .func (.func k) #[] cap] w fun e w' => e = .returned (.tuple #[]) /\ w' = w.alloc (.cells #[.pointer (some ⟨b, 0, none⟩)] 120) := by
 have h0 := blk_cell h 0 _ rfl
 have h2 := blk_cell h 2 _ rfl
 have hl := blk_lt h
 have hz : (bad != 0) = true := by simp [hbad]
 have HB := LH hbad
 clear h hbad
 go_enter_defers Tryz.func101, Tryz.ntmps101
 go_wp2
 exact ⟨.tuple #[], by simp [results, Tryz.results101], rfl, rfl⟩
theorem read_ret (b : Nat) (v : Value) (k : FuncId) (cap : Array Value) (w : World) (ent : ∀ args w, (callFunc k args).run Tryz.prog w = .ok (.enter k args) w) (a : Option Addr) (L c : Nat) (hv : v = .slice a L c)
  (h : w.heap[b]? = some (.cells #[.bool true, v, .int .i64 0] 159 (0, 0))) (Q : World -> Prop) (HS : Hid (Calls Tryz.prog k cap ((w.alloc (.cells #[.pointer (some ⟨b, 0, none⟩)] 120)).alloc (.cells #[v] 30)) fun e w' => e = .returned (.tuple #[]) /\ Q w')) :
  Calls Tryz.prog 101 #[.pointer (some ⟨b, 0, none⟩), .func (.func k) #[] cap] w fun e w' => e = .returned (.tuple #[]) /\ ∃ w1, Q w1 /\ w' = w1.alloc (.cells #[.int .i64 0] 162) := by
 subst hv
 have h0 := blk_cell h 0 _ rfl
 have h1 := blk_cell h 1 _ rfl
 have h2 := blk_cell h 2 _ rfl
 have hl := blk_lt h
 have hmf : ∀ (fn : Fn) (first cap : Array Value) (w : World), (Instr.makeFunc fn first cap).run Tryz.prog w = .ok (.func fn first cap) w := fun _ _ _ _ => rfl
 clear h
 go_enter_defers Tryz.func101, Tryz.ntmps101
 go_wp2
 refine HS.out.mono ?_
 rintro e w1 ⟨rfl, hq⟩
 have HQ := LH hq
 clear hq HS
 go_wp2
 refine leaves_cons (f := 139) (args := #[.pointer (some ⟨w.heap.size + 1, 0, none⟩), .pointer (some ⟨w.heap.size, 0, none⟩)]) (by simp) (by simp [go_sem]) ?_
 refine (catch_idle _ _ _).mono ?_
 rintro e u' w'' ⟨rfl, rfl, rfl⟩
 exact ⟨.tuple #[], by simp [results, Tryz.results101], rfl, _, HQ.out, rfl⟩
theorem read_panic (b : Nat) (v : Value) (k : FuncId) (cap : Array Value) (w : World) (ent : ∀ args w, (callFunc k args).run Tryz.prog w = .ok (.enter k args) w) (a : Option Addr) (L c : Nat) (hv : v = .slice a L c) (x : Int)
  (h : w.heap[b]? = some (.cells #[.bool true, v, .int .i64 0] 159 (0, 0))) (S : List Nat) (hS : ∀ k ∈ S, k < w.heap.size)
  (HS : Hid (Calls Tryz.prog k cap ((w.alloc (.cells #[.pointer (some ⟨b, 0, none⟩)] 120)).alloc (.cells #[v] 30)) fun e w' => e = gaveUp x /\ ∃ v1, Chg S ((w.alloc (.cells #[.pointer (some ⟨b, 0, none⟩)] 120)).alloc (.cells #[v] 30)) w' /\ w'.heap[b]? = some (.cells #[.bool true, v1, .int .i64 0] 159 (0, 0)))) :
  Calls Tryz.prog 101 #[.pointer (some ⟨b, 0, none⟩), .func (.func k) #[] cap] w fun e w' => e = .returned (.tuple #[]) /\ Chg (b :: S) w w' /\ w'.heap[b]? = some (.cells #[.bool true, v, .int .i64 x] 159 (0, 0)) := by
 subst hv
 have h0 := blk_cell h 0 _ rfl
 have h1 := blk_cell h 1 _ rfl
 have h2 := blk_cell h 2 _ rfl
 have hl := blk_lt h
 have HSS := LH hS
 have hmf : ∀ (fn : Fn) (first cap : Array Value) (w : World), (Instr.makeFunc fn first cap).run Tryz.prog w = .ok (.func fn first cap) w := fun _ _ _ _ => rfl
 clear h hS
 go_enter_defers Tryz.func101, Tryz.ntmps101
 go_wp2
 refine HS.out.mono ?_
 rintro e w1 ⟨rfl, v1, hch, hb⟩
 have hA : w1.heap[w.heap.size]? = some (.cells #[.pointer (some ⟨b, 0, none⟩)] 120 (0, 0)) :=
  hch.keep (blk_alloc (heap_alloc_new w _)) (fun hm => by have := HSS.out _ hm; omega)
 have hB : w1.heap[w.heap.size + 1]? = some (.cells #[.slice a L c] 30 (0, 0)) := by
  refine hch.keep ?_ (fun hm => by have := HSS.out _ hm; omega)
  have := heap_alloc_new (w.alloc (.cells #[.pointer (some ⟨b, 0, none⟩)] 120)) (.cells #[.slice a L c] 30)
  simpa using this
 have CP := LH (catch_panic b (w.heap.size + 1) w.heap.size a L c v1 _ x [] w1 hB hA hb)
 have HC := LH hch
 clear hch hA hB hb HS
 refine leaves_cons (f := 139) (args := #[.pointer (some ⟨w.heap.size + 1, 0, none⟩), .pointer (some ⟨w.heap.size, 0, none⟩)]) (by simp) (by simp [go_sem]) ?_
 refine CP.out.mono ?_
 rintro e u' w'' ⟨rfl, rfl, hc2, hb2⟩
 refine ⟨.tuple #[], by simp [results, Tryz.results101], rfl, ?_, hb2⟩
 have h3 : Chg S w w1 := (((Chg.refl S w).alloc _).alloc _).trans HC.out (fun x hx => .inl hx)
 exact (h3.mono (fun x hx => .inl (List.mem_cons_of_mem _ hx))).trans hc2 (fun x hx => .inl (by simp at hx; simp [hx]))
theorem ofInt_i64 (a : Nat) (ha : a < 9223372036854775808) : (BitVec.ofInt 64 (a : Int)).toNat = a := by
 rw [BitVec.ofInt_natCast, BitVec.toNat_ofNat]; exact Nat.mod_eq_of_lt (by omega)
theorem i64_or_nat (a b : Nat) (ha : a < 9223372036854775808) (hb : b < 9223372036854775808) : bits .or .i64 (a : Int) (b : Int) = ((a ||| b : Nat) : Int) := by
 have hx : a ||| b < 2 ^ 63 := Nat.or_lt_two_pow (by omega) (by omega)
 show IntKind.i64.wrap ((BitVec.ofInt 64 (a : Int) ||| BitVec.ofInt 64 (b : Int)).toNat : Int) = _
 rw [BitVec.toNat_or, ofInt_i64 a ha, ofInt_i64 b hb, IntKind.wrap_i64]
 omega
theorem number_ok (b g o cap : Nat) (l : List UInt8) (bad : Value) (n : Nat) (w : World) (h : w.heap[b]? = some (.cells #[.bool true, .slice (some ⟨g, o, none⟩) l.length cap, bad] 159 (0, 0)))
  (hgb : g ≠ b) (hl : l.length <= cap) (hc : cap <= maxLen) (hcell : ∀ i, i < l.length -> w.cell? ⟨g, o + i, none⟩ = some (bv (l.getD i 0))) (h1 : 1 <= n) (h7 : n <= 7) (hn : n <= l.length) :
  Calls Tryz.prog 103 #[.pointer (some ⟨b, 0, none⟩), .int .i64 n] w fun e w' => e = .returned (.int .i64 (beNum (l.take n))) /\
   w' = w.setCell ⟨b, 1, none⟩ (.slice (some ⟨g, if cap = n then o else o + n, none⟩) (l.length - n) (cap - n)) := by
 have CT := LH (take_ok b g o cap l bad n w h hl hc hn)
 obtain ⟨w1, hw1⟩ : ∃ w1, w1 = w.setCell ⟨b, 1, none⟩ (.slice (some ⟨g, if cap = n then o else o + n, none⟩) (l.length - n) (cap - n)) := ⟨_, rfl⟩
 rw [<- hw1] at CT ⊢
 have HC : Hid (∀ i, i < n -> w1.cell? ⟨g, o + i, none⟩ = some (bv (l.getD i 0))) := by
  intro i hi
  rw [hw1]
  exact (World.cell?_of_block (w := w) (a := ⟨g, o + i, none⟩) (Below.heap_setCell w _ _ g (by simpa using hgb))).trans (hcell i (by omega))
 clear h hl hc hcell hw1
 go_enter Tryz.func103, Tryz.ntmps103
 go_wp2_with (go_at_call 105; refine CT.out.mono ?_; rintro e w2 ⟨rfl, rfl⟩)
 go_loop [5, 12] (fun x i => ∃ k : Nat, k <= n /\ i = .int .i64 k /\ x = .int .i64 (beNum (l.take k))) (fun _ i => n - (intOf i).toNat)
 case atStart => exact ⟨0, Nat.zero_le _, rfl, rfl⟩
 case round =>
  obtain ⟨k, hk, rfl, rfl⟩ := hrel
  by_cases hlt : k < n
  ·have hcl := HC.out k hlt
   have hb := beNum_take_le l k (by omega)
   have hkz : (k : Int) < (n : Int) := by omega
   have hkz1 : (k : Int).toNat = k := by omega
   obtain ⟨c, hc⟩ : ∃ c, c = l.getD k 0 := ⟨_, rfl⟩
   rw [<- hc] at hcl
   have hc8 := c.toNat_lt
   have HX : Hid (beNum (l.take (k + 1)) = beNum (l.take k) * 256 + c.toNat) := LH (by rw [take_snocU l k (by omega), beNum_snoc, hc])
   clear hc
   obtain ⟨x, hx⟩ : ∃ x, x = beNum (l.take k) := ⟨_, rfl⟩
   rw [<- hx] at hb HX ⊢
   clear hx
   unfold bv at hcl
   have hor : bits .or .i64 ((x : Int) * 256) (c.toNat : Int) = ((x * 256 + c.toNat : Nat) : Int) := by
    have := i64_or_nat (x * 256) c.toNat (by omega) (by omega)
    rw [or_byte] at this
    simpa using this
   go_wp2
   go_round
   case rel => exact ⟨k + 1, by omega, by go_num, by rw [HX.out]; go_num⟩
   case measure => simp [intOf]; omega
  ·go_wp2
   go_ret
   obtain rfl : k = n := by omega
   exact ⟨rfl, rfl⟩
theorem number_short (b : Nat) (a : Option Addr) (L cap : Nat) (bad : Value) (n : Int) (w : World) (h : w.heap[b]? = some (.cells #[.bool true, .slice a L cap, bad] 159 (0, 0)))
  (hL : L <= 1000000000000) (hn : (L : Int) < n) :
  Calls Tryz.prog 103 #[.pointer (some ⟨b, 0, none⟩), .int .i64 n] w fun e w' => e = gaveUp 2 /\ w = w' := by
 have CT := LH (take_short b a L cap bad n w h hL hn)
 clear h
 unfold gaveUp at *
 go_enter Tryz.func103, Tryz.ntmps103
 go_wp2_with fail
 refine CT.out.mono ?_
 rintro e w1 ⟨rfl, rfl⟩
 exact ⟨rfl, rfl, rfl⟩
def EyeV (w : World) (v : Value) (g : Nat) (l : List UInt8) : Prop :=
 (v = .slice none 0 0 /\ l = []) ∨ ∃ o cap, v = .slice (some ⟨g, o, none⟩) l.length cap /\ l.length <= cap /\ cap <= maxLen /\ ∀ i, i < l.length -> w.cell? ⟨g, o + i, none⟩ = some (bv (l.getD i 0))
theorem EyeV.keep {w w' : World} {v : Value} {g : Nat} {l : List UInt8} (h : EyeV w v g l) (hb : w'.heap[g]? = w.heap[g]?) : EyeV w' v g l := by
 rcases h with h | ⟨o, cap, rfl, h1, h2, hc⟩
 ·exact .inl h
 ·exact .inr ⟨o, cap, rfl, h1, h2, fun i hi => (World.cell?_of_block (w := w) (a := ⟨g, o + i, none⟩) hb).trans (hc i hi)⟩
theorem EyeV.keepC {w w' : World} {v : Value} {g : Nat} {l : List UInt8} {S : List Nat} (h : EyeV w v g l) (hg : g < w.heap.size ∨ v = .slice none 0 0) (hc : Chg S w w') (hn : g ∉ S) : EyeV w' v g l := by
 rcases h with h | ⟨o, cap, rfl, h1, h2, hcell⟩
 ·exact .inl h
 ·have hg' : g < w.heap.size := by
   rcases hg with hg | hg
   ·exact hg
   ·cases hg
  exact EyeV.keep (.inr ⟨o, cap, rfl, h1, h2, hcell⟩) (hc.block g hg' hn)
theorem or_lt {w w' : World} {g : Nat} {p : Prop} {S : List Nat} (h : g < w.heap.size ∨ p) (hc : Chg S w w') : g < w'.heap.size ∨ p := by
 rcases h with h | h
 ·exact .inl (Nat.lt_of_lt_of_le h hc.size)
 ·exact .inr h
theorem EyeV.slice {w : World} {v : Value} {g : Nat} {l : List UInt8} (h : EyeV w v g l) : ∃ a cap, v = .slice a l.length cap := by
 rcases h with ⟨rfl, rfl⟩ | ⟨o, cap, rfl, _⟩
 ·exact ⟨_, _, rfl⟩
 ·exact ⟨_, _, rfl⟩
def EyeAt (w : World) (b g : Nat) (l : List UInt8) (bad : Int) : Prop :=
 ∃ v, w.heap[b]? = some (.cells #[.bool true, v, .int .i64 bad] 159 (0, 0)) /\ EyeV w v g l /\ g ≠ b /\ (g < w.heap.size ∨ v = .slice none 0 0) /\ l.length <= 1000000
theorem EyeAt.keep {w w' : World} {b g : Nat} {l : List UInt8} {bad : Int} {S : List Nat} (h : EyeAt w b g l bad) (hc : Chg S w w') (hb : b ∉ S) (hg : g ∉ S) : EyeAt w' b g l bad := by
 obtain ⟨v, h1, h2, h3, h4, h5⟩ := h
 exact ⟨v, hc.keep h1 hb, h2.keepC h4 hc hg, h3, or_lt h4 hc, h5⟩
theorem EyeV.dropped {w : World} {g o cap n : Nat} {l : List UInt8} (hl : l.length <= cap) (hc : cap <= maxLen) (hcell : ∀ i, i < l.length -> w.cell? ⟨g, o + i, none⟩ = some (bv (l.getD i 0))) (hn : n <= l.length) :
  EyeV w (.slice (some ⟨g, if cap = n then o else o + n, none⟩) (l.length - n) (cap - n)) g (l.drop n) := by
 right
 have hdl : (l.drop n).length = l.length - n := List.length_drop ..
 refine ⟨if cap = n then o else o + n, cap - n, by rw [hdl], by omega, by omega, fun i hi => ?_⟩
 have h2 : ¬ (cap = n) := by omega
 rw [if_neg h2, getD_drop, Nat.add_assoc]
 exact hcell (n + i) (by omega)
theorem enters1 : ∀ args w, (callFunc 102 args).run Tryz.prog w = .ok (.enter 102 args) w := enters_of Tryz.func102 (by kernel_rfl) rfl
theorem step_ok (b g o cap pw pe px : Nat) (l : List UInt8) (bad : Value) (n : Nat) (w : World) (h : w.heap[b]? = some (.cells #[.bool true, .slice (some ⟨g, o, none⟩) l.length cap, bad] 159 (0, 0)))
  (hgb : g ≠ b) (hl : l.length <= cap) (hc : cap <= maxLen) (hcell : ∀ i, i < l.length -> w.cell? ⟨g, o + i, none⟩ = some (bv (l.getD i 0))) (h1 : 1 <= n) (h7 : n <= 7) (hn : n <= l.length)
  (hw : w.heap[pw]? = some (.cells #[.int .i64 n] 3 (0, 0))) (he : w.heap[pe]? = some (.cells #[.pointer (some ⟨b, 0, none⟩)] 120 (0, 0))) (hx : w.heap[px]? = some (.cells #[.int .i64 0] 3 (0, 0))) (hxb : px ≠ b) :
  Calls Tryz.prog 102 #[.pointer (some ⟨pw, 0, none⟩), .pointer (some ⟨pe, 0, none⟩), .pointer (some ⟨px, 0, none⟩)] w fun e w' => e = .returned (.tuple #[]) /\
   w' = (w.setCell ⟨b, 1, none⟩ (.slice (some ⟨g, if cap = n then o else o + n, none⟩) (l.length - n) (cap - n))).setCell ⟨px, 0, none⟩ (.int .i64 (beNum (l.take n))) := by
 have CN := LH (number_ok b g o cap l bad n w h hgb hl hc hcell h1 h7 hn)
 obtain ⟨w1, hw1⟩ : ∃ w1, w1 = w.setCell ⟨b, 1, none⟩ (.slice (some ⟨g, if cap = n then o else o + n, none⟩) (l.length - n) (cap - n)) := ⟨_, rfl⟩
 rw [<- hw1] at CN ⊢
 have hx1 : w1.heap[px]? = some (.cells #[.int .i64 0] 3 (0, 0)) := by rw [hw1]; exact blk_sets hx hxb
 have w0 := blk_cell hw 0 _ rfl
 have e0 := blk_cell he 0 _ rfl
 have x0 := blk_cell hx1 0 _ rfl
 have x1 := blk_frozen hx1 0
 clear h hl hc hcell hw1 hw he hx hx1
 go_enter Tryz.func102, Tryz.ntmps102
 go_wp2_with fail
 refine (wmay_yes _ _ (by omega) (by omega)).mono ?_
 rintro e w' ⟨rfl, rfl⟩
 go_wp2_with fail
 refine CN.out.mono ?_
 rintro e w' ⟨rfl, rfl⟩
 go_wp2
 go_end0
 exact ⟨rfl, rfl⟩
theorem step_short (b pw pe : Nat) (px : Value) (a : Option Addr) (L cap : Nat) (bad : Value) (n : Nat) (w : World) (h : w.heap[b]? = some (.cells #[.bool true, .slice a L cap, bad] 159 (0, 0)))
  (hL : L <= 1000000000000) (hn : L < n) (h1 : 1 <= n) (h7 : n <= 7)
  (hw : w.heap[pw]? = some (.cells #[.int .i64 n] 3 (0, 0))) (he : w.heap[pe]? = some (.cells #[.pointer (some ⟨b, 0, none⟩)] 120 (0, 0))) :
  Calls Tryz.prog 102 #[.pointer (some ⟨pw, 0, none⟩), .pointer (some ⟨pe, 0, none⟩), px] w fun e w' => e = gaveUp 2 /\ w = w' := by
 have CN := LH (number_short b a L cap bad n w h hL (by omega))
 have w0 := blk_cell hw 0 _ rfl
 have e0 := blk_cell he 0 _ rfl
 clear h hw he
 unfold gaveUp at *
 go_enter Tryz.func102, Tryz.ntmps102
 go_wp2_with fail
 refine (wmay_yes _ _ (by omega) (by omega)).mono ?_
 rintro e w' ⟨rfl, rfl⟩
 go_wp2_with fail
 refine CN.out.mono ?_
 rintro e w' ⟨rfl, rfl⟩
 exact ⟨rfl, rfl, rfl⟩
theorem enum_any (b g : Nat) (l : List UInt8) (bad : Int) (width : Int) (w : World) (h : EyeAt w b g l bad) (h1 : 1 <= width) (h7 : width <= 7) :
  Calls Tryz.prog 54 #[.pointer (some ⟨b, 0, none⟩), .int .i64 width] w fun e w' => e = .returned (.int .i64 (eyeNum l bad width.toNat).1) /\
   EyeAt w' b g (eyeNum l bad width.toNat).2.1 (eyeNum l bad width.toNat).2.2 /\ Chg [b] w w' := by
 obtain ⟨n, rfl⟩ := Int.eq_ofNat_of_zero_le (show 0 <= width by omega)
 rw [Int.toNat_natCast]
 have hE := h
 obtain ⟨v, hb, hv, hgb, hg, hll⟩ := h
 have hbl := blk_lt hb
 obtain ⟨w3, hw3⟩ : ∃ w3, w3 = ((w.alloc (.cells #[.pointer (some ⟨b, 0, none⟩)] 120)).alloc (.cells #[.int .i64 n] 3)).alloc (.cells #[.int .i64 0] 3) := ⟨_, rfl⟩
 have hs3 : w3.heap.size = w.heap.size + 3 := by rw [hw3]; simp
 have hb3 : w3.heap[b]? = some (.cells #[.bool true, v, .int .i64 bad] 159 (0, 0)) := by rw [hw3]; exact blk_alloc (blk_alloc (blk_alloc hb))
 have hpe : w3.heap[w.heap.size]? = some (.cells #[.pointer (some ⟨b, 0, none⟩)] 120 (0, 0)) := by rw [hw3]; exact blk_alloc (blk_alloc (heap_alloc_new w _))
 have hpw : w3.heap[w.heap.size + 1]? = some (.cells #[.int .i64 n] 3 (0, 0)) := by
  rw [hw3]
  have := heap_alloc_new (w.alloc (.cells #[.pointer (some ⟨b, 0, none⟩)] 120)) (.cells #[.int .i64 n] 3)
  exact blk_alloc (by simpa using this)
 have hpx : w3.heap[w.heap.size + 1 + 1]? = some (.cells #[.int .i64 0] 3 (0, 0)) := by
  rw [hw3]
  have := heap_alloc_new ((w.alloc (.cells #[.pointer (some ⟨b, 0, none⟩)] 120)).alloc (.cells #[.int .i64 n] 3)) (.cells #[.int .i64 0] 3)
  simpa using this
 have hc3 : Chg [b] w w3 := by rw [hw3]; exact (((Chg.refl [b] w).alloc _).alloc _).alloc _
 have hv3 : EyeV w3 v g l := hv.keepC hg hc3 (by simp; exact hgb)
 have hg3 := or_lt hg hc3
 obtain ⟨r, hr⟩ : ∃ r, r = eyeNum l bad n := ⟨_, rfl⟩
 have CR : Hid (Calls Tryz.prog 101 #[.pointer (some ⟨b, 0, none⟩), .func (.func 102) #[] #[.pointer (some ⟨w.heap.size + 1, 0, none⟩), .pointer (some ⟨w.heap.size, 0, none⟩), .pointer (some ⟨w.heap.size + 1 + 1, 0, none⟩)]] w3
   fun e w' => e = .returned (.tuple #[]) /\ Hid (Chg [b, w.heap.size + 1 + 1] w3 w' /\ EyeAt w' b g r.2.1 r.2.2 /\ w'.heap[w.heap.size + 1 + 1]? = some (.cells #[.int .i64 r.1] 3 (0, 0)))) := by
  have hgb3 : b < w3.heap.size := blk_lt hb3
  by_cases hbad : bad = 0
  ·subst hbad
   by_cases hlen : l.length < n
   ·have hr' : r = (0, l, 2) := by rw [hr]; unfold eyeNum; rw [if_neg (by simp), if_pos hlen]
    obtain ⟨a, cap, rfl⟩ := hv3.slice
    refine (read_panic b _ 102 _ w3 enters1 a l.length cap rfl 2 hb3 [] (by simp) ?_).mono ?_
    ·refine (step_short b _ _ _ a l.length cap _ n _ (blk_alloc (blk_alloc hb3)) (by omega) hlen (by omega) (by omega) (blk_alloc (blk_alloc hpw)) (blk_alloc (blk_alloc hpe))).mono ?_
     rintro e w' ⟨rfl, rfl⟩
     exact ⟨rfl, _, Chg.refl _ _, blk_alloc (blk_alloc hb3)⟩
    ·rintro e w' ⟨rfl, hc, hh⟩
     refine ⟨rfl, hc.mono (by simp), ?_, ?_⟩
     ·rw [hr']
      exact ⟨_, hh, hv3.keepC hg3 hc (by simp; exact hgb), hgb, or_lt hg3 hc, hll⟩
     ·rw [hr']; exact hc.keep hpx (by simp; omega)
   ·have hr' : r = ((beNum (l.take n) : Int), l.drop n, 0) := by rw [hr]; unfold eyeNum; rw [if_neg (by simp), if_neg hlen]
    rcases hv3 with ⟨rfl, rfl⟩ | ⟨o, cap, rfl, hlc, hcm, hcell⟩
    ·simp at hlen; omega
    have hg4 : g < w.heap.size := by
     rcases hg with hg | hg
     ·exact hg
     ·cases hg
    obtain ⟨w5, hw5⟩ : ∃ w5, w5 = (w3.alloc (.cells #[.pointer (some ⟨b, 0, none⟩)] 120)).alloc (.cells #[.slice (some ⟨g, o, none⟩) l.length cap] 30) := ⟨_, rfl⟩
    have hc5 : Chg [] w3 w5 := by rw [hw5]; exact ((Chg.refl [] w3).alloc _).alloc _
    have hcell5 : ∀ i, i < l.length -> w5.cell? ⟨g, o + i, none⟩ = some (bv (l.getD i 0)) := fun i hi => hc5.cell (hcell i hi) (by simp)
    have CS := step_ok b g o cap _ _ _ l _ n w5 (hc5.keep hb3 (by simp)) hgb hlc hcm hcell5 (by omega) (by omega) (by omega) (hc5.keep hpw (by simp)) (hc5.keep hpe (by simp)) (hc5.keep hpx (by simp)) (by omega)
    rw [hw5] at CS
    refine (read_ret b _ 102 _ w3 enters1 _ _ _ rfl hb3 _ CS).mono ?_
    rintro e w' ⟨rfl, w1, hq, rfl⟩
    rw [<- hw5] at hq
    have hcq : Chg [b, w.heap.size + 1 + 1] w3 w1 := by
     rw [hq]
     exact ((hc5.mono (by simp)).setCell (p := ⟨b, 1, none⟩) (.inl (by simp)) _).setCell (p := ⟨w.heap.size + 1 + 1, 0, none⟩) (.inl (by simp)) _
    have hb1 : w1.heap[b]? = some (.cells #[.bool true, .slice (some ⟨g, if cap = n then o else o + n, none⟩) (l.length - n) (cap - n), .int .i64 0] 159 (0, 0)) := by
     rw [hq]; exact blk_sets (set_blk (hc5.keep hb3 (by simp))) (by omega)
    have hx1 : w1.heap[w.heap.size + 1 + 1]? = some (.cells #[.int .i64 (beNum (l.take n))] 3 (0, 0)) := by
     rw [hq]; exact set_blk (blk_sets (hc5.keep hpx (by simp)) (by omega))
    refine ⟨rfl, hcq.alloc _, ?_, ?_⟩
    ·rw [hr']
     refine ⟨_, blk_alloc hb1, ?_, hgb, ?_, ?_⟩
     ·exact (EyeV.dropped hlc hcm hcell (by omega)).keep ((hcq.alloc _).block g (by omega) (by simp; omega))
     ·exact .inl (Nat.lt_of_lt_of_le (by omega) (hcq.alloc _).size)
     ·show (l.drop n).length <= _
      rw [List.length_drop]; omega
    ·rw [hr']; exact blk_alloc hx1
  ·have hr' : r = (0, l, bad) := by rw [hr]; unfold eyeNum; rw [if_pos hbad]
   refine (read_done b v bad 102 _ w3 hb3 hbad).mono ?_
   rintro e w' ⟨rfl, rfl⟩
   rw [hr']
   refine ⟨rfl, (Chg.refl _ _).alloc _, ⟨v, blk_alloc hb3, hv3.keepC hg3 ((Chg.refl [] w3).alloc _) (by simp), hgb, or_lt hg3 ((Chg.refl [] w3).alloc _), hll⟩, blk_alloc hpx⟩
 rw [<- hr]
 have HC := LH hc3
 have HW := LH hw3
 have hmf : ∀ (fn : Fn) (first cap : Array Value) (w : World), (Instr.makeFunc fn first cap).run Tryz.prog w = .ok (.func fn first cap) w := fun _ _ _ _ => rfl
 clear hb hv hb3 hpe hpw hpx hc3 hr hE hw3 hv3
 go_enter Tryz.func54, Tryz.ntmps54
 go_wp2_with fail
 rw [<- HW.out]
 refine CR.out.mono ?_
 rintro e w4 ⟨rfl, H4⟩
 have x0 := blk_cell H4.out.2.2 0 _ rfl
 go_wp2
 go_ret
 exact ⟨rfl, H4.out.2.1, HC.out.trans H4.out.1 (by
  intro x hx
  simp at hx
  rcases hx with rfl | rfl
  ·exact .inl (by simp)
  ·exact .inr (by omega))⟩
theorem efail_any (b g : Nat) (l : List UInt8) (bad : Int) (w : World) (h : EyeAt w b g l bad) :
  Calls Tryz.prog 55 #[.pointer (some ⟨b, 0, none⟩)] w fun e w' => e = .returned (.int .i64 bad) /\ w = w' := by
 obtain ⟨v, hb, _, _, _, _⟩ := h
 have h0 := blk_cell hb 0 _ rfl
 have h2 := blk_cell hb 2 _ rfl
 clear hb
 go_enter Tryz.func55, Tryz.ntmps55
 go_wp2
 go_ret
 exact ⟨rfl, rfl⟩
theorem eleft_any (b g : Nat) (l : List UInt8) (bad : Int) (w : World) (h : EyeAt w b g l bad) :
  Calls Tryz.prog 158 #[.pointer (some ⟨b, 0, none⟩)] w fun e w' => e = .returned (.int .i64 l.length) /\ w = w' := by
 obtain ⟨v, hb, hv, _, _, _⟩ := h
 obtain ⟨a, cap, rfl⟩ := hv.slice
 have h1 := blk_cell hb 1 _ rfl
 clear hb hv
 go_enter Tryz.func158, Tryz.ntmps158
 go_wp2
 go_ret
 exact ⟨rfl, rfl⟩
theorem clone_any (v : Value) (l : List UInt8) (w : World) (h : BytesAt w v l) (hl : l.length <= 1000000000) :
  Calls Tryz.prog 43 #[v] w fun e w' => ∃ v', e = .returned v' /\ BRow w' v' l /\ (∀ g, v'.ownBlock = some g -> w.heap.size <= g) /\ Chg [] w w' := by
 obtain ⟨a, cap, rfl, h1, h2, h3⟩ := h
 cases a with
 | none =>
  obtain ⟨rfl, rfl⟩ : l = [] /\ cap = 0 := by
   rcases h3 with h3 | ⟨g, o, h, _⟩
   ·exact h3
   ·cases h
  have hq : ∀ w, (binOp .eql 30 (.slice none 0 0) (.slice none 0 0)).run Tryz.prog w = .ok (.bool true) w := fun w => Lib.run_eql_slice_nil w 30 5 none 0 0 0 0 Tryz.underlying30
  go_enter Tryz.func43, Tryz.ntmps43
  go_wp2
  go_ret
  exact ⟨_, rfl, BRow.nil _, by simp [Value.ownBlock], Chg.refl _ _⟩
 | some ad =>
  have hB : BytesAt w (.slice (some ad) l.length cap) l := ⟨_, _, rfl, h1, h2, h3⟩
  have hr : BRow (w.alloc (.cells #[] 5)) (.slice (some ⟨w.heap.size, 0, none⟩) 0 0) [] := World.ownsRow_made w #[] 0 (Nat.zero_le _) (by unfold maxLen; omega) rfl
  have hc0 : Chg [] w (w.alloc (.cells #[] 5)) := (Chg.refl [] w).alloc _
  have hB1 : BytesAt (w.alloc (.cells #[] 5)) (.slice (some ad) l.length cap) l := by
   refine ⟨_, _, rfl, h1, h2, ?_⟩
   rcases h3 with h3 | ⟨g, o, he, hcell⟩
   ·exact .inl h3
   ·exact .inr ⟨g, o, he, fun i hi => hc0.cell (hcell i hi) (by simp)⟩
  have HB := LH hB1
  have HR := LH hr
  have HC := LH hc0
  have hq : ∀ w, (binOp .eql 30 (.slice (some ad) l.length cap) (.slice none 0 0)).run Tryz.prog w = .ok (.bool false) w := fun w => Lib.run_eql_slice_nil w 30 5 (some ad) _ _ 0 0 Tryz.underlying30
  clear hB hB1 hr hc0 h3
  go_enter Tryz.func43, Tryz.ntmps43
  go_wp2_with (at_builtin; refine wpList_appB rfl _ _ rfl (.slice (some ⟨w.heap.size, 0, none⟩) 0 0) [] rfl HR.out _ l rfl HB.out (by simp; omega) ?_; intro v1 w1 ho1 hg1 hat1)
  go_ret
  refine ⟨v1, rfl, by simpa using ho1, ?_, HC.out.grown hg1 (by simp [Value.ownBlock])⟩
  intro g hg
  rcases hat1 with h | h
  ·rw [h] at hg; simp [Value.ownBlock] at hg; omega
  ·rw [h] at hg; simp at hg; omega
theorem neweye_any (v : Value) (l : List UInt8) (w : World) (h : BytesAt w v l) (hl : l.length <= 1000000) :
  Calls Tryz.prog 53 #[v] w fun e w' => ∃ b g, e = .returned (.pointer (some ⟨b, 0, none⟩)) /\ EyeAt w' b g l 0 /\ w.heap.size <= b /\ w.heap.size <= g /\ Chg [] w w' := by
 have CC := LH (clone_any v l w h (by omega))
 clear h
 go_enter Tryz.func53, Tryz.ntmps53
 go_wp2_with fail
 refine CC.out.mono ?_
 rintro e w1 ⟨v1, rfl, hr, hg, hc⟩
 have hsl : ∃ a cap, v1 = .slice a l.length cap := by
  obtain ⟨a, cap, h, _⟩ := hr.bytes
  exact ⟨a, cap, h⟩
 obtain ⟨a, cap, rfl⟩ := hsl
 have HR := LH hr
 have HG := LH hg
 have HC := LH hc
 clear hr hg hc CC
 go_wp2
 go_ret
 have hw : w.heap.size <= w1.heap.size := HC.out.size
 have hca := (Chg.refl [] w1).alloc (.cells #[.bool true, .slice a l.length cap, .int .i64 0] 159)
 cases a with
 | none =>
  have hn : (Value.slice none l.length cap = .slice none 0 0) /\ l = [] := by
   rcases HR.out.2 with ⟨h1, h2⟩ | ⟨g, c, cur, h1, _⟩
   ·exact ⟨h1, List.eq_nil_of_length_eq_zero h2⟩
   ·cases h1
  exact ⟨w1.heap.size, w1.heap.size + 1, rfl, ⟨_, heap_alloc_new w1 _, .inl hn, by omega, .inr hn.1, hl⟩, hw, by omega, HC.out.alloc _⟩
 | some x =>
  have hx := HG.out x.block rfl
  have hl2 := HR.out.lt x.block rfl
  refine ⟨w1.heap.size, x.block, rfl, ⟨_, heap_alloc_new w1 _, ?_, by omega, .inl (by simp; omega), hl⟩, hw, hx, HC.out.alloc _⟩
  rcases HR.out.2 with ⟨h1, h2⟩ | ⟨g, c, cur, h1, _⟩
  ·cases h1
  ·obtain ⟨aa, cc, h3, h4, h5, h6⟩ := (HR.out.keep (fun g' hg' => hca.block g' (HR.out.lt g' hg') (by simp))).bytes
   obtain ⟨rfl, rfl⟩ : x = ⟨g, 0, none⟩ /\ cap = c := by simpa using h1
   obtain ⟨rfl, rfl⟩ : some (⟨g, 0, none⟩ : Addr) = aa /\ cap = cc := by simpa using h3
   refine .inr ⟨0, cap, rfl, h4, h5, ?_⟩
   rcases h6 with ⟨h6, _⟩ | ⟨g2, o2, h6, h7⟩
   ·intro i hi
    rw [h6] at hi; simp at hi
   ·obtain ⟨rfl, rfl⟩ : g = g2 /\ 0 = o2 := by simpa using h6
    exact h7
def penAdd (l : List UInt8) (bad : Int) (m : List UInt8) : List UInt8 × Int :=
 if bad ≠ 0 then (l, bad) else if 65536 < l.length + m.length then (l, 3) else (l ++ m, 0)
def beBytes : Nat -> Nat -> List UInt8
 | 0, _ => []
 | n + 1, x => UInt8.ofNat (x / 256 ^ n) :: beBytes n x
theorem beBytes_len (n x : Nat) : (beBytes n x).length = n := by
 induction n with
 | zero => rfl
 | succ n ih => simp [beBytes, ih]
def penNum (l : List UInt8) (bad : Int) (x : Int) (n : Nat) : List UInt8 × Int :=
 if bad ≠ 0 then (l, bad) else if x < 0 ∨ ((256 ^ n : Nat) : Int) <= x then (l, 1) else penAdd l bad (beBytes n x.toNat)
def penBool (l : List UInt8) (bad : Int) (q : Bool) : List UInt8 × Int := penAdd l bad [if q then 1 else 0]
def PenAt (t : TypeId) (w : World) (b : Nat) (g : Option Nat) (l : List UInt8) (bad : Int) : Prop :=
 ∃ v, w.heap[b]? = some (.cells #[v, .int .i64 bad] t (0, 0)) /\ BRow w v l /\ v.ownBlock = g /\ g ≠ some b /\ l.length <= 65536
theorem PenAt.keep {t : TypeId} {w w' : World} {b : Nat} {g : Option Nat} {l : List UInt8} {bad : Int} {S : List Nat} (h : PenAt t w b g l bad) (hc : Chg S w w') (hb : b ∉ S) (hg : ∀ k, g = some k -> k ∉ S) : PenAt t w' b g l bad := by
 obtain ⟨v, h1, h2, h3, h4, h5⟩ := h
 exact ⟨v, hc.keep h1 hb, h2.keep (fun k hk => hc.block k (h2.lt k hk) (hg k (h3.symm.trans hk))), h3, h4, h5⟩
theorem PenAt.lt {t : TypeId} {w : World} {b : Nat} {g : Option Nat} {l : List UInt8} {bad : Int} (h : PenAt t w b g l bad) : b < w.heap.size /\ ∀ k, g = some k -> k < w.heap.size := by
 obtain ⟨v, h1, h2, h3, h4, h5⟩ := h
 exact ⟨blk_lt h1, fun k hk => h2.lt k (h3.trans hk)⟩
def Wrote (t : TypeId) (w w' : World) (b : Nat) (g : Option Nat) (r : List UInt8 × Int) : Prop :=
 ∃ g', PenAt t w' b g' r.1 r.2 /\ (g' = g ∨ ∃ k, g' = some k /\ w.heap.size <= k) /\ Chg (b :: g.toList) w w'
theorem Wrote.same {t : TypeId} {w : World} {b : Nat} {g : Option Nat} {l : List UInt8} {bad : Int} (h : PenAt t w b g l bad) : Wrote t w w b g (l, bad) := ⟨g, h, .inl rfl, Chg.refl _ _⟩
theorem PenAt.stored {t : TypeId} {w w1 : World} {b : Nat} {g : Option Nat} {l' : List UInt8} {bad : Int} {v v' : Value} (hb : w.heap[b]? = some (.cells #[v, .int .i64 bad] t (0, 0))) (hg : v.ownBlock = g) (hne : g ≠ some b)
  (hr : BRow w1 v' l') (hgr : w.grownBy w1 v.ownBlock) (hat : v'.ownBlock = v.ownBlock ∨ v'.ownBlock = some w.heap.size) (hl : l'.length <= 65536) : Wrote t w (w1.setCell ⟨b, 0, none⟩ v') b g (l', bad) := by
 have hbl := blk_lt hb
 have hb1 : w1.heap[b]? = some (.cells #[v, .int .i64 bad] t (0, 0)) := (hgr.block b hbl (fun e => hne (by rw [<- hg]; exact e.symm))).trans hb
 have hne' : v'.ownBlock ≠ some b := by
  rcases hat with h | h
  ·rw [h, hg]; exact hne
  ·rw [h]; intro e; simp at e; omega
 refine ⟨v'.ownBlock, ⟨v', set_blk hb1, hr.keep (fun k hk => Below.heap_setCell w1 _ _ k (fun e => hne' (by rw [hk, e]))), rfl, hne', hl⟩, ?_, ?_⟩
 ·rcases hat with h | h
  ·exact .inl (h.trans hg)
  ·exact .inr ⟨_, h, Nat.le_refl _⟩
 ·refine ((Chg.refl _ w).grown hgr (fun k hk => .inl ?_)).setCell (p := ⟨b, 0, none⟩) (.inl (List.mem_cons_self ..)) _
  rw [hg] at hk; rw [hk]; simp
theorem BRow.slice {w : World} {v : Value} {l : List UInt8} (h : BRow w v l) : ∃ a cap, v = .slice a l.length cap := by
 obtain ⟨a, cap, h, _⟩ := h.bytes
 exact ⟨a, cap, h⟩
theorem PenAt.app {t : TypeId} {w w1 : World} {b : Nat} {g : Option Nat} {l m : List UInt8} {bad : Int} {v v' : Value} (hb : w.heap[b]? = some (.cells #[v, .int .i64 bad] t (0, 0))) (hg : v.ownBlock = g) (hne : g ≠ some b) (hlong : ¬ 65536 < l.length + m.length)
  (hr : BRow w1 v' (l ++ m)) (hgr : w.grownBy w1 v.ownBlock) (hat : v'.ownBlock = v.ownBlock ∨ v'.ownBlock = some w.heap.size) :
  Hid (Wrote t w (w1.setCell ⟨b, 0, none⟩ v') b g (l ++ m, bad)) /\ w1.cell? ⟨b, 0, none⟩ = some v /\ w1.frozen? ⟨b, 0, none⟩ = false /\ ∃ a c, v' = .slice a (l.length + m.length) c := by
 have hb1 : w1.heap[b]? = some (.cells #[v, .int .i64 bad] t (0, 0)) := (hgr.block b (blk_lt hb) (fun e => hne (by rw [<- hg]; exact e.symm))).trans hb
 refine ⟨PenAt.stored hb hg hne hr hgr hat (by rw [List.length_append]; omega), blk_cell hb1 0 _ rfl, blk_frozen hb1 0, ?_⟩
 obtain ⟨a, c, h⟩ := hr.slice
 exact ⟨a, c, by rw [h, List.length_append]⟩
theorem put_any (b : Nat) (g : Option Nat) (l : List UInt8) (bad : Int) (a : Option Addr) (cap : Nat) (m : List UInt8) (w : World) (h : PenAt 110 w b g l bad) (hm : BytesAt w (.slice a m.length cap) m) (hml : m.length <= 1000000) :
  Calls Tryz.prog 98 #[.pointer (some ⟨b, 0, none⟩), .int .i64 0, .slice a m.length cap] w fun e w' => e = .returned (.tuple #[]) /\ Wrote 110 w w' b g (penAdd l bad m) := by
 have hP := LH h
 obtain ⟨v, hb, hr, hg, hne, hl⟩ := h
 have b0 := blk_cell hb 0 _ rfl
 have b1 := blk_cell hb 1 _ rfl
 have f0 := blk_frozen hb 0
 have f1 := blk_frozen hb 1
 have hbl := blk_lt hb
 by_cases hbad : bad = 0
 ·subst hbad
  obtain ⟨av, cv, rfl⟩ := hr.slice
  by_cases hlong : 65536 < l.length + m.length
  ·have HR : Hid (penAdd l 0 m = (l, 3)) := LH (by unfold penAdd; rw [if_neg (by simp), if_pos hlong])
   have HF : Hid (Wrote 110 w (w.setCell ⟨b, 1, none⟩ (.int .i64 3)) b g (l, 3)) := by
    have hc := (Chg.refl (b :: g.toList) w).setCell (p := ⟨b, 1, none⟩) (.inl (by simp)) (.int .i64 3)
    exact ⟨g, ⟨_, set_blk hb, hr.keep (fun k hk => Below.heap_setCell w _ _ k (fun e => hne (by rw [<- hg, hk, e]))), hg, hne, hl⟩, .inl rfl, hc⟩
   have q1 : decide ((65536 : Int) - (l.length : Int) < (m.length : Int)) = true := by simp; omega
   have h3 : (65536 : Int) - (l.length : Int) < (m.length : Int) := by omega
   rw [HR.out]
   clear hb hr hm hg
   go_enter Tryz.func98, Tryz.ntmps98
   go_wp2
   go_end0
   exact ⟨rfl, HF.out⟩
  ·have HR : Hid (penAdd l 0 m = (l ++ m, 0)) := LH (by unfold penAdd; rw [if_neg (by simp), if_neg hlong])
   have h3 : ¬ ((65536 : Int) - (l.length : Int) < (m.length : Int)) := by omega
   have HRow := LH hr
   have HB := LH hb
   have HG := LH hg
   have HM := LH hm
   rw [HR.out]
   clear hb hr hm hg
   go_enter Tryz.func98, Tryz.ntmps98
   go_wp2_with (at_builtin; refine wpList_appB rfl _ _ rfl _ l rfl HRow.out _ m rfl HM.out (by omega) ?_; intro v1 w1 ho1 hg1 hat1
                obtain ⟨HF, d0, e0, a1, c1, rfl⟩ := PenAt.app HB.out HG.out hne hlong ho1 hg1 hat1
                clear ho1 hg1 hat1)
   go_end0
   exact ⟨rfl, HF.out⟩
 ·have HR : Hid (penAdd l bad m = (l, bad)) := LH (by unfold penAdd; rw [if_pos hbad])
  have q2 : (bad != 0) = true := by simp [hbad]
  rw [HR.out]
  clear hb hr hbad hm hg
  go_enter Tryz.func98, Tryz.ntmps98
  go_wp2
  go_end0
  exact ⟨rfl, Wrote.same hP.out⟩
theorem put_err (b : Nat) (g : Option Nat) (l : List UInt8) (bad x : Int) (v3 : Value) (w : World) (h : PenAt 110 w b g l bad) (hx : x ≠ 0) :
  Calls Tryz.prog 98 #[.pointer (some ⟨b, 0, none⟩), .int .i64 x, v3] w fun e w' => e = .returned (.tuple #[]) /\ Wrote 110 w w' b g (l, if bad ≠ 0 then bad else x) := by
 have hP := LH h
 obtain ⟨v, hb, hr, hg, hne, hl⟩ := h
 have b1 := blk_cell hb 1 _ rfl
 have f1 := blk_frozen hb 1
 have hbl := blk_lt hb
 have q3 : (x != 0) = true := by simp [hx]
 by_cases hbad : bad = 0
 ·subst hbad
  have HF : Hid (Wrote 110 w (w.setCell ⟨b, 1, none⟩ (.int .i64 x)) b g (l, x)) := by
   have hc := (Chg.refl (b :: g.toList) w).setCell (p := ⟨b, 1, none⟩) (.inl (by simp)) (.int .i64 x)
   exact ⟨g, ⟨_, set_blk hb, hr.keep (fun k hk => Below.heap_setCell w _ _ k (fun e => hne (by rw [<- hg, hk, e]))), hg, hne, hl⟩, .inl rfl, hc⟩
  rw [if_neg (by simp)]
  clear hb hr hg hx
  go_enter Tryz.func98, Tryz.ntmps98
  go_wp2
  go_end0
  exact ⟨rfl, HF.out⟩
 ·rw [if_pos hbad]
  have q2 : (bad != 0) = true := by simp [hbad]
  clear hb hr hbad hg hx
  go_enter Tryz.func98, Tryz.ntmps98
  go_wp2
  go_end0
  exact ⟨rfl, Wrote.same hP.out⟩
theorem radd_any (b : Nat) (g : Option Nat) (l : List UInt8) (bad : Int) (a : Option Addr) (cap : Nat) (m : List UInt8) (w : World) (h : PenAt 117 w b g l bad) (hm : BytesAt w (.slice a m.length cap) m) (hml : m.length <= 1000000) :
  Calls Tryz.prog 99 #[.pointer (some ⟨b, 0, none⟩), .slice a m.length cap] w fun e w' => e = .returned (.tuple #[]) /\ Wrote 117 w w' b g (penAdd l bad m) := by
 have hP := LH h
 obtain ⟨v, hb, hr, hg, hne, hl⟩ := h
 have b0 := blk_cell hb 0 _ rfl
 have b1 := blk_cell hb 1 _ rfl
 have f0 := blk_frozen hb 0
 have f1 := blk_frozen hb 1
 have hbl := blk_lt hb
 by_cases hbad : bad = 0
 ·subst hbad
  obtain ⟨av, cv, rfl⟩ := hr.slice
  by_cases hlong : 65536 < l.length + m.length
  ·have HR : Hid (penAdd l 0 m = (l, 3)) := LH (by unfold penAdd; rw [if_neg (by simp), if_pos hlong])
   have HF : Hid (Wrote 117 w (w.setCell ⟨b, 1, none⟩ (.int .i64 3)) b g (l, 3)) := by
    have hc := (Chg.refl (b :: g.toList) w).setCell (p := ⟨b, 1, none⟩) (.inl (by simp)) (.int .i64 3)
    exact ⟨g, ⟨_, set_blk hb, hr.keep (fun k hk => Below.heap_setCell w _ _ k (fun e => hne (by rw [<- hg, hk, e]))), hg, hne, hl⟩, .inl rfl, hc⟩
   have h3 : (65536 : Int) < (l.length : Int) + (m.length : Int) := by omega
   rw [HR.out]
   clear hb hr hm hg
   go_enter Tryz.func99, Tryz.ntmps99
   go_wp2
   go_end0
   exact ⟨rfl, HF.out⟩
  ·have HR : Hid (penAdd l 0 m = (l ++ m, 0)) := LH (by unfold penAdd; rw [if_neg (by simp), if_neg hlong])
   have h3 : ¬ ((65536 : Int) < (l.length : Int) + (m.length : Int)) := by omega
   have HRow := LH hr
   have HB := LH hb
   have HG := LH hg
   have HM := LH hm
   rw [HR.out]
   clear hb hr hm hg
   go_enter Tryz.func99, Tryz.ntmps99
   go_wp2_with (at_builtin; refine wpList_appB rfl _ _ rfl _ l rfl HRow.out _ m rfl HM.out (by omega) ?_; intro v1 w1 ho1 hg1 hat1
                obtain ⟨HF, d0, e0, a1, c1, rfl⟩ := PenAt.app HB.out HG.out hne hlong ho1 hg1 hat1
                clear ho1 hg1 hat1)
   go_end0
   exact ⟨rfl, HF.out⟩
 ·have HR : Hid (penAdd l bad m = (l, bad)) := LH (by unfold penAdd; rw [if_pos hbad])
  have q2 : (bad == 0) = false := by simp [hbad]
  rw [HR.out]
  clear hb hr hbad hm hg
  go_enter Tryz.func99, Tryz.ntmps99
  go_wp2
  go_end0
  exact ⟨rfl, Wrote.same hP.out⟩
theorem pow_wrap (n : Nat) (h : n <= 7) : ∃ M : Nat, M = 256 ^ n /\ wrap64 ((2 : Int) ^ (8 * n)) = (M : Int) := by
 have hp : (256 : Nat) ^ n = 2 ^ (8 * n) := by rw [show (256 : Nat) = 2 ^ 8 from rfl, <- Nat.pow_mul]
 have hle : (2 : Nat) ^ (8 * n) <= 2 ^ 56 := Nat.pow_le_pow_right (by omega) (by omega)
 refine ⟨_, rfl, ?_⟩
 rw [hp]
 have : ((2 : Int) ^ (8 * n)) = ((2 ^ (8 * n) : Nat) : Int) := by push_cast; rfl
 rw [this]
 generalize (2 : Nat) ^ (8 * n) = z at *
 rw [wrap64]
 omega
theorem byte_of (x k : Nat) : bv (UInt8.ofNat (x / 256 ^ k)) = .int .u8 ((x : Int) / 2 ^ (8 * k) % 256) := by
 unfold bv
 rw [UInt8.toNat_ofNat', show (256 : Nat) ^ k = 2 ^ (8 * k) by rw [show (256 : Nat) = 2 ^ 8 from rfl, <- Nat.pow_mul]]
 congr 1
theorem one_byte (w : World) (c : UInt8) (v : Value) (hv : bv c = v) : BytesAt (w.alloc (.cells #[v] 5)) (.slice (some ⟨w.heap.size, 0, none⟩) 1 1) [c] := by
 refine ⟨_, 1, rfl, by simp, by unfold maxLen; omega, .inr ⟨_, 0, rfl, fun i hi => ?_⟩⟩
 have : i = 0 := by simpa using hi
 subst this
 have h := blk_cell (heap_alloc_new w (.cells #[v] 5)) 0 v rfl
 rw [hv.symm] at h
 rw [<- hv]
 exact h
theorem Wrote.before {t : TypeId} {w0 w w' : World} {b : Nat} {g : Option Nat} {r : List UInt8 × Int} (h : Wrote t w w' b g r) (hc : Chg [] w0 w) : Wrote t w0 w' b g r := by
 obtain ⟨g', h1, h2, h3⟩ := h
 refine ⟨g', h1, ?_, (hc.mono (by simp)).trans h3 (fun x hx => .inl hx)⟩
 rcases h2 with h2 | ⟨k, h2, h4⟩
 ·exact .inl h2
 ·exact .inr ⟨k, h2, Nat.le_trans hc.size h4⟩
theorem pnum_ok (b : Nat) (g : Option Nat) (l : List UInt8) (bad : Int) (x n : Nat) (w : World) (h : PenAt 110 w b g l bad) (h1 : 1 <= n) (h7 : n <= 7) (hx : x < 256 ^ n) :
  Calls Tryz.prog 45 #[.pointer (some ⟨b, 0, none⟩), .int .i64 x, .int .i64 n] w fun e w' => e = .returned (.tuple #[]) /\ Wrote 110 w w' b g (penAdd l bad (beBytes n x)) := by
 have HP := LH h
 have hbl := h.lt.1
 have hp : (256 : Nat) ^ n = 2 ^ (8 * n) := by rw [show (256 : Nat) = 2 ^ 8 from rfl, <- Nat.pow_mul]
 have hq : (((x : Int) / 2 ^ (8 * n)) != 0) = false := by
  rw [bne_eq_false_iff_eq]
  have : x / 2 ^ (8 * n) = 0 := Nat.div_eq_of_lt (by rw [<- hp]; exact hx)
  exact_mod_cast this
 have hx0 : (0 : Int) <= (x : Int) := by omega
 have HX := LH hx
 clear h hp hx
 go_enter Tryz.func45, Tryz.ntmps45
 go_wp2_with (go_at_call 97; refine (wmay_yes _ _ (by omega) (by omega)).mono ?_; rintro e w' ⟨rfl, rfl⟩)
 go_loopg [6, 7] n (fun g' s6 s7 wr => ∃ (m : Nat) (o : List UInt8), s7 = .int .i64 ((m : Int) - 1) /\ m <= n /\ m <= g' /\ Hid (BRow wr s6 o) /\ Hid (o ++ beBytes m x = beBytes n x) /\ Chg [] w wr /\ (∀ k, s6.ownBlock = some k -> w.heap.size <= k) /\ o.length + m <= 10)
 case atStart => exact ⟨n, [], rfl, by omega, by omega, BRow.nil _, LH (List.nil_append _), Chg.refl _ _, by simp [Value.ownBlock], by simp; omega⟩
 case round =>
  obtain ⟨m, o, rfl, hm, hmg, HR, HE, hc, hfr, hol⟩ := hrel
  have HC := LH hc
  have HF := LH hfr
  have hws := hc.size
  clear hc hfr
  cases m with
  | zero =>
   obtain ⟨a6, c6, rfl⟩ := HR.out.slice
   have ho : o = beBytes n x := by simpa [beBytes] using HE.out
   have CP := LH (put_any b g l bad a6 c6 o wr (HP.out.keep HC.out (by simp) (by simp)) HR.out.bytes (by omega))
   rw [ho] at CP
   have HO := LH ho
   have h00 : ((0 : Nat) : Int) - 1 = -1 := by omega
   rw [<- ho] at CP
   clear ho
   go_wp2_with fail
   refine CP.out.mono ?_
   rintro e w2 ⟨rfl, HW⟩
   have HW2 := LH HW
   clear HW
   go_wp2
   go_end0
   rw [<- HO.out]
   refine ⟨rfl, Wrote.before HW2.out HC.out⟩
  | succ k =>
   rw [show (((k + 1 : Nat) : Int) - 1) = (k : Int) from by omega]
   have hk0 : (0 : Int) <= (k : Int) := by omega
   have hv : bv (UInt8.ofNat (x / 256 ^ k)) = .int .u8 ((x : Int) / 2 ^ (8 * k) % 256) := byte_of x k
   have HB := LH (one_byte wr _ _ hv)
   have HE2 : Hid ((o ++ [UInt8.ofNat (x / 256 ^ k)]) ++ beBytes k x = beBytes n x) := LH (by rw [List.append_assoc]; exact HE.out)
   have HR2 := LH (HR.out.keep (w' := wr.alloc (.cells #[.int .u8 ((x : Int) / 2 ^ (8 * k) % 256)] 5)) (fun g hg => heap_alloc_old wr _ (HR.out.lt g hg)))
   clear hv
   go_wp2_with (at_builtin; refine wpList_appB rfl _ _ rfl _ o rfl HR2.out _ _ rfl HB.out (by simp; omega) ?_; intro v1 w1 ho1 hg1 hat1)
   go_roundg (gk - 1)
   case measure => omega
   case rel =>
    refine ⟨k, _, rfl, by omega, by omega, ho1, HE2.out, (HC.out.alloc _).grown hg1 (fun q hq => .inr (HF.out q hq)), ?_, by simp; omega⟩
    intro q hq
    rcases hat1 with h | h
    ·exact HF.out q (h.symm.trans hq)
    ·have : wr.heap.size + 1 = q := by
      have := h.symm.trans hq
      simpa using this
     omega
theorem pnum_bad (b : Nat) (g : Option Nat) (l : List UInt8) (bad : Int) (x : Int) (n : Nat) (w : World) (h : PenAt 110 w b g l bad) (h1 : 1 <= n) (h7 : n <= 7) (hx : x < 0 ∨ ((256 ^ n : Nat) : Int) <= x) :
  Calls Tryz.prog 45 #[.pointer (some ⟨b, 0, none⟩), .int .i64 x, .int .i64 n] w fun e w' => e = .returned (.tuple #[]) /\ Wrote 110 w w' b g (l, if bad ≠ 0 then bad else 1) := by
 have CP := LH (put_err b g l bad 1 (.slice none 0 0) w h (by omega))
 generalize (if bad ≠ 0 then bad else (1 : Int)) = x1 at *
 clear h
 by_cases h0 : x < 0
 ·clear hx
  go_enter Tryz.func45, Tryz.ntmps45
  go_wp2_with (go_at_call 97; refine (wmay_yes _ _ (by omega) (by omega)).mono ?_; rintro e w' ⟨rfl, rfl⟩)
  refine CP.out.mono ?_
  rintro e w2 ⟨rfl, HW⟩
  have HW2 := LH HW
  clear HW
  go_wp2
  refine bodyPost_ret (results_none rfl _ _ _) rfl ?_
  exact ⟨rfl, HW2.out⟩
 ·have hp : (256 : Nat) ^ n = 2 ^ (8 * n) := by rw [show (256 : Nat) = 2 ^ 8 from rfl, <- Nat.pow_mul]
  obtain ⟨y, rfl⟩ := Int.eq_ofNat_of_zero_le (show 0 <= x by omega)
  have hy : 256 ^ n <= y := by omega
  have hq : (((y : Int) / 2 ^ (8 * n)) != 0) = true := by
   rw [bne_iff_ne]
   intro e
   have e' : y / 2 ^ (8 * n) = 0 := by exact_mod_cast e
   rw [Nat.div_eq_zero_iff] at e'
   have := Nat.two_pow_pos (8 * n)
   omega
  clear hp hx hy
  go_enter Tryz.func45, Tryz.ntmps45
  go_wp2_with (go_at_call 97; refine (wmay_yes _ _ (by omega) (by omega)).mono ?_; rintro e w' ⟨rfl, rfl⟩)
  refine CP.out.mono ?_
  rintro e w2 ⟨rfl, HW⟩
  have HW2 := LH HW
  clear HW
  go_wp2
  refine bodyPost_ret (results_none rfl _ _ _) rfl ?_
  exact ⟨rfl, HW2.out⟩
theorem pnum_any (b : Nat) (g : Option Nat) (l : List UInt8) (bad : Int) (x width : Int) (w : World) (h : PenAt 110 w b g l bad) (h1 : 1 <= width) (h7 : width <= 7) :
  Calls Tryz.prog 45 #[.pointer (some ⟨b, 0, none⟩), .int .i64 x, .int .i64 width] w fun e w' => e = .returned (.tuple #[]) /\ Wrote 110 w w' b g (penNum l bad x width.toNat) := by
 obtain ⟨n, rfl⟩ := Int.eq_ofNat_of_zero_le (show 0 <= width by omega)
 rw [Int.toNat_natCast]
 by_cases hx : x < 0 ∨ ((256 ^ n : Nat) : Int) <= x
 ·have e : penNum l bad x n = (l, if bad ≠ 0 then bad else 1) := by
   unfold penNum
   rw [if_pos hx]
   split <;> rfl
  rw [e]
  exact pnum_bad b g l bad x n w h (by omega) (by omega) hx
 ·obtain ⟨y, rfl⟩ := Int.eq_ofNat_of_zero_le (show 0 <= x by omega)
  have e : penNum l bad y n = penAdd l bad (beBytes n y) := by
   unfold penNum
   rw [if_neg hx, Int.toNat_natCast]
   split
   ·unfold penAdd; rw [if_pos (by assumption)]
   ·rfl
  rw [e]
  exact pnum_ok b g l bad y n w h (by omega) (by omega) (by omega)
theorem rpnum_ok (b : Nat) (g : Option Nat) (l : List UInt8) (x n : Nat) (w : World) (h : PenAt 117 w b g l 0) (h1 : 1 <= n) (h7 : n <= 7) (hx : x < 256 ^ n) :
  Calls Tryz.prog 49 #[.pointer (some ⟨b, 0, none⟩), .int .i64 x, .int .i64 n] w fun e w' => e = .returned (.tuple #[]) /\ Wrote 117 w w' b g (penAdd l 0 (beBytes n x)) := by
 have HP := LH h
 have hbl := h.lt.1
 obtain ⟨v, hb, _⟩ := h
 have b1 := blk_cell hb 1 _ rfl
 have hx0 : (0 : Int) <= (x : Int) := by omega
 have q1 : decide ((n : Int) < 1) = false := by simp; omega
 have q7 : decide ((7 : Int) < (n : Int)) = false := by simp; omega
 have q0 : decide ((x : Int) < 0) = false := by simp
 obtain ⟨M, hM, hw⟩ := pow_wrap n h7
 have hlt : (x : Int) < (M : Int) := by omega
 have hlt' : ¬ ((M : Int) <= (x : Int)) := by omega
 have f1 := blk_frozen hb 1
 clear hb hx hM
 go_enter Tryz.func49, Tryz.ntmps49
 go_wp2_with fail
 go_loopg [6, 7] n (fun g' s6 s7 wr => ∃ (m : Nat) (o : List UInt8), s7 = .int .i64 ((m : Int) - 1) /\ m <= n /\ m <= g' /\ Hid (BRow wr s6 o) /\ Hid (o ++ beBytes m x = beBytes n x) /\ Chg [] w wr /\ (∀ k, s6.ownBlock = some k -> w.heap.size <= k) /\ o.length + m <= 10)
 case atStart => exact ⟨n, [], rfl, by omega, by omega, BRow.nil _, LH (List.nil_append _), Chg.refl _ _, by simp [Value.ownBlock], by simp; omega⟩
 case round =>
  obtain ⟨m, o, rfl, hm, hmg, HR, HE, hc, hfr, hol⟩ := hrel
  have HC := LH hc
  have HF := LH hfr
  have hws := hc.size
  clear hc hfr
  cases m with
  | zero =>
   obtain ⟨a6, c6, rfl⟩ := HR.out.slice
   have ho : o = beBytes n x := by simpa [beBytes] using HE.out
   have CP := LH (radd_any b g l 0 a6 c6 o wr (HP.out.keep HC.out (by simp) (by simp)) HR.out.bytes (by omega))
   rw [ho] at CP
   have HO := LH ho
   have h00 : ((0 : Nat) : Int) - 1 = -1 := by omega
   rw [<- ho] at CP
   clear ho
   go_wp2_with fail
   refine CP.out.mono ?_
   rintro e w2 ⟨rfl, HW⟩
   have HW2 := LH HW
   clear HW
   go_wp2
   go_end0
   rw [<- HO.out]
   refine ⟨rfl, Wrote.before HW2.out HC.out⟩
  | succ k =>
   rw [show (((k + 1 : Nat) : Int) - 1) = (k : Int) from by omega]
   have hk0 : (0 : Int) <= (k : Int) := by omega
   have hv : bv (UInt8.ofNat (x / 256 ^ k)) = .int .u8 ((x : Int) / 2 ^ (8 * k) % 256) := byte_of x k
   have HB := LH (one_byte wr _ _ hv)
   have HE2 : Hid ((o ++ [UInt8.ofNat (x / 256 ^ k)]) ++ beBytes k x = beBytes n x) := LH (by rw [List.append_assoc]; exact HE.out)
   have HR2 := LH (HR.out.keep (w' := wr.alloc (.cells #[.int .u8 ((x : Int) / 2 ^ (8 * k) % 256)] 5)) (fun g hg => heap_alloc_old wr _ (HR.out.lt g hg)))
   clear hv
   go_wp2_with (at_builtin; refine wpList_appB rfl _ _ rfl _ o rfl HR2.out _ _ rfl HB.out (by simp; omega) ?_; intro v1 w1 ho1 hg1 hat1)
   go_roundg (gk - 1)
   case measure => omega
   case rel =>
    refine ⟨k, _, rfl, by omega, by omega, ho1, HE2.out, (HC.out.alloc _).grown hg1 (fun q hq => .inr (HF.out q hq)), ?_, by simp; omega⟩
    intro q hq
    rcases hat1 with h | h
    ·exact HF.out q (h.symm.trans hq)
    ·have : wr.heap.size + 1 = q := by
      have := h.symm.trans hq
      simpa using this
     omega
theorem rpnum_bad (b : Nat) (g : Option Nat) (l : List UInt8) (bad : Int) (x : Int) (n : Nat) (w : World) (h : PenAt 117 w b g l bad) (h1 : 1 <= n) (h7 : n <= 7) (hx : bad ≠ 0 ∨ x < 0 ∨ ((256 ^ n : Nat) : Int) <= x) :
  Calls Tryz.prog 49 #[.pointer (some ⟨b, 0, none⟩), .int .i64 x, .int .i64 n] w fun e w' => e = .returned (.tuple #[]) /\ Wrote 117 w w' b g (l, if bad ≠ 0 then bad else 1) := by
 have hP := LH h
 obtain ⟨v, hb, hr, hg, hne, hl⟩ := h
 have b1 := blk_cell hb 1 _ rfl
 have f1 := blk_frozen hb 1
 have hbl := blk_lt hb
 by_cases hbad : bad = 0
 ·subst hbad
  have HF : Hid (Wrote 117 w (w.setCell ⟨b, 1, none⟩ (.int .i64 1)) b g (l, 1)) := by
   have hc := (Chg.refl (b :: g.toList) w).setCell (p := ⟨b, 1, none⟩) (.inl (by simp)) (.int .i64 1)
   exact ⟨g, ⟨_, set_blk hb, hr.keep (fun k hk => Below.heap_setCell w _ _ k (fun e => hne (by rw [<- hg, hk, e]))), hg, hne, hl⟩, .inl rfl, hc⟩
  rw [if_neg (by simp)]
  have q1 : decide ((n : Int) < 1) = false := by simp; omega
  have q7 : decide ((7 : Int) < (n : Int)) = false := by simp; omega
  obtain ⟨M, hM, hw⟩ := pow_wrap n h7
  rw [<- hM] at hx
  have hx2 : x < 0 ∨ (M : Int) <= x := by
   rcases hx with h | h
   ·exact absurd rfl h
   ·exact h
  clear hb hr hM hx hg
  by_cases h0 : x < 0
  ·have q0 : decide (x < 0) = true := by simpa using h0
   clear hx2
   go_enter Tryz.func49, Tryz.ntmps49
   go_wp2_with fail
   refine bodyPost_ret (results_none rfl _ _ _) rfl ?_
   exact ⟨rfl, HF.out⟩
  ·have q0 : decide (x < 0) = false := by simpa using h0
   have hlt : (M : Int) <= x := by omega
   clear hx2
   go_enter Tryz.func49, Tryz.ntmps49
   go_wp2_with fail
   refine bodyPost_ret (results_none rfl _ _ _) rfl ?_
   exact ⟨rfl, HF.out⟩
 ·rw [if_pos hbad]
  have q1 : (bad == 0) = false := by simp [hbad]
  have q2 : (bad != 0) = true := by simp [hbad]
  clear hb hr hbad hg hx
  go_enter Tryz.func49, Tryz.ntmps49
  go_wp2_with fail
  refine bodyPost_ret (results_none rfl _ _ _) rfl ?_
  exact ⟨rfl, Wrote.same hP.out⟩
theorem rpnum_any (b : Nat) (g : Option Nat) (l : List UInt8) (bad : Int) (x width : Int) (w : World) (h : PenAt 117 w b g l bad) (h1 : 1 <= width) (h7 : width <= 7) :
  Calls Tryz.prog 49 #[.pointer (some ⟨b, 0, none⟩), .int .i64 x, .int .i64 width] w fun e w' => e = .returned (.tuple #[]) /\ Wrote 117 w w' b g (penNum l bad x width.toNat) := by
 obtain ⟨n, rfl⟩ := Int.eq_ofNat_of_zero_le (show 0 <= width by omega)
 rw [Int.toNat_natCast]
 by_cases hx : bad ≠ 0 ∨ x < 0 ∨ ((256 ^ n : Nat) : Int) <= x
 ·have e : penNum l bad x n = (l, if bad ≠ 0 then bad else 1) := by
   unfold penNum
   by_cases hb : bad ≠ 0
   ·rw [if_pos hb, if_pos hb]
   ·rw [if_neg hb, if_neg hb, if_pos (by rcases hx with h | h; exact absurd h hb; exact h)]
  rw [e]
  exact rpnum_bad b g l bad x n w h (by omega) (by omega) hx
 ·obtain ⟨y, rfl⟩ := Int.eq_ofNat_of_zero_le (show 0 <= x by omega)
  obtain rfl : bad = 0 := by omega
  have e : penNum l 0 y n = penAdd l 0 (beBytes n y) := by
   unfold penNum
   rw [if_neg (by simp), if_neg (by omega), Int.toNat_natCast]
  rw [e]
  exact rpnum_ok b g l y n w h (by omega) (by omega) (by omega)
theorem pbytes_any (b : Nat) (g : Option Nat) (l : List UInt8) (w : World) (h : PenAt 110 w b g l 0) :
  Calls Tryz.prog 48 #[.pointer (some ⟨b, 0, none⟩)] w fun e w' => ∃ v', e = .returned (.tuple #[v', .int .i64 0]) /\ BRow w' v' l /\ (∀ g, v'.ownBlock = some g -> w.heap.size <= g) /\ Chg [] w w' := by
 obtain ⟨v, hb, hr, hg, hne, hl⟩ := h
 obtain ⟨av, cv, rfl⟩ := hr.slice
 have b0 := blk_cell hb 0 _ rfl
 have b1 := blk_cell hb 1 _ rfl
 have CC := LH (clone_any _ l w hr.bytes (by omega))
 clear hb hr hg
 go_enter Tryz.func48, Tryz.ntmps48
 go_wp2_with fail
 refine CC.out.mono ?_
 rintro e w1 ⟨v1, rfl, h1, h2, h3⟩
 have H := LH (And.intro h1 (And.intro h2 h3))
 clear h1 h2 h3
 go_wp2
 go_ret2
 exact ⟨_, rfl, H.out⟩
structure Id where
 c : Int
 l : Int
 n : Int
 i : Int
deriving DecidableEq
instance : Inhabited Id := ⟨⟨0, 0, 0, 0⟩⟩
abbrev idC (x : Id) : Array Value := #[.int .i64 x.c, .int .i64 x.l, .int .i64 x.n, .int .i64 x.i]
abbrev idV (x : Id) : Value := .agg (idC x)
def withinB6 (x m : Int) : Bool := decide (0 <= x) && decide (x <= m)
def mayId (x : Id) : Bool := withinB6 x.c 4 && withinB6 x.l 1048576 && withinB6 x.n 1073741824 && withinB6 x.i 15
theorem mayid_any (x : Id) (w : World) : Calls Tryz.prog 138 #[idV x] w fun e w' => e = .returned (.bool (mayId x)) /\ Chg [] w w' := by
 obtain ⟨c, l, n, i⟩ := x
 unfold mayId withinB6
 dsimp only
 go_enter Tryz.func138, Tryz.ntmps138
 go_wp2
 all_goals
  go_ret
  refine ⟨?_, (Chg.refl [] w).alloc _⟩
  first
   | (simp_all; done)
   | (simp; omega)
theorem fold_be (l : List UInt8) : ∀ a : Nat, l.foldl (fun x c => x * 256 + c.toNat) a = a * 256 ^ l.length + beNum l := by
 induction l with
 | nil => intro a; simp [beNum]
 | cons c r ih =>
  intro a
  rw [List.foldl_cons, ih, List.length_cons, show beNum (c :: r) = r.foldl (fun x c => x * 256 + c.toNat) (0 * 256 + c.toNat) from rfl, ih, Nat.pow_succ']
  rw [Nat.zero_mul, Nat.zero_add, Nat.add_mul, <- Nat.mul_assoc]
  omega
theorem beNum_cons (c : UInt8) (r : List UInt8) : beNum (c :: r) = c.toNat * 256 ^ r.length + beNum r := by
 have := fold_be r (0 * 256 + c.toNat)
 rw [Nat.zero_mul, Nat.zero_add] at this
 rw [<- this]
 show List.foldl _ (0 * 256 + c.toNat) r = _
 rw [Nat.zero_mul, Nat.zero_add]
theorem be_high (n : Nat) : ∀ a x : Nat, beBytes n (a * 256 ^ n + x) = beBytes n x := by
 induction n with
 | zero => intro a x; rfl
 | succ n ih =>
  intro a x
  unfold beBytes
  have e : a * 256 ^ (n + 1) + x = (a * 256) * 256 ^ n + x := by rw [Nat.pow_succ', <- Nat.mul_assoc]
  rw [e, ih]
  congr 1
  rw [Nat.mul_comm (a * 256), Nat.mul_add_div (Nat.pow_pos (by omega))]
  apply UInt8.toNat.inj
  rw [UInt8.toNat_ofNat', UInt8.toNat_ofNat']
  omega
theorem be_beNum : ∀ l : List UInt8, beBytes l.length (beNum l) = l
 | [] => rfl
 | c :: r => by
  rw [beNum_cons, List.length_cons]
  unfold beBytes
  rw [be_high, be_beNum r, Nat.mul_comm, Nat.mul_add_div (Nat.pow_pos (by omega)), Nat.div_eq_of_lt (beNum_lt r), Nat.add_zero]
  congr 1
  exact UInt8.ofNat_toNat
theorem beNum_be : ∀ (n x : Nat), x < 256 ^ n -> beNum (beBytes n x) = x
 | 0, x, h => by simp at h; subst h; rfl
 | n + 1, x, h => by
  have hp : 0 < 256 ^ n := Nat.pow_pos (by omega)
  have hd : x / 256 ^ n < 256 := by
   rw [Nat.div_lt_iff_lt_mul hp]
   rw [Nat.pow_succ'] at h
   exact h
  have hm := beNum_be n (x % 256 ^ n) (Nat.mod_lt _ hp)
  have hh := be_high n (x / 256 ^ n) (x % 256 ^ n)
  have hdm := Nat.div_add_mod x (256 ^ n)
  rw [Nat.mul_comm] at hdm
  rw [hdm] at hh
  unfold beBytes
  rw [beNum_cons, beBytes_len, hh, hm, UInt8.toNat_ofNat', Nat.mod_eq_of_lt hd, hdm]
theorem eyeNum_be (n x : Nat) (r : List UInt8) (h : x < 256 ^ n) : eyeNum (beBytes n x ++ r) 0 n = ((x : Int), r, 0) := by
 unfold eyeNum
 have hl := beBytes_len n x
 rw [if_neg (by simp), if_neg (by rw [List.length_append, hl]; omega), List.take_left' hl, List.drop_left' hl, beNum_be n x h]
def idKey (x : Id) : List UInt8 := beBytes 1 x.c.toNat ++ (beBytes 3 x.l.toNat ++ (beBytes 4 x.n.toNat ++ beBytes 1 x.i.toNat))
theorem idKey_len (x : Id) : (idKey x).length = 9 := by simp [idKey, beBytes_len]
def un1 (l : List UInt8) : Int × List UInt8 × Int := eyeNum l 0 1
def un2 (l : List UInt8) : Int × List UInt8 × Int := eyeNum (un1 l).2.1 (un1 l).2.2 3
def un3 (l : List UInt8) : Int × List UInt8 × Int := eyeNum (un2 l).2.1 (un2 l).2.2 4
def un4 (l : List UInt8) : Int × List UInt8 × Int := eyeNum (un3 l).2.1 (un3 l).2.2 1
def unId (l : List UInt8) : Id := ⟨(un1 l).1, (un2 l).1, (un3 l).1, (un4 l).1⟩
def unOk (l : List UInt8) : Bool := decide ((un4 l).2.2 = 0 /\ (un4 l).2.1 = []) && mayId (unId l)
theorem may_bounds {x : Id} (h : mayId x = true) : (0 <= x.c /\ x.c <= 4) /\ (0 <= x.l /\ x.l <= 1048576) /\ (0 <= x.n /\ x.n <= 1073741824) /\ 0 <= x.i /\ x.i <= 15 := by
 unfold mayId withinB6 at h
 simp only [Bool.and_eq_true, decide_eq_true_eq] at h
 omega
theorem un_key {x : Id} (h : mayId x = true) : unId (idKey x) = x /\ unOk (idKey x) = true := by
 obtain ⟨⟨a0, a1⟩, ⟨b0, b1⟩, ⟨c0, c1⟩, d0, d1⟩ := may_bounds h
 have e1 : un1 (idKey x) = (x.c, beBytes 3 x.l.toNat ++ (beBytes 4 x.n.toNat ++ beBytes 1 x.i.toNat), 0) := by
  unfold un1 idKey
  rw [eyeNum_be 1 _ _ (by omega), Int.toNat_of_nonneg a0]
 have e2 : un2 (idKey x) = (x.l, beBytes 4 x.n.toNat ++ beBytes 1 x.i.toNat, 0) := by
  unfold un2
  rw [e1]
  show eyeNum _ 0 3 = _
  rw [eyeNum_be 3 _ _ (by omega), Int.toNat_of_nonneg b0]
 have e3 : un3 (idKey x) = (x.n, beBytes 1 x.i.toNat, 0) := by
  unfold un3
  rw [e2]
  show eyeNum _ 0 4 = _
  rw [eyeNum_be 4 _ _ (by omega), Int.toNat_of_nonneg c0]
 have e4 : un4 (idKey x) = (x.i, [], 0) := by
  unfold un4
  rw [e3]
  show eyeNum _ 0 1 = _
  have := eyeNum_be 1 x.i.toNat [] (by omega)
  rw [List.append_nil] at this
  rw [this, Int.toNat_of_nonneg d0]
 have eu : unId (idKey x) = x := by unfold unId; rw [e1, e2, e3, e4]
 refine ⟨eu, ?_⟩
 unfold unOk
 rw [eu, e4, h]
 simp
theorem idKey_inj {x y : Id} (hx : mayId x = true) (hy : mayId y = true) (h : idKey x = idKey y) : x = y := by
 rw [<- (un_key hx).1, h, (un_key hy).1]
theorem eyeNum_zero {l : List UInt8} {bad : Int} {n : Nat} (h : (eyeNum l bad n).2.2 = 0) : bad = 0 /\ n <= l.length /\ eyeNum l bad n = ((beNum (l.take n) : Int), l.drop n, 0) := by
 unfold eyeNum at h ⊢
 by_cases h1 : bad ≠ 0
 ·rw [if_pos h1] at h; exact absurd h h1
 ·rw [if_neg h1] at h ⊢
  by_cases h2 : l.length < n
  ·rw [if_pos h2] at h; simp at h
  ·rw [if_neg h2]
   exact ⟨by simpa using h1, by omega, rfl⟩
theorem un_back {l : List UInt8} (h : unOk l = true) : mayId (unId l) = true /\ l = idKey (unId l) := by
 unfold unOk at h
 simp only [Bool.and_eq_true, decide_eq_true_eq] at h
 obtain ⟨⟨h4, hn⟩, hm⟩ := h
 refine ⟨hm, ?_⟩
 obtain ⟨b4, l4, e4⟩ := eyeNum_zero (show (eyeNum (un3 l).2.1 (un3 l).2.2 1).2.2 = 0 from h4)
 obtain ⟨b3, l3, e3⟩ := eyeNum_zero (show (eyeNum (un2 l).2.1 (un2 l).2.2 4).2.2 = 0 from b4)
 obtain ⟨b2, l2, e2⟩ := eyeNum_zero (show (eyeNum (un1 l).2.1 (un1 l).2.2 3).2.2 = 0 from b3)
 obtain ⟨b1, l1, e1⟩ := eyeNum_zero (show (eyeNum l 0 1).2.2 = 0 from b2)
 have f1 : un1 l = _ := e1
 have f2 : un2 l = _ := e2
 have f3 : un3 l = _ := e3
 have f4 : un4 l = _ := e4
 rw [f1] at f2 l2
 dsimp only at f2 l2
 rw [f2] at f3 l3
 dsimp only at f3 l3
 rw [f3] at f4 l4
 dsimp only at f4 l4
 rw [f4] at hn
 dsimp only at hn
 unfold unId idKey
 rw [f1, f2, f3, f4]
 dsimp only
 simp only [Int.toNat_natCast]
 have g1 := be_beNum (l.take 1)
 have g2 := be_beNum ((l.drop 1).take 3)
 have g3 := be_beNum (((l.drop 1).drop 3).take 4)
 have g4 := be_beNum ((((l.drop 1).drop 3).drop 4).take 1)
 rw [List.length_take, Nat.min_eq_left l1] at g1
 rw [List.length_take, Nat.min_eq_left l2] at g2
 rw [List.length_take, Nat.min_eq_left l3] at g3
 rw [List.length_take, Nat.min_eq_left l4] at g4
 rw [g1, g2, g3, g4]
 have t4 := List.take_append_drop 1 (((l.drop 1).drop 3).drop 4)
 rw [hn, List.append_nil] at t4
 rw [t4, List.take_append_drop, List.take_append_drop, List.take_append_drop]
section
open Go.RowKit
open Go.Maps (Keyed)
def hv (v : Value) : Option (DataW Value × List MemPlace) := some (.held v, [])
structure KE (k : TypeId) {κ : Type} (kv : κ -> Value) (kl : κ -> Lit) (ok : κ -> Prop) : Prop where
 law : Keyed Tryz.prog k
 of : ∀ x, ok x -> keyOf Tryz.prog k (kv x) = some (kl x)
 inj : ∀ x y, ok x -> ok y -> kl x = kl y -> x = y
 inv : ∀ v l, keyOf Tryz.prog k v = some l -> ∃ x, ok x /\ v = kv x /\ l = kl x
variable {κ : Type} {k : TypeId} {kv : κ -> Value} {kl : κ -> Lit} {ok : κ -> Prop}
def MapF (k : TypeId) (kl : κ -> Lit) (ok : κ -> Prop) (w : World) (b : Nat) (φ : κ -> Option Value) (N : Nat) : Prop :=
 ∃ D : DataW Value, w.ownsMap Tryz.prog k hv b N D /\ Maps.size D = N /\ ∀ x, ok x -> Maps.has D (kl x) = (φ x).isSome /\ ∀ v, φ x = some v -> ∀ z, D.atKey (kl x) z = .held v
theorem MapF.lt {w : World} {b N : Nat} {φ : κ -> Option Value} (h : MapF k kl ok w b φ N) : b < w.heap.size := by obtain ⟨D, h, _⟩ := h; exact h.lt
theorem MapF.keep {w w' : World} {b N : Nat} {φ : κ -> Option Value} (h : MapF k kl ok w b φ N) (hb : w'.heap[b]? = w.heap[b]?) : MapF k kl ok w' b φ N := by
 obtain ⟨D, ⟨es, clock, h1, r⟩, h2⟩ := h
 exact ⟨D, ⟨es, clock, hb.trans h1, r⟩, h2⟩
theorem MapF.chg {S : List Nat} {w w' : World} {b N : Nat} {φ : κ -> Option Value} (h : MapF k kl ok w b φ N) (hc : Chg S w w') (hb : b ∉ S) : MapF k kl ok w' b φ N := h.keep (hc.block b h.lt hb)
theorem MapF.obj {w : World} {b N : Nat} {φ : κ -> Option Value} (h : MapF k kl ok w b φ N) : ∃ es clock, w.heap[b]? = some (.map es clock) := by
 obtain ⟨D, ⟨es, clock, h1, r⟩, h2⟩ := h
 exact ⟨es, clock, h1⟩
theorem MapF.made (w : World) : MapF k kl ok (w.alloc (.map #[] 0)) w.heap.size (fun _ => none) 0 := ⟨.map [], World.ownsMap_made _ _ _ _, rfl, fun x hx => ⟨rfl, fun v h => by cases h⟩⟩
theorem atKey_held (E : KE k kv kl ok) {w : World} {b N : Nat} {φ : κ -> Option Value} {D : DataW Value} (hf : ∀ x, ok x -> Maps.has D (kl x) = (φ x).isSome /\ ∀ v, φ x = some v -> ∀ z, D.atKey (kl x) z = .held v)
  {x : κ} (hx : ok x) (z : Value) : D.atKey (kl x) (.held z) = .held ((φ x).getD z) := by
 cases hφ : φ x with
 | none =>
  have := (hf x hx).1
  rw [hφ] at this
  rw [Maps.atKey_of_not_has this]; rfl
 | some u => rw [(hf x hx).2 u hφ]; rfl
theorem hv_inj {v u : Value} {ps : List MemPlace} (h : hv v = some (.held u, ps)) : v = u := by
 simp only [hv, Option.some.injEq, Prod.mk.injEq, DataW.held.injEq] at h
 exact h.1
theorem MapF.look (E : KE k kv kl ok) {w : World} {b N : Nat} {φ : κ -> Option Value} (h : MapF k kl ok w b φ N) {t e : TypeId} (ht : Tryz.prog.underlying t = some (.map k e)) {z : Value} (hz : ∀ w, (zeroValue e).run Tryz.prog w = .ok z w) {x : κ} (hx : ok x) :
  (Instr.lookup t (.map (some b)) (kv x) false).run Tryz.prog w = .ok ((φ x).getD z) w := by
 obtain ⟨D, ho, hs, hf⟩ := h
 obtain ⟨v, ps, hrun, hv'⟩ := ho.lookup E.law ht (hz w) (zd := .held z) (zp := []) rfl (E.of x hx)
 rw [atKey_held E (w := w) (b := b) (N := N) hf hx z] at hv'
 rw [hrun, hv_inj hv']
noncomputable def updF (φ : κ -> Option Value) (x : κ) (v : Value) : κ -> Option Value := open Classical in fun y => if y = x then some v else φ y
noncomputable def delF (φ : κ -> Option Value) (x : κ) : κ -> Option Value := open Classical in fun y => if y = x then none else φ y
theorem updF_self (φ : κ -> Option Value) (x : κ) (v : Value) : updF φ x v x = some v := by unfold updF; rw [if_pos rfl]
theorem updF_other (φ : κ -> Option Value) {x y : κ} (v : Value) (h : y ≠ x) : updF φ x v y = φ y := by unfold updF; rw [if_neg h]
theorem delF_self (φ : κ -> Option Value) (x : κ) : delF φ x x = none := by unfold delF; rw [if_pos rfl]
theorem delF_other (φ : κ -> Option Value) {x y : κ} (h : y ≠ x) : delF φ x y = φ y := by unfold delF; rw [if_neg h]
theorem own_mono {w : World} {b n m : Nat} {D : DataW Value} (h : w.ownsMap Tryz.prog k hv b n D) (hm : Maps.size D = m) : w.ownsMap Tryz.prog k hv b m D := by
 obtain ⟨es, clock, h1, F, h3, rfl⟩ := h
 have : es.size = m := by simpa [Maps.size, length_sorted] using hm
 exact ⟨es, clock, h1, F, by omega, rfl⟩
theorem turned_chg {w w' : World} {b : Nat} (h : w.mapTurned w' b) : Chg [b] w w' /\ w'.heap.size = w.heap.size := by
 refine ⟨(Chg.refl _ _).grown h.grown (by simp), ?_⟩
 obtain ⟨es, clock, es', clock', hb, rfl⟩ := h
 simp [ChangeMaps.setBlock]
theorem MapF.store (E : KE k kv kl ok) {w : World} {b N : Nat} {φ : κ -> Option Value} (h : MapF k kl ok w b φ N) {t e : TypeId} (ht : Tryz.prog.underlying t = some (.map k e)) {x : κ} (hx : ok x) (v : Value) (hN : N < maxLen) :
  ∃ w', (Instr.mapUpdate t (.map (some b)) (kv x) v).run Tryz.prog w = .ok () w' /\ MapF k kl ok w' b (updF φ x v) (if (φ x).isSome then N else N + 1) /\ Chg [b] w w' /\ w'.heap.size = w.heap.size := by
 obtain ⟨D, ho, hs, hf⟩ := h
 obtain ⟨w', hrun, h1, h2⟩ := ho.store E.law ht hN (E.of x hx) (d := .held v) (ps := []) rfl
 have hT := ho.tidy E.law
 have hk : WideAt.IsKeyLit (kl x) := E.law.key (E.of x hx)
 refine ⟨w', hrun, ⟨D.put (kl x) (.held v), own_mono h1 ?_, ?_, fun y hy => ?_⟩, turned_chg h2⟩
 ·rw [Maps.size_put hT, (hf x hx).1, hs]
 ·rw [Maps.size_put hT, (hf x hx).1, hs]
 ·by_cases e : y = x
  ·subst e
   rw [updF_self]
   refine ⟨Maps.has_put_same hT.isMap hk _, fun u hu z => ?_⟩
   cases hu
   exact Maps.atKey_put_same hT.isMap hk _ _
  ·have hne : kl y ≠ kl x := fun h => e (E.inj y x hy hx h)
   rw [updF_other _ _ e, Maps.has_put_other hne]
   refine ⟨(hf y hy).1, fun u hu z => ?_⟩
   rw [Maps.atKey_put_other hne]
   exact (hf y hy).2 u hu z
theorem MapF.drop (E : KE k kv kl ok) {w : World} {b N : Nat} {φ : κ -> Option Value} (h : MapF k kl ok w b φ N) {t e : TypeId} (ht : Tryz.prog.underlying t = some (.map k e)) {x : κ} (hx : ok x) (ty : TypeId) :
  ∃ w', (Builtin.delete_ #[t, k] ty #[.map (some b), kv x]).run Tryz.prog w = .ok (.tuple #[]) w' /\ MapF k kl ok w' b (delF φ x) (if (φ x).isSome then N - 1 else N) /\ Chg [b] w w' /\ w'.heap.size = w.heap.size := by
 obtain ⟨D, ho, hs, hf⟩ := h
 obtain ⟨w', hrun, h1, h2⟩ := ho.drop E.law ht (E.of x hx) ty
 have hT := ho.tidy E.law
 have hsz := Maps.size_del (k := kl x) hT
 rw [(hf x hx).1, hs] at hsz
 have hsz' : Maps.size (D.del (kl x)) = if (φ x).isSome then N - 1 else N := by
  cases hφ : (φ x).isSome <;> simp [hφ] at hsz ⊢ <;> omega
 refine ⟨w', hrun, ⟨D.del (kl x), own_mono h1 hsz', hsz', fun y hy => ?_⟩, turned_chg h2⟩
 by_cases e : y = x
 ·subst e
  rw [delF_self]
  exact ⟨Maps.has_del_same, fun u hu => by cases hu⟩
 ·have hne : kl y ≠ kl x := fun h => e (E.inj y x hy hx h)
  rw [delF_other _ e, Maps.has_del_other hne]
  refine ⟨(hf y hy).1, fun u hu z => ?_⟩
  rw [Maps.atKey_del_other hne]
  exact (hf y hy).2 u hu z
def Rng (k : TypeId) (kl : κ -> Lit) (ok : κ -> Prop) (w : World) (b r : Nat) (φ : κ -> Option Value) (N : Nat) (left : κ -> Bool) (cnt : Nat) : Prop :=
 ∃ (D : DataW Value) (lf : Lit -> Bool), w.ranges Tryz.prog k hv b r N D lf cnt /\ Maps.size D = N /\ (∀ x, ok x -> lf (kl x) = left x) /\ ∀ x, ok x -> Maps.has D (kl x) = (φ x).isSome /\ ∀ v, φ x = some v -> ∀ z, D.atKey (kl x) z = .held v
theorem Rng.kept {S : List Nat} {w w' : World} {b r N cnt : Nat} {φ : κ -> Option Value} {left : κ -> Bool} (h : Rng k kl ok w b r φ N left cnt) (hc : Chg S w w') (hb : b ∉ S) (hr : r ∉ S) : Rng k kl ok w' b r φ N left cnt := by
 obtain ⟨D, lf, h1, h2, h3, h4⟩ := h
 refine ⟨D, lf, ?_, h2, h3, h4⟩
 have hbl := h1.owns.lt
 have hrl := h1.lt
 obtain ⟨es, clock, since, seen, c0, e1, F, e2, e3, e4, rest⟩ := h1
 exact ⟨es, clock, since, seen, c0, (hc.block b hbl hb).trans e1, F, e2, e3, (hc.block r hrl hr).trans e4, rest⟩
theorem wpList_rng (E : KE k kv kl ok) (w : World) {ops : Array Oper} {rest : List Oper} {o : Oper} {a : Act} {Q : Exit -> Act -> World -> Prop} (hg : o.guard = none) (m : Operand) (t : TypeId) (hop : o.op = Op.range t m) (e : TypeId)
  (ht : Tryz.prog.underlying t = some (.map k e)) (b N : Nat) (φ : κ -> Option Value) (hm : a.eval m = .map (some b)) (h : MapF k kl ok w b φ N)
  (hK : ∀ w', Rng k kl ok w' b w.heap.size φ N (fun x => (φ x).isSome) N -> Chg [] w w' -> w'.heap.size = w.heap.size + 1 -> wpList Tryz.prog ops Q rest (a.put o.dst (.pointer (some ⟨w.heap.size, 0, none⟩))) w') :
  wpList Tryz.prog ops Q (o :: rest) a w := by
 obtain ⟨D, ho, hs, hf⟩ := h
 refine wpList_range_own w hg m t hop k e E.law ht hv b N D hm ho fun w' h1 h2 h3 => hK w' ⟨D, _, by rw [<- hs] at h1 ⊢; exact h1, hs, fun x hx => (hf x hx).1, hf⟩ ?_ h3
 exact (Chg.refl _ _).grown h2 (by simp)
theorem wpList_nxt (E : KE k kv kl ok) (w : World) {ops : Array Oper} {rest : List Oper} {o : Oper} {a : Act} {Q : Exit -> Act -> World -> Prop} (hg : o.guard = none) (it : Operand) (hop : o.op = Op.next it false) (b r N : Nat) (φ : κ -> Option Value) (left : κ -> Bool) (cnt : Nat)
  (hit : a.eval it = .pointer (some ⟨r, 0, none⟩)) (h : Rng k kl ok w b r φ N left cnt)
  (hDone : cnt = 0 -> (∀ x, ok x -> left x = false) -> wpList Tryz.prog ops Q rest (a.put o.dst (.tuple #[.bool false])) w)
  (hMore : ∀ (x : κ) (v : Value) (w' : World) (cnt' : Nat), ok x -> left x = true -> φ x = some v -> (∀ left', (∀ y, ok y -> (y = x -> left' y = false) /\ (y ≠ x -> left' y = left y)) -> Rng k kl ok w' b r φ N left' cnt') -> cnt' < cnt -> Chg [r] w w' -> w'.heap.size = w.heap.size ->
   (Instr.entry (.pointer (some ⟨r, 0, none⟩))).run Tryz.prog w' = .ok (.tuple #[kv x, v]) w' -> wpList Tryz.prog ops Q rest (a.put o.dst (.tuple #[.bool true, kv x, v])) w') :
  wpList Tryz.prog ops Q (o :: rest) a w := by
 obtain ⟨D, lf, h1, hs, hl, hf⟩ := h
 refine wpList_next_ranges (α := κ) (β := Value) w hg it hop k E.law hv kv id (fun key l hk => by obtain ⟨x, _, hx, _⟩ := E.inv key l hk; exact ⟨x, hx⟩) (fun v y _ => ⟨v, rfl⟩) b r N D lf cnt hit h1 (fun h0 hno => hDone h0 fun x hx => by rw [<- hl x hx]; exact hno _) ?_
 intro x c l y w' cnt' hkey hlk hvy hat hrg hlt hg2 hsz hen
 obtain ⟨x', hx', e1, rfl⟩ := E.inv _ _ hkey
 have hkx : kv x = kv x' := e1
 have hphi : φ x' = some c := by
  have hx1 := hf x' hx'
  have hy : y.1 = .held c := by
   simp only [hv, id, Option.some.injEq] at hvy
   rw [<- hvy]
  cases hφ : φ x' with
  | none =>
   rw [hφ] at hx1
   have h2 := Maps.atKey_of_not_has hx1.1 (.nil)
   rw [hat .nil, hy] at h2
   cases h2
  | some u =>
   have h2 := hx1.2 u hφ .nil
   rw [hat .nil, hy] at h2
   rw [<- (DataW.held.injEq c u ▸ h2 : c = u)]
 have hen' := hen
 rw [hkx] at hen' ⊢
 refine hMore x' c w' cnt' hx' (by rw [<- hl x' hx']; exact hlk) hphi (fun left' hleft => ⟨D, _, hrg, hs, fun y hy => ?_, hf⟩) hlt ((Chg.refl _ _).grown hg2 (by simp)) hsz hen'
 by_cases e : y = x'
 ·subst e
  rw [(hleft y hy).1 rfl, WideAt.sameKey_self (E.law.key (E.of y hx'))]; simp
 ·rw [(hleft y hy).2 e, hl y hy, Maps.sameKey_ne (fun h => e (E.inj y x' hy hx' h))]; simp
end
section
open Go.RowKit
open Go.Maps (Keyed)
def okW (a : Int) : Prop := (Lit.int .i64 a).wf = true
instance (a : Int) : Decidable (okW a) := inferInstanceAs (Decidable (_ = _))
def okD (x : Id) : Prop := okW x.c /\ okW x.l /\ okW x.n /\ okW x.i
instance (x : Id) : Decidable (okD x) := inferInstanceAs (Decidable (_ /\ _))
def klD (x : Id) : Lit := .string (keyBytes [.int .i64 x.c, .int .i64 x.l, .int .i64 x.n, .int .i64 x.i])
theorem laidD : laidOutB Tryz.prog = true := by kernel_rfl
theorem keId_law : Keyed Tryz.prog 38 := Keyed.of_law (deep_law_laid laidD (m := 4) (by decide) (of_decide_eq_true (by kernel_rfl)) (by kernel_rfl) (by rw [Tryz.underlying38]))
theorem keyType_id : Tryz.prog.keyType 38 = true := by kernel_rfl
theorem cells_id : Tryz.prog.cellsOf 38 = 4 := by kernel_rfl
theorem cells_stripe : Tryz.prog.cellsOf 36 = 3 := by kernel_rfl
theorem cells_intD : Tryz.prog.cellsOf 3 = 1 := by kernel_rfl
def litI (v : Value) : Option (List Lit) := match v with | .int .i64 a => if okW a then some [.int .i64 a] else none | _ => none
theorem litI_ok {a : Int} (h : okW a) : litI (.int .i64 a) = some [.int .i64 a] := by simp [litI, h]
theorem litI_inv {v : Value} {l : List Lit} (h : litI v = some l) : ∃ a, okW a /\ v = .int .i64 a /\ l = [.int .i64 a] := by
 unfold litI at h
 split at h
 ·rename_i a
  by_cases ha : okW a
  ·rw [if_pos ha] at h; exact ⟨a, ha, rfl, (Option.some.inj h).symm⟩
  ·rw [if_neg ha] at h; cases h
 ·cases h
theorem lits_int (m : Nat) (v : Value) : Tryz.prog.keyLits (m + 1) 3 [v] = litI v := by
 unfold Program.keyLits litI okW
 simp only [Tryz.underlying3]
 cases v <;> simp
 rename_i k1 a
 by_cases e1 : k1 = .i64
 ·subst e1; by_cases h : (Lit.int .i64 a).wf = true <;> simp [h]
 ·simp [e1]
theorem lits_stripe (m : Nat) (u v y : Value) : Tryz.prog.keyLits (m + 2) 36 [u, v, y] = (litI u).bind fun a => (litI v).bind fun b => (litI y).bind fun c => some (a ++ (b ++ c)) := by
 unfold Program.keyLits
 simp only [Tryz.underlying36, cells_stripe]
 rw [if_pos ⟨rfl, by kernel_rfl⟩]
 simp only [List.mapM_cons, List.mapM_nil, cells_intD, List.drop_zero, List.drop_succ_cons, List.take_succ_cons, List.take_zero, lits_int]
 generalize litI u = a
 generalize litI v = b
 generalize litI y = c
 cases a <;> cases b <;> cases c <;> simp
def litD (c : List Value) : Option (List Lit) := match c with
 | [x, y, z, u] => (litI x).bind fun a => (litI y).bind fun b => (litI z).bind fun c => (litI u).bind fun d => some (a ++ (b ++ (c ++ d)))
 | _ => none
theorem lits_id (c : List Value) : Tryz.prog.keyLits (Tryz.prog.types.size + 1) 38 c = litD c := by
 obtain ⟨m, hm⟩ : ∃ m, Tryz.prog.types.size = m + 2 := ⟨Tryz.prog.types.size - 2, by have : 2 <= Tryz.prog.types.size := of_decide_eq_true (by kernel_rfl); omega⟩
 rw [hm]
 unfold Program.keyLits
 simp only [Tryz.underlying38, cells_id]
 match c with
 | [] => simp [litD]
 | [x] => simp [litD]
 | [x, y] => simp [litD]
 | [x, y, z] => simp [litD]
 | x :: y :: z :: u :: v :: r => simp [litD]
 | [x, y, z, u] =>
  rw [if_pos ⟨rfl, by kernel_rfl⟩]
  simp only [List.mapM_cons, List.mapM_nil, cells_intD, cells_stripe, List.drop_zero, List.drop_succ_cons, List.take_succ_cons, List.take_zero, lits_int, lits_stripe, litD]
  generalize litI x = a
  generalize litI y = b
  generalize litI z = c
  generalize litI u = d
  cases a <;> cases b <;> cases c <;> cases d <;> simp
theorem litD_inv {c : List Value} {ls : List Lit} (h : litD c = some ls) : ∃ x : Id, okD x /\ c = (idC x).toList /\ ls = [.int .i64 x.c, .int .i64 x.l, .int .i64 x.n, .int .i64 x.i] := by
 unfold litD at h
 split at h
 ·rename_i u v y z
  cases h1 : litI u with
  | none => rw [h1] at h; cases h
  | some a =>
   cases h2 : litI v with
   | none => rw [h1, h2] at h; cases h
   | some b =>
    cases h3 : litI y with
    | none => rw [h1, h2, h3] at h; cases h
    | some c =>
     cases h4 : litI z with
     | none => rw [h1, h2, h3, h4] at h; cases h
     | some d =>
      rw [h1, h2, h3, h4] at h
      obtain ⟨a', k1, rfl, rfl⟩ := litI_inv h1
      obtain ⟨b', k2, rfl, rfl⟩ := litI_inv h2
      obtain ⟨c', k3, rfl, rfl⟩ := litI_inv h3
      obtain ⟨d', k4, rfl, rfl⟩ := litI_inv h4
      exact ⟨⟨a', b', c', d'⟩, ⟨k1, k2, k3, k4⟩, rfl, (Option.some.inj h).symm⟩
 ·cases h
theorem of_id (x : Id) (h : okD x) : keyOf Tryz.prog 38 (idV x) = some (klD x) := by
 unfold keyOf
 rw [Tryz.underlying38]
 obtain ⟨h1, h2, h3, h4⟩ := h
 simp only [keyType_id, Value.formed, Tryz.underlying38, cells_id, Value.cells, lits_id]
 simp [litD, litI_ok h1, litI_ok h2, litI_ok h3, litI_ok h4, klD]
theorem keId : KE 38 idV klD okD where
 law := keId_law
 of := of_id
 inj x y hx hy h := by
  have e1 := of_id x hx
  have e2 := of_id y hy
  rw [h] at e1
  have := keId_law.inj e1 e2
  obtain ⟨a, b, c, d⟩ := x
  obtain ⟨a', b', c', d'⟩ := y
  simp at this
  obtain ⟨rfl, rfl, rfl, rfl⟩ := this
  rfl
 inv v l h := by
  have hk : keyOf Tryz.prog 38 v = if v.formed Tryz.prog 38 = true then (Tryz.prog.keyLits (Tryz.prog.types.size + 1) 38 v.cells.toList).map fun ls => .string (keyBytes ls) else none := by
   unfold keyOf
   rw [Tryz.underlying38]
   simp only [keyType_id, Bool.true_and]
  rw [hk] at h
  clear hk
  by_cases hf : v.formed Tryz.prog 38 = true
  ·rw [if_pos hf] at h
   cases v with
   | agg cs =>
    obtain ⟨ls, h2, h3⟩ := Option.map_eq_some_iff.1 h
    rw [lits_id] at h2
    simp only [Value.cells] at h2
    obtain ⟨x, hx, hc, hl⟩ := litD_inv h2
    refine ⟨x, hx, ?_, ?_⟩
    ·have : cs = idC x := Array.ext' hc
     rw [this]
    ·rw [<- h3, hl]; rfl
   | _ => simp [Value.formed, Tryz.underlying38] at hf
  ·rw [if_neg hf] at h; cases h
end
structure PenNew (w0 w : World) (b : Nat) (g : Option Nat) (l : List UInt8) : Prop where
 pen : PenAt 110 w b g l 0
 chg : Chg [] w0 w
 own : w0.heap.size <= b
 ownG : ∀ k, g = some k -> w0.heap.size <= k
theorem PenNew.wrote {w0 w w' : World} {b : Nat} {g : Option Nat} {l l' : List UInt8} (h : PenNew w0 w b g l) (hw : Wrote 110 w w' b g (l', 0)) : ∃ g', PenNew w0 w' b g' l' := by
 obtain ⟨g', h1, h2, h3⟩ := hw
 refine ⟨g', h1, h.chg.trans h3 (fun x hx => .inr ?_), h.own, fun k hk => ?_⟩
 ·rcases List.mem_cons.1 hx with rfl | hx
  ·exact h.own
  ·exact h.ownG x (by simpa using hx)
 ·rcases h2 with rfl | ⟨k', rfl, h4⟩
  ·exact h.ownG k hk
  ·obtain rfl : k' = k := by simpa using hk
   exact Nat.le_trans h.chg.size h4
theorem PenNew.num {w0 w : World} {b : Nat} {g : Option Nat} {l : List UInt8} (h : PenNew w0 w b g l) (x : Int) (n : Nat) (h1 : 1 <= n) (h7 : n <= 7) (hx0 : 0 <= x) (hx : x < ((256 ^ n : Nat) : Int)) (hl : l.length <= 1000) :
  Calls Tryz.prog 45 #[.pointer (some ⟨b, 0, none⟩), .int .i64 x, .int .i64 n] w fun e w' => e = .returned (.tuple #[]) /\ ∃ g', PenNew w0 w' b g' (l ++ beBytes n x.toNat) := by
 obtain ⟨y, rfl⟩ := Int.eq_ofNat_of_zero_le hx0
 refine (pnum_ok b g l 0 y n w h.pen h1 h7 (by omega)).mono ?_
 rintro e w' ⟨rfl, hw⟩
 refine ⟨rfl, h.wrote ?_⟩
 have e1 : penAdd l 0 (beBytes n y) = (l ++ beBytes n y, 0) := by
  unfold penAdd
  rw [if_neg (by simp), if_neg (by rw [beBytes_len]; omega)]
 rw [e1] at hw
 exact hw
theorem PenNew.fresh {w0 w : World} (hc : Chg [] w0 w) : PenNew w0 (w.alloc (.cells #[.slice none 0 0, .int .i64 0] 110)) w.heap.size none [] :=
 ⟨⟨.slice none 0 0, heap_alloc_new w _, BRow.nil _, rfl, by simp, by simp⟩, hc.alloc _, hc.size, fun k hk => by cases hk⟩
theorem id_cells {w : World} {b t : Nat} {a c d e : Int} (h : w.heap[b]? = some (.cells (idC ⟨a, c, d, e⟩) t (0, 0))) : w.cell? ⟨b, 0, none⟩ = some (.int .i64 a) /\ w.cell? ⟨b, 1, none⟩ = some (.int .i64 c) /\ w.cell? ⟨b, 2, none⟩ = some (.int .i64 d) /\ w.cell? ⟨b, 3, none⟩ = some (.int .i64 e) :=
 ⟨blk_cell h 0 _ rfl, blk_cell h 1 _ rfl, blk_cell h 2 _ rfl, blk_cell h 3 _ rfl⟩
def KeyPost (x : Id) (w : World) (e : Ending) (w' : World) : Prop := Chg [] w w' /\ if mayId x = true then ∃ v, e = .returned (.tuple #[v, .int .i64 0]) /\ BRow w' v (idKey x) /\ ∀ k, v.ownBlock = some k -> w.heap.size <= k else e = .returned (.tuple #[.slice none 0 0, .int .i64 1])
theorem stkey_any (x : Id) (w : World) : Calls Tryz.prog 143 #[idV x] w (KeyPost x w) := by
 obtain ⟨w1, hw1⟩ : ∃ w1, w1 = w.alloc (.cells (idC x) 38) := ⟨_, rfl⟩
 have CM := LH (mayid_any x w1)
 have hc1 : Chg [] w w1 := by rw [hw1]; exact (Chg.refl [] w).alloc _
 have hb1 : w1.heap[w.heap.size]? = some (.cells (idC x) 38 (0, 0)) := by rw [hw1]; exact heap_alloc_new w _
 have HB := LH hb1
 have HC1 := LH hc1
 have HW1 := LH hw1
 unfold KeyPost
 by_cases hm : mayId x = true
 ·rw [hm] at CM
  simp only [hm, if_true]
  obtain ⟨⟨a0, a1⟩, ⟨b0, b1⟩, ⟨c0, c1⟩, d0, d1⟩ := may_bounds hm
  obtain ⟨xc, xl, xn, xi⟩ := x
  dsimp only at *
  clear hm hw1 hb1 hc1
  go_enter Tryz.func143, Tryz.ntmps143
  go_wp2_with fail
  rw [<- HW1.out]
  refine CM.out.mono ?_
  rintro e w2 ⟨rfl, hc2⟩
  have HC2 := LH hc2
  clear hc2 CM
  have hp := PenNew.fresh HC2.out
  obtain ⟨w3, hw3⟩ : ∃ w3, w3 = w2.alloc (.cells #[.slice none 0 0, .int .i64 0] 110) := ⟨_, rfl⟩
  rw [<- hw3] at hp
  have HW3 := LH hw3
  have hl2 : w.heap.size < w2.heap.size := Nat.lt_of_lt_of_le (blk_lt HB.out) HC2.out.size
  have hC3 : Chg [] w1 w3 := by rw [hw3]; exact HC2.out.alloc _
  have k0 := (id_cells (hC3.keep HB.out (by simp))).1
  rw [hw3] at k0
  have CN := LH (hp.num xc 1 (by omega) (by omega) a0 (by omega) (by simp))
  have HP := LH hp
  have HCC3 := LH hC3
  clear hw3 hp hC3
  go_wp2_with fail
  rw [<- HW3.out]
  refine CN.out.mono ?_
  rintro e w4 ⟨rfl, g4, hp4⟩
  obtain ⟨k0, k1, k2, k3⟩ := id_cells (hp4.chg.keep HB.out (by simp))
  have CN4 := LH (hp4.num xl 3 (by omega) (by omega) b0 (by omega) (by simp [beBytes_len]))
  clear hp4 CN
  go_wp2_with fail
  refine CN4.out.mono ?_
  rintro e w5 ⟨rfl, g5, hp5⟩
  obtain ⟨k0, k1, k2, k3⟩ := id_cells (hp5.chg.keep HB.out (by simp))
  have CN5 := LH (hp5.num xn 4 (by omega) (by omega) c0 (by omega) (by simp [beBytes_len]))
  clear hp5 CN4
  go_wp2_with fail
  refine CN5.out.mono ?_
  rintro e w6 ⟨rfl, g6, hp6⟩
  obtain ⟨k0, k1, k2, k3⟩ := id_cells (hp6.chg.keep HB.out (by simp))
  have CN6 := LH (hp6.num xi 1 (by omega) (by omega) d0 (by omega) (by simp [beBytes_len]))
  clear hp6 CN5
  go_wp2_with fail
  refine CN6.out.mono ?_
  rintro e w7 ⟨rfl, g7, hp7⟩
  have CB := LH (pbytes_any _ _ _ w7 hp7.pen)
  have HP7 := LH hp7
  clear hp7 CN6
  go_wp2_with fail
  refine CB.out.mono ?_
  rintro e w8 ⟨v8, rfl, hr8, ho8, hc8⟩
  have HR := LH (And.intro hr8 (And.intro ho8 hc8))
  clear hr8 ho8 hc8 CB
  go_wp2
  go_ret2
  have e9 : [] ++ beBytes 1 xc.toNat ++ beBytes 3 xl.toNat ++ beBytes 4 xn.toNat ++ beBytes 1 xi.toNat = idKey ⟨xc, xl, xn, xi⟩ := by simp [idKey]
  refine ⟨HC1.out.trans (HP7.out.chg.trans HR.out.2.2 (by simp)) (by simp), _, rfl, by rw [<- e9]; exact HR.out.1, fun k hk => ?_⟩
  have := HR.out.2.1 k hk
  have := HP7.out.chg.size
  have := HC1.out.size
  omega
 ·have hm' : mayId x = false := by simpa using hm
  rw [hm'] at CM
  simp only [hm]
  obtain ⟨xc, xl, xn, xi⟩ := x
  clear hm hm' hw1 hb1 hc1
  go_enter Tryz.func143, Tryz.ntmps143
  go_wp2_with fail
  rw [<- HW1.out]
  refine CM.out.mono ?_
  rintro e w2 ⟨rfl, hc2⟩
  have HC2 := LH (HC1.out.trans hc2 (by simp))
  clear hc2 CM
  go_wp2
  go_ret2
  exact ⟨HC2.out, rfl⟩
theorem pbool_any (b : Nat) (g : Option Nat) (l : List UInt8) (bad : Int) (q : Bool) (w : World) (h : PenAt 110 w b g l bad) :
  Calls Tryz.prog 64 #[.pointer (some ⟨b, 0, none⟩), .bool q] w fun e w' => e = .returned (.tuple #[]) /\ Wrote 110 w w' b g (penBool l bad q) := by
 have hbl := h.lt.1
 have key : ∀ (v : Int) (c : UInt8), bv c = .int .u8 v -> Hid (Calls Tryz.prog 98 #[.pointer (some ⟨b, 0, none⟩), .int .i64 0, .slice (some ⟨w.heap.size, 0, none⟩) 1 1] (w.alloc (.cells #[.int .u8 v] 5)) fun e w' => e = .returned (.tuple #[]) /\ Wrote 110 w w' b g (penAdd l bad [c])) := by
  intro v c hv
  have hc : Chg [] w (w.alloc (.cells #[.int .u8 v] 5)) := (Chg.refl [] w).alloc _
  refine (put_any b g l bad _ 1 [c] _ (h.keep hc (by simp) (by simp)) (one_byte w c _ hv) (by simp)).mono ?_
  rintro e w' ⟨rfl, h1⟩
  exact ⟨rfl, Wrote.before h1 hc⟩
 unfold penBool
 cases q
 ·have CP := key 0 0 rfl
  clear key h
  go_enter Tryz.func64, Tryz.ntmps64
  go_wp2_with fail
  refine CP.out.mono ?_
  rintro e w2 ⟨rfl, HW⟩
  have HW2 := LH HW
  clear HW
  go_wp2
  go_end0
  exact ⟨rfl, HW2.out⟩
 ·have CP := key 1 1 rfl
  clear key h
  go_enter Tryz.func64, Tryz.ntmps64
  go_wp2_with fail
  refine CP.out.mono ?_
  rintro e w2 ⟨rfl, HW⟩
  have HW2 := LH HW
  clear HW
  go_wp2
  refine bodyPost_ret (results_none rfl _ _ _) rfl ?_
  exact ⟨rfl, HW2.out⟩
theorem rcopy_any (v : Value) (l : List UInt8) (w : World) (h : BytesAt w v l) (hl : l.length <= 1000000000) :
  Calls Tryz.prog 100 #[v] w fun e w' => ∃ v', e = .returned v' /\ BRow w' v' l /\ (∀ g, v'.ownBlock = some g -> w.heap.size <= g) /\ Chg [] w w' := by
 obtain ⟨a, cap, rfl, h1, h2, h3⟩ := h
 have H3 := LH h3
 clear h3
 go_enter Tryz.func100, Tryz.ntmps100
 go_wp2
 go_loopg [3, 4] l.length (fun g' s3 s4 wr => ∃ (k : Nat) (a3 : Option Addr) (c3 : Nat), s3 = .slice a3 (l.take k).length c3 /\ s4 = .int .i64 k /\ k <= l.length /\ l.length <= k + g' /\ Hid (BRow wr s3 (l.take k) /\ (∀ g, s3.ownBlock = some g -> w.heap.size <= g) /\ Chg [] w wr))
 case atStart => exact ⟨0, none, 0, rfl, rfl, by omega, by omega, LH ⟨BRow.nil _, by simp [Value.ownBlock], Chg.refl _ _⟩⟩
 case round =>
  obtain ⟨k, a3, c3, rfl, rfl, hk, hkg, HR⟩ := hrel
  obtain ⟨s3, hs3⟩ : ∃ s3, s3 = Value.slice a3 (l.take k).length c3 := ⟨_, rfl⟩
  have HS3 := LH hs3
  rw [<- hs3] at HR
  clear hs3
  by_cases hlt : k < l.length
  ·rcases H3.out with ⟨h0, _⟩ | ⟨g, o, rfl, hcell⟩
   ·rw [h0] at hlt; simp at hlt
   have hcl : wr.cell? ⟨g, o + k, none⟩ = some (.int .u8 ((l.getD k 0).toNat : Int)) := HR.out.2.2.cell (hcell k hlt) (by simp)
   obtain ⟨c, hc⟩ : ∃ c, c = l.getD k 0 := ⟨_, rfl⟩
   rw [<- hc] at hcl
   have HT : Hid (l.take (k + 1) = l.take k ++ [c]) := LH (by rw [hc]; exact take_snocU l k hlt)
   have HB := LH (one_byte wr c _ rfl)
   unfold bv at HB
   have HR2 := LH (HR.out.1.keep (w' := wr.alloc (.cells #[.int .u8 (c.toNat : Int)] 5)) (fun g hg => heap_alloc_old wr _ (HR.out.1.lt g hg)))
   have hkz : (k : Int) < (l.length : Int) := by omega
   have hkz1 : (k : Int).toNat = k := by omega
   have hsz : Hid ((l.take k).length + [c].length <= 140737488355328) := LH (by rw [List.length_take]; simp; omega)
   clear hc hcell
   go_wp2_with (at_builtin; refine wpList_appB rfl (.tmp 11) (.tmp 16) rfl s3 (l.take k) HS3.out.symm HR2.out _ [c] rfl HB.out hsz.out ?_; intro v1 w1 ho1 hg1 hat1)
   have HO1 := LH ho1
   have HG1 := LH hg1
   have HA1 := LH hat1
   clear ho1 hg1 hat1
   go_roundg (gk - 1)
   case measure => omega
   case rel =>
    have hr : BRow w1 v1 (l.take (k + 1)) := by rw [HT.out]; exact HO1.out
    obtain ⟨a, c4, he, _⟩ := hr.bytes
    refine ⟨k + 1, a, c4, he, by go_num, by omega, by omega, LH ⟨hr, fun g hg => ?_, (HR.out.2.2.alloc _).grown HG1.out (fun g hg => .inr (HR.out.2.1 g hg))⟩⟩
    rcases HA1.out with h | h
    ·exact HR.out.2.1 g (by rw [<- h]; exact hg)
    ·rw [h] at hg
     have h1 := HR.out.2.2.size
     have h2 : wr.heap.size + 1 = g := by simpa using hg
     omega
  ·have hkn : k = l.length := by omega
   have HK : Hid (l.take k = l) := LH (by rw [hkn, List.take_length])
   clear hkn
   go_wp2
   go_ret
   exact ⟨s3, by rw [HS3.out]; rfl, by have := HR.out.1; rwa [HK.out] at this, HR.out.2.1, HR.out.2.2⟩
theorem rcopy_zero (a : Option Addr) (c : Nat) (w : World) : Calls Tryz.prog 100 #[.slice a 0 c] w fun e w' => e = .returned (.slice none 0 0) /\ w = w' := by
 go_enter Tryz.func100, Tryz.ntmps100
 go_wp2
 go_loopg [3, 4] 0 (fun g' s3 s4 wr => s3 = .slice none 0 0 /\ s4 = .int .i64 0 /\ w = wr)
 case atStart => exact ⟨rfl, rfl, rfl⟩
 case round =>
  obtain ⟨rfl, rfl, rfl⟩ := hrel
  go_wp2
  go_ret
  exact ⟨rfl, rfl⟩
def penRaw (l : List UInt8) (bad : Int) (m : List UInt8) : List UInt8 × Int :=
 if bad ≠ 0 then (l, bad) else if 65535 < m.length then (l, 3) else penAdd l bad (beBytes 2 m.length ++ m)
theorem two_row (w : World) (a b : UInt8) (va vb : Value) (ha : bv a = va) (hb : bv b = vb) : BRow (w.alloc (.cells #[va, vb] 5)) (.slice (some ⟨w.heap.size, 0, none⟩) 2 2) [a, b] := by
 refine ⟨by simp [bvs], .inr ⟨w.heap.size, 2, #[va, vb], rfl, Nat.zero_le _, heap_alloc_new w _, by simp, by unfold maxLen; omega, rfl, ?_⟩⟩
 simp [bvs, ha, hb]
theorem praw_any (b : Nat) (g : Option Nat) (l : List UInt8) (bad : Int) (v : Value) (m : List UInt8) (w : World) (h : PenAt 110 w b g l bad) (hm : BytesAt w v m) (hml : m.length <= 900000) :
  Calls Tryz.prog 47 #[.pointer (some ⟨b, 0, none⟩), v] w fun e w' => e = .returned (.tuple #[]) /\ Wrote 110 w w' b g (penRaw l bad m) := by
 obtain ⟨a, cap, rfl, h1, h2, h3⟩ := hm
 have HM := LH (show BytesAt w (.slice a m.length cap) m from ⟨a, cap, rfl, h1, h2, h3⟩)
 have HP := LH h
 have hbl := h.lt.1
 by_cases hlong : 65535 < m.length
 ·have HR : Hid (penRaw l bad m = (l, if bad ≠ 0 then bad else 3)) := LH (by
   unfold penRaw
   by_cases hb : bad = 0
   ·rw [if_neg (by simp [hb]), if_pos hlong, if_neg (by simp [hb])]
   ·rw [if_pos hb, if_pos hb])
  have CP := LH (put_err b g l bad 3 (.slice none 0 0) w h (by omega))
  rw [HR.out]
  generalize (if bad ≠ 0 then bad else (3 : Int)) = x1 at *
  have hlz : (65535 : Int) < (m.length : Int) := by omega
  clear h h3
  go_enter Tryz.func47, Tryz.ntmps47
  go_wp2_with fail
  refine CP.out.mono ?_
  rintro e w2 ⟨rfl, HW⟩
  have HW2 := LH HW
  clear HW
  go_wp2
  refine bodyPost_ret (results_none rfl _ _ _) rfl ?_
  exact ⟨rfl, HW2.out⟩
 ·have hlz : ¬ (65535 : Int) < (m.length : Int) := by omega
  obtain ⟨n, hn⟩ : ∃ n, n = m.length := ⟨_, rfl⟩
  have hv1 : bv (UInt8.ofNat (n / 256)) = .int .u8 ((n : Int) / 256) := by
   have h0 := byte_of n 1
   rw [show ((n : Int) / 2 ^ (8 * 1) % 256) = (n : Int) / 256 by omega] at h0
   simpa using h0
  have hv2 : bv (UInt8.ofNat n) = .int .u8 ((n : Int) % 256) := by
   have := byte_of n 0
   simpa using this
  have hbe : beBytes 2 n = [UInt8.ofNat (n / 256), UInt8.ofNat n] := by simp [beBytes]
  obtain ⟨w1, hw1⟩ : ∃ w1, w1 = w.alloc (.cells #[.int .u8 ((n : Int) / 256), .int .u8 ((n : Int) % 256)] 5) := ⟨_, rfl⟩
  have hc1 : Chg [] w w1 := by rw [hw1]; exact (Chg.refl _ _).alloc _
  have HT : Hid (BRow w1 (.slice (some ⟨w.heap.size, 0, none⟩) 2 2) (beBytes 2 n)) := LH (by rw [hw1, hbe]; exact two_row w _ _ _ _ hv1 hv2)
  have HM1 : Hid (BytesAt w1 (.slice a m.length cap) m) := LH (by
   refine ⟨a, cap, rfl, h1, h2, ?_⟩
   rcases h3 with h3 | ⟨g, o, e, hcell⟩
   ·exact .inl h3
   ·exact .inr ⟨g, o, e, fun i hi => hc1.cell (hcell i hi) (by simp)⟩)
  have HW1 := LH hw1
  have HC1 := LH hc1
  have HN := LH hn
  have hlb : Hid ((beBytes 2 n).length = 2) := LH (by rw [beBytes_len])
  have HR : Hid (penRaw l bad m = penAdd l bad (beBytes 2 n ++ m)) := LH (by
   unfold penRaw
   by_cases hb : bad = 0
   ·rw [if_neg (by simp [hb]), if_neg hlong, hn]
   ·rw [if_pos hb]; unfold penAdd; rw [if_pos hb])
  have hsz : Hid ((beBytes 2 n).length + m.length <= 140737488355328) := LH (by rw [beBytes_len]; omega)
  rw [HR.out]
  rw [<- hn] at hlz h1
  have hn0 : (0 : Int) <= (n : Int) := by omega
  have hn1 : (n : Int) <= 65535 := by omega
  rw [<- hn]
  clear h h3 hw1 hc1 hv1 hv2 hbe hn
  go_enter Tryz.func47, Tryz.ntmps47
  go_wp2_with (at_builtin; rw [<- HW1.out]; refine wpList_appB rfl (.tmp 17) (.tmp 18) rfl (.slice (some ⟨w.heap.size, 0, none⟩) 2 2) (beBytes 2 n) rfl HT.out _ m (by rw [<- HN.out]; rfl) HM1.out hsz.out ?_; intro v1 w2 ho1 hg1 hat1)
  have hc2 : Chg [] w w2 := HC1.out.grown hg1 (fun k hk => .inr (by
   have : w.heap.size = k := by simpa [Value.ownBlock] using hk
   omega))
  have hl12 : (beBytes 2 n ++ m).length = 2 + m.length := by rw [List.length_append, hlb.out]
  obtain ⟨a1, c1, he1, _⟩ := ho1.bytes
  have CP := LH (put_any b g l bad a1 c1 (beBytes 2 n ++ m) w2 (HP.out.keep hc2 (by simp) (by simp)) (by rw [<- he1]; exact ho1.bytes) (by rw [hl12]; omega))
  rw [<- he1] at CP
  have HC2 := LH hc2
  clear ho1 hg1 hat1 he1 hc2 hl12
  refine CP.out.mono ?_
  rintro e w3 ⟨rfl, HW⟩
  have HW3 := LH (Wrote.before HW HC2.out)
  clear HW CP
  go_wp2
  go_end0
  exact ⟨rfl, HW3.out⟩
theorem Wrote.glue {t : TypeId} {w w1 w2 : World} {b : Nat} {g g1 : Option Nat} {r : List UInt8 × Int} (hg : g1 = g ∨ ∃ k, g1 = some k /\ w.heap.size <= k) (hc : Chg (b :: g.toList) w w1) (h : Wrote t w1 w2 b g1 r) : Wrote t w w2 b g r := by
 obtain ⟨g2, hp2, hg2, hc2⟩ := h
 refine ⟨g2, hp2, ?_, hc.trans hc2 ?_⟩
 ·rcases hg2 with rfl | ⟨k, rfl, hk⟩
  ·exact hg
  ·exact .inr ⟨k, rfl, Nat.le_trans hc.size hk⟩
 ·intro x hx
  rcases List.mem_cons.1 hx with rfl | hx
  ·exact .inl (List.mem_cons_self ..)
  ·rcases hg with rfl | ⟨k, rfl, hk⟩
   ·exact .inl (List.mem_cons_of_mem _ hx)
   ·obtain rfl : x = k := by simpa using hx
    exact .inr hk
theorem i64_and_low (n : Nat) (h : n <= 65535) : bits .and .i64 (n : Int) 65535 = (n : Int) := by
 show IntKind.i64.wrap ((BitVec.ofInt 64 (n : Int) &&& BitVec.ofInt 64 ((65535 : Nat) : Int)).toNat : Int) = _
 rw [BitVec.toNat_and, ofInt_i64 n (by omega), ofInt_i64 65535 (by omega), show (65535 : Nat) = 2 ^ 16 - 1 from rfl, Nat.and_two_pow_sub_one_eq_mod, Nat.mod_eq_of_lt (by omega), IntKind.wrap_i64]
 omega
theorem rpraw_any (b : Nat) (g : Option Nat) (l : List UInt8) (bad : Int) (v : Value) (m : List UInt8) (w : World) (h : PenAt 117 w b g l bad) (hm : BytesAt w v m) (hml : m.length <= 900000) (hg : m ≠ [] -> ∀ k, v.ownBlock = some k -> k ≠ b /\ g ≠ some k) :
  Calls Tryz.prog 51 #[.pointer (some ⟨b, 0, none⟩), v] w fun e w' => e = .returned (.tuple #[]) /\ Wrote 117 w w' b g (penRaw l bad m) := by
 obtain ⟨a, cap, rfl, h1, h2, h3⟩ := hm
 have HM := LH (show BytesAt w (.slice a m.length cap) m from ⟨a, cap, rfl, h1, h2, h3⟩)
 have HP := LH h
 have HG := LH hg
 have HG0 : ∀ (w' : World) (g' : Option Nat), Chg (b :: g.toList) w w' -> BytesAt w' (.slice a m.length cap) m := fun w' g' hc => by
  refine ⟨a, cap, rfl, h1, h2, ?_⟩
  rcases h3 with h3 | ⟨k, o, rfl, hcell⟩
  ·exact .inl h3
  ·refine .inr ⟨k, o, rfl, fun i hi => hc.cell (hcell i hi) ?_⟩
   have := hg (fun e => by rw [e] at hi; simp at hi) k rfl
   simp
   exact ⟨this.1, fun e => this.2 e⟩
 have HGM := LH HG0
 clear HG0 h3 hg
 obtain ⟨pv, hb, hr, hpg, hne, hll⟩ := h
 have b0 := blk_cell hb 0 _ rfl
 have b1 := blk_cell hb 1 _ rfl
 have f1 := blk_frozen hb 1
 have hbl := blk_lt hb
 obtain ⟨ap, cp, rfl⟩ := hr.slice
 by_cases hbad : bad = 0
 ·subst hbad
  by_cases hlong : 65535 < m.length
  ·have HR : Hid (penRaw l 0 m = penAdd l 3 m) := LH (by unfold penRaw penAdd; rw [if_neg (by simp), if_pos hlong, if_pos (by decide)])
   have hlz : (65535 : Int) < (m.length : Int) := by omega
   have HC0 : Hid (Chg (b :: g.toList) w (w.setCell ⟨b, 1, none⟩ (.int .i64 3))) := LH ((Chg.refl _ w).setCell (.inl (by simp)) _)
   have HP0 : PenAt 117 (w.setCell ⟨b, 1, none⟩ (.int .i64 3)) b g l 3 := ⟨_, set_blk hb, hr.keep (fun k hk => Below.heap_setCell w _ _ k (fun e => hne (by rw [<- hpg, hk, e]))), hpg, hne, hll⟩
   have hn0 : penNum l 3 = fun _ _ => (l, 3) := by
    funext x n
    unfold penNum; rw [if_pos (by decide)]
   have CN := fun x => rpnum_any b g l 3 x 2 _ HP0 (by omega) (by omega)
   rw [hn0] at CN
   have HCN := LH CN
   have hA : ∀ w', Wrote 117 w w' b g (penAdd l 3 m) -> Wrote 117 w w' b g (penRaw l 0 m) := fun w' h => by rw [HR.out]; exact h
   have HA := LH hA
   clear hb hr hn0 CN hpg hne hA HP0
   go_enter Tryz.func51, Tryz.ntmps51
   go_wp2_with fail
   refine (HCN.out _).mono ?_
   rintro e w2 ⟨rfl, g2, hp2, hg2, hc2⟩
   have hc02 := HC0.out.trans hc2 (fun x hx => .inl hx)
   have CA := LH (radd_any b g2 _ _ a cap m w2 hp2 (HGM.out w2 g2 hc02) (by omega))
   have hg02 : g2 = g ∨ ∃ k, g2 = some k /\ w.heap.size <= k := by
    rcases hg2 with h | ⟨k, h, hk⟩
    ·exact .inl h
    ·exact .inr ⟨k, h, Nat.le_trans HC0.out.size hk⟩
   have HW2 := LH (And.intro hg02 hc02)
   clear hp2 hg2 hc2 hc02 hg02 HCN
   go_wp2_with fail
   refine CA.out.mono ?_
   rintro e w3 ⟨rfl, hw3⟩
   have HW3 := LH (Wrote.glue HW2.out.1 HW2.out.2 hw3)
   clear hw3 CA
   go_wp2
   go_end0
   exact ⟨rfl, HA.out _ HW3.out⟩
  ·have hlz : ¬ (65535 : Int) < (m.length : Int) := by omega
   by_cases hfull : 65536 < l.length + 2 + m.length
   ·have HR : Hid (penRaw l 0 m = penAdd l 3 m) := LH (by
     unfold penRaw penAdd
     rw [if_neg (by simp), if_neg hlong, if_neg (by simp), if_pos (by rw [List.length_append, beBytes_len]; omega), if_pos (by decide)])
    have hfz : (65536 : Int) < (l.length : Int) + 2 + (m.length : Int) := by omega
    have HC0 : Hid (Chg (b :: g.toList) w (w.setCell ⟨b, 1, none⟩ (.int .i64 3))) := LH ((Chg.refl _ w).setCell (.inl (by simp)) _)
    have HP0 : PenAt 117 (w.setCell ⟨b, 1, none⟩ (.int .i64 3)) b g l 3 := ⟨_, set_blk hb, hr.keep (fun k hk => Below.heap_setCell w _ _ k (fun e => hne (by rw [<- hpg, hk, e]))), hpg, hne, hll⟩
    have hn0 : penNum l 3 = fun _ _ => (l, 3) := by
     funext x n
     unfold penNum; rw [if_pos (by decide)]
    have CN := fun x => rpnum_any b g l 3 x 2 _ HP0 (by omega) (by omega)
    rw [hn0] at CN
    have HCN := LH CN
    have hA : ∀ w', Wrote 117 w w' b g (penAdd l 3 m) -> Wrote 117 w w' b g (penRaw l 0 m) := fun w' h => by rw [HR.out]; exact h
    have HA := LH hA
    clear hb hr hn0 CN hpg hne hA HP0
    go_enter Tryz.func51, Tryz.ntmps51
    go_wp2_with fail
    refine (HCN.out _).mono ?_
    rintro e w2 ⟨rfl, g2, hp2, hg2, hc2⟩
    have hc02 := HC0.out.trans hc2 (fun x hx => .inl hx)
    have CA := LH (radd_any b g2 _ _ a cap m w2 hp2 (HGM.out w2 g2 hc02) (by omega))
    have hg02 : g2 = g ∨ ∃ k, g2 = some k /\ w.heap.size <= k := by
     rcases hg2 with h | ⟨k, h, hk⟩
     ·exact .inl h
     ·exact .inr ⟨k, h, Nat.le_trans HC0.out.size hk⟩
    have HW2 := LH (And.intro hg02 hc02)
    clear hp2 hg2 hc2 hc02 hg02 HCN
    go_wp2_with fail
    refine CA.out.mono ?_
    rintro e w3 ⟨rfl, hw3⟩
    have HW3 := LH (Wrote.glue HW2.out.1 HW2.out.2 hw3)
    clear hw3 CA
    go_wp2
    go_end0
    exact ⟨rfl, HA.out _ HW3.out⟩
   ·have hfz : ¬ (65536 : Int) < (l.length : Int) + 2 + (m.length : Int) := by omega
    have HC0 : Hid (Chg (b :: g.toList) w w) := LH (Chg.refl _ w)
    have hand := i64_and_low m.length (by omega)
    have hn0 : penNum l 0 (m.length : Int) 2 = (l ++ beBytes 2 m.length, 0) := by
     unfold penNum
     rw [if_neg (by simp), if_neg (by omega)]
     unfold penAdd
     rw [if_neg (by simp), if_neg (by rw [beBytes_len]; omega), Int.toNat_natCast]
    have CN := fun (_ : Unit) => rpnum_any b g l 0 (m.length : Int) 2 w HP.out (by omega) (by omega)
    rw [show (2 : Int).toNat = 2 from rfl, hn0] at CN
    have HCN := LH CN
    have HR : Hid (penAdd (l ++ beBytes 2 m.length) 0 m = penRaw l 0 m) := LH (by
     unfold penRaw penAdd
     rw [if_neg (by simp), if_neg (by rw [List.length_append, beBytes_len]; omega), if_neg (by simp), if_neg hlong, if_neg (by simp), if_neg (by rw [List.length_append, beBytes_len]; omega), List.append_assoc])
    have hA : ∀ w', Wrote 117 w w' b g (penAdd (l ++ beBytes 2 m.length) 0 m) -> Wrote 117 w w' b g (penRaw l 0 m) := fun w' h => by rw [<- HR.out]; exact h
    have HA := LH hA
    clear hb hr hn0 CN hpg hne hA
    go_enter Tryz.func51, Tryz.ntmps51
    go_wp2_with fail
    refine (HCN.out ()).mono ?_
    rintro e w2 ⟨rfl, g2, hp2, hg2, hc2⟩
    have hc02 := HC0.out.trans hc2 (fun x hx => .inl hx)
    have CA := LH (radd_any b g2 _ _ a cap m w2 hp2 (HGM.out w2 g2 hc02) (by omega))
    have hg02 : g2 = g ∨ ∃ k, g2 = some k /\ w.heap.size <= k := by
     rcases hg2 with h | ⟨k, h, hk⟩
     ·exact .inl h
     ·exact .inr ⟨k, h, Nat.le_trans HC0.out.size hk⟩
    have HW2 := LH (And.intro hg02 hc02)
    clear hp2 hg2 hc2 hc02 hg02 HCN
    go_wp2_with fail
    refine CA.out.mono ?_
    rintro e w3 ⟨rfl, hw3⟩
    have HW3 := LH (Wrote.glue HW2.out.1 HW2.out.2 hw3)
    clear hw3 CA
    go_wp2
    go_end0
    exact ⟨rfl, HA.out _ HW3.out⟩
 ·have q2 : (bad == 0) = false := by simp [hbad]
  have HR : Hid (penRaw l bad m = penAdd l bad m) := LH (by unfold penRaw penAdd; rw [if_pos hbad, if_pos hbad])
  have HC0 : Hid (Chg (b :: g.toList) w w) := LH (Chg.refl _ w)
  have hn0 : penNum l bad = fun _ _ => (l, bad) := by
   funext x n
   unfold penNum; rw [if_pos hbad]
  have CN := fun x => rpnum_any b g l bad x 2 w HP.out (by omega) (by omega)
  rw [hn0] at CN
  have HCN := LH CN
  have hA : ∀ w', Wrote 117 w w' b g (penAdd l bad m) -> Wrote 117 w w' b g (penRaw l bad m) := fun w' h => by rw [HR.out]; exact h
  have HA := LH hA
  clear hb hr hbad hn0 CN hpg hne hA
  go_enter Tryz.func51, Tryz.ntmps51
  go_wp2_with fail
  refine (HCN.out _).mono ?_
  rintro e w2 ⟨rfl, g2, hp2, hg2, hc2⟩
  have hc02 := HC0.out.trans hc2 (fun x hx => .inl hx)
  have CA := LH (radd_any b g2 _ _ a cap m w2 hp2 (HGM.out w2 g2 hc02) (by omega))
  have hg02 : g2 = g ∨ ∃ k, g2 = some k /\ w.heap.size <= k := by
   rcases hg2 with h | ⟨k, h, hk⟩
   ·exact .inl h
   ·exact .inr ⟨k, h, Nat.le_trans HC0.out.size hk⟩
  have HW2 := LH (And.intro hg02 hc02)
  clear hp2 hg2 hc2 hc02 hg02 HCN
  go_wp2_with fail
  refine CA.out.mono ?_
  rintro e w3 ⟨rfl, hw3⟩
  have HW3 := LH (Wrote.glue HW2.out.1 HW2.out.2 hw3)
  clear hw3 CA
  go_wp2
  go_end0
  exact ⟨rfl, HA.out _ HW3.out⟩
abbrev PB := List UInt8 × Int
def pnS (r : PB) (x : Int) (n : Nat) : PB := penNum r.1 r.2 x n
def prS (r : PB) (m : List UInt8) : PB := penRaw r.1 r.2 m
def pbS (r : PB) (q : Bool) : PB := penBool r.1 r.2 q
def penId (r : PB) (x : Id) : PB := pnS (pnS (pnS (pnS r x.c 1) x.l 3) x.n 4) x.i 1
def penOut (r : PB) : PB := if r.2 ≠ 0 then ([], r.2) else r
structure PenN (ty : TypeId) (K : List Nat) (w0 w : World) (b : Nat) (r : PB) : Prop where
 pen : ∃ g, PenAt ty w b g r.1 r.2 /\ ∀ k, g = some k -> w0.heap.size <= k /\ k ∉ K
 own : w0.heap.size <= b /\ b ∉ K
 chg : Chg [] w0 w
 lim : ∀ x ∈ K, x < w.heap.size
def PenPost (ty : TypeId) (K : List Nat) (w0 w : World) (b : Nat) (r : PB) (e : Ending) (w' : World) : Prop := e = .returned (.tuple #[]) /\ PenN ty K w0 w' b r /\ ∀ x ∈ K, w'.heap[x]? = w.heap[x]?
section
variable {ty : TypeId} {K Y : List Nat} {w0 w w' : World} {b : Nat} {r r' : PB}
theorem PenN.wrote {g : Option Nat} (h : PenN ty K w0 w b r) (hg : ∀ k, g = some k -> w0.heap.size <= k /\ k ∉ K) (hw : Wrote ty w w' b g r') : PenN ty K w0 w' b r' /\ ∀ x ∈ K, w'.heap[x]? = w.heap[x]? := by
 obtain ⟨g', h1, h2, h3⟩ := hw
 have hs := h.chg.size
 refine ⟨⟨⟨g', h1, fun k hk => ?_⟩, h.own, h.chg.trans h3 (fun x hx => .inr ?_), fun x hx => Nat.lt_of_lt_of_le (h.lim x hx) h3.size⟩, fun x hx => h3.block x (h.lim x hx) (fun hm => ?_)⟩
 ·rcases h2 with rfl | ⟨k', rfl, h4⟩
  ·exact hg k hk
  ·obtain rfl : k' = k := by simpa using hk
   exact ⟨by omega, fun hm => by have := h.lim _ hm; omega⟩
 ·rcases List.mem_cons.1 hx with rfl | hx
  ·exact h.own.1
  ·exact (hg x (by simpa using hx)).1
 ·rcases List.mem_cons.1 hm with rfl | hm
  ·exact h.own.2 hx
  ·exact (hg x (by simpa using hm)).2 hx
theorem PenN.add (h : PenN ty K w0 w b r) (hc : Chg [] w w') (hY : ∀ k ∈ Y, k ∈ K ∨ (w.heap.size <= k /\ k < w'.heap.size)) : PenN ty Y w0 w' b r := by
 obtain ⟨g, hp, hg⟩ := h.pen
 obtain ⟨l1, l2⟩ := hp.lt
 refine ⟨⟨g, hp.keep hc (by simp) (by simp), fun k hk => ⟨(hg k hk).1, fun hm => ?_⟩⟩, ⟨h.own.1, fun hm => ?_⟩, h.chg.trans hc (by simp), fun x hx => ?_⟩
 ·rcases hY k hm with h1 | h1
  ·exact (hg k hk).2 h1
  ·have := l2 k hk; omega
 ·rcases hY b hm with h1 | h1
  ·exact h.own.2 h1
  ·omega
 ·rcases hY x hx with h1 | h1
  ·exact Nat.lt_of_lt_of_le (h.lim x h1) hc.size
  ·exact h1.2
theorem PenN.sub (h : PenN ty K w0 w b r) (hY : ∀ k ∈ Y, k ∈ K) : PenN ty Y w0 w b r := by
 obtain ⟨g, hp, hg⟩ := h.pen
 exact ⟨⟨g, hp, fun k hk => ⟨(hg k hk).1, fun hm => (hg k hk).2 (hY k hm)⟩⟩, ⟨h.own.1, fun hm => h.own.2 (hY b hm)⟩, h.chg, fun x hx => h.lim x (hY x hx)⟩
theorem PenN.fresh (ty : TypeId) (hc : Chg [] w0 w) (hK : ∀ x ∈ K, x < w.heap.size) : PenN ty K w0 (w.alloc (.cells #[.slice none 0 0, .int .i64 0] ty)) w.heap.size ([], 0) :=
 ⟨⟨none, ⟨.slice none 0 0, heap_alloc_new w _, BRow.nil _, rfl, by simp, by simp⟩, by simp⟩, ⟨hc.size, fun hm => by have := hK _ hm; omega⟩, hc.alloc _, fun x hx => by have := hK x hx; simp; omega⟩
end
theorem id_at {w w' : World} {N : Nat} {a c d e : Int} (h : w.heap[N]? = some (.cells (idC ⟨a, c, d, e⟩) 38 (0, 0))) (hk : w'.heap[N]? = w.heap[N]?) : w'.heap[N]? = some (.cells (idC ⟨a, c, d, e⟩) 38 (0, 0)) := hk.trans h
theorem pbytes_bad (b : Nat) (g : Option Nat) (l : List UInt8) (bad : Int) (w : World) (h : PenAt 110 w b g l bad) (hb : bad ≠ 0) :
  Calls Tryz.prog 48 #[.pointer (some ⟨b, 0, none⟩)] w fun e w' => e = .returned (.tuple #[.slice none 0 0, .int .i64 bad]) /\ Chg [] w w' := by
 obtain ⟨v, hb0, hr, hg, hne, hl⟩ := h
 obtain ⟨av, cv, rfl⟩ := hr.slice
 have b0 := blk_cell hb0 0 _ rfl
 have b1 := blk_cell hb0 1 _ rfl
 have q0 : (bad != 0) = true := by simp [hb]
 have q1 : (bad == 0) = false := by simp [hb]
 clear hb0 hr hg hb
 go_enter Tryz.func48, Tryz.ntmps48
 go_wp2_with fail
 go_quiet (fail)
 go_wp2
 go_ret2
 exact ⟨rfl, (Chg.refl [] w).drewN nq⟩
theorem rpbytes_bad (b : Nat) (g : Option Nat) (l : List UInt8) (bad : Int) (w : World) (h : PenAt 117 w b g l bad) (hb : bad ≠ 0) :
  Calls Tryz.prog 52 #[.pointer (some ⟨b, 0, none⟩)] w fun e w' => e = .returned (.tuple #[.slice none 0 0, .int .i64 bad]) /\ Chg [] w w' := by
 obtain ⟨v, hb0, hr, hg, hne, hl⟩ := h
 obtain ⟨av, cv, rfl⟩ := hr.slice
 have b0 := blk_cell hb0 0 _ rfl
 have b1 := blk_cell hb0 1 _ rfl
 have q0 : (bad != 0) = true := by simp [hb]
 have q1 : (bad == 0) = false := by simp [hb]
 clear hb0 hr hg hb
 go_enter Tryz.func52, Tryz.ntmps52
 go_wp2_with fail
 go_quiet (fail)
 go_wp2
 go_ret2
 exact ⟨rfl, (Chg.refl [] w).drewN nq⟩
theorem rpbytes_any (b : Nat) (g : Option Nat) (l : List UInt8) (w : World) (h : PenAt 117 w b g l 0) :
  Calls Tryz.prog 52 #[.pointer (some ⟨b, 0, none⟩)] w fun e w' => ∃ v', e = .returned (.tuple #[v', .int .i64 0]) /\ BRow w' v' l /\ (∀ g, v'.ownBlock = some g -> w.heap.size <= g) /\ Chg [] w w' := by
 obtain ⟨v, hb, hr, hg, hne, hl⟩ := h
 obtain ⟨av, cv, rfl⟩ := hr.slice
 have b0 := blk_cell hb 0 _ rfl
 have b1 := blk_cell hb 1 _ rfl
 have CC := LH (rcopy_any _ l w hr.bytes (by omega))
 clear hb hr hg
 go_enter Tryz.func52, Tryz.ntmps52
 go_wp2_with fail
 refine CC.out.mono ?_
 rintro e w1 ⟨v1, rfl, h1, h2, h3⟩
 have H := LH (And.intro h1 (And.intro h2 h3))
 obtain ⟨a1, c1, rfl⟩ := h1.slice
 clear h1 h2 h3
 go_wp2
 go_ret2
 exact ⟨_, rfl, H.out⟩
def OutPost (w0 w : World) (r : PB) (e : Ending) (w' : World) : Prop := ∃ v, e = .returned (.tuple #[v, .int .i64 (penOut r).2]) /\ BytesAt w' v (penOut r).1 /\ (∀ k, v.ownBlock = some k -> w0.heap.size <= k) /\ Chg [] w0 w'
section
variable {K : List Nat} {w0 w : World} {b : Nat} {r : PB}
theorem pnN (h : PenN 110 K w0 w b r) (x : Int) (n : Nat) (h1 : 1 <= n) (h7 : n <= 7) : Calls Tryz.prog 45 #[.pointer (some ⟨b, 0, none⟩), .int .i64 x, .int .i64 (n : Int)] w (PenPost 110 K w0 w b (pnS r x n)) := by
 obtain ⟨g, hp, hg⟩ := h.pen
 refine (pnum_any b g r.1 r.2 x (n : Int) w hp (by omega) (by omega)).mono ?_
 rintro e w' ⟨rfl, hw⟩
 rw [Int.toNat_natCast] at hw
 exact ⟨rfl, h.wrote hg hw⟩
theorem prN (h : PenN 110 K w0 w b r) (v : Value) (m : List UInt8) (hm : BytesAt w v m) (hml : m.length <= 900000) (hk : m ≠ [] -> ∀ k, v.ownBlock = some k -> k < w0.heap.size ∨ k ∈ K) : Calls Tryz.prog 47 #[.pointer (some ⟨b, 0, none⟩), v] w (PenPost 110 K w0 w b (prS r m)) := by
 obtain ⟨g, hp, hg⟩ := h.pen
 refine (praw_any b g r.1 r.2 v m w hp hm hml).mono ?_
 rintro e w' ⟨rfl, hw⟩
 exact ⟨rfl, h.wrote hg hw⟩
theorem pbN (h : PenN 110 K w0 w b r) (q : Bool) : Calls Tryz.prog 64 #[.pointer (some ⟨b, 0, none⟩), .bool q] w (PenPost 110 K w0 w b (pbS r q)) := by
 obtain ⟨g, hp, hg⟩ := h.pen
 refine (pbool_any b g r.1 r.2 q w hp).mono ?_
 rintro e w' ⟨rfl, hw⟩
 exact ⟨rfl, h.wrote hg hw⟩
theorem poN (h : PenN 110 K w0 w b r) : Calls Tryz.prog 48 #[.pointer (some ⟨b, 0, none⟩)] w (OutPost w0 w r) := by
 obtain ⟨g, hp, hg⟩ := h.pen
 by_cases hb : r.2 = 0
 ·have e0 : penOut r = r := by unfold penOut; rw [if_neg (by simp [hb])]
  rw [hb] at hp
  refine (pbytes_any b g r.1 w hp).mono ?_
  rintro e w' ⟨v, rfl, h1, h2, h3⟩
  exact ⟨v, by rw [e0, hb], by rw [e0]; exact h1.bytes, fun k hk => Nat.le_trans h.chg.size (h2 k hk), h.chg.trans h3 (by simp)⟩
 ·have e0 : penOut r = ([], r.2) := by unfold penOut; rw [if_pos hb]
  refine (pbytes_bad b g r.1 r.2 w hp hb).mono ?_
  rintro e w' ⟨rfl, hq⟩
  exact ⟨_, by rw [e0], by rw [e0]; exact BytesAt.nil _, by simp [Value.ownBlock], h.chg.trans hq (by simp)⟩
theorem putid_any (h : PenN 110 K w0 w b r) (x : Id) : Calls Tryz.prog 46 #[.pointer (some ⟨b, 0, none⟩), idV x] w (PenPost 110 K w0 w b (penId r x)) := by
 obtain ⟨w1, hw1⟩ : ∃ w1, w1 = w.alloc (.cells (idC x) 38) := ⟨_, rfl⟩
 obtain ⟨N, hN⟩ : ∃ N, N = w.heap.size := ⟨_, rfl⟩
 have hc1 : Chg [] w w1 := by rw [hw1]; exact (Chg.refl [] w).alloc _
 have hb1 : w1.heap[N]? = some (.cells (idC x) 38 (0, 0)) := by rw [hw1, hN]; exact heap_alloc_new w _
 have hn1 : N < w1.heap.size := blk_lt hb1
 have H1 := LH (h.add (Y := N :: K) hc1 (fun k hk => by
  rcases List.mem_cons.1 hk with rfl | hk
  ·exact .inr ⟨by omega, hn1⟩
  ·exact .inl hk))
 have hold : ∀ y ∈ K, w1.heap[y]? = w.heap[y]? := fun y hy => hc1.block y (h.lim y hy) (by simp)
 have HOLD := LH hold
 have HW1 := LH hw1
 have HN := LH hN
 obtain ⟨xc, xl, xn, xi⟩ := x
 have HB1 := LH hb1
 obtain ⟨k0, k1, k2, k3⟩ := id_cells hb1
 have C1 := LH (pnN H1.out xc 1 (by omega) (by omega))
 clear hw1 hN hc1 hb1 hold h hn1
 go_enter Tryz.func46, Tryz.ntmps46
 go_wp2_with fail
 rw [<- HW1.out, <- HN.out]
 refine C1.out.mono ?_
 rintro e w2 ⟨rfl, h2, hk2⟩
 have HB2 := LH (id_at HB1.out (hk2 N (List.mem_cons_self ..)))
 have HK2 := LH hk2
 have C2 := LH (pnN h2 xl 3 (by omega) (by omega))
 obtain ⟨k0, k1, k2, k3⟩ := id_cells HB2.out
 clear h2 hk2 C1
 go_wp2_with fail
 refine C2.out.mono ?_
 rintro e w3 ⟨rfl, h3, hk3⟩
 have HB3 := LH (id_at HB2.out (hk3 N (List.mem_cons_self ..)))
 have HK3 := LH hk3
 have C3 := LH (pnN h3 xn 4 (by omega) (by omega))
 obtain ⟨k0, k1, k2, k3⟩ := id_cells HB3.out
 clear h3 hk3 C2
 go_wp2_with fail
 refine C3.out.mono ?_
 rintro e w4 ⟨rfl, h4, hk4⟩
 have HB4 := LH (id_at HB3.out (hk4 N (List.mem_cons_self ..)))
 have HK4 := LH hk4
 have C4 := LH (pnN h4 xi 1 (by omega) (by omega))
 obtain ⟨k0, k1, k2, k3⟩ := id_cells HB4.out
 clear h4 hk4 C3
 go_wp2_with fail
 refine C4.out.mono ?_
 rintro e w5 ⟨rfl, h5, hk5⟩
 have H5 := LH (h5.sub (Y := K) (fun k hk => List.mem_cons_of_mem _ hk))
 have HK5 := LH hk5
 clear h5 hk5 C4 k0 k1 k2 k3
 go_wp2
 refine bodyPost_ret (results_none rfl _ _ _) rfl ?_
 exact ⟨rfl, H5.out, fun y hy => (HK5.out y (List.mem_cons_of_mem _ hy)).trans ((HK4.out y (List.mem_cons_of_mem _ hy)).trans ((HK3.out y (List.mem_cons_of_mem _ hy)).trans ((HK2.out y (List.mem_cons_of_mem _ hy)).trans (HOLD.out y hy))))⟩
end
section
variable {K : List Nat} {w0 w : World} {b : Nat} {r : PB}
theorem rpnN (h : PenN 117 K w0 w b r) (x : Int) (n : Nat) (h1 : 1 <= n) (h7 : n <= 7) : Calls Tryz.prog 49 #[.pointer (some ⟨b, 0, none⟩), .int .i64 x, .int .i64 (n : Int)] w (PenPost 117 K w0 w b (pnS r x n)) := by
 obtain ⟨g, hp, hg⟩ := h.pen
 refine (rpnum_any b g r.1 r.2 x (n : Int) w hp (by omega) (by omega)).mono ?_
 rintro e w' ⟨rfl, hw⟩
 rw [Int.toNat_natCast] at hw
 exact ⟨rfl, h.wrote hg hw⟩
theorem rprN (h : PenN 117 K w0 w b r) (v : Value) (m : List UInt8) (hm : BytesAt w v m) (hml : m.length <= 900000) (hk' : m ≠ [] -> ∀ k, v.ownBlock = some k -> k < w0.heap.size ∨ k ∈ K) : Calls Tryz.prog 51 #[.pointer (some ⟨b, 0, none⟩), v] w (PenPost 117 K w0 w b (prS r m)) := by
 obtain ⟨g, hp, hg⟩ := h.pen
 refine (rpraw_any b g r.1 r.2 v m w hp hm hml (fun hne k hk => by
  obtain ⟨l1, l2⟩ := hp.lt
  rcases hk' hne k hk with h1 | h1
  ·exact ⟨fun e => by have := h.own.1; omega, fun e => by have := (hg k e).1; omega⟩
  ·exact ⟨fun e => h.own.2 (e ▸ h1), fun e => (hg k e).2 h1⟩)).mono ?_
 rintro e w' ⟨rfl, hw⟩
 exact ⟨rfl, h.wrote hg hw⟩
theorem rpoN (h : PenN 117 K w0 w b r) : Calls Tryz.prog 52 #[.pointer (some ⟨b, 0, none⟩)] w (OutPost w0 w r) := by
 obtain ⟨g, hp, hg⟩ := h.pen
 by_cases hb : r.2 = 0
 ·have e0 : penOut r = r := by unfold penOut; rw [if_neg (by simp [hb])]
  rw [hb] at hp
  refine (rpbytes_any b g r.1 w hp).mono ?_
  rintro e w' ⟨v, rfl, h1, h2, h3⟩
  exact ⟨v, by rw [e0, hb], by rw [e0]; exact h1.bytes, fun k hk => Nat.le_trans h.chg.size (h2 k hk), h.chg.trans h3 (by simp)⟩
 ·have e0 : penOut r = ([], r.2) := by unfold penOut; rw [if_pos hb]
  refine (rpbytes_bad b g r.1 r.2 w hp hb).mono ?_
  rintro e w' ⟨rfl, hq⟩
  exact ⟨_, by rw [e0], by rw [e0]; exact BytesAt.nil _, by simp [Value.ownBlock], h.chg.trans hq (by simp)⟩
theorem rputid_any (h : PenN 117 K w0 w b r) (x : Id) : Calls Tryz.prog 50 #[.pointer (some ⟨b, 0, none⟩), idV x] w (PenPost 117 K w0 w b (penId r x)) := by
 obtain ⟨w1, hw1⟩ : ∃ w1, w1 = w.alloc (.cells (idC x) 38) := ⟨_, rfl⟩
 obtain ⟨N, hN⟩ : ∃ N, N = w.heap.size := ⟨_, rfl⟩
 have hc1 : Chg [] w w1 := by rw [hw1]; exact (Chg.refl [] w).alloc _
 have hb1 : w1.heap[N]? = some (.cells (idC x) 38 (0, 0)) := by rw [hw1, hN]; exact heap_alloc_new w _
 have hn1 : N < w1.heap.size := blk_lt hb1
 have H1 := LH (h.add (Y := N :: K) hc1 (fun k hk => by
  rcases List.mem_cons.1 hk with rfl | hk
  ·exact .inr ⟨by omega, hn1⟩
  ·exact .inl hk))
 have hold : ∀ y ∈ K, w1.heap[y]? = w.heap[y]? := fun y hy => hc1.block y (h.lim y hy) (by simp)
 have HOLD := LH hold
 have HW1 := LH hw1
 have HN := LH hN
 obtain ⟨xc, xl, xn, xi⟩ := x
 have HB1 := LH hb1
 obtain ⟨k0, k1, k2, k3⟩ := id_cells hb1
 have C1 := LH (rpnN H1.out xc 1 (by omega) (by omega))
 clear hw1 hN hc1 hb1 hold h hn1
 go_enter Tryz.func50, Tryz.ntmps50
 go_wp2_with fail
 rw [<- HW1.out, <- HN.out]
 refine C1.out.mono ?_
 rintro e w2 ⟨rfl, h2, hk2⟩
 have HB2 := LH (id_at HB1.out (hk2 N (List.mem_cons_self ..)))
 have HK2 := LH hk2
 have C2 := LH (rpnN h2 xl 3 (by omega) (by omega))
 obtain ⟨k0, k1, k2, k3⟩ := id_cells HB2.out
 clear h2 hk2 C1
 go_wp2_with fail
 refine C2.out.mono ?_
 rintro e w3 ⟨rfl, h3, hk3⟩
 have HB3 := LH (id_at HB2.out (hk3 N (List.mem_cons_self ..)))
 have HK3 := LH hk3
 have C3 := LH (rpnN h3 xn 4 (by omega) (by omega))
 obtain ⟨k0, k1, k2, k3⟩ := id_cells HB3.out
 clear h3 hk3 C2
 go_wp2_with fail
 refine C3.out.mono ?_
 rintro e w4 ⟨rfl, h4, hk4⟩
 have HB4 := LH (id_at HB3.out (hk4 N (List.mem_cons_self ..)))
 have HK4 := LH hk4
 have C4 := LH (rpnN h4 xi 1 (by omega) (by omega))
 obtain ⟨k0, k1, k2, k3⟩ := id_cells HB4.out
 clear h4 hk4 C3
 go_wp2_with fail
 refine C4.out.mono ?_
 rintro e w5 ⟨rfl, h5, hk5⟩
 have H5 := LH (h5.sub (Y := K) (fun k hk => List.mem_cons_of_mem _ hk))
 have HK5 := LH hk5
 clear h5 hk5 C4 k0 k1 k2 k3
 go_wp2
 refine bodyPost_ret (results_none rfl _ _ _) rfl ?_
 exact ⟨rfl, H5.out, fun y hy => (HK5.out y (List.mem_cons_of_mem _ hy)).trans ((HK4.out y (List.mem_cons_of_mem _ hy)).trans ((HK3.out y (List.mem_cons_of_mem _ hy)).trans ((HK2.out y (List.mem_cons_of_mem _ hy)).trans (HOLD.out y hy))))⟩
end
structure Rq where
 k : Int
 x : Id
 b : List UInt8
structure Rp where
 e : Int
 b : List UInt8
 ids : List Id
 room : Int
 whole : Bool
def noRp : Rp := ⟨0, [], [], 0, false⟩
def noRq : Rq := ⟨0, ⟨0, 0, 0, 0⟩, []⟩
def errRp (e : Int) : Rp := ⟨e, [], [], 0, false⟩
def rqL (r : Rq) (bv : Value) : List Value := [.int .i64 r.k, .int .i64 r.x.c, .int .i64 r.x.l, .int .i64 r.x.n, .int .i64 r.x.i, bv]
def rqV (r : Rq) (bv : Value) : Value := .agg (rqL r bv).toArray
def rpL (e : Int) (bv iv : Value) (room : Int) (wh : Bool) : List Value := [.int .i64 e, bv, iv, .int .i64 room, .bool wh]
def rpV (e : Int) (bv iv : Value) (room : Int) (wh : Bool) : Value := .agg (rpL e bv iv room wh).toArray
def zeroRp : Array Value := #[.int .i64 0, .slice none 0 0, .slice none 0 0, .int .i64 0, .bool false]
def zeroRq : Array Value := #[.int .i64 0, .int .i64 0, .int .i64 0, .int .i64 0, .int .i64 0, .slice none 0 0]
theorem rp_size (e room : Int) (bv iv : Value) (wh : Bool) : (Tryz.prog.info? 32).map (·.size) = some (rpL e bv iv room wh).toArray.size := by kernel_rfl
theorem rq_size (r : Rq) (bv : Value) : (Tryz.prog.info? 40).map (·.size) = some (rqL r bv).toArray.size := by kernel_rfl
theorem rrp_size (e room : Int) (bv iv : Value) (wh : Bool) : (Tryz.prog.info? 54).map (·.size) = some (rpL e bv iv room wh).toArray.size := by kernel_rfl
theorem five_there {w : World} {b t : Nat} {a0 a1 a2 a3 a4 : Value} (h : w.heap[b]? = some (.cells #[a0, a1, a2, a3, a4] t (0, 0))) (n : Nat) (hn : n = 5) : w.there b 0 n := fun j hj => by
 subst hn
 rw [Nat.zero_add]
 refine ⟨?_, blk_frozen h j⟩
 have h2 : (#[a0, a1, a2, a3, a4] : Array Value)[j]? = some (#[a0, a1, a2, a3, a4][j]'(by simpa using hj)) := Array.getElem?_eq_getElem _
 rw [blk_cell h j _ h2]
 rfl
theorem five_set {w : World} {b t : Nat} {a0 a1 a2 a3 a4 : Value} (h : w.heap[b]? = some (.cells #[a0, a1, a2, a3, a4] t (0, 0))) (u0 u1 u2 u3 u4 : Value) : (w.setCells b 0 [u0, u1, u2, u3, u4]).heap[b]? = some (.cells #[u0, u1, u2, u3, u4] t (0, 0)) := by
 simp only [World.setCells]
 have h0 : (w.setCell ⟨b, 0, none⟩ u0).heap[b]? = some (.cells #[u0, a1, a2, a3, a4] t (0, 0)) := set_blk h
 generalize w.setCell ⟨b, 0, none⟩ u0 = x0 at *
 have h1 : (x0.setCell ⟨b, 0 + 1, none⟩ u1).heap[b]? = some (.cells #[u0, u1, a2, a3, a4] t (0, 0)) := set_blk h0
 generalize x0.setCell ⟨b, 0 + 1, none⟩ u1 = x1 at *
 have h2 : (x1.setCell ⟨b, 0 + 1 + 1, none⟩ u2).heap[b]? = some (.cells #[u0, u1, u2, a3, a4] t (0, 0)) := set_blk h1
 generalize x1.setCell ⟨b, 0 + 1 + 1, none⟩ u2 = x2 at *
 have h3 : (x2.setCell ⟨b, 0 + 1 + 1 + 1, none⟩ u3).heap[b]? = some (.cells #[u0, u1, u2, u3, a4] t (0, 0)) := set_blk h2
 generalize x2.setCell ⟨b, 0 + 1 + 1 + 1, none⟩ u3 = x3 at *
 exact set_blk h3
theorem six_set {w : World} {b t : Nat} {a0 a1 a2 a3 a4 a5 : Value} (h : w.heap[b]? = some (.cells #[a0, a1, a2, a3, a4, a5] t (0, 0))) (u0 u1 u2 u3 u4 u5 : Value) : (w.setCells b 0 [u0, u1, u2, u3, u4, u5]).heap[b]? = some (.cells #[u0, u1, u2, u3, u4, u5] t (0, 0)) := by
 simp only [World.setCells]
 have h0 : (w.setCell ⟨b, 0, none⟩ u0).heap[b]? = some (.cells #[u0, a1, a2, a3, a4, a5] t (0, 0)) := set_blk h
 generalize w.setCell ⟨b, 0, none⟩ u0 = x0 at *
 have h1 : (x0.setCell ⟨b, 0 + 1, none⟩ u1).heap[b]? = some (.cells #[u0, u1, a2, a3, a4, a5] t (0, 0)) := set_blk h0
 generalize x0.setCell ⟨b, 0 + 1, none⟩ u1 = x1 at *
 have h2 : (x1.setCell ⟨b, 0 + 1 + 1, none⟩ u2).heap[b]? = some (.cells #[u0, u1, u2, a3, a4, a5] t (0, 0)) := set_blk h1
 generalize x1.setCell ⟨b, 0 + 1 + 1, none⟩ u2 = x2 at *
 have h3 : (x2.setCell ⟨b, 0 + 1 + 1 + 1, none⟩ u3).heap[b]? = some (.cells #[u0, u1, u2, u3, a4, a5] t (0, 0)) := set_blk h2
 generalize x2.setCell ⟨b, 0 + 1 + 1 + 1, none⟩ u3 = x3 at *
 have h4 : (x3.setCell ⟨b, 0 + 1 + 1 + 1 + 1, none⟩ u4).heap[b]? = some (.cells #[u0, u1, u2, u3, u4, a5] t (0, 0)) := set_blk h3
 generalize x3.setCell ⟨b, 0 + 1 + 1 + 1 + 1, none⟩ u4 = x4 at *
 exact set_blk h4
theorem rq_cells {w : World} {N t : Nat} {k xc xl xn xi : Int} {b : List UInt8} {bv : Value} (h : w.heap[N]? = some (.cells (rqL ⟨k, ⟨xc, xl, xn, xi⟩, b⟩ bv).toArray t (0, 0))) : w.cell? ⟨N, 0, none⟩ = some (.int .i64 k) /\ (w.cell? ⟨N, 1, none⟩ = some (.int .i64 xc) /\ w.cell? ⟨N, 2, none⟩ = some (.int .i64 xl) /\ w.cell? ⟨N, 3, none⟩ = some (.int .i64 xn) /\ w.cell? ⟨N, 4, none⟩ = some (.int .i64 xi)) /\ w.cell? ⟨N, 5, none⟩ = some bv :=
 ⟨blk_cell h 0 _ rfl, ⟨blk_cell h 1 _ rfl, blk_cell h 2 _ rfl, blk_cell h 3 _ rfl, blk_cell h 4 _ rfl⟩, blk_cell h 5 _ rfl⟩
theorem rp_cells {w : World} {N t : Nat} {e room : Int} {bv iv : Value} {wh : Bool} (h : w.heap[N]? = some (.cells (rpL e bv iv room wh).toArray t (0, 0))) : w.cell? ⟨N, 0, none⟩ = some (.int .i64 e) /\ w.cell? ⟨N, 1, none⟩ = some bv /\ w.cell? ⟨N, 2, none⟩ = some iv /\ w.cell? ⟨N, 3, none⟩ = some (.int .i64 room) /\ w.cell? ⟨N, 4, none⟩ = some (.bool wh) :=
 ⟨blk_cell h 0 _ rfl, blk_cell h 1 _ rfl, blk_cell h 2 _ rfl, blk_cell h 3 _ rfl, blk_cell h 4 _ rfl⟩
def kindB (k : Int) : Bool := decide (1 <= k) && decide (k <= 6)
theorem kind_any (k : Int) (w : World) : Calls Tryz.prog 44 #[.int .i64 k] w fun e w' => e = .returned (.bool (kindB k)) /\ w = w' := by
 unfold kindB
 by_cases h1 : 1 <= k
 ·by_cases h2 : k <= 6
  ·have d1 : decide (k ≥ 1) = true := decide_eq_true h1
   have d2 : decide (k <= 6) = true := decide_eq_true h2
   rw [decide_eq_true h1, d2]
   go_enter Tryz.func44, Tryz.ntmps44
   go_wp2
   go_ret
   exact ⟨rfl, rfl⟩
  ·have d1 : decide (k ≥ 1) = true := decide_eq_true h1
   have d2 : decide (k <= 6) = false := decide_eq_false h2
   rw [decide_eq_true h1, d2]
   go_enter Tryz.func44, Tryz.ntmps44
   go_wp2
   go_ret
   exact ⟨rfl, rfl⟩
 ·have d1 : decide (k ≥ 1) = false := decide_eq_false h1
  rw [decide_eq_false h1, Bool.false_and]
  go_enter Tryz.func44, Tryz.ntmps44
  go_wp2
  go_ret
  exact ⟨rfl, rfl⟩
section
variable {P : Program} {ops : Array Oper} {Q : Exit -> Act -> World -> Prop} {md : Region.Mode} {cs : List (Nat × (World -> Prop))}
def HoldC (cs : List (Nat × (World -> Prop))) (L : Array Bool) (w : World) : Prop := ∀ c ∈ cs, L.getD c.1 true = false -> c.2 w
theorem HoldC.nil {L : Array Bool} {w : World} : HoldC [] L w := fun c hc => by cases hc
theorem HoldC.cons {L : Array Bool} {w : World} {d : Nat} {C : World -> Prop} (h : C w) (hr : HoldC cs L w) : HoldC ((d, C) :: cs) L w := fun c hc h0 => by
 rcases List.mem_cons.1 hc with rfl | hc
 ·exact h
 ·exact hr c hc h0
theorem HoldC.past {L : Array Bool} {w : World} {d : Nat} {C : World -> Prop} (h : L.getD d true = true) (hr : HoldC cs L w) : HoldC ((d, C) :: cs) L w := fun c hc h0 => by
 rcases List.mem_cons.1 hc with rfl | hc
 ·rw [h] at h0; cases h0
 ·exact hr c hc h0
theorem getD_set_false {L : Array Bool} {i j : Nat} (h : (L.setIfInBounds i true).getD j true = false) : L.getD j true = false := by
 by_cases hij : i = j
 ·subst hij
  rw [Array.getD_eq_getD_getElem?] at h
  by_cases hl : i < L.size
  ·simp [hl] at h
  ·simp [Array.getElem?_eq_none (Nat.le_of_not_lt hl), hl] at h
 ·rwa [getD_set_ne true hij] at h
theorem HoldC.set {L : Array Bool} {w : World} (h : HoldC cs L w) (i : Nat) : HoldC cs (L.setIfInBounds i true) w := fun c hc h0 => h c hc (getD_set_false h0)
def wpAnyL (P : Program) (md : Region.Mode) (ops : Array Oper) (Q : Exit -> Act -> World -> Prop) (cs : List (Nat × (World -> Prop))) : Nat -> Array Bool -> Act -> World -> Prop
 | 0, L, a, w => Region.ready md ops L = [] /\ Q .normal a w
 | n + 1, L, a, w => (Region.ready md ops L = [] -> Q .normal a w) /\
  ∀ i ∈ Region.ready md ops L, wpOp P ops Q i (fun a' w' => HoldC cs (L.setIfInBounds i true) w' /\ wpAnyL P md ops Q cs n (L.setIfInBounds i true) a' w') a w
theorem wpAny_of_L : ∀ (n : Nat) (L : Array Bool) (a : Act) (w : World), wpAnyL P md ops Q cs n L a w -> wpAny P md ops Q n L a w
 | 0, _, _, _, h => h
 | n + 1, _, _, _, h => ⟨h.1, fun i hi => wpOp_mono (fun a' w' h' => wpAny_of_L n _ a' w' h'.2) (h.2 i hi)⟩
def closedB (md : Region.Mode) (ops : Array Oper) (L : Array Bool) : Bool :=
 (List.range ops.size).all fun j => !(L.getD j true) || match ops[j]? with
  | none => true
  | some o => o.after.all fun e => !Region.binds md e || L.getD e.on false
def Closed (md : Region.Mode) (ops : Array Oper) (L : Array Bool) : Prop := ∀ j o, ops[j]? = some o -> L.getD j true = true -> ∀ e ∈ o.after, Region.binds md e = true -> L.getD e.on false = true
theorem closed_of {L : Array Bool} (h : closedB md ops L = true) : Closed md ops L := fun j o hj hl e he hb => by
 unfold closedB at h
 rw [List.all_eq_true] at h
 have h1 := h j (List.mem_range.2 (Array.getElem?_eq_some_iff.1 hj).1)
 simp only [hj, hl, Bool.not_true, Bool.false_or] at h1
 have h2 := Array.all_eq_true_iff_forall_mem.1 h1 e he
 simpa [hb] using h2
theorem Closed.step {L : Array Bool} (h : Closed md ops L) {i : Nat} (hi : i ∈ Region.ready md ops L) : Closed md ops (L.setIfInBounds i true) := fun j o hj hl e he hb => by
 obtain ⟨h0, oi, ho, hall⟩ := mem_ready.1 hi
 by_cases hij : i = j
 ·subst hij
  rw [ho] at hj; cases hj
  exact getD_set_true (hall e he hb)
 ·rw [getD_set_ne true hij] at hl
  exact getD_set_true (h j o hj hl e he hb)
def ancB (md : Region.Mode) (ops : Array Oper) : Nat -> Nat -> Nat -> Bool
 | 0, _, _ => false
 | n + 1, d, i => match ops[d]? with
  | none => false
  | some o => o.after.any fun e => Region.binds md e && (e.on == i || ancB md ops n e.on i)
theorem anc_open {L : Array Bool} (hc : Closed md ops L) {i : Nat} (hi : L.getD i true = false) : ∀ n d, ancB md ops n d i = true -> L.getD d true = false := by
 intro n
 induction n with
 | zero => intro d h; cases h
 | succ n ih =>
  intro d h
  unfold ancB at h
  cases ho : ops[d]? with
  | none => rw [ho] at h; cases h
  | some o =>
   simp only [ho] at h
   obtain ⟨e, he, h1⟩ := Array.any_eq_true'.1 h
   simp only [Bool.and_eq_true, Bool.or_eq_true, beq_iff_eq] at h1
   cases hd : L.getD d true with
   | false => rfl
   | true =>
    have h2 := hc d o ho hd e he h1.1
    rcases h1.2 with rfl | h3
    ·rw [Array.getD_eq_getD_getElem?] at hi h2
     cases hx : L[e.on]? with
     | none => rw [hx] at h2; cases h2
     | some b => rw [hx] at hi h2; simp at hi h2; rw [hi] at h2; cases h2
    ·have h4 := ih e.on h3
     rw [Array.getD_eq_getD_getElem?] at h4 h2
     cases hx : L[e.on]? with
     | none => rw [hx] at h2; cases h2
     | some b => rw [hx] at h4 h2; simp at h4 h2; rw [h4] at h2; cases h2
theorem wpAnyL_first {i : Nat} {oi : Oper} {v : Value} {C : World -> Prop} (hi : ops[i]? = some oi) (hsel : ∀ (j : Nat) (o : Oper) cs b, ops[j]? = some o -> o.op ≠ .select cs b)
  (hQ : ∀ c a w, Q (.panic c) (a.put oi.dst v) w -> Q (.panic c) a w) (hC : ∀ L w, Closed md ops L -> L.getD i true = false -> HoldC cs L w -> C w) (hne : ∀ c ∈ cs, c.1 ≠ i) :
  ∀ (fuel : Nat) (L : Array Bool) (a : Act) (w : World), Closed md ops L ->
   (∀ j oj, ops[j]? = some oj -> j ≠ i -> L.getD j true = false -> (∀ e ∈ oj.after, Region.binds md e = true -> e.on ≠ i) -> oi.apart ops oj = true) ->
   i ∈ Region.ready md ops L -> YieldsIf P ops C oi v a -> HoldC cs L w ->
   wpAnyL P md ops Q cs fuel (L.setIfInBounds i true) (a.put oi.dst v) w -> wpAnyL P md ops Q cs (fuel + 1) L a w := by
 intro fuel
 induction fuel with
 | zero =>
  intro L a w hcl _ hr hy hS H
  refine ⟨fun h => (by rw [h] at hr; cases hr), fun j hj => ?_⟩
  by_cases hji : j = i
  ·subst hji; exact hy.wpOp hi (hC L w hcl (mem_ready.1 hr).1 hS) ⟨hS.set _, H⟩
  ·have := ready_mono hj hji
   rw [H.1] at this
   cases this
 | succ fuel ih =>
  intro L a w hcl hfree hr hy hS H
  refine ⟨fun h => (by rw [h] at hr; cases hr), fun j hj => ?_⟩
  by_cases hji : j = i
  ·subst hji; exact hy.wpOp hi (hC L w hcl (mem_ready.1 hr).1 hS) ⟨hS.set _, H⟩
  ·have h1 := H.2 j (ready_mono hj hji)
   obtain ⟨hjun, oj, hoj, hall⟩ := mem_ready.1 hj
   have h0 := (mem_ready.1 hr).1
   have hnot : ∀ e ∈ oj.after, Region.binds md e = true -> e.on ≠ i := fun e he hb heq => by
    have h1 := hall e he hb
    rw [heq] at h1
    rcases Nat.lt_or_ge i L.size with h' | h'
    ·simp [h'] at h0 h1; rw [h0] at h1; cases h1
    ·simp [Array.getElem?_eq_none h'] at h1
   have h2 := wpOp_putIf hoj (hfree j oj hoj hji hjun hnot) (fun cs b => hsel i oi cs b hi) (fun cs b => hsel j oj cs b hoj) hQ hy h1
   refine wpOp_mono (fun a' w' h3 => ?_) h2
   have hS' : HoldC cs (L.setIfInBounds j true) w' := fun c hc h4 => h3.2.1 c hc (by
    rw [Array.setIfInBounds_comm _ _ (Ne.symm hji), getD_set_ne true (Ne.symm (hne c hc))]
    exact h4)
   refine ⟨hS', ih (L.setIfInBounds j true) a' w' (hcl.step hj) (fun k ok hk hki hun hno => ?_) (ready_mono hr (Ne.symm hji)) h3.1 hS' ?_⟩
   ·refine hfree k ok hk hki ?_ hno
    by_cases hjk : j = k
    ·subst hjk; exact hjun
    ·rw [getD_set_ne true hjk] at hun; exact hun
   ·rw [Array.setIfInBounds_comm _ _ hji]
    exact h3.2.2
theorem wpAnyL_take {i : Nat} {oi : Oper} {v : Value} {fuel : Nat} {L : Array Bool} {a : Act} {w : World} (hi : ops[i]? = some oi)
  (hs : Region.noSelect ops = true) (hcl : closedB md ops L = true) (hf : Region.free md ops L i = true) (hr : (Region.ready md ops L).contains i = true) (hne : cs.all (fun c => c.1 != i) = true)
  (hQ : ∀ c a w, Q (.panic c) (a.put oi.dst v) w -> Q (.panic c) a w) (hy : YieldsIf P ops (fun _ => True) oi v a) (hS : HoldC cs L w)
  (h : HoldC cs (L.setIfInBounds i true) w -> wpAnyL P md ops Q cs fuel (L.setIfInBounds i true) (a.put oi.dst v) w) : wpAnyL P md ops Q cs (fuel + 1) L a w :=
 wpAnyL_first hi (Region.noSelect_spec hs) hQ (fun _ _ _ _ _ => trivial) (fun c hc => by simpa using List.all_eq_true.1 hne c hc) fuel L a w (closed_of hcl) (Region.free_spec hi hf) (by simpa using hr) hy hS (h (hS.set _))
theorem wpAnyL_load (k : Nat) {i d : Nat} {C : World -> Prop} {oi : Oper} {v : Value} {fuel : Nat} {L : Array Bool} {a : Act} {w : World} (hk : cs[k]? = some (d, C)) (hi : ops[i]? = some oi)
  (hs : Region.noSelect ops = true) (hcl : closedB md ops L = true) (hf : Region.free md ops L i = true) (hr : (Region.ready md ops L).contains i = true) (hne : cs.all (fun c => c.1 != i) = true) (hanc : ancB md ops ops.size d i = true)
  (hQ : ∀ c a w, Q (.panic c) (a.put oi.dst v) w -> Q (.panic c) a w) (hy : YieldsIf P ops C oi v a) (hS : HoldC cs L w)
  (h : HoldC cs (L.setIfInBounds i true) w -> wpAnyL P md ops Q cs fuel (L.setIfInBounds i true) (a.put oi.dst v) w) : wpAnyL P md ops Q cs (fuel + 1) L a w :=
 wpAnyL_first hi (Region.noSelect_spec hs) hQ (fun L w h1 h2 h3 => h3 _ (List.mem_of_getElem? hk) (anc_open h1 h2 _ _ hanc)) (fun c hc => by simpa using List.all_eq_true.1 hne c hc) fuel L a w (closed_of hcl) (Region.free_spec hi hf) (by simpa using hr) hy hS (h (hS.set _))
theorem tk (i : Nat) (v : Value) {oi : Oper} {fuel : Nat} {L : Array Bool} {a : Act} {w : World} (hi : ops[i]? = some oi)
  (hb : (Region.noSelect ops && (closedB md ops L && (Region.free md ops L i && ((Region.ready md ops L).contains i && cs.all (fun c => c.1 != i))))) = true)
  (hQ : ∀ c a w, Q (.panic c) (a.put oi.dst v) w -> Q (.panic c) a w) (hy : YieldsIf P ops (fun _ => True) oi v a) (hS : HoldC cs L w)
  (h : HoldC cs (L.setIfInBounds i true) w -> wpAnyL P md ops Q cs fuel (L.setIfInBounds i true) (a.put oi.dst v) w) : wpAnyL P md ops Q cs (fuel + 1) L a w := by
 simp only [Bool.and_eq_true] at hb
 exact wpAnyL_take hi hb.1 hb.2.1 hb.2.2.1 hb.2.2.2.1 hb.2.2.2.2 hQ hy hS h
theorem ld (k i : Nat) (v : Value) {d : Nat} {C : World -> Prop} {oi : Oper} {fuel : Nat} {L : Array Bool} {a : Act} {w : World} (hk : cs[k]? = some (d, C)) (hi : ops[i]? = some oi)
  (hb : (Region.noSelect ops && (closedB md ops L && (Region.free md ops L i && ((Region.ready md ops L).contains i && (cs.all (fun c => c.1 != i) && ancB md ops ops.size d i))))) = true)
  (hQ : ∀ c a w, Q (.panic c) (a.put oi.dst v) w -> Q (.panic c) a w) (hy : YieldsIf P ops C oi v a) (hS : HoldC cs L w)
  (h : HoldC cs (L.setIfInBounds i true) w -> wpAnyL P md ops Q cs fuel (L.setIfInBounds i true) (a.put oi.dst v) w) : wpAnyL P md ops Q cs (fuel + 1) L a w := by
 simp only [Bool.and_eq_true] at hb
 exact wpAnyL_load k hk hi hb.1 hb.2.1 hb.2.2.1 hb.2.2.2.1 hb.2.2.2.2.1 hb.2.2.2.2.2 hQ hy hS h
theorem gA {α : Type} {xs : List α} {i : Nat} (h : i < xs.toArray.size) : xs.toArray[i] = xs[i]'(by simpa using h) := List.getElem_toArray h
theorem gB {α : Type} {a : α} {l : List α} {i : Nat} (h : i + 1 < (a :: l).length) : (a :: l)[i + 1]'h = l[i]'(Nat.lt_of_succ_lt_succ h) := rfl
theorem gC {α : Type} {a : α} {l : List α} (h : 0 < (a :: l).length) : (a :: l)[0]'h = a := rfl
theorem gD {α : Type} {l : List α} {i : Nat} {a : α} : l.toArray.setIfInBounds i a = (l.set i a).toArray := List.setIfInBounds_toArray l i a
theorem gE {α : Type} {x a : α} {xs : List α} : (x :: xs).set 0 a = a :: xs := rfl
theorem gF {α : Type} {x a : α} {xs : List α} {n : Nat} : (x :: xs).set (n + 1) a = x :: xs.set n a := rfl
theorem wpAnyL_done {L : Array Bool} {a : Act} {w : World} (hr : Region.ready md ops L = []) (h : Q .normal a w) : ∀ fuel, wpAnyL P md ops Q cs fuel L a w
 | 0 => ⟨hr, h⟩
 | _ + 1 => ⟨fun _ => h, by rw [hr]; simp⟩
def AllReadyL (P : Program) (md : Region.Mode) (ops : Array Oper) (Q : Exit -> Act -> World -> Prop) (cs : List (Nat × (World -> Prop))) (fuel : Nat) (L : Array Bool) (a : Act) (w : World) (rs : List Nat) : Prop :=
 ∀ i ∈ rs, wpOp P ops Q i (fun a' w' => HoldC cs (L.setIfInBounds i true) w' /\ wpAnyL P md ops Q cs fuel (L.setIfInBounds i true) a' w') a w
theorem AllReadyL.nil {fuel : Nat} {L : Array Bool} {a : Act} {w : World} : AllReadyL P md ops Q cs fuel L a w [] := fun _ h => by cases h
theorem AllReadyL.cons {fuel : Nat} {L : Array Bool} {a : Act} {w : World} {i : Nat} {o : Oper} {rs : List Nat} (ho : ops[i]? = some o)
  (h : ∀ K' : Act -> World -> Prop, Shut (∀ a w, HoldC cs (L.setIfInBounds i true) w -> (HoldC cs (L.setIfInBounds i true) w -> wpAnyL P md ops Q cs fuel (L.setIfInBounds i true) a w) -> K' a w) -> if Region.wanted o (yielded ops a.tmps) = true then Oper.wp P o a w K' Q else K' (a.put o.dst undef) w)
  (hs : AllReadyL P md ops Q cs fuel L a w rs) : AllReadyL P md ops Q cs fuel L a w (i :: rs) := fun j hj => by
 rcases List.mem_cons.1 hj with rfl | hj
 ·exact wpOp_step ho (fun K' hK => h K' (fun a w hS hW => hK a w ⟨hS, hW hS⟩))
 ·exact hs j hj
theorem wpAnyL_ready {rs : List Nat} {fuel : Nat} {L : Array Bool} {a : Act} {w : World} (hr : Region.ready md ops L = rs) (hne : rs ≠ [])
  (h : AllReadyL P md ops Q cs fuel L a w rs) : wpAnyL P md ops Q cs (fuel + 1) L a w := ⟨fun h0 => absurd (hr ▸ h0) hne, hr ▸ h⟩
theorem wp_region_L {id : Nat} {a : Act} {w : World} (cs : List (Nat × (World -> Prop))) (hm : P.follows .mixedOrders = true) (hS : HoldC cs (Array.replicate ops.size false) w.drew)
  (h : HoldC cs (Array.replicate ops.size false) w.drew -> wpAnyL P .any ops Q cs ops.size (Array.replicate ops.size false) a w.drew) : (Code.region id ops true).wp P Q a w :=
 wp_region_any hm (wpAny_of_L _ _ _ _ (h hS))
end
def ltrim (l : List UInt8) : List UInt8 := l.dropWhile (· == 0)
def rtrim (l : List UInt8) : List UInt8 := (l.reverse.dropWhile (· == 0)).reverse
def allZ (l : List UInt8) : Bool := l.all (· == 0)
theorem ltrim_nil (l : List UInt8) : (ltrim l = []) ↔ allZ l = true := by
 unfold ltrim allZ
 induction l with
 | nil => simp
 | cons a l ih =>
  rw [List.dropWhile_cons, List.all_cons]
  by_cases h : (a == 0) = true
  ·rw [if_pos h, ih, h, Bool.true_and]
  ·rw [if_neg h]
   simp at h
   simp [h]
theorem allZ_rtrim (l : List UInt8) : allZ (rtrim l) = allZ l := by
 unfold rtrim allZ
 rw [List.all_reverse, <- List.all_reverse (l := l)]
 generalize l.reverse = m
 induction m with
 | nil => rfl
 | cons a m ih =>
  rw [List.dropWhile_cons]
  by_cases h : (a == 0) = true
  ·rw [if_pos h, ih, List.all_cons, h, Bool.true_and]
  ·rw [if_neg h]
theorem trimmed_len (l : List UInt8) : (ltrim (rtrim l)).length = 0 ↔ allZ l = true := by
 rw [List.length_eq_zero_iff, ltrim_nil, allZ_rtrim]
theorem ltrim_at (l : List UInt8) (k : Nat) (hk : k <= l.length) (hz : ∀ q, q < k -> l.getD q 0 = 0) (hs : k < l.length -> l.getD k 0 ≠ 0) : ltrim l = l.drop k := by
 induction l generalizing k with
 | nil => simp at hk; subst hk; rfl
 | cons a l ih =>
  unfold ltrim
  rw [List.dropWhile_cons]
  cases k with
  | zero =>
   have := hs (by simp)
   simp at this
   rw [if_neg (by simpa using this)]
   rfl
  | succ k =>
   have h0 := hz 0 (by omega)
   simp at h0
   rw [if_pos (by simpa using h0)]
   exact ih k (by simpa using hk) (fun q hq => by simpa using hz (q + 1) (by omega)) (fun h => by simpa using hs (by simpa using h))
theorem rtrim_at (l : List UInt8) (k : Nat) (hk : k <= l.length) (hz : ∀ q, k <= q -> q < l.length -> l.getD q 0 = 0) (hs : 0 < k -> l.getD (k - 1) 0 ≠ 0) : rtrim l = l.take k := by
 unfold rtrim
 have hr : ∀ q, q < l.length -> l.reverse.getD q 0 = l.getD (l.length - 1 - q) 0 := by
  intro q hq
  simp only [List.getD_eq_getElem?_getD]
  rw [List.getElem?_reverse hq]
 have h := ltrim_at l.reverse (l.length - k) (by simp) (fun q hq => by
  rw [hr q (by omega)]
  exact hz _ (by omega) (by omega)) (fun h => by
  simp at h
  rw [hr _ (by omega)]
  have : l.length - 1 - (l.length - k) = k - 1 := by omega
  rw [this]
  exact hs (by omega))
 unfold ltrim at h
 rw [h, List.reverse_drop]
 simp
 congr 1
 omega
theorem bv_eq_zero (a : UInt8) : (((a.toNat : Int) == 0) = true) ↔ a = 0 := by
 rw [beq_iff_eq]
 constructor
 ·intro h; exact UInt8.toNat_inj.1 (by simpa using h)
 ·rintro rfl; rfl
theorem trimL_any (v : Value) (l : List UInt8) (w : World) (h : BytesAt w v l) (hl : l.length <= 1000000000) :
  Calls Tryz.prog 127 #[v, .int .u8 0] w fun e w' => (∃ v', e = .returned v' /\ BytesAt w v' (ltrim l)) /\ w = w' := by
 obtain ⟨a, cap, rfl, h1, h2, h3⟩ := h
 unfold maxLen at h2
 by_cases hn : l = []
 ·subst hn
  go_enter Tryz.func127, Tryz.ntmps127
  go_wp2
  go_loopg [0] 0 (fun g' s0 wr => ∃ a cap, s0 = .slice a 0 cap /\ wr = w)
  case atStart => exact ⟨_, _, rfl, rfl⟩
  case round =>
   obtain ⟨a1, cap1, rfl, rfl⟩ := hrel
   go_wp2
   go_ret
   exact ⟨⟨_, rfl, BytesAt.nil _⟩, rfl⟩
 ·rcases h3 with ⟨rfl, _⟩ | ⟨g, o, rfl, hc⟩
  ·exact absurd rfl hn
  have HC := LH hc
  have hpos : 0 < l.length := List.length_pos_iff.2 hn
  clear hc hn
  go_enter Tryz.func127, Tryz.ntmps127
  go_wp2
  go_loopg [0] l.length (fun g' s0 wr => ∃ (k o' : Nat), s0 = .slice (some ⟨g, o', none⟩) (l.length - k) (cap - k) /\ k <= l.length /\ l.length <= k + g' /\ (k < l.length -> o' = o + k) /\ Hid (∀ q, q < k -> l.getD q 0 = 0) /\ wr = w)
  case atStart => exact ⟨0, o, rfl, by omega, by omega, fun _ => rfl, LH (fun q hq => absurd hq (by omega)), rfl⟩
  case round =>
   obtain ⟨k, o', rfl, hk, hkg, ho, HZ, rfl⟩ := hrel
   by_cases hlt : k < l.length
   ·obtain rfl := ho hlt
    have hcell := HC.out k hlt
    obtain ⟨x, hx⟩ : ∃ x, x = l.getD k 0 := ⟨_, rfl⟩
    rw [<- hx] at hcell
    unfold bv at hcell
    have HX := LH hx
    clear hx ho
    obtain ⟨m, hm⟩ : ∃ m, m = l.length - k := ⟨_, rfl⟩
    obtain ⟨c, hcc⟩ : ∃ c, c = cap - k := ⟨_, rfl⟩
    rw [<- hm, <- hcc]
    have hm1 : 1 <= m := by omega
    have hm2 : m <= c := by omega
    have hm3 : c <= 9223372036854775807 := by omega
    have HM := LH hm
    have HCC := LH hcc
    clear hm hcc
    have hmz : (0 : Int) < (m : Int) := by omega
    have hmd : decide ((m : Int) > 0) = true := decide_eq_true (by omega)
    have hmd2 : decide (0 < m) = true := decide_eq_true (by omega)
    by_cases hx0 : x = 0
    ·have hq : (((x.toNat : Int)) == 0) = true := (bv_eq_zero x).2 hx0
     have HZ1 : Hid (∀ q, q < k + 1 -> l.getD q 0 = 0) := LH (fun q hq => by
      rcases Nat.lt_or_ge q k with h | h
      ·exact HZ.out q h
      ·obtain rfl : q = k := by omega
       rw [<- HX.out, hx0])
     clear hx0
     by_cases hc1 : c = 1
     ·obtain rfl : m = 1 := by omega
      subst hc1
      go_wp2
      go_roundg (gk - 1)
      case measure => have := HM.out; omega
      case rel => exact ⟨k + 1, o + k, by rw [show l.length - (k + 1) = 0 by (have := HM.out; omega), show cap - (k + 1) = 0 by (have := HCC.out; omega)], by omega, by omega, fun h => by (have := HM.out; omega), HZ1, rfl⟩
     ·go_wp2
      go_roundg (gk - 1)
      case measure => have := HM.out; omega
      case rel => exact ⟨k + 1, o + k + 1, by rw [show l.length - (k + 1) = m - 1 by (have := HM.out; omega), show cap - (k + 1) = c - 1 by (have := HCC.out; omega)], by omega, by omega, fun h => by omega, HZ1, rfl⟩
    ·have hq : (((x.toNat : Int)) == 0) = false := by
      cases h : ((x.toNat : Int) == 0)
      ·rfl
      ·exact absurd ((bv_eq_zero x).1 h) hx0
     have HT : Hid (ltrim l = l.drop k) := LH (ltrim_at l k hk HZ.out (fun _ => by rw [<- HX.out]; exact hx0))
     have hm0 : ((m : Int) == 0) = false := by simp; omega
     clear hx0
     go_wp2
     go_ret
     refine ⟨⟨_, rfl, ?_⟩, rfl⟩
     rw [HT.out, HM.out, HCC.out]
     refine ⟨_, cap - k, by rw [List.length_drop]; rfl, by rw [List.length_drop]; omega, by unfold maxLen; omega, .inr ⟨g, o + k, rfl, fun i hi => ?_⟩⟩
     rw [List.length_drop] at hi
     have hg : (l.drop k).getD i 0 = l.getD (k + i) 0 := by simp [List.getD_eq_getElem?_getD, List.getElem?_drop]
     rw [hg, Nat.add_assoc]
     exact HC.out (k + i) (by omega)
   ·obtain rfl : k = l.length := by omega
    have HT : Hid (ltrim l = []) := LH (by rw [ltrim_at l l.length (Nat.le_refl _) HZ.out (fun h => absurd h (by omega))]; simp)
    rw [Nat.sub_self]
    clear ho
    go_wp2
    go_ret
    exact ⟨⟨_, rfl, by rw [HT.out]; exact BytesAt.nil _⟩, rfl⟩
theorem trimR_any (v : Value) (l : List UInt8) (w : World) (h : BytesAt w v l) (hl : l.length <= 1000000000) :
  Calls Tryz.prog 128 #[v, .int .u8 0] w fun e w' => (∃ v', e = .returned v' /\ BytesAt w v' (rtrim l)) /\ w = w' := by
 obtain ⟨a, cap, rfl, h1, h2, h3⟩ := h
 have HB := LH (show BytesAt w (.slice a l.length cap) l from ⟨a, cap, rfl, h1, h2, h3⟩)
 unfold maxLen at h2
 by_cases hn : l = []
 ·subst hn
  go_enter Tryz.func128, Tryz.ntmps128
  go_wp2
  go_loopg [0] 0 (fun g' s0 wr => s0 = .slice a 0 cap /\ wr = w)
  case atStart => exact ⟨rfl, rfl⟩
  case round =>
   obtain ⟨rfl, rfl⟩ := hrel
   go_wp2
   go_ret
   exact ⟨⟨_, rfl, HB.out⟩, rfl⟩
 ·rcases h3 with ⟨rfl, _⟩ | ⟨g, o, rfl, hc⟩
  ·exact absurd rfl hn
  have HC := LH hc
  have hpos : 0 < l.length := List.length_pos_iff.2 hn
  clear hc hn
  go_enter Tryz.func128, Tryz.ntmps128
  go_wp2
  go_loopg [0] l.length (fun g' s0 wr => ∃ (k : Nat), s0 = .slice (some ⟨g, o, none⟩) k cap /\ k <= l.length /\ k <= g' /\ Hid (∀ q, k <= q -> q < l.length -> l.getD q 0 = 0) /\ wr = w)
  case atStart => exact ⟨l.length, rfl, by omega, by omega, LH (fun q hq hq2 => absurd hq2 (by omega)), rfl⟩
  case round =>
   obtain ⟨k, rfl, hk, hkg, HZ, rfl⟩ := hrel
   cases k with
   | zero =>
    have HT : Hid (rtrim l = []) := LH (by rw [rtrim_at l 0 (by omega) HZ.out (fun h => absurd h (by omega))]; simp)
    go_wp2
    go_ret
    refine ⟨⟨_, rfl, ?_⟩, rfl⟩
    rw [HT.out]
    exact ⟨_, cap, rfl, by simp, by unfold maxLen; omega, .inr ⟨g, o, rfl, fun i hi => absurd hi (by simp)⟩⟩
   | succ k =>
    have hcell := HC.out k (by omega)
    obtain ⟨x, hx⟩ : ∃ x, x = l.getD k 0 := ⟨_, rfl⟩
    rw [<- hx] at hcell
    unfold bv at hcell
    have HX := LH hx
    clear hx
    have hkz : ((k + 1 : Nat) : Int) - 1 = (k : Int) := by omega
    have hkc : k <= cap := by omega
    have hkt : (k : Int).toNat = k := by omega
    by_cases hx0 : x = 0
    ·have hq : (((x.toNat : Int)) == 0) = true := (bv_eq_zero x).2 hx0
     have HZ1 : Hid (∀ q, k <= q -> q < l.length -> l.getD q 0 = 0) := LH (fun q hq hql => by
      rcases Nat.lt_or_ge k q with h | h
      ·exact HZ.out q h hql
      ·obtain rfl : q = k := by omega
       rw [<- HX.out, hx0])
     clear hx0
     go_wp2
     go_roundg k
     case measure => omega
     case rel => exact ⟨k, rfl, by omega, by omega, HZ1, rfl⟩
    ·have hq : (((x.toNat : Int)) == 0) = false := by
      cases h : ((x.toNat : Int) == 0)
      ·rfl
      ·exact absurd ((bv_eq_zero x).1 h) hx0
     have HT : Hid (rtrim l = l.take (k + 1)) := LH (rtrim_at l (k + 1) hk HZ.out (fun _ => by rw [show k + 1 - 1 = k by omega, <- HX.out]; exact hx0))
     clear hx0
     go_wp2
     go_ret
     refine ⟨⟨_, rfl, ?_⟩, rfl⟩
     rw [HT.out]
     have hlen : (l.take (k + 1)).length = k + 1 := by rw [List.length_take]; omega
     refine ⟨some ⟨g, o, none⟩, cap, by rw [hlen]; rfl, by omega, by unfold maxLen; omega, .inr ⟨g, o, rfl, fun i hi => ?_⟩⟩
     rw [hlen] at hi
     have hg : (l.take (k + 1)).getD i 0 = l.getD i 0 := by simp [List.getD_eq_getElem?_getD, List.getElem?_take, hi]
     rw [hg]
     exact HC.out i (by omega)
theorem trim_any (v : Value) (l : List UInt8) (w : World) (h : BytesAt w v l) (hl : l.length <= 1000000000) :
  Calls Tryz.prog 90 #[v, .string { data := #[0] }] w fun e w' => (∃ v', e = .returned v' /\ BytesAt w v' (ltrim (rtrim l))) /\ ∃ n, w' = w.drewN n := by
 have hdr : ∀ {u : Value} {m : List UInt8}, BytesAt w u m -> BytesAt w.drew u m := fun h => h.keep (fun _ _ => rfl)
 have CR := LH (trimR_any v l w.drew (hdr h) hl)
 have hrl : (rtrim l).length <= l.length := by
  unfold rtrim
  rw [List.length_reverse]
  exact Nat.le_trans (List.Sublist.length_le (List.dropWhile_sublist _)) (by simp)
 have CL := LH (fun u (hu : BytesAt w.drew u (rtrim l)) => trimL_any u (rtrim l) w.drew hu (by omega))
 obtain ⟨a, cap, rfl, h1, h2, h3⟩ := h
 by_cases hn : l = []
 ·subst hn
  go_enter Tryz.func90, Tryz.ntmps90
  go_wp2
  go_ret
  exact ⟨⟨_, rfl, by rw [show ltrim (rtrim []) = [] from rfl]; exact BytesAt.nil _⟩, 0, rfl⟩
 ·have hpos : 0 < l.length := List.length_pos_iff.2 hn
  have hl0 : ((l.length : Int) == 0) = false := by simp; omega
  clear h3 hn hdr hrl
  go_enter Tryz.func90, Tryz.ntmps90
  go_wp2_with fail
  refine wp_region_L [] (by kernel_rfl) ?_ (fun hHeld => ?_)
  ·exact HoldC.nil
  refine tk 0 ?_ rfl (by kernel_rfl) (fun _ _ _ h => h) (.inl ⟨by rfl, ?_⟩) hHeld ?_; rotate_left; · (intro w _; go_simp; try with_reducible rfl)
  clear hHeld; intro hHeld; try simp only [gA,gB,gC,Act.put,gD,gE,gF]
  refine tk 1 ?_ rfl (by kernel_rfl) (fun _ _ _ h => h) (.inl ⟨by rfl, ?_⟩) hHeld ?_; rotate_left; · (intro w _; go_simp; try with_reducible rfl)
  clear hHeld; intro hHeld; try simp only [gA,gB,gC,Act.put,gD,gE,gF]
  refine tk 2 ?_ rfl (by kernel_rfl) (fun _ _ _ h => h) (.inl ⟨by rfl, ?_⟩) hHeld ?_; rotate_left; · (intro w _; go_simp; try with_reducible rfl)
  clear hHeld; intro hHeld; try simp only [gA,gB,gC,Act.put,gD,gE,gF]
  refine tk 4 ?_ rfl (by kernel_rfl) (fun _ _ _ h => h) (.inl ⟨by rfl, ?_⟩) hHeld ?_; rotate_left; · (intro w _; go_simp; try with_reducible rfl)
  clear hHeld; intro hHeld; try simp only [gA,gB,gC,Act.put,gD,gE,gF]
  refine tk 5 ?_ rfl (by kernel_rfl) (fun _ _ _ h => h) (.inl ⟨by rfl, ?_⟩) hHeld ?_; rotate_left; · (intro w _; go_simp; try with_reducible rfl)
  clear hHeld; intro hHeld; try simp only [gA,gB,gC,Act.put,gD,gE,gF]
  refine wpAnyL_ready (rs := [3]) (by kernel_rfl) (by simp) (AllReadyL.cons (o := _) rfl (fun K hK => ?_) AllReadyL.nil)
  try simp only [gA,gB,gC]
  go_simp
  refine CR.out.mono ?_
  rintro e w' ⟨⟨v1, rfl, hv1⟩, hq⟩
  subst hq
  try go_wp2_with fail
  clear hHeld
  refine hK.out _ _ ?_ (fun hHeld => ?_)
  ·exact HoldC.nil
  clear hK K
  try simp only [gA,gB,gC,Act.put,gD,gE,gF]
  refine wpAnyL_ready (rs := [6]) (by kernel_rfl) (by simp) (AllReadyL.cons (o := _) rfl (fun K hK => ?_) AllReadyL.nil)
  try simp only [gA,gB,gC]
  go_simp
  refine (CL.out v1 hv1).mono ?_
  rintro e w' ⟨⟨v2, rfl, hv2⟩, hq⟩
  subst hq
  try go_wp2_with fail
  clear hHeld
  refine hK.out _ _ ?_ (fun hHeld => ?_)
  ·exact HoldC.nil
  clear hK K
  try simp only [gA,gB,gC,Act.put,gD,gE,gF]
  refine tk 7 ?_ rfl (by kernel_rfl) (fun _ _ _ h => h) (.inl ⟨by rfl, ?_⟩) hHeld ?_; rotate_left; · (intro w _; go_simp; try with_reducible rfl)
  clear hHeld; intro hHeld; try simp only [gA,gB,gC,Act.put,gD,gE,gF]
  refine wpAnyL_done (by kernel_rfl) ?_ _
  clear hHeld
  have HV2 := LH hv2
  clear hv1 hv2 CR CL
  go_wp2
  go_ret
  exact ⟨⟨v2, rfl, HV2.out.keep (fun _ _ => rfl)⟩, 1, rfl⟩
theorem noughts_any (v : Value) (l : List UInt8) (w : World) (h : BytesAt w v l) (hl : l.length <= 1000000000) :
  Calls Tryz.prog 157 #[v] w fun e w' => e = .returned (.bool (allZ l)) /\ ∃ n, w' = w.drewN n := by
 have CT := LH (trim_any v l w h hl)
 have hz := trimmed_len l
 have HZ : Hid ((((ltrim (rtrim l)).length : Int) == 0) = allZ l) := LH (by
  rw [Bool.eq_iff_iff, <- hz]
  simp)
 clear hz h
 go_enter Tryz.func157, Tryz.ntmps157
 go_wp2_with fail
 refine CT.out.mono ?_
 rintro e w' ⟨⟨v1, rfl, a, cap, rfl, _⟩, n, rfl⟩
 clear CT
 go_wp2
 go_ret
 exact ⟨by rw [<- HZ.out]; rfl, n, rfl⟩
end Go.Proofs.YtdkhmfcfihbjeaaGreatDoor.W
