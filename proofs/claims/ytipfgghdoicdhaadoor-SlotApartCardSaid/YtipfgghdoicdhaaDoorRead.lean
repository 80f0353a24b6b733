/- Package wire's read: a step that ends, and a step that gives up. -/
import Derived.Test.YtipfgghdoicdhaaDoorCatch
import Derived.Test.YtipfgghdoicdhaaDoorEye
namespace Go.Proofs.YtipfgghdoicdhaaDoor.W
open Go.RowKit
set_option linter.unusedVariables false
set_option linter.unusedSimpArgs false

set_option maxHeartbeats 2000000 in
set_option maxRecDepth 100000 in
theorem read_done (b : Nat) (v : Value) (bad : Int) (k : FuncId) (cap : Array Value) (w : World) (h : w.heap[b]? = some (.cells #[.bool true, v, .int .i64 bad] 122 (0, 0))) (hbad : bad ≠ 0) :
    Calls Tryd.prog 78 #[.pointer (some ⟨b, 0, none⟩), .func (.func k) #[] cap] w fun e w' => e = .returned (.tuple #[]) ∧ w' = w.alloc (.cells #[.pointer (some ⟨b, 0, none⟩)] 112) := by
  have h0 := blk_cell h 0 _ rfl
  have h2 := blk_cell h 2 _ rfl
  have hl := blk_lt h
  have hz : (bad != 0) = true := by simp [hbad]
  have HB := Lib.hid hbad
  clear h hbad
  go_enter_defers Tryd.func78, Tryd.ntmps78
  go_wp2
  exact ⟨.tuple #[], by simp [results, Tryd.results78], rfl, rfl⟩

set_option maxHeartbeats 2000000 in
set_option maxRecDepth 100000 in
theorem read_ret (b : Nat) (v : Value) (k : FuncId) (cap : Array Value) (w : World) (ent : ∀ args w, (callFunc k args).run Tryd.prog w = .ok (.enter k args) w) (a : Option Addr) (L c : Nat) (hv : v = .slice a L c)
    (h : w.heap[b]? = some (.cells #[.bool true, v, .int .i64 0] 122 (0, 0))) (Q : World → Prop) (HS : Hid (Calls Tryd.prog k cap ((w.alloc (.cells #[.pointer (some ⟨b, 0, none⟩)] 112)).alloc (.cells #[v] 31)) fun e w' => e = .returned (.tuple #[]) ∧ Q w')) :
    Calls Tryd.prog 78 #[.pointer (some ⟨b, 0, none⟩), .func (.func k) #[] cap] w fun e w' => e = .returned (.tuple #[]) ∧ ∃ w1, Q w1 ∧ w' = w1.alloc (.cells #[.int .i64 0] 125) := by
  subst hv
  have h0 := blk_cell h 0 _ rfl
  have h1 := blk_cell h 1 _ rfl
  have h2 := blk_cell h 2 _ rfl
  have hl := blk_lt h
  have hmf : ∀ (fn : Fn) (first cap : Array Value) (w : World), (Instr.makeFunc fn first cap).run Tryd.prog w = .ok (.func fn first cap) w := fun _ _ _ _ => rfl
  clear h
  go_enter_defers Tryd.func78, Tryd.ntmps78
  go_wp2
  refine HS.out.mono ?_
  rintro e w1 ⟨rfl, hq⟩
  have HQ := Lib.hid hq
  clear hq HS
  go_wp2
  refine leaves_cons (f := 90) (args := #[.pointer (some ⟨w.heap.size + 1, 0, none⟩), .pointer (some ⟨w.heap.size, 0, none⟩)]) (by simp) (by simp [go_sem]) ?_
  refine (catch_idle _ _ _).mono ?_
  rintro e u' w'' ⟨rfl, rfl, rfl⟩
  exact ⟨.tuple #[], by simp [results, Tryd.results78], rfl, _, HQ.out, rfl⟩

set_option maxHeartbeats 2000000 in
set_option maxRecDepth 100000 in
theorem read_panic (b : Nat) (v : Value) (k : FuncId) (cap : Array Value) (w : World) (ent : ∀ args w, (callFunc k args).run Tryd.prog w = .ok (.enter k args) w) (a : Option Addr) (L c : Nat) (hv : v = .slice a L c) (x : Int)
    (h : w.heap[b]? = some (.cells #[.bool true, v, .int .i64 0] 122 (0, 0))) (S : List Nat) (hS : ∀ k ∈ S, k < w.heap.size)
    (HS : Hid (Calls Tryd.prog k cap ((w.alloc (.cells #[.pointer (some ⟨b, 0, none⟩)] 112)).alloc (.cells #[v] 31)) fun e w' => e = gaveUp x ∧ ∃ v1, Chg S ((w.alloc (.cells #[.pointer (some ⟨b, 0, none⟩)] 112)).alloc (.cells #[v] 31)) w' ∧ w'.heap[b]? = some (.cells #[.bool true, v1, .int .i64 0] 122 (0, 0)))) :
    Calls Tryd.prog 78 #[.pointer (some ⟨b, 0, none⟩), .func (.func k) #[] cap] w fun e w' => e = .returned (.tuple #[]) ∧ Chg (b :: S) w w' ∧ w'.heap[b]? = some (.cells #[.bool true, v, .int .i64 x] 122 (0, 0)) := by
  subst hv
  have h0 := blk_cell h 0 _ rfl
  have h1 := blk_cell h 1 _ rfl
  have h2 := blk_cell h 2 _ rfl
  have hl := blk_lt h
  have HSS := Lib.hid hS
  have hmf : ∀ (fn : Fn) (first cap : Array Value) (w : World), (Instr.makeFunc fn first cap).run Tryd.prog w = .ok (.func fn first cap) w := fun _ _ _ _ => rfl
  clear h hS
  go_enter_defers Tryd.func78, Tryd.ntmps78
  go_wp2
  refine HS.out.mono ?_
  rintro e w1 ⟨rfl, v1, hch, hb⟩
  have hA : w1.heap[w.heap.size]? = some (.cells #[.pointer (some ⟨b, 0, none⟩)] 112 (0, 0)) :=
    hch.keep (blk_alloc (heap_alloc_new w _)) (fun hm => by have := HSS.out _ hm; omega)
  have hB : w1.heap[w.heap.size + 1]? = some (.cells #[.slice a L c] 31 (0, 0)) := by
    refine hch.keep ?_ (fun hm => by have := HSS.out _ hm; omega)
    have := heap_alloc_new (w.alloc (.cells #[.pointer (some ⟨b, 0, none⟩)] 112)) (.cells #[.slice a L c] 31)
    simpa using this
  have CP := Lib.hid (catch_panic b (w.heap.size + 1) w.heap.size a L c v1 _ x [] w1 hB hA hb)
  have HC := Lib.hid hch
  clear hch hA hB hb HS
  refine leaves_cons (f := 90) (args := #[.pointer (some ⟨w.heap.size + 1, 0, none⟩), .pointer (some ⟨w.heap.size, 0, none⟩)]) (by simp) (by simp [go_sem]) ?_
  refine CP.out.mono ?_
  rintro e u' w'' ⟨rfl, rfl, hc2, hb2⟩
  refine ⟨.tuple #[], by simp [results, Tryd.results78], rfl, ?_, hb2⟩
  have h3 : Chg S w w1 := (((Chg.refl S w).alloc _).alloc _).trans HC.out (fun x hx => .inl hx)
  exact (h3.mono (fun x hx => .inl (List.mem_cons_of_mem _ hx))).trans hc2 (fun x hx => .inl (by simp at hx; simp [hx]))
end Go.Proofs.YtipfgghdoicdhaaDoor.W
