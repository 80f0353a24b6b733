/- Package slot: Open. -/
import Derived.Test.YtipfgghdoicdhaaDoorS8
namespace Go.Proofs.YtipfgghdoicdhaaDoor.W
open Go.RowKit
set_option linter.unusedVariables false
set_option linter.unusedSimpArgs false

set_option maxHeartbeats 8000000 in
set_option maxRecDepth 100000 in
theorem sopen_bad (p : Nat) (S : List Nat) (d : DS) (first : Int) (w : World) (h : DiskAt w p S d) (hb : first < 0 ∨ (d.n : Int) < first) :
    Calls Tryd.prog 14 #[.pointer (some ⟨p, 0, none⟩), .int .i64 first] w (OpenPost p S w (d.slots first)) := by
  have hg : d.slots first = (1, none) := by unfold DS.slots; rw [if_pos hb]
  rw [hg]
  have CS := Lib.hid (fun w' (hc : Chg [] w w') => dsectors_any p S d w' (h.keep hc (by simp)))
  clear h hg
  by_cases h0 : first < 0
  · clear hb
    go_enter_defers Tryd.func14, Tryd.ntmps14
    go_wp2_with fail
    exact ⟨.tuple #[.pointer none, .int .i64 1], by simp [results, Tryd.results14, go_sem], ((Chg.refl _ _).alloc _).alloc _, rfl⟩
  · have h1 : (d.n : Int) < first := by omega
    clear hb
    go_enter_defers Tryd.func14, Tryd.ntmps14
    go_wp2_with (go_at_call 40; refine (CS.out _ ?_).mono ?_; first | exact ((Chg.refl _ _).alloc _).alloc _ | skip; rintro e w' ⟨rfl, hq⟩; subst hq)
    exact ⟨.tuple #[.pointer none, .int .i64 1], by simp [results, Tryd.results14, go_sem], ((Chg.refl _ _).alloc _).alloc _, rfl⟩

set_option maxHeartbeats 8000000 in
set_option maxRecDepth 100000 in
theorem sopen_dead (p : Nat) (S : List Nat) (d : DS) (first : Int) (w : World) (h : DiskAt w p S d) (hb : ¬ (first < 0 ∨ (d.n : Int) < first)) (hd : d.dead = true ∨ d.n = 0) :
    Calls Tryd.prog 14 #[.pointer (some ⟨p, 0, none⟩), .int .i64 first] w (OpenPost p S w (d.slots first)) := by
  have hg : d.slots first = (14, none) := by unfold DS.slots; rw [if_neg hb, if_pos hd]
  rw [hg]
  obtain ⟨w2, hw2⟩ : ∃ w2, w2 = (w.alloc (.cells #[.pointer none] 34)).alloc (.cells #[.int .i64 0] 25) := ⟨_, rfl⟩
  have hc2 : Chg [] w w2 := by rw [hw2]; exact ((Chg.refl _ _).alloc _).alloc _
  have CS := Lib.hid (dsectors_any p S d w2 (h.keep hc2 (by simp)))
  have CD := Lib.hid (ddead_any p S d w2 (h.keep hc2 (by simp)))
  have hpa : w2.heap[w.heap.size]? = some (.cells #[.pointer none] 34 (0, 0)) := by rw [hw2]; exact blk_alloc (heap_alloc_new w _)
  have hpb : w2.heap[w.heap.size + 1]? = some (.cells #[.int .i64 0] 25 (0, 0)) := by
    rw [hw2]
    have := heap_alloc_new (w.alloc (.cells #[.pointer none] 34)) (.cells #[.int .i64 0] 25)
    simpa using this
  have CP := Lib.hid (catchB_14 w.heap.size (w.heap.size + 1) _ _ [] w2 hpa hpb (by omega))
  have h0 : ¬ first < 0 := by omega
  have h1 : ¬ (d.n : Int) < first := by omega
  have hmf : ∀ (fn : Fn) (first cap : Array Value) (w : World), (Instr.makeFunc fn first cap).run Tryd.prog w = .ok (.func fn first cap) w := fun _ _ _ _ => rfl
  have HW2 := Lib.hid hw2
  have HC2 := Lib.hid hc2
  clear h hg hb hpa hpb hw2 hc2
  by_cases hdd : d.dead = true
  · rw [hdd] at CD
    clear hd hdd
    go_enter_defers Tryd.func14, Tryd.ntmps14
    go_wp2_with (first
      | (go_at_call 40; rw [← HW2.out]; refine CS.out.mono ?_; rintro e w' ⟨rfl, hq⟩; subst hq)
      | (go_at_call 40; refine CS.out.mono ?_; rintro e w' ⟨rfl, hq⟩; subst hq)
      | (go_at_call 26; refine CD.out.mono ?_; rintro e w' ⟨rfl, hq⟩; subst hq))
    refine leaves_cons (f := 41) (args := #[.pointer (some ⟨w.heap.size, 0, none⟩), .pointer (some ⟨w.heap.size + 1, 0, none⟩)]) (by simp) (by simp [go_sem]) ?_
    refine CP.out.mono ?_
    rintro e u' w'' ⟨rfl, rfl, hc, ha, hb⟩
    exact ⟨.tuple #[.pointer none, .int .i64 14], by simp [results, Tryd.results14, go_sem, blk_cell ha 0 _ rfl, blk_cell hb 0 _ rfl], HC2.out.trans hc (fun x hx => .inr (by simp at hx; omega)), rfl⟩
  · have hdn : d.n = 0 := hd.resolve_left hdd
    have hdf : d.dead = false := by simpa using hdd
    rw [hdf] at CD
    have HDN := Lib.hid hdn
    rw [hdn] at CS h1
    clear hd hdd hdn hdf
    go_enter_defers Tryd.func14, Tryd.ntmps14
    go_wp2_with (first
      | (go_at_call 40; rw [← HW2.out]; refine CS.out.mono ?_; rintro e w' ⟨rfl, hq⟩; subst hq)
      | (go_at_call 40; refine CS.out.mono ?_; rintro e w' ⟨rfl, hq⟩; subst hq)
      | (go_at_call 26; refine CD.out.mono ?_; rintro e w' ⟨rfl, hq⟩; subst hq))
    refine leaves_cons (f := 41) (args := #[.pointer (some ⟨w.heap.size, 0, none⟩), .pointer (some ⟨w.heap.size + 1, 0, none⟩)]) (by simp) (by simp [go_sem]) ?_
    refine CP.out.mono ?_
    rintro e u' w'' ⟨rfl, rfl, hc, ha, hb⟩
    exact ⟨.tuple #[.pointer none, .int .i64 14], by simp [results, Tryd.results14, go_sem, blk_cell ha 0 _ rfl, blk_cell hb 0 _ rfl], HC2.out.trans hc (fun x hx => .inr (by simp at hx; omega)), rfl⟩
end Go.Proofs.YtipfgghdoicdhaaDoor.W
