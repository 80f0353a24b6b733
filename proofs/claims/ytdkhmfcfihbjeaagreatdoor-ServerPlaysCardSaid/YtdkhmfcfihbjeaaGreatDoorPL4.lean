/- Texts laid together. -/
import Derived.Test.YtdkhmfcfihbjeaaGreatDoorPL2
import Derived.Test.YtdkhmfcfihbjeaaGreatDoorPL3
import Derived.Laws.CopyOwn
import Derived.WideKeyEntry
import Derived.Maps.AppendAt
import Derived.Deep.QuietTactic
import Derived.BigQuiet
set_option linter.unusedVariables false
set_option linter.unusedSimpArgs false
set_option maxHeartbeats 64000000
set_option maxRecDepth 100000
namespace Go.Proofs.YtdkhmfcfihbjeaaGreatDoor.W
open Go.RowKit
def enV (s : PB) (n : Nat) : Int := (eyeNum s.1 s.2 n).1
def enS (s : PB) (n : Nat) : PB := ((eyeNum s.1 s.2 n).2.1, (eyeNum s.1 s.2 n).2.2)
def erV (s : PB) : List UInt8 := (eyeRaw s.1 s.2 65535).1
def erS (s : PB) : PB := ((eyeRaw s.1 s.2 65535).2.1, (eyeRaw s.1 s.2 65535).2.2)
def ebV (s : PB) : Bool := (eyeBool s.1 s.2).1
def ebS (s : PB) : PB := ((eyeBool s.1 s.2).2.1, (eyeBool s.1 s.2).2.2)
def giV (s : PB) : Id := ⟨enV s 1, enV (enS s 1) 3, enV (enS (enS s 1) 3) 4, enV (enS (enS (enS s 1) 3) 4) 1⟩
def giS (s : PB) : PB := enS (enS (enS (enS s 1) 3) 4) 1
theorem rsend_any (b g : Nat) (l : List UInt8) (bad : Int) (w : World) (h : REyeAt w b g l bad) :
  Calls Tryz.prog 63 #[.pointer (some ⟨b, 0, none⟩)] w fun e w' => e = .returned (.int .i64 (endOf l bad)) /\ w = w' := by
 obtain ⟨v, hb, hv, _, _⟩ := h
 obtain ⟨a, cap, rfl⟩ := hv.slice
 have h0 := blk_cell hb 0 _ rfl
 have h1 := blk_cell hb 1 _ rfl
 unfold endOf
 clear hb hv
 by_cases hbad : bad = 0
 ·subst hbad
  rw [if_neg (by simp)]
  by_cases hl : l = []
  ·subst hl
   rw [if_pos rfl]
   go_enter Tryz.func63, Tryz.ntmps63
   go_wp2
   go_ret
   exact ⟨rfl, rfl⟩
  ·rw [if_neg hl]
   have hp : 0 < l.length := List.length_pos_iff.2 hl
   clear hl
   go_enter Tryz.func63, Tryz.ntmps63
   go_wp2
   go_ret
   exact ⟨rfl, rfl⟩
 ·rw [if_pos hbad]
  have q : (bad != 0) = true := by simp [hbad]
  clear hbad
  go_enter Tryz.func63, Tryz.ntmps63
  go_wp2
  go_ret
  exact ⟨rfl, rfl⟩
theorem REyeAt.pick {w : World} {b g : Nat} {l : List UInt8} {bad : Int} (h : REyeAt w b g l bad) (M : Nat) (hM : M ≠ b) : ∃ g', REyeAt w b g' l bad /\ (g' = g /\ g < w.heap.size ∨ g' = M) := by
 obtain ⟨v, hb, hv, hgb, hl⟩ := h
 rcases hv with ⟨h1, a, cap, h2⟩ | ⟨o, cap, h1, h2, h3, h4, h5⟩
 ·exact ⟨M, ⟨v, hb, .inl ⟨h1, a, cap, h2⟩, hM, hl⟩, .inr rfl⟩
 ·exact ⟨g, ⟨v, hb, .inr ⟨o, cap, h1, h2, h3, h4, h5⟩, hgb, hl⟩, .inl ⟨rfl, h4⟩⟩
theorem REyeAt.blt {w : World} {b g : Nat} {l : List UInt8} {bad : Int} (h : REyeAt w b g l bad) : b < w.heap.size := by obtain ⟨v, hb, _⟩ := h; exact blk_lt hb
theorem EyeAt.blt {w : World} {b g : Nat} {l : List UInt8} {bad : Int} (h : EyeAt w b g l bad) : b < w.heap.size := by obtain ⟨v, hb, _⟩ := h; exact blk_lt hb
theorem ret_idc {fn : Func} {p : Tmp} (h : fn.results = #[.cell p 38]) (tmps : Array Value) {w : World} {b t : Nat} {x : Id} (hp : tmps.getD p undef = .pointer (some ⟨b, 0, none⟩)) (hb : w.heap[b]? = some (.cells (idC x) t (0, 0))) :
  (results fn tmps).run Tryz.prog w = .ok (idV x) w := by
 have hl := run_loadVar_row (P := Tryz.prog) w b t 38 (idC x) (0, 0) _ hb Tryz.underlying38 rfl (by rw [idSize]; rfl)
 have he : (results fn tmps).run Tryz.prog w = ((asAddr (tmps.getD p undef)).run Tryz.prog w).andThen fun a w₁ => (loadVar 38 a).run Tryz.prog w₁ := by
  simp only [results, h]
  simp [Sem.run_bind, Result.andThen]
 rw [he, hp]
 simp only [asAddr, Sem.run_pure, Result.andThen_ok, hl]
theorem idf_cells {w : World} {N t : Nat} {a c d e : Int} (h : w.heap[N]? = some (.cells (idC ⟨a, c, d, e⟩) t (0, 0))) : (w.cell? ⟨N, 0, none⟩ = some (.int .i64 a) /\ w.cell? ⟨N, 1, none⟩ = some (.int .i64 c) /\ w.cell? ⟨N, 2, none⟩ = some (.int .i64 d) /\ w.cell? ⟨N, 3, none⟩ = some (.int .i64 e)) /\
  w.frozen? ⟨N, 0, none⟩ = false /\ w.frozen? ⟨N, 1, none⟩ = false /\ w.frozen? ⟨N, 2, none⟩ = false /\ w.frozen? ⟨N, 3, none⟩ = false :=
 ⟨id_cells h, blk_frozen h 0, blk_frozen h 1, blk_frozen h 2, blk_frozen h 3⟩
structure EyeS (K : List Nat) (w0 w : World) (b : Nat) (s : PB) : Prop where
 eye : ∃ g, EyeAt w b g s.1 s.2 /\ g ∉ K
 own : w0.heap.size <= b /\ b ∉ K
 chg : Chg [] w0 w
 lim : ∀ x ∈ K, x < w.heap.size
def EyeP (K : List Nat) (w0 w : World) (b : Nat) (v : Value) (s : PB) (e : Ending) (w' : World) : Prop := e = .returned v /\ EyeS K w0 w' b s /\ ∀ x ∈ K, w'.heap[x]? = w.heap[x]?
section
variable {K Y : List Nat} {w0 w w' : World} {b : Nat} {s s' : PB}
theorem EyeS.step {g : Nat} (h : EyeS K w0 w b s) (hg : g ∉ K) (he : EyeAt w' b g s'.1 s'.2) (hc : Chg [b] w w') : EyeS K w0 w' b s' /\ ∀ x ∈ K, w'.heap[x]? = w.heap[x]? :=
 ⟨⟨⟨g, he, hg⟩, h.own, h.chg.trans hc (fun x hx => by rw [List.mem_singleton.1 hx]; exact .inr h.own.1), fun x hx => Nat.lt_of_lt_of_le (h.lim x hx) hc.size⟩, fun x hx => hc.block x (h.lim x hx) (fun hm => h.own.2 (by rw [<- List.mem_singleton.1 hm]; exact hx))⟩
theorem EyeS.add (h : EyeS K w0 w b s) (hc : Chg [] w w') (hY : ∀ k ∈ Y, k ∈ K ∨ (w.heap.size <= k /\ k < w'.heap.size)) : EyeS Y w0 w' b s := by
 obtain ⟨g, he, hg⟩ := h.eye
 have hb := he.blt
 obtain ⟨g', he', hg'⟩ := he.pick (w'.heap.size + b + 1) (by omega)
 refine ⟨⟨g', he'.keep hc (by simp) (by simp), fun hm => ?_⟩, ⟨h.own.1, fun hm => ?_⟩, h.chg.trans hc (by simp), fun x hx => ?_⟩
 ·rcases hg' with ⟨rfl, h1⟩ | rfl
  ·rcases hY _ hm with h2 | h2
   ·exact hg h2
   ·omega
  ·rcases hY _ hm with h2 | h2
   ·have := h.lim _ h2; have := hc.size; omega
   ·omega
 ·rcases hY _ hm with h2 | h2
  ·exact h.own.2 h2
  ·omega
 ·rcases hY x hx with h2 | h2
  ·exact Nat.lt_of_lt_of_le (h.lim x h2) hc.size
  ·exact h2.2
theorem EyeS.sub (h : EyeS K w0 w b s) (hY : ∀ k ∈ Y, k ∈ K) : EyeS Y w0 w b s := by
 obtain ⟨g, he, hg⟩ := h.eye
 exact ⟨⟨g, he, fun hm => hg (hY g hm)⟩, ⟨h.own.1, fun hm => h.own.2 (hY b hm)⟩, h.chg, fun x hx => h.lim x (hY x hx)⟩
theorem EyeS.set {N : Nat} (h : EyeS K w0 w b s) (hN : N ∈ K) (hN0 : w0.heap.size <= N) (j : Nat) (u : Value) : EyeS K w0 (w.setCell ⟨N, j, none⟩ u) b s := by
 obtain ⟨g, he, hg⟩ := h.eye
 have hc : Chg [N] w (w.setCell ⟨N, j, none⟩ u) := (Chg.refl [N] w).setCell (p := ⟨N, j, none⟩) (.inl (by simp)) u
 exact ⟨⟨g, he.keep hc (fun hm => h.own.2 (by rw [List.mem_singleton.1 hm]; exact hN)) (fun hm => hg (by rw [List.mem_singleton.1 hm]; exact hN)), hg⟩, h.own, h.chg.trans hc (fun x hx => by rw [List.mem_singleton.1 hx]; exact .inr hN0), fun x hx => by have := h.lim x hx; simpa [World.setCell] using this⟩
theorem esNum (h : EyeS K w0 w b s) (n : Nat) (h1 : 1 <= n) (h7 : n <= 7) : Calls Tryz.prog 54 #[.pointer (some ⟨b, 0, none⟩), .int .i64 (n : Int)] w (EyeP K w0 w b (.int .i64 (enV s n)) (enS s n)) := by
 obtain ⟨g, he, hg⟩ := h.eye
 refine (enum_any b g s.1 s.2 (n : Int) w he (by omega) (by omega)).mono ?_
 rintro e w' ⟨rfl, h2, h3⟩
 rw [Int.toNat_natCast] at h2 ⊢
 exact ⟨rfl, h.step (s' := enS s n) hg h2 h3⟩
theorem esRaw (h : EyeS K w0 w b s) : Calls Tryz.prog 57 #[.pointer (some ⟨b, 0, none⟩), .int .i64 65535] w fun e w' => ∃ v, EyeP K w0 w b v (erS s) e w' /\ BRow w' v (erV s) /\ (∀ k, v.ownBlock = some k -> w.heap.size <= k) /\ Chg [b] w w' := by
 obtain ⟨g, he, hg⟩ := h.eye
 refine (eraw_any b g s.1 s.2 65535 w he (by omega)).mono ?_
 rintro e w' ⟨v, rfl, h1, h2, h3, h4⟩
 exact ⟨v, ⟨rfl, h.step (s' := erS s) hg h3 h4⟩, h1, h2, h4⟩
theorem esEnd (h : EyeS K w0 w b s) : Calls Tryz.prog 58 #[.pointer (some ⟨b, 0, none⟩)] w fun e w' => e = .returned (.int .i64 (endOf s.1 s.2)) /\ w = w' := by
 obtain ⟨g, he, hg⟩ := h.eye
 exact eend_any b g s.1 s.2 w he
theorem esFail (h : EyeS K w0 w b s) : Calls Tryz.prog 55 #[.pointer (some ⟨b, 0, none⟩)] w fun e w' => e = .returned (.int .i64 s.2) /\ w = w' := by
 obtain ⟨g, he, hg⟩ := h.eye
 exact efail_any b g s.1 s.2 w he
theorem esGetId (h : EyeS K w0 w b s) : Calls Tryz.prog 56 #[.pointer (some ⟨b, 0, none⟩)] w (EyeP K w0 w b (idV (giV s)) (giS s)) := by
 obtain ⟨A, hA⟩ : ∃ A, A = w.heap.size := ⟨_, rfl⟩
 obtain ⟨w1, hw1⟩ : ∃ w1, w1 = (w.alloc (.cells (idC ⟨0, 0, 0, 0⟩) 38)).alloc (.cells (idC ⟨0, 0, 0, 0⟩) 38) := ⟨_, rfl⟩
 have hc1 : Chg [] w w1 := by rw [hw1]; exact ((Chg.refl [] w).alloc _).alloc _
 have hbA : w1.heap[A]? = some (.cells (idC ⟨0, 0, 0, 0⟩) 38 (0, 0)) := by rw [hw1, hA]; exact blk_alloc (heap_alloc_new w _)
 have hbB : w1.heap[A + 1]? = some (.cells (idC ⟨0, 0, 0, 0⟩) 38 (0, 0)) := by rw [hw1, hA]; exact heap_at (by simp)
 have hs := h.chg.size
 have hA0 : w0.heap.size <= A := by omega
 have hlA := blk_lt hbB
 have h1 : EyeS (A :: (A + 1) :: K) w0 w1 b s := h.add hc1 (fun k hk => by
  rcases List.mem_cons.1 hk with rfl | hk
  ·exact .inr ⟨by omega, by omega⟩
  ·rcases List.mem_cons.1 hk with rfl | hk
   ·exact .inr ⟨by omega, hlA⟩
   ·exact .inl hk)
 have HK1 : Hid (∀ y ∈ K, w1.heap[y]? = w.heap[y]? /\ y < A) := LH (fun y hy => ⟨hc1.block y (h.lim y hy) (by simp), by have := h.lim y hy; omega⟩)
 have HAA := LH hbA
 have HA := LH hA
 have HW1 := LH hw1
 obtain ⟨⟨m0, m1, m2, m3⟩, f0, f1, f2, f3⟩ := idf_cells hbB
 have HBB := LH hbB
 have C1 := LH (esNum h1 1 (by omega) (by omega))
 have HG : Hid (giV s = ⟨enV s 1, enV (enS s 1) 3, enV (enS (enS s 1) 3) 4, enV (enS (enS (enS s 1) 3) 4) 1⟩ /\ giS s = enS (enS (enS (enS s 1) 3) 4) 1) := LH ⟨rfl, rfl⟩
 have HA0 := LH hA0
 generalize giV s = gv at *
 generalize giS s = gs at *
 clear hw1 hc1 hbA hbB hs hA0 hlA h1 h hA
 go_enter Tryz.func56, Tryz.ntmps56
 go_wp2_with fail
 rw [<- HW1.out, <- HA.out]
 refine C1.out.mono ?_
 rintro e w2 ⟨rfl, h2, k2⟩
 have HB2 := LH (keepO HBB.out (k2 (A + 1) (by simp)))
 have HA2 := LH (keepO HAA.out (k2 A (by simp)))
 have HK2 := LH k2
 have C2 := LH (esNum (h2.set (N := A + 1) (by simp) (by have := HA0.out; omega) 0 (.int .i64 (enV s 1))) 3 (by omega) (by omega))
 have HS2 := LH (set_blk (j := 0) (u := .int .i64 (enV s 1)) HB2.out)
 clear m0 m1 m2 m3 f0 f1 f2 f3
 obtain ⟨⟨m0, m1, m2, m3⟩, f0, f1, f2, f3⟩ := idf_cells HB2.out
 clear h2 k2 C1
 go_wp2_with fail
 refine C2.out.mono ?_
 rintro e w3 ⟨rfl, h3, k3⟩
 have HB3 : Hid (w3.heap[A + 1]? = some (.cells (idC ⟨enV s 1, 0, 0, 0⟩) 38 (0, 0))) := LH (keepO HS2.out (k3 (A + 1) (by simp)))
 have HK3 := LH k3
 have C3 := LH (esNum (h3.set (N := A + 1) (by simp) (by have := HA0.out; omega) 1 (.int .i64 (enV (enS s 1) 3))) 4 (by omega) (by omega))
 have HS3 := LH (set_blk (j := 1) (u := .int .i64 (enV (enS s 1) 3)) HB3.out)
 clear m0 m1 m2 m3 f0 f1 f2 f3
 obtain ⟨⟨m0, m1, m2, m3⟩, f0, f1, f2, f3⟩ := idf_cells HB3.out
 clear h3 k3 C2
 go_wp2_with fail
 refine C3.out.mono ?_
 rintro e w4 ⟨rfl, h4, k4⟩
 have HB4 : Hid (w4.heap[A + 1]? = some (.cells (idC ⟨enV s 1, enV (enS s 1) 3, 0, 0⟩) 38 (0, 0))) := LH (keepO HS3.out (k4 (A + 1) (by simp)))
 have HK4 := LH k4
 have C4 := LH (esNum (h4.set (N := A + 1) (by simp) (by have := HA0.out; omega) 2 (.int .i64 (enV (enS (enS s 1) 3) 4))) 1 (by omega) (by omega))
 have HS4 := LH (set_blk (j := 2) (u := .int .i64 (enV (enS (enS s 1) 3) 4)) HB4.out)
 clear m0 m1 m2 m3 f0 f1 f2 f3
 obtain ⟨⟨m0, m1, m2, m3⟩, f0, f1, f2, f3⟩ := idf_cells HB4.out
 clear h4 k4 C3
 go_wp2_with fail
 refine C4.out.mono ?_
 rintro e w5 ⟨rfl, h5, k5⟩
 have HB5 : Hid (w5.heap[A + 1]? = some (.cells (idC ⟨enV s 1, enV (enS s 1) 3, enV (enS (enS s 1) 3) 4, 0⟩) 38 (0, 0))) := LH (keepO HS4.out (k5 (A + 1) (by simp)))
 have HA5 : Hid (w5.heap[A]? = some (.cells (idC ⟨0, 0, 0, 0⟩) 38 (0, 0))) := LH (by
  have e0 : A ≠ A + 1 := by omega
  exact keepO (blk_sets (keepO (blk_sets (keepO (blk_sets HA2.out e0) (HK3.out A (by simp))) e0) (HK4.out A (by simp))) e0) (k5 A (by simp)))
 have HK5 : Hid (∀ y ∈ K, w5.heap[y]? = w.heap[y]?) := LH (fun y hy => by
  have hm : y ∈ A :: (A + 1) :: K := List.mem_cons_of_mem _ (List.mem_cons_of_mem _ hy)
  have hlt := (HK1.out y hy).2
  have hb : ∀ (a : World) (j : Nat) (u : Value), (a.setCell ⟨A + 1, j, none⟩ u).heap[y]? = a.heap[y]? := fun a j u => Below.heap_setCell a ⟨A + 1, j, none⟩ u y (by show y ≠ A + 1; omega)
  rw [k5 y hm, hb, HK4.out y hm, hb, HK3.out y hm, hb, HK2.out y hm, (HK1.out y hy).1])
 have HS5 := LH (set_blk (j := 3) (u := .int .i64 (enV (enS (enS (enS s 1) 3) 4) 1)) HB5.out)
 have H5 := LH (h5.set (N := A + 1) (by simp) (by have := HA0.out; omega) 3 (.int .i64 (enV (enS (enS (enS s 1) 3) 4) 1)))
 clear m0 m1 m2 m3 f0 f1 f2 f3
 obtain ⟨⟨m0, m1, m2, m3⟩, f0, f1, f2, f3⟩ := idf_cells HB5.out
 obtain ⟨⟨p0, p1, p2, p3⟩, g0, g1, g2, g3⟩ := idf_cells HA5.out
 clear h5 k5 C4
 have HFA : ∀ x : Id, Hid ((((((w5.setCell ⟨A + 1, 3, none⟩ (.int .i64 (enV (enS (enS (enS s 1) 3) 4) 1))).setCell ⟨A, 0, none⟩ (.int .i64 x.c)).setCell ⟨A, 1, none⟩ (.int .i64 x.l)).setCell ⟨A, 2, none⟩ (.int .i64 x.n)).setCell ⟨A, 3, none⟩ (.int .i64 x.i)).heap[A]? = some (.cells (idC x) 38 (0, 0))) := fun x => LH (id_written (blk_sets HA5.out (by omega)) x)
 have HES : ∀ x : Id, Hid (EyeS K w0 (((((w5.setCell ⟨A + 1, 3, none⟩ (.int .i64 (enV (enS (enS (enS s 1) 3) 4) 1))).setCell ⟨A, 0, none⟩ (.int .i64 x.c)).setCell ⟨A, 1, none⟩ (.int .i64 x.l)).setCell ⟨A, 2, none⟩ (.int .i64 x.n)).setCell ⟨A, 3, none⟩ (.int .i64 x.i)) b gs) := fun x => LH (by
  rw [HG.out.2]
  have h0 := HA0.out
  exact ((((H5.out.set (N := A) (by simp) h0 0 _).set (N := A) (by simp) h0 1 _).set (N := A) (by simp) h0 2 _).set (N := A) (by simp) h0 3 _).sub (fun k hk => List.mem_cons_of_mem _ (List.mem_cons_of_mem _ hk)))
 have HEK : ∀ x : Id, Hid (∀ y ∈ K, (((((w5.setCell ⟨A + 1, 3, none⟩ (.int .i64 (enV (enS (enS (enS s 1) 3) 4) 1))).setCell ⟨A, 0, none⟩ (.int .i64 x.c)).setCell ⟨A, 1, none⟩ (.int .i64 x.l)).setCell ⟨A, 2, none⟩ (.int .i64 x.n)).setCell ⟨A, 3, none⟩ (.int .i64 x.i)).heap[y]? = w.heap[y]?) := fun x => LH (fun y hy => by
  have hlt := (HK1.out y hy).2
  have hb : ∀ (a : World) (N j : Nat) (u : Value), A <= N -> (a.setCell ⟨N, j, none⟩ u).heap[y]? = a.heap[y]? := fun a N j u hN => Below.heap_setCell a ⟨N, j, none⟩ u y (by show y ≠ N; omega)
  rw [hb _ _ _ _ (Nat.le_refl _), hb _ _ _ _ (Nat.le_refl _), hb _ _ _ _ (Nat.le_refl _), hb _ _ _ _ (Nat.le_refl _), hb _ _ _ _ (by omega), HK5.out y hy])
 have HFX := HFA gv
 have HEX := HES gv
 have HKX := HEK gv
 rw [HG.out.1] at HFX HEX HKX
 clear HFA HES HEK
 go_wp2_with fail
 refine bodyPost_ret (ret_idc rfl _ rfl HFX.out) rfl ?_
 exact ⟨by rw [HG.out.1], HEX.out, HKX.out⟩
end
structure REyeS (K : List Nat) (w0 w : World) (b : Nat) (s : PB) : Prop where
 eye : ∃ g, REyeAt w b g s.1 s.2 /\ g ∉ K
 own : w0.heap.size <= b /\ b ∉ K
 chg : Chg [] w0 w
 lim : ∀ x ∈ K, x < w.heap.size
def REyeP (K : List Nat) (w0 w : World) (b : Nat) (v : Value) (s : PB) (e : Ending) (w' : World) : Prop := e = .returned v /\ REyeS K w0 w' b s /\ ∀ x ∈ K, w'.heap[x]? = w.heap[x]?
section
variable {K Y : List Nat} {w0 w w' : World} {b : Nat} {s s' : PB}
theorem REyeS.step {g : Nat} (h : REyeS K w0 w b s) (hg : g ∉ K) (he : REyeAt w' b g s'.1 s'.2) (hc : Chg [b] w w') : REyeS K w0 w' b s' /\ ∀ x ∈ K, w'.heap[x]? = w.heap[x]? :=
 ⟨⟨⟨g, he, hg⟩, h.own, h.chg.trans hc (fun x hx => by rw [List.mem_singleton.1 hx]; exact .inr h.own.1), fun x hx => Nat.lt_of_lt_of_le (h.lim x hx) hc.size⟩, fun x hx => hc.block x (h.lim x hx) (fun hm => h.own.2 (by rw [<- List.mem_singleton.1 hm]; exact hx))⟩
theorem REyeS.add (h : REyeS K w0 w b s) (hc : Chg [] w w') (hY : ∀ k ∈ Y, k ∈ K ∨ (w.heap.size <= k /\ k < w'.heap.size)) : REyeS Y w0 w' b s := by
 obtain ⟨g, he, hg⟩ := h.eye
 have hb := he.blt
 obtain ⟨g', he', hg'⟩ := he.pick (w'.heap.size + b + 1) (by omega)
 refine ⟨⟨g', he'.keep hc (by simp) (by simp), fun hm => ?_⟩, ⟨h.own.1, fun hm => ?_⟩, h.chg.trans hc (by simp), fun x hx => ?_⟩
 ·rcases hg' with ⟨rfl, h1⟩ | rfl
  ·rcases hY _ hm with h2 | h2
   ·exact hg h2
   ·omega
  ·rcases hY _ hm with h2 | h2
   ·have := h.lim _ h2; have := hc.size; omega
   ·omega
 ·rcases hY _ hm with h2 | h2
  ·exact h.own.2 h2
  ·omega
 ·rcases hY x hx with h2 | h2
  ·exact Nat.lt_of_lt_of_le (h.lim x h2) hc.size
  ·exact h2.2
theorem REyeS.sub (h : REyeS K w0 w b s) (hY : ∀ k ∈ Y, k ∈ K) : REyeS Y w0 w b s := by
 obtain ⟨g, he, hg⟩ := h.eye
 exact ⟨⟨g, he, fun hm => hg (hY g hm)⟩, ⟨h.own.1, fun hm => h.own.2 (hY b hm)⟩, h.chg, fun x hx => h.lim x (hY x hx)⟩
theorem REyeS.set {N : Nat} (h : REyeS K w0 w b s) (hN : N ∈ K) (hN0 : w0.heap.size <= N) (j : Nat) (u : Value) : REyeS K w0 (w.setCell ⟨N, j, none⟩ u) b s := by
 obtain ⟨g, he, hg⟩ := h.eye
 have hc : Chg [N] w (w.setCell ⟨N, j, none⟩ u) := (Chg.refl [N] w).setCell (p := ⟨N, j, none⟩) (.inl (by simp)) u
 exact ⟨⟨g, he.keep hc (fun hm => h.own.2 (by rw [List.mem_singleton.1 hm]; exact hN)) (fun hm => hg (by rw [List.mem_singleton.1 hm]; exact hN)), hg⟩, h.own, h.chg.trans hc (fun x hx => by rw [List.mem_singleton.1 hx]; exact .inr hN0), fun x hx => by have := h.lim x hx; simpa [World.setCell] using this⟩
theorem REyeS.keepD (h : REyeS K w0 w b s) (hc : Chg [] w w') : REyeS K w0 w' b s := h.add hc (fun k hk => .inl hk)
theorem resNum (h : REyeS K w0 w b s) (n : Nat) (h1 : 1 <= n) (h7 : n <= 7) : Calls Tryz.prog 59 #[.pointer (some ⟨b, 0, none⟩), .int .i64 (n : Int)] w (REyeP K w0 w b (.int .i64 (enV s n)) (enS s n)) := by
 obtain ⟨g, he, hg⟩ := h.eye
 refine (rnum_any b g s.1 s.2 (n : Int) w he (by omega) (by omega)).mono ?_
 rintro e w' ⟨rfl, h2, h3⟩
 rw [Int.toNat_natCast] at h2 ⊢
 exact ⟨rfl, h.step (s' := enS s n) hg h2 h3⟩
theorem resBool (h : REyeS K w0 w b s) : Calls Tryz.prog 67 #[.pointer (some ⟨b, 0, none⟩)] w (REyeP K w0 w b (.bool (ebV s)) (ebS s)) := by
 obtain ⟨g, he, hg⟩ := h.eye
 refine (rbool_any b g s.1 s.2 w he).mono ?_
 rintro e w' ⟨rfl, h2, h3⟩
 exact ⟨rfl, h.step (s' := ebS s) hg h2 h3⟩
theorem resEnd (h : REyeS K w0 w b s) : Calls Tryz.prog 63 #[.pointer (some ⟨b, 0, none⟩)] w fun e w' => e = .returned (.int .i64 (endOf s.1 s.2)) /\ w = w' := by
 obtain ⟨g, he, hg⟩ := h.eye
 exact rsend_any b g s.1 s.2 w he
theorem resForm (h : REyeS K w0 w b s) (q : Bool) : Calls Tryz.prog 60 #[.pointer (some ⟨b, 0, none⟩), .bool q] w (REyeP K w0 w b (.tuple #[]) (s.1, if q = true /\ s.2 = 0 then 4 else s.2)) := by
 obtain ⟨g, he, hg⟩ := h.eye
 refine (rform_any b g s.1 s.2 q w he).mono ?_
 rintro e w' ⟨rfl, h2, h3⟩
 exact ⟨rfl, h.step (s' := (s.1, if q = true /\ s.2 = 0 then 4 else s.2)) hg h2 h3⟩
theorem resGetId (h : REyeS K w0 w b s) : Calls Tryz.prog 61 #[.pointer (some ⟨b, 0, none⟩)] w (REyeP K w0 w b (idV (giV s)) (giS s)) := by
 obtain ⟨A, hA⟩ : ∃ A, A = w.heap.size := ⟨_, rfl⟩
 obtain ⟨w1, hw1⟩ : ∃ w1, w1 = (w.alloc (.cells (idC ⟨0, 0, 0, 0⟩) 38)).alloc (.cells (idC ⟨0, 0, 0, 0⟩) 38) := ⟨_, rfl⟩
 have hc1 : Chg [] w w1 := by rw [hw1]; exact ((Chg.refl [] w).alloc _).alloc _
 have hbA : w1.heap[A]? = some (.cells (idC ⟨0, 0, 0, 0⟩) 38 (0, 0)) := by rw [hw1, hA]; exact blk_alloc (heap_alloc_new w _)
 have hbB : w1.heap[A + 1]? = some (.cells (idC ⟨0, 0, 0, 0⟩) 38 (0, 0)) := by rw [hw1, hA]; exact heap_at (by simp)
 have hs := h.chg.size
 have hA0 : w0.heap.size <= A := by omega
 have hlA := blk_lt hbB
 have h1 : REyeS (A :: (A + 1) :: K) w0 w1 b s := h.add hc1 (fun k hk => by
  rcases List.mem_cons.1 hk with rfl | hk
  ·exact .inr ⟨by omega, by omega⟩
  ·rcases List.mem_cons.1 hk with rfl | hk
   ·exact .inr ⟨by omega, hlA⟩
   ·exact .inl hk)
 have HK1 : Hid (∀ y ∈ K, w1.heap[y]? = w.heap[y]? /\ y < A) := LH (fun y hy => ⟨hc1.block y (h.lim y hy) (by simp), by have := h.lim y hy; omega⟩)
 have HAA := LH hbA
 have HA := LH hA
 have HW1 := LH hw1
 obtain ⟨⟨m0, m1, m2, m3⟩, f0, f1, f2, f3⟩ := idf_cells hbB
 have HBB := LH hbB
 have C1 := LH (resNum h1 1 (by omega) (by omega))
 have HG : Hid (giV s = ⟨enV s 1, enV (enS s 1) 3, enV (enS (enS s 1) 3) 4, enV (enS (enS (enS s 1) 3) 4) 1⟩ /\ giS s = enS (enS (enS (enS s 1) 3) 4) 1) := LH ⟨rfl, rfl⟩
 have HA0 := LH hA0
 generalize giV s = gv at *
 generalize giS s = gs at *
 clear hw1 hc1 hbA hbB hs hA0 hlA h1 h hA
 go_enter Tryz.func61, Tryz.ntmps61
 go_wp2_with fail
 rw [<- HW1.out, <- HA.out]
 refine C1.out.mono ?_
 rintro e w2 ⟨rfl, h2, k2⟩
 have HB2 := LH (keepO HBB.out (k2 (A + 1) (by simp)))
 have HA2 := LH (keepO HAA.out (k2 A (by simp)))
 have HK2 := LH k2
 have C2 := LH (resNum (h2.set (N := A + 1) (by simp) (by have := HA0.out; omega) 0 (.int .i64 (enV s 1))) 3 (by omega) (by omega))
 have HS2 := LH (set_blk (j := 0) (u := .int .i64 (enV s 1)) HB2.out)
 clear m0 m1 m2 m3 f0 f1 f2 f3
 obtain ⟨⟨m0, m1, m2, m3⟩, f0, f1, f2, f3⟩ := idf_cells HB2.out
 clear h2 k2 C1
 go_wp2_with fail
 refine C2.out.mono ?_
 rintro e w3 ⟨rfl, h3, k3⟩
 have HB3 : Hid (w3.heap[A + 1]? = some (.cells (idC ⟨enV s 1, 0, 0, 0⟩) 38 (0, 0))) := LH (keepO HS2.out (k3 (A + 1) (by simp)))
 have HK3 := LH k3
 have C3 := LH (resNum (h3.set (N := A + 1) (by simp) (by have := HA0.out; omega) 1 (.int .i64 (enV (enS s 1) 3))) 4 (by omega) (by omega))
 have HS3 := LH (set_blk (j := 1) (u := .int .i64 (enV (enS s 1) 3)) HB3.out)
 clear m0 m1 m2 m3 f0 f1 f2 f3
 obtain ⟨⟨m0, m1, m2, m3⟩, f0, f1, f2, f3⟩ := idf_cells HB3.out
 clear h3 k3 C2
 go_wp2_with fail
 refine C3.out.mono ?_
 rintro e w4 ⟨rfl, h4, k4⟩
 have HB4 : Hid (w4.heap[A + 1]? = some (.cells (idC ⟨enV s 1, enV (enS s 1) 3, 0, 0⟩) 38 (0, 0))) := LH (keepO HS3.out (k4 (A + 1) (by simp)))
 have HK4 := LH k4
 have C4 := LH (resNum (h4.set (N := A + 1) (by simp) (by have := HA0.out; omega) 2 (.int .i64 (enV (enS (enS s 1) 3) 4))) 1 (by omega) (by omega))
 have HS4 := LH (set_blk (j := 2) (u := .int .i64 (enV (enS (enS s 1) 3) 4)) HB4.out)
 clear m0 m1 m2 m3 f0 f1 f2 f3
 obtain ⟨⟨m0, m1, m2, m3⟩, f0, f1, f2, f3⟩ := idf_cells HB4.out
 clear h4 k4 C3
 go_wp2_with fail
 refine C4.out.mono ?_
 rintro e w5 ⟨rfl, h5, k5⟩
 have HB5 : Hid (w5.heap[A + 1]? = some (.cells (idC ⟨enV s 1, enV (enS s 1) 3, enV (enS (enS s 1) 3) 4, 0⟩) 38 (0, 0))) := LH (keepO HS4.out (k5 (A + 1) (by simp)))
 have HA5 : Hid (w5.heap[A]? = some (.cells (idC ⟨0, 0, 0, 0⟩) 38 (0, 0))) := LH (by
  have e0 : A ≠ A + 1 := by omega
  exact keepO (blk_sets (keepO (blk_sets (keepO (blk_sets HA2.out e0) (HK3.out A (by simp))) e0) (HK4.out A (by simp))) e0) (k5 A (by simp)))
 have HK5 : Hid (∀ y ∈ K, w5.heap[y]? = w.heap[y]?) := LH (fun y hy => by
  have hm : y ∈ A :: (A + 1) :: K := List.mem_cons_of_mem _ (List.mem_cons_of_mem _ hy)
  have hlt := (HK1.out y hy).2
  have hb : ∀ (a : World) (j : Nat) (u : Value), (a.setCell ⟨A + 1, j, none⟩ u).heap[y]? = a.heap[y]? := fun a j u => Below.heap_setCell a ⟨A + 1, j, none⟩ u y (by show y ≠ A + 1; omega)
  rw [k5 y hm, hb, HK4.out y hm, hb, HK3.out y hm, hb, HK2.out y hm, (HK1.out y hy).1])
 have HS5 := LH (set_blk (j := 3) (u := .int .i64 (enV (enS (enS (enS s 1) 3) 4) 1)) HB5.out)
 have H5 := LH (h5.set (N := A + 1) (by simp) (by have := HA0.out; omega) 3 (.int .i64 (enV (enS (enS (enS s 1) 3) 4) 1)))
 clear m0 m1 m2 m3 f0 f1 f2 f3
 obtain ⟨⟨m0, m1, m2, m3⟩, f0, f1, f2, f3⟩ := idf_cells HB5.out
 obtain ⟨⟨p0, p1, p2, p3⟩, g0, g1, g2, g3⟩ := idf_cells HA5.out
 clear h5 k5 C4
 have HFA : ∀ x : Id, Hid ((((((w5.setCell ⟨A + 1, 3, none⟩ (.int .i64 (enV (enS (enS (enS s 1) 3) 4) 1))).setCell ⟨A, 0, none⟩ (.int .i64 x.c)).setCell ⟨A, 1, none⟩ (.int .i64 x.l)).setCell ⟨A, 2, none⟩ (.int .i64 x.n)).setCell ⟨A, 3, none⟩ (.int .i64 x.i)).heap[A]? = some (.cells (idC x) 38 (0, 0))) := fun x => LH (id_written (blk_sets HA5.out (by omega)) x)
 have HES : ∀ x : Id, Hid (REyeS K w0 (((((w5.setCell ⟨A + 1, 3, none⟩ (.int .i64 (enV (enS (enS (enS s 1) 3) 4) 1))).setCell ⟨A, 0, none⟩ (.int .i64 x.c)).setCell ⟨A, 1, none⟩ (.int .i64 x.l)).setCell ⟨A, 2, none⟩ (.int .i64 x.n)).setCell ⟨A, 3, none⟩ (.int .i64 x.i)) b gs) := fun x => LH (by
  rw [HG.out.2]
  have h0 := HA0.out
  exact ((((H5.out.set (N := A) (by simp) h0 0 _).set (N := A) (by simp) h0 1 _).set (N := A) (by simp) h0 2 _).set (N := A) (by simp) h0 3 _).sub (fun k hk => List.mem_cons_of_mem _ (List.mem_cons_of_mem _ hk)))
 have HEK : ∀ x : Id, Hid (∀ y ∈ K, (((((w5.setCell ⟨A + 1, 3, none⟩ (.int .i64 (enV (enS (enS (enS s 1) 3) 4) 1))).setCell ⟨A, 0, none⟩ (.int .i64 x.c)).setCell ⟨A, 1, none⟩ (.int .i64 x.l)).setCell ⟨A, 2, none⟩ (.int .i64 x.n)).setCell ⟨A, 3, none⟩ (.int .i64 x.i)).heap[y]? = w.heap[y]?) := fun x => LH (fun y hy => by
  have hlt := (HK1.out y hy).2
  have hb : ∀ (a : World) (N j : Nat) (u : Value), A <= N -> (a.setCell ⟨N, j, none⟩ u).heap[y]? = a.heap[y]? := fun a N j u hN => Below.heap_setCell a ⟨N, j, none⟩ u y (by show y ≠ N; omega)
  rw [hb _ _ _ _ (Nat.le_refl _), hb _ _ _ _ (Nat.le_refl _), hb _ _ _ _ (Nat.le_refl _), hb _ _ _ _ (Nat.le_refl _), hb _ _ _ _ (by omega), HK5.out y hy])
 have HFX := HFA gv
 have HEX := HES gv
 have HKX := HEK gv
 rw [HG.out.1] at HFX HEX HKX
 clear HFA HES HEK
 go_wp2_with fail
 refine bodyPost_ret (ret_idc rfl _ rfl HFX.out) rfl ?_
 exact ⟨by rw [HG.out.1], HEX.out, HKX.out⟩
end
def reqDec (l : List UInt8) : Rq × Int :=
 if (enS (l, 0) 1).2 = 0 /\ kindB (enV (l, 0) 1) = false then (noRq, 4) else
 if endOf (erS (giS (enS (l, 0) 1))).1 (erS (giS (enS (l, 0) 1))).2 ≠ 0 then (noRq, endOf (erS (giS (enS (l, 0) 1))).1 (erS (giS (enS (l, 0) 1))).2) else
 (⟨enV (l, 0) 1, giV (enS (l, 0) 1), erV (giS (enS (l, 0) 1))⟩, 0)
theorem enS_bad {s : PB} (h : s.2 ≠ 0) (n : Nat) : enS s n = s /\ enV s n = 0 := by
 unfold enS enV eyeNum
 rw [if_pos h]
 exact ⟨rfl, rfl⟩
theorem giS_bad {s : PB} (h : s.2 ≠ 0) : giS s = s := by
 unfold giS
 rw [(enS_bad h 1).1, (enS_bad h 3).1, (enS_bad h 4).1, (enS_bad h 1).1]
theorem erS_bad {s : PB} (h : s.2 ≠ 0) : erS s = s := by
 unfold erS eyeRaw
 rw [if_pos h]
theorem end_bad {s : PB} (h : s.2 ≠ 0) : endOf s.1 s.2 = s.2 := by
 unfold endOf
 rw [if_pos h]
theorem BytesAt.rseye {w : World} {v : Value} {l : List UInt8} (h : BytesAt w v l) (M : Nat) : ∃ g, REyeV w v g l /\ (g < w.heap.size ∨ g = M) := by
 obtain ⟨a, cap, rfl, h1, h2, h3⟩ := h
 by_cases hl : l = []
 ·subst hl
  exact ⟨M, .inl ⟨rfl, a, cap, rfl⟩, .inr rfl⟩
 ·rcases h3 with ⟨h3, _⟩ | ⟨g, o, rfl, hc⟩
  ·exact absurd h3 hl
  ·have hp : 0 < l.length := List.length_pos_iff.2 hl
   have hg := World.block_lt_of_cell? w _ (hc 0 hp)
   exact ⟨g, .inr ⟨o, cap, rfl, h1, h2, hg, hc⟩, .inl hg⟩
def DecPost (w0 : World) (r : Rq × Int) (e : Ending) (w' : World) : Prop := ∃ bv, e = .returned (.tuple #[rqV r.1 bv, .int .i64 r.2]) /\ BytesAt w' bv r.1.b /\ (∀ k, bv.ownBlock = some k -> w0.heap.size <= k) /\ Chg [] w0 w'
theorem six_cells {w : World} {N t : Nat} {a0 a1 a2 a3 a4 a5 : Value} (h : w.heap[N]? = some (.cells #[a0, a1, a2, a3, a4, a5] t (0, 0))) :
  (w.cell? ⟨N, 0, none⟩ = some a0 /\ w.cell? ⟨N, 1, none⟩ = some a1 /\ w.cell? ⟨N, 2, none⟩ = some a2 /\ w.cell? ⟨N, 3, none⟩ = some a3 /\ w.cell? ⟨N, 4, none⟩ = some a4 /\ w.cell? ⟨N, 5, none⟩ = some a5) /\
  w.frozen? ⟨N, 0, none⟩ = false /\ w.frozen? ⟨N, 1, none⟩ = false /\ w.frozen? ⟨N, 2, none⟩ = false /\ w.frozen? ⟨N, 3, none⟩ = false /\ w.frozen? ⟨N, 4, none⟩ = false /\ w.frozen? ⟨N, 5, none⟩ = false :=
 ⟨⟨blk_cell h 0 _ rfl, blk_cell h 1 _ rfl, blk_cell h 2 _ rfl, blk_cell h 3 _ rfl, blk_cell h 4 _ rfl, blk_cell h 5 _ rfl⟩, blk_frozen h 0, blk_frozen h 1, blk_frozen h 2, blk_frozen h 3, blk_frozen h 4, blk_frozen h 5⟩
theorem four_mid {w : World} {N t : Nat} {a0 a1 a2 a3 a4 a5 u1 u2 u3 u4 : Value} (h : w.heap[N]? = some (.cells #[a0, a1, a2, a3, a4, a5] t (0, 0))) :
  ((((w.setCell ⟨N, 1, none⟩ u1).setCell ⟨N, 2, none⟩ u2).setCell ⟨N, 3, none⟩ u3).setCell ⟨N, 4, none⟩ u4).heap[N]? = some (.cells #[a0, u1, u2, u3, u4, a5] t (0, 0)) :=
 set_blk (set_blk (set_blk (set_blk h)))
theorem set_six {w : World} {b t : Nat} {a0 a1 a2 a3 a4 a5 : Value} (h : w.heap[b]? = some (.cells #[a0, a1, a2, a3, a4, a5] t (0, 0))) (u0 u1 u2 u3 u4 u5 : Value) :
  ((((((w.setCell ⟨b, 0, none⟩ u0).setCell ⟨b, 1, none⟩ u1).setCell ⟨b, 2, none⟩ u2).setCell ⟨b, 3, none⟩ u3).setCell ⟨b, 4, none⟩ u4).setCell ⟨b, 5, none⟩ u5).heap[b]? = some (.cells #[u0, u1, u2, u3, u4, u5] t (0, 0)) := six_set h u0 u1 u2 u3 u4 u5
theorem chg_six {w0 w : World} (hc : Chg [] w0 w) {b : Nat} (hb : w0.heap.size <= b) (u0 u1 u2 u3 u4 u5 : Value) :
  Chg [] w0 ((((((w.setCell ⟨b, 0, none⟩ u0).setCell ⟨b, 1, none⟩ u1).setCell ⟨b, 2, none⟩ u2).setCell ⟨b, 3, none⟩ u3).setCell ⟨b, 4, none⟩ u4).setCell ⟨b, 5, none⟩ u5) :=
 (((((hc.setCell (.inr hb) _).setCell (.inr hb) _).setCell (.inr hb) _).setCell (.inr hb) _).setCell (.inr hb) _).setCell (.inr hb) _
theorem bytes_six {w : World} {v : Value} {l : List UInt8} (h : BytesAt w v l) {b : Nat} (hb : ∀ k, v.ownBlock = some k -> k ≠ b) (u0 u1 u2 u3 u4 u5 : Value) :
  BytesAt ((((((w.setCell ⟨b, 0, none⟩ u0).setCell ⟨b, 1, none⟩ u1).setCell ⟨b, 2, none⟩ u2).setCell ⟨b, 3, none⟩ u3).setCell ⟨b, 4, none⟩ u4).setCell ⟨b, 5, none⟩ u5) v l := by
 refine h.chg (S := [b]) ((((((((Chg.refl [b] w).setCell (.inl ?_) _).setCell (.inl ?_) _).setCell (.inl ?_) _).setCell (.inl ?_) _).setCell (.inl ?_) _).setCell (.inl ?_) _)) (fun k hk hm => hb k hk (List.mem_singleton.1 hm)) <;> simp
theorem ret_rq {fn : Func} {p u : Tmp} (h : fn.results = #[.cell p 40, .tmp u]) (tmps : Array Value) {w : World} {b t : Nat} {r : Rq} {bv q : Value} (hp : tmps.getD p undef = .pointer (some ⟨b, 0, none⟩)) (hu : tmps.getD u undef = q) (hb : w.heap[b]? = some (.cells (rqL r bv).toArray t (0, 0))) :
  (results fn tmps).run Tryz.prog w = .ok (.tuple #[rqV r bv, q]) w := by
 have hl := run_loadVar_row (P := Tryz.prog) w b t 40 (rqL r bv).toArray (0, 0) _ hb Tryz.underlying40 rfl (rq_size _ _)
 rw [results_cell_tmp h, hp, hu]
 simp only [asAddr, Sem.run_pure, Result.andThen_ok, hl]
 rfl
theorem svdec_any (v : Value) (l : List UInt8) (w : World) (hv : BytesAt w v l) (hl : l.length <= 1000000) : Calls Tryz.prog 26 #[v] w (DecPost w (reqDec l)) := by
 obtain ⟨R, hR⟩ : ∃ R, R = w.heap.size := ⟨_, rfl⟩
 obtain ⟨w1, hw1⟩ : ∃ w1, w1 = w.alloc (.cells zeroRq 40) := ⟨_, rfl⟩
 have hc1 : Chg [] w w1 := by rw [hw1]; exact (Chg.refl [] w).alloc _
 have hb1 : w1.heap[R]? = some (.cells zeroRq 40 (0, 0)) := by rw [hw1, hR]; exact heap_alloc_new w _
 have hs1 : w1.heap.size = R + 1 := by rw [hw1, hR]; simp
 have CE := LH (neweye_any v l w1 (hv.chg hc1 (by simp)) hl)
 obtain ⟨a, cap, rfl⟩ := hv.slice
 have HB1 := LH hb1
 have HC1 := LH hc1
 have HW1 := LH hw1
 have HR := LH hR
 have HS1 := LH hs1
 have HRW : Hid (w.heap.size <= R) := LH (by omega)
 have HD0 : Hid (reqDec l = if (enS (l, 0) 1).2 = 0 /\ kindB (enV (l, 0) 1) = false then (noRq, 4) else if endOf (erS (giS (enS (l, 0) 1))).1 (erS (giS (enS (l, 0) 1))).2 ≠ 0 then (noRq, endOf (erS (giS (enS (l, 0) 1))).1 (erS (giS (enS (l, 0) 1))).2) else (⟨enV (l, 0) 1, giV (enS (l, 0) 1), erV (giS (enS (l, 0) 1))⟩, 0)) := LH rfl
 clear hb1 hc1 hw1 hR hs1 hv
 go_enter Tryz.func26, Tryz.ntmps26
 go_wp2_with fail
 rw [show (#[.int .i64 0, .int .i64 0, .int .i64 0, .int .i64 0, .int .i64 0, .slice none 0 0] : Array Value) = zeroRq from rfl, <- HW1.out, <- HR.out]
 refine CE.out.mono ?_
 rintro e w2 ⟨b, g, rfl, he2, hb2, hg2, hc2⟩
 obtain ⟨L, hLE⟩ : ∃ L, L = w2.heap.size := ⟨_, rfl⟩
 obtain ⟨w3, hw3⟩ : ∃ w3, w3 = w2.alloc (.cells #[.int .i64 0, .int .i64 0, .int .i64 0, .int .i64 0, .int .i64 0, .slice none 0 0] 40) := ⟨_, rfl⟩
 have hs2 := hc2.size
 have hs1 := HS1.out
 have h2 : EyeS [R] w w2 b (l, 0) := ⟨⟨g, he2, by simp; omega⟩, ⟨by have := HRW.out; omega, by simp; omega⟩, HC1.out.trans hc2 (by simp), fun x hx => by rw [List.mem_singleton.1 hx]; omega⟩
 have hc3 : Chg [] w2 w3 := by rw [hw3]; exact (Chg.refl [] w2).alloc _
 have hbL : w3.heap[L]? = some (.cells zeroRq 40 (0, 0)) := by rw [hw3, hLE]; exact heap_alloc_new w2 _
 have H3 : Hid (EyeS [L, R] w w3 b (l, 0)) := LH (h2.add hc3 (fun k hk => by
  simp at hk
  rcases hk with rfl | rfl
  ·exact .inr ⟨by omega, blk_lt hbL⟩
  ·exact .inl (by simp)))
 have HL3 := LH hbL
 have HR3 := LH ((hc2.trans hc3 (by simp)).keep HB1.out (by simp))
 have HL0 : Hid (w.heap.size <= L) := LH (by have := HRW.out; omega)
 have HRL : Hid (R ≠ L) := LH (by omega)
 have HW3 := LH hw3
 have HLE := LH hLE
 have HLE2 : Hid (L = L) := LH rfl
 have C1 := LH (esNum H3.out 1 (by omega) (by omega))
 clear CE he2 hb2 hg2 hc2 hw3 hLE h2 hc3 hbL hs1 hs2
 go_wp2_with fail
 rw [<- HW3.out]
 try rw [<- HLE.out]
 try rw [HLE2.out]
 refine C1.out.mono ?_
 rintro e w4 ⟨rfl, h4, k4⟩
 have HL4 := LH (keepO HL3.out (k4 L (by simp)))
 have HR4 := LH (keepO HR3.out (k4 R (by simp)))
 obtain ⟨k, hk⟩ : ∃ k, k = enV (l, 0) 1 := ⟨_, rfl⟩
 rw [<- hk]
 have HKK := LH hk
 have H5 := LH (h4.set (N := L) (by simp) HL0.out 0 (.int .i64 k))
 have HL5 : Hid ((w4.setCell ⟨L, 0, none⟩ (.int .i64 k)).heap[L]? = some (.cells #[.int .i64 k, .int .i64 0, .int .i64 0, .int .i64 0, .int .i64 0, .slice none 0 0] 40 (0, 0))) := LH (set_blk HL4.out)
 have HR5 : Hid ((w4.setCell ⟨L, 0, none⟩ (.int .i64 k)).heap[R]? = some (.cells #[.int .i64 0, .int .i64 0, .int .i64 0, .int .i64 0, .int .i64 0, .slice none 0 0] 40 (0, 0))) := LH (blk_sets HR4.out HRL.out)
 obtain ⟨⟨m0, m1, m2, m3, m4, m5⟩, f0, f1, f2, f3, f4, f5⟩ := six_cells (a0 := .int .i64 0) (a1 := .int .i64 0) (a2 := .int .i64 0) (a3 := .int .i64 0) (a4 := .int .i64 0) (a5 := .slice none 0 0) HL4.out
 have HLB := LH (blk_lt HL4.out)
 clear h4 k4 C1 hk
 have CF := LH (esFail H5.out)
 obtain ⟨s1, hs1⟩ : ∃ s1, s1 = enS (l, 0) 1 := ⟨_, rfl⟩
 rw [<- hs1] at CF H5
 rw [<- HKK.out, <- hs1] at HD0
 go_wp2_with fail
 refine CF.out.mono ?_
 rintro e w' ⟨rfl, hq⟩
 subst hq
 clear m0 m1 m2 m3 m4 m5 f0 f1 f2 f3 f4 f5 CF hs1
 generalize w4.setCell ⟨L, 0, none⟩ (.int .i64 k) = w5 at *
 obtain ⟨bad, hbad⟩ : ∃ bad, bad = s1.2 := ⟨_, rfl⟩
 rw [<- hbad] at HD0 ⊢
 have H6 := H5
 have HL6 := HL5
 have HR6 := HR5
 have CK := LH (kind_any k w5)
 obtain ⟨⟨m0, m1, m2, m3, m4, m5⟩, f0, f1, f2, f3, f4, f5⟩ := six_cells HL5.out
 clear hbad
 by_cases hb0 : bad = 0
 ·by_cases hk : kindB k = true
  ·rw [if_neg (by simp [hk])] at HD0
   have HD := HD0
   subst hb0
   rw [hk] at CK
   clear hk
   go_wp2_with fail
   refine CK.out.mono ?_
   rintro e w' ⟨rfl, hq⟩
   subst hq
   have C2 := LH (esGetId H6.out)
   go_wp2_with fail
   refine C2.out.mono ?_
   rintro e w6 ⟨rfl, h6, k6⟩
   have HL7 := LH (keepO HL6.out (k6 L (by simp)))
   have HR7 := LH (keepO HR6.out (k6 R (by simp)))
   obtain ⟨x, hx⟩ : ∃ x, x = giV s1 := ⟨_, rfl⟩
   rw [<- hx]
   rw [<- hx] at HD
   obtain ⟨s2, hs2⟩ : ∃ s2, s2 = giS s1 := ⟨_, rfl⟩
   rw [<- hs2] at HD h6
   obtain ⟨xc, xl, xn, xi⟩ := x
   have H8 := LH ((((h6.set (N := L) (by simp) HL0.out 1 (.int .i64 xc)).set (N := L) (by simp) HL0.out 2 (.int .i64 xl)).set (N := L) (by simp) HL0.out 3 (.int .i64 xn)).set (N := L) (by simp) HL0.out 4 (.int .i64 xi))
   have HL8 := LH (four_mid (u1 := .int .i64 xc) (u2 := .int .i64 xl) (u3 := .int .i64 xn) (u4 := .int .i64 xi) HL7.out)
   have HR8 := LH (blk_sets (u := .int .i64 xi) (j := 4) (blk_sets (u := .int .i64 xn) (j := 3) (blk_sets (u := .int .i64 xl) (j := 2) (blk_sets (u := .int .i64 xc) (j := 1) HR7.out HRL.out) HRL.out) HRL.out) HRL.out)
   have C3 := LH (esRaw H8.out)
   clear m0 m1 m2 m3 m4 m5 f0 f1 f2 f3 f4 f5
   obtain ⟨⟨m0, m1, m2, m3, m4, m5⟩, f0, f1, f2, f3, f4, f5⟩ := six_cells HL7.out
   have HLB7 := LH (blk_lt HL8.out)
   clear h6 k6 C2 hx hs2
   go_wp2_with fail
   refine C3.out.mono ?_
   rintro e w7 ⟨v7, ⟨rfl, h7, k7⟩, hb7, hn7, hc7⟩
   have HL9 := LH (keepO HL8.out (k7 L (by simp)))
   have HR9 := LH (keepO HR8.out (k7 R (by simp)))
   obtain ⟨s3, hs3⟩ : ∃ s3, s3 = erS s2 := ⟨_, rfl⟩
   rw [<- hs3] at HD h7
   obtain ⟨bb, hbb⟩ : ∃ bb, bb = erV s2 := ⟨_, rfl⟩
   rw [<- hbb] at HD hb7
   obtain ⟨a7, c7, rfl⟩ := hb7.slice
   have hnL : ∀ q, (Value.slice a7 bb.length c7).ownBlock = some q -> q ≠ L /\ q ≠ R := fun q hq => by
    have h1 := hn7 q hq
    have h2 := HLB7.out
    have h3 := blk_lt HR8.out
    omega
   have HBB : Hid (BytesAt (w7.setCell ⟨L, 5, none⟩ (.slice a7 bb.length c7)) (.slice a7 bb.length c7) bb) := LH (hb7.bytes.chg (S := [L]) ((Chg.refl [L] w7).setCell (p := ⟨L, 5, none⟩) (.inl (by simp)) _) (fun q hq hm => (hnL q hq).1 (List.mem_singleton.1 hm)))
   have HNR : Hid (∀ q, (Value.slice a7 bb.length c7).ownBlock = some q -> q ≠ R) := LH (fun q hq => (hnL q hq).2)
   have HNW : Hid (∀ q, (Value.slice a7 bb.length c7).ownBlock = some q -> w.heap.size <= q) := LH (fun q hq => by
    have h1 := hn7 q hq
    have h2 := H8.out.chg.size
    omega)
   have H9 := LH (h7.set (N := L) (by simp) HL0.out 5 (.slice a7 bb.length c7))
   have HLA : Hid ((w7.setCell ⟨L, 5, none⟩ (.slice a7 bb.length c7)).heap[L]? = some (.cells #[.int .i64 k, .int .i64 xc, .int .i64 xl, .int .i64 xn, .int .i64 xi, .slice a7 bb.length c7] 40 (0, 0))) := LH (set_blk HL9.out)
   have HRA := LH (blk_sets (u := .slice a7 bb.length c7) (j := 5) HR9.out HRL.out)
   have C4 := LH (esEnd H9.out)
   clear m0 m1 m2 m3 m4 m5 f0 f1 f2 f3 f4 f5
   obtain ⟨⟨m0, m1, m2, m3, m4, m5⟩, f0, f1, f2, f3, f4, f5⟩ := six_cells HL9.out
   clear h7 k7 hb7 hn7 hc7 C3 hs3 hbb hnL
   obtain ⟨ff, hff⟩ : ∃ ff, ff = endOf s3.1 s3.2 := ⟨_, rfl⟩
   rw [<- hff] at HD C4
   have HCC := LH H9.out.chg
   go_wp2_with fail
   refine C4.out.mono ?_
   rintro e w' ⟨rfl, hq⟩
   subst hq
   clear m0 m1 m2 m3 m4 m5 f0 f1 f2 f3 f4 f5 C4 hff
   generalize w7.setCell ⟨L, 5, none⟩ (.slice a7 bb.length c7) = w8 at *
   obtain ⟨⟨r0, r1, r2, r3, r4, r5⟩, g0, g1, g2, g3, g4, g5⟩ := six_cells HRA.out
   by_cases hf : ff = 0
   ·rw [if_neg (by simp [hf])] at HD
    subst hf
    obtain ⟨⟨m0, m1, m2, m3, m4, m5⟩, f0, f1, f2, f3, f4, f5⟩ := six_cells HLA.out
    have HFX := LH (set_six HRA.out (.int .i64 k) (.int .i64 xc) (.int .i64 xl) (.int .i64 xn) (.int .i64 xi) (.slice a7 bb.length c7))
    have HCX := LH (chg_six HCC.out HRW.out (.int .i64 k) (.int .i64 xc) (.int .i64 xl) (.int .i64 xn) (.int .i64 xi) (.slice a7 bb.length c7))
    have HBX := LH (bytes_six HBB.out HNR.out (.int .i64 k) (.int .i64 xc) (.int .i64 xl) (.int .i64 xn) (.int .i64 xi) (.slice a7 bb.length c7))
    go_wp2_with fail
    refine bodyPost_ret (ret_rq (r := ⟨k, ⟨xc, xl, xn, xi⟩, bb⟩) (bv := .slice a7 bb.length c7) rfl _ rfl rfl HFX.out) rfl ?_
    rw [HD.out]
    exact ⟨_, rfl, HBX.out, HNW.out, HCX.out⟩
   ·rw [if_pos hf] at HD
    have qf : (ff != 0) = true := by simp [hf]
    have HFX := LH (set_six HRA.out (.int .i64 0) (.int .i64 0) (.int .i64 0) (.int .i64 0) (.int .i64 0) (.slice none 0 0))
    have HCX := LH (chg_six HCC.out HRW.out (.int .i64 0) (.int .i64 0) (.int .i64 0) (.int .i64 0) (.int .i64 0) (.slice none 0 0))
    clear hf
    go_wp2_with fail
    refine bodyPost_ret (ret_rq (r := noRq) (bv := .slice none 0 0) rfl _ rfl rfl HFX.out) rfl ?_
    rw [HD.out]
    exact ⟨_, rfl, BytesAt.nil _, by simp [Value.ownBlock], HCX.out⟩
  ·have hk : kindB k = false := by cases h : kindB k with | true => exact absurd h hk | false => rfl
   rw [if_pos ⟨hb0, hk⟩] at HD0
   subst hb0
   rw [hk] at CK
   obtain ⟨⟨r0, r1, r2, r3, r4, r5⟩, g0, g1, g2, g3, g4, g5⟩ := six_cells HR5.out
   have HFX := LH (set_six HR5.out (.int .i64 0) (.int .i64 0) (.int .i64 0) (.int .i64 0) (.int .i64 0) (.slice none 0 0))
   have HCX := LH (chg_six H5.out.chg HRW.out (.int .i64 0) (.int .i64 0) (.int .i64 0) (.int .i64 0) (.int .i64 0) (.slice none 0 0))
   clear hk
   go_wp2_with fail
   refine CK.out.mono ?_
   rintro e w' ⟨rfl, hq⟩
   subst hq
   go_wp2_with fail
   refine bodyPost_ret (ret_rq (r := noRq) (bv := .slice none 0 0) rfl _ rfl rfl HFX.out) rfl ?_
   rw [HD0.out]
   exact ⟨_, rfl, BytesAt.nil _, by simp [Value.ownBlock], HCX.out⟩
 ·rw [if_neg (fun h => hb0 h.1)] at HD0
  have HD := HD0
  have qb : (bad == 0) = false := by simp [hb0]
  clear hb0
  have C2 := LH (esGetId H6.out)
  go_wp2_with fail
  refine C2.out.mono ?_
  rintro e w6 ⟨rfl, h6, k6⟩
  have HL7 := LH (keepO HL6.out (k6 L (by simp)))
  have HR7 := LH (keepO HR6.out (k6 R (by simp)))
  obtain ⟨x, hx⟩ : ∃ x, x = giV s1 := ⟨_, rfl⟩
  rw [<- hx]
  rw [<- hx] at HD
  obtain ⟨s2, hs2⟩ : ∃ s2, s2 = giS s1 := ⟨_, rfl⟩
  rw [<- hs2] at HD h6
  obtain ⟨xc, xl, xn, xi⟩ := x
  have H8 := LH ((((h6.set (N := L) (by simp) HL0.out 1 (.int .i64 xc)).set (N := L) (by simp) HL0.out 2 (.int .i64 xl)).set (N := L) (by simp) HL0.out 3 (.int .i64 xn)).set (N := L) (by simp) HL0.out 4 (.int .i64 xi))
  have HL8 := LH (four_mid (u1 := .int .i64 xc) (u2 := .int .i64 xl) (u3 := .int .i64 xn) (u4 := .int .i64 xi) HL7.out)
  have HR8 := LH (blk_sets (u := .int .i64 xi) (j := 4) (blk_sets (u := .int .i64 xn) (j := 3) (blk_sets (u := .int .i64 xl) (j := 2) (blk_sets (u := .int .i64 xc) (j := 1) HR7.out HRL.out) HRL.out) HRL.out) HRL.out)
  have C3 := LH (esRaw H8.out)
  clear m0 m1 m2 m3 m4 m5 f0 f1 f2 f3 f4 f5
  obtain ⟨⟨m0, m1, m2, m3, m4, m5⟩, f0, f1, f2, f3, f4, f5⟩ := six_cells HL7.out
  have HLB7 := LH (blk_lt HL8.out)
  clear h6 k6 C2 hx hs2
  go_wp2_with fail
  refine C3.out.mono ?_
  rintro e w7 ⟨v7, ⟨rfl, h7, k7⟩, hb7, hn7, hc7⟩
  have HL9 := LH (keepO HL8.out (k7 L (by simp)))
  have HR9 := LH (keepO HR8.out (k7 R (by simp)))
  obtain ⟨s3, hs3⟩ : ∃ s3, s3 = erS s2 := ⟨_, rfl⟩
  rw [<- hs3] at HD h7
  obtain ⟨bb, hbb⟩ : ∃ bb, bb = erV s2 := ⟨_, rfl⟩
  rw [<- hbb] at HD hb7
  obtain ⟨a7, c7, rfl⟩ := hb7.slice
  have hnL : ∀ q, (Value.slice a7 bb.length c7).ownBlock = some q -> q ≠ L /\ q ≠ R := fun q hq => by
   have h1 := hn7 q hq
   have h2 := HLB7.out
   have h3 := blk_lt HR8.out
   omega
  have HBB : Hid (BytesAt (w7.setCell ⟨L, 5, none⟩ (.slice a7 bb.length c7)) (.slice a7 bb.length c7) bb) := LH (hb7.bytes.chg (S := [L]) ((Chg.refl [L] w7).setCell (p := ⟨L, 5, none⟩) (.inl (by simp)) _) (fun q hq hm => (hnL q hq).1 (List.mem_singleton.1 hm)))
  have HNR : Hid (∀ q, (Value.slice a7 bb.length c7).ownBlock = some q -> q ≠ R) := LH (fun q hq => (hnL q hq).2)
  have HNW : Hid (∀ q, (Value.slice a7 bb.length c7).ownBlock = some q -> w.heap.size <= q) := LH (fun q hq => by
   have h1 := hn7 q hq
   have h2 := H8.out.chg.size
   omega)
  have H9 := LH (h7.set (N := L) (by simp) HL0.out 5 (.slice a7 bb.length c7))
  have HLA : Hid ((w7.setCell ⟨L, 5, none⟩ (.slice a7 bb.length c7)).heap[L]? = some (.cells #[.int .i64 k, .int .i64 xc, .int .i64 xl, .int .i64 xn, .int .i64 xi, .slice a7 bb.length c7] 40 (0, 0))) := LH (set_blk HL9.out)
  have HRA := LH (blk_sets (u := .slice a7 bb.length c7) (j := 5) HR9.out HRL.out)
  have C4 := LH (esEnd H9.out)
  clear m0 m1 m2 m3 m4 m5 f0 f1 f2 f3 f4 f5
  obtain ⟨⟨m0, m1, m2, m3, m4, m5⟩, f0, f1, f2, f3, f4, f5⟩ := six_cells HL9.out
  clear h7 k7 hb7 hn7 hc7 C3 hs3 hbb hnL
  obtain ⟨ff, hff⟩ : ∃ ff, ff = endOf s3.1 s3.2 := ⟨_, rfl⟩
  rw [<- hff] at HD C4
  have HCC := LH H9.out.chg
  go_wp2_with fail
  refine C4.out.mono ?_
  rintro e w' ⟨rfl, hq⟩
  subst hq
  clear m0 m1 m2 m3 m4 m5 f0 f1 f2 f3 f4 f5 C4 hff
  generalize w7.setCell ⟨L, 5, none⟩ (.slice a7 bb.length c7) = w8 at *
  obtain ⟨⟨r0, r1, r2, r3, r4, r5⟩, g0, g1, g2, g3, g4, g5⟩ := six_cells HRA.out
  by_cases hf : ff = 0
  ·rw [if_neg (by simp [hf])] at HD
   subst hf
   obtain ⟨⟨m0, m1, m2, m3, m4, m5⟩, f0, f1, f2, f3, f4, f5⟩ := six_cells HLA.out
   have HFX := LH (set_six HRA.out (.int .i64 k) (.int .i64 xc) (.int .i64 xl) (.int .i64 xn) (.int .i64 xi) (.slice a7 bb.length c7))
   have HCX := LH (chg_six HCC.out HRW.out (.int .i64 k) (.int .i64 xc) (.int .i64 xl) (.int .i64 xn) (.int .i64 xi) (.slice a7 bb.length c7))
   have HBX := LH (bytes_six HBB.out HNR.out (.int .i64 k) (.int .i64 xc) (.int .i64 xl) (.int .i64 xn) (.int .i64 xi) (.slice a7 bb.length c7))
   go_wp2_with fail
   refine bodyPost_ret (ret_rq (r := ⟨k, ⟨xc, xl, xn, xi⟩, bb⟩) (bv := .slice a7 bb.length c7) rfl _ rfl rfl HFX.out) rfl ?_
   rw [HD.out]
   exact ⟨_, rfl, HBX.out, HNW.out, HCX.out⟩
  ·rw [if_pos hf] at HD
   have qf : (ff != 0) = true := by simp [hf]
   have HFX := LH (set_six HRA.out (.int .i64 0) (.int .i64 0) (.int .i64 0) (.int .i64 0) (.int .i64 0) (.slice none 0 0))
   have HCX := LH (chg_six HCC.out HRW.out (.int .i64 0) (.int .i64 0) (.int .i64 0) (.int .i64 0) (.int .i64 0) (.slice none 0 0))
   clear hf
   go_wp2_with fail
   refine bodyPost_ret (ret_rq (r := noRq) (bv := .slice none 0 0) rfl _ rfl rfl HFX.out) rfl ?_
   rw [HD.out]
   exact ⟨_, rfl, BytesAt.nil _, by simp [Value.ownBlock], HCX.out⟩
def DS.Live (d : DS) : Prop := d.dead = false /\ d.fuse < 0
theorem DS.write_live {d : DS} (hd : d.Live) (k : Nat) (b : List UInt8) (hk : k < d.n) (hb : b.length = 64) : (d.write (k : Int) b).1 = 0 /\ (d.write (k : Int) b).2.Live /\ (d.write (k : Int) b).2.n = d.n /\ (d.write (k : Int) b).2.now = upd d.now k b := by
 obtain ⟨h1, h2⟩ := hd
 have h3 : ¬ d.fuse = 0 := by omega
 have h4 : ¬ (0 : Int) < d.fuse := by omega
 unfold DS.write DS.op
 simp [h1, h3, h4, hb, hk, DS.Live]
 omega
theorem DS.sync_live {d : DS} (hd : d.Live) : (d.sync).1 = 0 /\ (d.sync).2.Live /\ (d.sync).2.n = d.n /\ (d.sync).2.now = d.now /\ (d.sync).2.since = [] := by
 obtain ⟨h1, h2⟩ := hd
 have h3 : ¬ d.fuse = 0 := by omega
 have h4 : ¬ (0 : Int) < d.fuse := by omega
 unfold DS.sync DS.op
 simp [h1, h3, h4, DS.Live]
 omega
theorem beNum_two (n : Nat) (hn : n < 65536) : beNum (beBytes 2 n) = n := by
 simp [beBytes, beNum, UInt8.toNat_ofNat']
 omega
theorem allZ_zeros (n : Nat) : allZ (zeros n) = true := by simp [allZ, zeros]
theorem head_back (n : Nat) (key : List UInt8) (hn : n <= 448) (hk : key.length <= 40) : headOf (secAt (headBytes n key) 0) = some ⟨true, n, key⟩ := by
 have hl := headBytes_len n key hn hk
 have hs : secAt (headBytes n key) 0 = 1 :: (beBytes 2 n ++ (beBytes 2 key.length ++ (key ++ zeros (64 - (5 + key.length))))) := by
  unfold secAt
  rw [Nat.zero_mul, List.drop_zero, List.take_of_length_le (by omega), hl, head_h3, h3_eq n key hn hk]
  simp
 obtain ⟨z, hz⟩ : ∃ z, z = zeros (64 - (5 + key.length)) := ⟨_, rfl⟩
 have hzz : allZ z = true := by rw [hz]; exact allZ_zeros _
 rw [hs, <- hz]
 have e1 : eyeNum (1 :: (beBytes 2 n ++ (beBytes 2 key.length ++ (key ++ z)))) 0 1 = (1, beBytes 2 n ++ (beBytes 2 key.length ++ (key ++ z)), 0) := by
  unfold eyeNum
  rw [if_neg (by simp), if_neg (by simp)]
  rfl
 have e2 : eyeNum (beBytes 2 n ++ (beBytes 2 key.length ++ (key ++ z))) 0 2 = ((n : Int), beBytes 2 key.length ++ (key ++ z), 0) := by
  unfold eyeNum
  rw [if_neg (by simp), if_neg (by simp [beBytes_len]), List.take_left' (beBytes_len 2 n), List.drop_left' (beBytes_len 2 n), beNum_two n (by omega)]
 have e3 : eyeRaw (beBytes 2 key.length ++ (key ++ z)) 0 40 = (key, z, 0) := by
  unfold eyeRaw
  rw [if_neg (by simp), if_neg (by simp [beBytes_len]), List.take_left' (beBytes_len 2 _), List.drop_left' (beBytes_len 2 _), beNum_two _ (by omega), if_neg (by omega), if_neg (by simp), List.take_left' rfl, List.drop_left' rfl]
 unfold headOf
 rw [if_neg (by simp [allZ]), e1]
 dsimp only
 rw [e2]
 dsimp only
 rw [e3]
 dsimp only
 rw [if_neg (by simp [hzz]; omega)]
 simp
theorem head_none : headOf (secAt (zeros 64) 0) = some noRow := by rfl
theorem flat_full (b : List UInt8) : ∀ m, m * 64 <= b.length -> flat m (secAt b) = b.take (m * 64) := by
 intro m
 induction m with
 | zero => intro _; simp [flat]
 | succ m ih =>
  intro h
  rw [flat_succ, ih (by omega)]
  unfold secAt
  have hl : ((b.drop (m * 64)).take 64).length = 64 := by rw [List.length_take, List.length_drop]; omega
  rw [hl]
  simp only [zeros, Nat.sub_self, List.replicate_zero, List.append_nil]
  rw [show (m + 1) * 64 = m * 64 + 64 by omega, List.take_add]
theorem flat_back (b : List UInt8) : (flat (nsec b.length) (secAt b)).take b.length = b := by
 by_cases h : b.length % 64 = 0
 ·have hm : nsec b.length * 64 = b.length := by unfold nsec; omega
  rw [flat_full b _ (by omega), hm, List.take_length, List.take_length]
 ·obtain ⟨m, hm⟩ : ∃ m, nsec b.length = m + 1 := ⟨nsec b.length - 1, by unfold nsec; omega⟩
  have hm1 : m * 64 <= b.length /\ b.length < (m + 1) * 64 := by unfold nsec at hm; omega
  rw [hm, flat_succ, flat_full b m hm1.1]
  unfold secAt
  have hl : (b.drop (m * 64)).take 64 = b.drop (m * 64) := List.take_of_length_le (by rw [List.length_drop]; omega)
  rw [hl, <- List.append_assoc, List.take_append_drop, List.take_left' rfl]
theorem flat_congr (m : Nat) (f g : Nat -> List UInt8) (h : ∀ k, k < m -> f k = g k) : flat m f = flat m g := by
 induction m with
 | zero => rfl
 | succ m ih => rw [flat_succ, flat_succ, ih (fun k hk => h k (by omega)), h m (by omega)]
structure Told (s : SS) (u : Nat -> Bool) (v : Nat -> List UInt8) : Prop where
 live : s.d.Live
 room : s.first + 8 * s.rows.length <= s.d.n
 head : ∀ k, k < s.rows.length -> headOf (s.d.now (s.first + 8 * k)) = some (s.rows.getD k noRow)
 used : ∀ k, k < s.rows.length -> (s.rows.getD k noRow).used = u k
 data : ∀ k, k < s.rows.length -> u k = true -> s.data (k : Int) = v k
theorem set_getD (l : List SRow) (k j : Nat) (x : SRow) (hk : k < l.length) : (l.set k x).getD j noRow = if j = k then x else l.getD j noRow := by
 rw [List.getD_eq_getElem?_getD, List.getElem?_set, List.getD_eq_getElem?_getD]
 by_cases h : k = j
 ·subst h; simp [hk]
 ·rw [if_neg h, if_neg (fun e => h e.symm)]
theorem rowsFrom_told {d : DS} {first : Nat} {rows : List SRow} : ∀ (m k : Nat), k + m = rows.length -> (∀ j, k <= j -> j < rows.length -> headOf (d.now (first + 8 * j)) = some (rows.getD j noRow)) -> rowsFrom d first m k = some (rows.drop k) := by
 intro m
 induction m with
 | zero => intro k hk _; unfold rowsFrom; rw [List.drop_eq_nil_of_le (by omega)]
 | succ m ih =>
  intro k hk h
  unfold rowsFrom
  rw [h k (Nat.le_refl _) (by omega)]
  dsimp only
  rw [ih (k + 1) (by omega) (fun j h1 h2 => h j (by omega) h2)]
  have hlt : k < rows.length := by omega
  rw [Option.map_some, List.drop_eq_getElem_cons hlt, List.getD_eq_getElem?_getD, List.getElem?_eq_getElem hlt]
  rfl
def leftAt (ch : List UInt8) (i : Nat) : Bool := decide (ch.length <= i) || decide ((ch.getD i 0) &&& 1 = 1)
def chosen (ch : List UInt8) : List (Nat × List UInt8) -> Nat -> List (Nat × List UInt8)
 | [], _ => []
 | x :: l, i => if leftAt ch i then x :: chosen ch l (i + 1) else chosen ch l (i + 1)
theorem chosen_snoc (ch : List UInt8) (x : Nat × List UInt8) : ∀ (l : List (Nat × List UInt8)) (i : Nat), chosen ch (l ++ [x]) i = chosen ch l i ++ if leftAt ch (i + l.length) then [x] else []
 | [], i => by
  show (if leftAt ch i then [x] else []) = _
  simp [chosen]
 | y :: l, i => by
  have ih := chosen_snoc ch x l (i + 1)
  show (if leftAt ch i then y :: chosen ch (l ++ [x]) (i + 1) else chosen ch (l ++ [x]) (i + 1)) = (if leftAt ch i then y :: chosen ch l (i + 1) else chosen ch l (i + 1)) ++ _
  rw [ih, show i + 1 + l.length = i + (y :: l).length by simp; omega]
  split <;> simp
theorem chosen_mem {ch : List UInt8} {x : Nat × List UInt8} : ∀ (l : List (Nat × List UInt8)) (i : Nat), x ∈ chosen ch l i -> x ∈ l
 | [], i, h => by cases h
 | y :: l, i, h => by
  unfold chosen at h
  split at h
  ·rcases List.mem_cons.1 h with rfl | h
   ·exact List.mem_cons_self ..
   ·exact List.mem_cons_of_mem _ (chosen_mem l _ h)
  ·exact List.mem_cons_of_mem _ (chosen_mem l _ h)
def DS.crash (d : DS) (ch : List UInt8) : DS :=
 { n := d.n, now := applied (chosen ch d.since 0) d.lasts, lasts := applied (chosen ch d.since 0) d.lasts, since := [], fuse := -1, ops := 0, dead := false }
theorem flat_at (n : Nat) (f : Nat -> List UInt8) (h : ∀ i, i < n -> (f i).length = 64) (k i : Nat) (hk : k < n) (hi : i < 64) : (flat n f)[k * 64 + i]? = (f k)[i]? := by
 induction n with
 | zero => omega
 | succ n ih =>
  rw [flat_succ]
  have hl := flat_len n f (fun i hi => h i (by omega))
  by_cases hkn : k = n
  ·subst hkn
   rw [List.getElem?_append_right (by omega), hl, show k * 64 + i - k * 64 = i by omega]
  ·rw [List.getElem?_append_left (by omega), ih (fun i hi => h i (by omega)) (by omega)]
theorem SecsAt.whole {w : World} {g n : Nat} {f : Nat -> List UInt8} (h : SecsAt w g n f) : (flat n f).length = n * 64 /\ w.rangeAt g 0 (bvs (flat n f)) := by
 have hl := flat_len n f (fun i hi => h.len i hi)
 refine ⟨hl, fun j v hv => ?_⟩
 have hj : j < n * 64 := by
  have := (List.getElem?_eq_some_iff.1 hv).1
  rwa [bvs_len, hl] at this
 have hk : j / 64 < n := by omega
 have he : j = j / 64 * 64 + j % 64 := by omega
 have h1 := h.range (j / 64) hk (j % 64) v (by
  have e1 : (bvs (flat n f))[j]? = ((flat n f)[j]?).map bv := by simp [bvs]
  rw [e1, he, flat_at n f (fun i hi => h.len i hi) _ _ hk (by omega)] at hv
  have e2 : (bvs (f (j / 64)))[j % 64]? = ((f (j / 64))[j % 64]?).map bv := by simp [bvs]
  rw [e2]
  have e3 : (j / 64 * 64 + j % 64) / 64 = j / 64 := by omega
  first | exact hv | (simpa [e3] using hv))
 rw [Nat.zero_add]
 rw [show j = j / 64 * 64 + j % 64 from he]
 exact h1
theorem secs_of_cells {w : World} {g n t : Nat} {f : Nat -> List UInt8} {cs : Array Value} (hg : w.heap[g]? = some (.cells cs 103 (0, 0))) (hf : ∀ k, k < n -> (f k).length = 64) (hc : cs.toList.take (n * 64) = bvs (flat n f)) : SecsAt w g n f := by
 have hl := flat_len n f hf
 have hlen : n * 64 <= cs.size := by
  have h1 : (cs.toList.take (n * 64)).length = n * 64 := by rw [hc, bvs_len, hl]
  rw [List.length_take] at h1
  simp at h1
  omega
 refine ⟨cs, hg, hlen, fun k hk => ⟨hf k hk, fun i hi => ?_⟩⟩
 have h1 : (cs.toList.take (n * 64))[k * 64 + i]? = cs[k * 64 + i]? := by
  rw [List.getElem?_take, if_pos (by omega)]
  simp
 rw [<- h1, hc]
 have e1 : (bvs (flat n f))[k * 64 + i]? = ((flat n f)[k * 64 + i]?).map bv := by simp [bvs]
 rw [e1, flat_at n f hf k i hk hi, List.getD_eq_getElem?_getD, List.getElem?_eq_getElem (by rw [hf k hk]; exact hi)]
 rfl
theorem secs_of_row {w : World} {v : Value} {n : Nat} {f : Nat -> List UInt8} (h : w.ownsRow 0 103 64 v n (bvs (flat n f))) (hn : 0 < n) (hf : ∀ k, k < n -> (f k).length = 64) :
  ∃ g cap, v = .slice (some ⟨g, 0, none⟩) n cap /\ n <= cap /\ cap <= maxLen /\ SecsAt w g n f := by
 rcases h.2 with ⟨h1, h2⟩ | ⟨g, cap, cur, rfl, hbg, hg, hnc, hcm, hcs, htake⟩
 ·omega
 ·exact ⟨g, cap, rfl, hnc, hcm, secs_of_cells (t := 0) hg hf htake⟩
theorem run_copy_n {P : Program} (w : World) (dT sT ty elem : TypeId) (size g o dLen dCap : Nat) (a : Addr) (sLen sCap : Nat) (cur : Array Value) (t : TypeId) (cs : List Value) (m : Nat)
  (hu : P.underlying dT = some (.slice elem)) (hs : (P.info? elem).map (·.size) = some size)
  (hg : w.heap[g]? = some (.cells cur t (0, 0))) (hm : m = Nat.min sLen dLen) (hn : cs.length = m * size)
  (hsrc : ∀ j v, cs[j]? = some v -> w.cell? (a.add j) = some v) (hfit : o + cs.length <= cur.size) (h1 : ∀ v ∈ cs, v.oneCell' = true) :
  (Builtin.copy_ #[dT, sT] ty #[.slice (some ⟨g, o, none⟩) dLen dCap, .slice (some a) sLen sCap]).run P w =
   .ok (goInt m) (w.setRow g (cur.toList.take o ++ cs ++ cur.toList.drop (o + cs.length)).toArray) := by
 have hl := run_loadCells_list (P := P) w a cs hsrc
 have hst := run_storeCells_at P g o t cs 0 cur w hg (by simpa using hfit) h1
 cases hq : P.info? elem with
 | none => simp [hq] at hs
 | some i =>
  have hi : i.size = size := by simpa [hq] using hs
  simp [Builtin.copy_, run_underlying hu, Builtin.lenOf, Builtin.firstCells, sizeOf, typeInfo, hq, hi, <- hm, <- hn, hl, hst]
structure DS.Rest (d : DS) : Prop where
 alive : d.dead = false
 none : d.since = []
 same : ∀ i, d.lasts i = d.now i
def DS.Fell (d0 d : DS) (pos : Nat) (b : List UInt8) (j k : Nat) : Prop :=
 d.dead = true /\ d.n = d0.n /\ d.lasts = d0.lasts /\ ∃ ws, d.since = d0.since ++ ws /\ ∀ x ∈ ws, ∃ i, j <= i /\ i < j + k /\ x = (pos + i, secAt b i)
theorem DS.write_may {d : DS} (hd : d.dead = false) (k : Nat) (b : List UInt8) (hk : k < d.n) (hb : b.length = 64) :
  ((d.write (k : Int) b).1 = 0 /\ (d.write (k : Int) b).2.dead = false /\ (d.write (k : Int) b).2.n = d.n /\ (d.write (k : Int) b).2.now = upd d.now k b /\ (d.write (k : Int) b).2.lasts = d.lasts /\ (d.write (k : Int) b).2.since = d.since ++ [(k, b)]) ∨
  ((d.write (k : Int) b).1 = 14 /\ (d.write (k : Int) b).2.dead = true /\ (d.write (k : Int) b).2.n = d.n /\ (d.write (k : Int) b).2.lasts = d.lasts /\ (d.write (k : Int) b).2.since = d.since ++ [(k, b)]) := by
 have hk' : 0 <= (k : Int) /\ (k : Int) < d.n /\ b.length = 64 := ⟨by omega, by omega, hb⟩
 by_cases hf : d.fuse = 0
 ·right
  unfold DS.write DS.op
  simp only [hd, Bool.false_eq_true, if_false]
  rw [if_pos hk']
  simp [hf]
 ·left
  unfold DS.write DS.op
  simp only [hd, Bool.false_eq_true, if_false]
  rw [if_pos hk']
  simp [hf, hd]
theorem DS.sync_may {d : DS} (hd : d.dead = false) :
  ((d.sync).1 = 0 /\ (d.sync).2.dead = false /\ (d.sync).2.n = d.n /\ (d.sync).2.now = d.now /\ (d.sync).2.lasts = applied d.since d.lasts /\ (d.sync).2.since = []) ∨
  ((d.sync).1 = 14 /\ (d.sync).2.dead = true /\ (d.sync).2.n = d.n /\ (d.sync).2.lasts = d.lasts /\ (d.sync).2.since = d.since) := by
 by_cases hf : d.fuse = 0
 ·right
  unfold DS.sync DS.op
  simp [hd, hf]
 ·left
  unfold DS.sync DS.op
  simp [hd, hf]
theorem DS.lay_may (pos : Nat) (b : List UInt8) : ∀ (k j : Nat) (d : DS), d.dead = false -> (∀ i, applied d.since d.lasts i = d.now i) -> pos + j + k <= d.n ->
  ((d.lay pos b k j).1 = 0 /\ (d.lay pos b k j).2.Rest /\ (d.lay pos b k j).2.n = d.n /\ ∀ i, (d.lay pos b k j).2.now i = if pos + j <= i /\ i < pos + j + k then secAt b (i - pos) else d.now i) ∨
  ((d.lay pos b k j).1 = 14 /\ DS.Fell d (d.lay pos b k j).2 pos b j k) := by
 intro k
 induction k with
 | zero =>
  intro j d hd hs hn
  rcases d.sync_may hd with ⟨h1, h2, h3, h4, h5, h6⟩ | ⟨h1, h2, h3, h4, h5⟩
  ·exact .inl ⟨h1, ⟨h2, h6, fun i => by show (d.sync).2.lasts i = (d.sync).2.now i; rw [h5, h4, hs]⟩, h3, fun i => by rw [if_neg (by omega)]; show (d.sync).2.now i = _; rw [h4]⟩
  ·exact .inr ⟨h1, h2, h3, h4, [], by show (d.sync).2.since = _; rw [h5]; simp, by simp⟩
 | succ k ih =>
  intro j d hd hs hn
  unfold DS.lay
  rcases DS.write_may hd (pos + j) (secAt b j) (by omega) (secAt_len b j) with ⟨h1, h2, h3, h4, h5, h6⟩ | ⟨h1, h2, h3, h4, h5⟩
  ·rw [if_neg (by rw [h1]; simp)]
   generalize (d.write ((pos + j : Nat) : Int) (secAt b j)).2 = d2 at *
   have hs2 : ∀ i, applied d2.since d2.lasts i = d2.now i := fun i => by
    have := hs
    rw [h6, h5, h4]
    unfold applied at *
    rw [List.foldl_append]
    show upd (List.foldl _ d.lasts d.since) (pos + j) (secAt b j) i = upd d.now (pos + j) (secAt b j) i
    unfold upd
    split
    ·rfl
    ·exact hs i
   rcases ih (j + 1) d2 h2 hs2 (by rw [h3]; omega) with ⟨i1, i2, i3, i4⟩ | ⟨i1, i2, i3, i4, ws, i5, i6⟩
   ·refine .inl ⟨i1, i2, by rw [i3, h3], fun i => ?_⟩
    rw [i4, h4]
    unfold upd
    by_cases hi : i = pos + j
    ·subst hi
     rw [if_neg (by omega), if_pos rfl, if_pos (by omega)]
     congr 1
     omega
    ·rw [if_neg hi]
     by_cases hm : pos + (j + 1) <= i /\ i < pos + (j + 1) + k
     ·rw [if_pos hm, if_pos (by omega)]
     ·rw [if_neg hm, if_neg (by omega)]
   ·refine .inr ⟨i1, i2, by rw [i3, h3], by rw [i4, h5], (pos + j, secAt b j) :: ws, by rw [i5, h6]; simp, fun x hx => ?_⟩
    rcases List.mem_cons.1 hx with rfl | hx
    ·exact ⟨j, by omega, by omega, rfl⟩
    ·obtain ⟨i, a1, a2, a3⟩ := i6 x hx
     exact ⟨i, by omega, by omega, a3⟩
  ·rw [if_pos (by rw [h1]; simp)]
   exact .inr ⟨h1, h2, h3, h4, [(pos + j, secAt b j)], h5, fun x hx => by
    rw [List.mem_singleton.1 hx]
    exact ⟨j, by omega, by omega, rfl⟩⟩
theorem DS.lays_may {d : DS} (pos : Nat) (b : List UInt8) (hd : d.Rest) (hn : pos + nsec b.length <= d.n) :
  ((d.lays pos b).1 = 0 /\ (d.lays pos b).2.Rest /\ (d.lays pos b).2.n = d.n /\ ∀ i, (d.lays pos b).2.now i = if pos <= i /\ i < pos + nsec b.length then secAt b (i - pos) else d.now i) ∨
  ((d.lays pos b).1 = 14 /\ (d.lays pos b).2.dead = true /\ (d.lays pos b).2.n = d.n /\ (d.lays pos b).2.lasts = d.lasts /\ ∀ x ∈ (d.lays pos b).2.since, ∃ i, i < nsec b.length /\ x = (pos + i, secAt b i)) := by
 rcases DS.lay_may pos b (nsec b.length) 0 d hd.alive (fun i => by rw [hd.none]; exact hd.same i) hn with h | ⟨h1, h2, h3, h4, ws, h5, h6⟩
 ·exact .inl h
 ·refine .inr ⟨h1, h2, h3, h4, fun x hx => ?_⟩
  have hx : x ∈ (d.lay pos b (nsec b.length) 0).2.since := hx
  rw [h5, hd.none, List.nil_append] at hx
  obtain ⟨i, a1, a2, a3⟩ := h6 x hx
  exact ⟨i, by omega, a3⟩
theorem applied_far (i : Nat) : ∀ (l : List (Nat × List UInt8)) (f : Nat -> List UInt8), (∀ x ∈ l, x.1 ≠ i) -> applied l f i = f i
 | [], f, h => rfl
 | x :: l, f, h => by
  show applied l (upd f x.1 x.2) i = f i
  rw [applied_far i l _ (fun y hy => h y (List.mem_cons_of_mem _ hy))]
  unfold upd
  rw [if_neg (fun e => h x (List.mem_cons_self ..) e.symm)]
theorem applied_same (i : Nat) (s : List UInt8) : ∀ (l : List (Nat × List UInt8)) (f : Nat -> List UInt8), (∀ x ∈ l, x = (i, s)) -> applied l f i = f i ∨ applied l f i = s
 | [], f, h => .inl rfl
 | x :: l, f, h => by
  show applied l (upd f x.1 x.2) i = f i ∨ applied l (upd f x.1 x.2) i = s
  obtain rfl := h x (List.mem_cons_self ..)
  have hu : upd f i s i = s := by unfold upd; rw [if_pos rfl]
  rcases applied_same i s l (upd f i s) (fun y hy => h y (List.mem_cons_of_mem _ hy)) with h1 | h1
  ·exact .inr (by rw [h1, hu])
  ·exact .inr h1
structure ToldR (s : SS) (u : Nat -> Bool) (v : Nat -> List UInt8) : Prop where
 rest : s.d.Rest
 room : s.first + 8 * s.rows.length <= s.d.n
 head : ∀ k, k < s.rows.length -> headOf (s.d.now (s.first + 8 * k)) = some (s.rows.getD k noRow)
 used : ∀ k, k < s.rows.length -> (s.rows.getD k noRow).used = u k
 data : ∀ k, k < s.rows.length -> u k = true -> s.data (k : Int) = v k
theorem ToldR.small {s : SS} {u : Nat -> Bool} {v : Nat -> List UInt8} (h : ToldR s u v) (k : Nat) (hk : k < s.rows.length) : (s.rows.getD k noRow).n <= 448 := (headOf_ok (h.head k hk)).1
theorem ToldR.get {s : SS} {u : Nat -> Bool} {v : Nat -> List UInt8} (h : ToldR s u v) (k : Nat) (hk : k < s.rows.length) : s.get (k : Int) = if u k then (v k, 0) else ([], 6) := by
 unfold SS.get
 have hh : s.has (k : Int) := ⟨by omega, by omega⟩
 have hr : s.row (k : Int) = s.rows.getD k noRow := rfl
 rw [if_neg (by simpa using hh), hr, h.used k hk]
 cases hu : u k with
 | false => simp
 | true =>
  rw [if_neg (by simp), h.rest.alive]
  simp [h.data k hk hu]
theorem ToldR.of_now {s : SS} {u : Nat -> Bool} {v : Nat -> List UInt8} (h : ToldR s u v) (d2 : DS) (hr : d2.Rest) (hn : d2.n = s.d.n) (k : Nat) (hk : k < s.rows.length) (r : SRow) (hh : headOf (d2.now (s.first + 8 * k)) = some r)
  (hfar : ∀ j i, j < s.rows.length -> j ≠ k -> i < 8 -> d2.now (s.first + 8 * j + i) = s.d.now (s.first + 8 * j + i)) (b : List UInt8)
  (hb : r.used = true -> (flat (nsec r.n) (fun i => d2.now (s.first + 8 * k + 1 + i))).take r.n = b) :
  ToldR { s with d := d2, rows := s.rows.set k r } (fun j => if j = k then r.used else u j) (fun j => if j = k then b else v j) := by
 refine ⟨hr, ?_, fun j hj => ?_, fun j hj => ?_, fun j hj huj => ?_⟩
 ·show s.first + 8 * (s.rows.set k r).length <= d2.n
  rw [List.length_set, hn]
  exact h.room
 ·replace hj : j < s.rows.length := by simpa using hj
  show headOf (d2.now (s.first + 8 * j)) = some ((s.rows.set k r).getD j noRow)
  rw [set_getD _ _ _ _ hk]
  by_cases hjk : j = k
  ·subst hjk
   rw [if_pos rfl]
   exact hh
  ·rw [if_neg hjk, <- h.head j hj]
   have := hfar j 0 hj hjk (by omega)
   rw [Nat.add_zero] at this
   rw [this]
 ·replace hj : j < s.rows.length := by simpa using hj
  show ((s.rows.set k r).getD j noRow).used = _
  rw [set_getD _ _ _ _ hk]
  by_cases hjk : j = k
  ·rw [if_pos hjk, if_pos hjk]
  ·rw [if_neg hjk, if_neg hjk]
   exact h.used j hj
 ·replace hj : j < s.rows.length := by simpa using hj
  show (flat (nsec ((s.rows.set k r).getD j noRow).n) (fun i => d2.now (s.first + 8 * j + 1 + i))).take ((s.rows.set k r).getD j noRow).n = _
  rw [set_getD _ _ _ _ hk]
  try dsimp only at huj
  by_cases hjk : j = k
  ·subst hjk
   rw [if_pos rfl] at huj
   rw [if_pos rfl, if_pos rfl]
   exact hb huj
  ·rw [if_neg hjk] at huj
   rw [if_neg hjk, if_neg hjk]
   have hsm := h.small j hj
   rw [flat_congr _ _ (fun i => s.d.now (s.first + 8 * j + 1 + i)) (fun i hi => by
    have : i < 7 := by unfold nsec at hi; omega
    have := hfar j (1 + i) hj hjk (by omega)
    rw [<- Nat.add_assoc] at this
    exact this)]
   exact h.data j hj huj
theorem set_self (l : List SRow) (k : Nat) (hk : k < l.length) : l.set k (l.getD k noRow) = l := by
 rw [List.getD_eq_getElem?_getD, List.getElem?_eq_getElem hk, Option.getD_some]
 exact List.set_getElem_self hk
def Lost (s : SS) (d2 : DS) (u : Nat -> Bool) (v : Nat -> List UInt8) (k : Nat) (q : Bool) (b : List UInt8) : Prop :=
 d2.dead = true /\ d2.n = s.d.n /\ ∀ ch, ∃ rows, rows.length = s.rows.length /\ (ToldR { s with d := d2.crash ch, rows := rows } u v ∨ ToldR { s with d := d2.crash ch, rows := rows } (fun j => if j = k then q else u j) (fun j => if j = k then b else v j))
theorem crash_rest (d : DS) (ch : List UInt8) : (d.crash ch).Rest := ⟨rfl, rfl, fun i => rfl⟩
theorem crash_now {d : DS} {ch : List UInt8} (i : Nat) : (d.crash ch).now i = applied (chosen ch d.since 0) d.lasts i := rfl
theorem ToldR.again {s : SS} {u : Nat -> Bool} {v : Nat -> List UInt8} (h : ToldR s u v) (d2 : DS) (hr : d2.Rest) (hn : d2.n = s.d.n) (k : Nat) (hk : k < s.rows.length) (hu : u k = false) (hh : d2.now (s.first + 8 * k) = s.d.now (s.first + 8 * k))
  (hfar : ∀ j i, j < s.rows.length -> j ≠ k -> i < 8 -> d2.now (s.first + 8 * j + i) = s.d.now (s.first + 8 * j + i)) : ToldR { s with d := d2 } u v := by
 have h1 := h.of_now d2 hr hn k hk (s.rows.getD k noRow) (by rw [hh]; exact h.head k hk) hfar (v k) (fun e => by
  rw [h.used k hk, hu] at e; cases e)
 rw [set_self _ _ hk, h.used k hk] at h1
 have e1 : (fun j => if j = k then u k else u j) = u := by funext j; split <;> simp_all
 have e2 : (fun j => if j = k then v k else v j) = v := by funext j; split <;> simp_all
 rw [e1, e2] at h1
 exact h1
theorem ToldR.anew {s : SS} {u : Nat -> Bool} {v : Nat -> List UInt8} (h : ToldR s u v) (hn : (s.d.n - s.first) / 8 = s.rows.length) (hz : s.d.n ≠ 0) : s.d.slots (s.first : Int) = (0, some s) := by
 have hroom := h.room
 unfold DS.slots
 rw [if_neg (by omega), if_neg (by rw [h.rest.alive]; simp [hz]), Int.toNat_natCast, hn, rowsFrom_told s.rows.length 0 (by omega) (fun j _ hj => h.head j hj)]
 rfl
theorem ToldR.crash {s : SS} {u : Nat -> Bool} {v : Nat -> List UInt8} (h : ToldR s u v) (ch : List UInt8) : ToldR { s with d := s.d.crash ch } u v := by
 have hnow : ∀ i, (s.d.crash ch).now i = s.d.now i := fun i => by
  rw [crash_now, h.rest.none]
  exact h.rest.same i
 refine ⟨crash_rest _ _, h.room, fun k hk => by show headOf ((s.d.crash ch).now _) = _; rw [hnow]; exact h.head k hk, h.used, fun k hk hu => ?_⟩
 rw [<- h.data k hk hu]
 unfold SS.data
 congr 2
 funext i
 exact hnow _
def DS.sign (d : DS) (n : UInt8) : Int × DS := if (d.write 0 (n :: zeros 63)).1 ≠ 0 then d.write 0 (n :: zeros 63) else (d.write 0 (n :: zeros 63)).2.sync
theorem DS.sign_ok (d : DS) (n : UInt8) : (d.sign n).2.n = d.n /\ (d.sign n).2.ops <= d.ops + 2 /\ (d.sign n).2.since.length <= d.since.length + 1 := by
 obtain ⟨h1, h2, h3⟩ := d.write_ok 0 (n :: zeros 63)
 obtain ⟨g1, g2, g3⟩ := (d.write 0 (n :: zeros 63)).2.sync_ok
 unfold DS.sign
 split
 ·exact ⟨h1, by omega, by omega⟩
 ·exact ⟨by rw [g1, h1], by omega, by omega⟩
theorem mark_cells (n : UInt8) : Z64.setIfInBounds 0 (bv n) = (bvs (n :: zeros 63)).toArray := by
 unfold Z64
 rfl
theorem sign_any (p : Nat) (S : List Nat) (d : DS) (n : UInt8) (w : World) (h : DiskAt w p S d) (hn : 1 <= d.n) (ho : d.ops <= 900000000) (hw : d.since.length <= 900000) :
  Calls Tryz.prog 81 #[.pointer (some ⟨p, 0, none⟩), bv n] w fun e w' => e = .returned (.int .i64 (d.sign n).1) /\ Did w w' p S (d.sign n).2 := by
 have hmk := make_64
 obtain ⟨w1, hw1⟩ : ∃ w1, w1 = w.alloc (.cells (Z64.setIfInBounds 0 (bv n)) 5) := ⟨_, rfl⟩
 have hb0 : (w.alloc (.cells Z64 5)).heap[w.heap.size]? = some (.cells Z64 5 (0, 0)) := heap_alloc_new w _
 have c0 : (w.alloc (.cells Z64 5)).cell? ⟨w.heap.size, 0, none⟩ = some (bv 0) := blk_cell hb0 0 _ rfl
 have f0 := blk_frozen hb0 0
 have hb1 : w1.heap[w.heap.size]? = some (.cells (bvs (n :: zeros 63)).toArray 5 (0, 0)) := by
  rw [hw1, <- mark_cells]
  exact heap_alloc_new w _
 have hc1 : Chg [] w w1 := by rw [hw1]; exact (Chg.refl [] w).alloc _
 have hr1 := row_of_block hb1 (by simp [zeros, maxLen])
 have hlen : (n :: zeros 63).length = 64 := by simp [zeros]
 rw [hlen] at hr1
 have HW1 := LH hw1
 have hd1 := h.keep hc1 (by simp)
 have CW := LH (dwrite_any p S d 0 _ (n :: zeros 63) w1 hd1 (by omega) (by omega) ⟨by omega, by omega⟩ hlen hr1.bytes)
 have HG : Hid (d.sign n = if (d.write 0 (n :: zeros 63)).1 ≠ 0 then d.write 0 (n :: zeros 63) else (d.write 0 (n :: zeros 63)).2.sync) := LH rfl
 obtain ⟨h1, h2, h3⟩ := d.write_ok 0 (n :: zeros 63)
 generalize d.sign n = r at *
 generalize d.write 0 (n :: zeros 63) = r1 at *
 obtain ⟨e1, d1⟩ := r1
 dsimp only at *
 have HC1 := LH hc1
 have hv : bv n = .int .u8 (n.toNat : Int) := rfl
 have hv0 : bv 0 = .int .u8 0 := rfl
 rw [hv0] at c0
 rw [hv] at HW1 ⊢
 clear hb0 hb1 hc1 hr1 hw1 hd1 hlen hv hv0 h
 go_enter Tryz.func81, Tryz.ntmps81
 go_wp2_with fail
 rw [<- HW1.out]
 refine CW.out.mono ?_
 rintro e w2 ⟨rfl, hd2⟩
 have HD2 := LH (Did.pre HC1.out hd2)
 clear hd2 CW
 by_cases he : e1 = 0
 ·subst he
  have HR : Hid (r = d1.sync) := LH (by rw [HG.out, if_neg (by simp)])
  obtain ⟨S2, hs1, hs2, hs3⟩ := HD2.out
  have CY := LH (dsync_any p S2 d1 w2 hs1 (by omega) (by omega))
  have HS2 := LH (And.intro hs2 hs3)
  clear hs1 hs2 hs3
  go_wp2_with fail
  refine CY.out.mono ?_
  rintro e w3 ⟨rfl, hd3⟩
  have HD3 := LH (Did.glue HS2.out.1 HS2.out.2 hd3)
  clear hd3 CY
  go_wp2
  go_ret
  rw [HR.out]
  exact ⟨rfl, HD3.out⟩
 ·have HR : Hid (r = (e1, d1)) := LH (by rw [HG.out, if_pos he])
  have q : (e1 != 0) = true := by simp [he]
  clear he
  go_wp2
  go_ret
  rw [HR.out]
  exact ⟨rfl, HD2.out⟩
section
open Go.RowKit
variable {G : List Nat}
structure Sto where
 s : SS
 whole : Bool
def rowIs (rows : List SRow) (k : List UInt8) (j : Nat) : Bool := (rows.getD j noRow).used && decide ((rows.getD j noRow).key = k)
def upto (rows : List SRow) (i : Nat) (k : List UInt8) : List Nat := (List.range i).filter (rowIs rows k)
theorem upto_succ (rows : List SRow) (i : Nat) (k : List UInt8) : upto rows (i + 1) k = upto rows i k ++ if rowIs rows k i then [i] else [] := by
 unfold upto
 rw [List.range_succ, List.filter_append]
 congr 1
 by_cases h : rowIs rows k i = true <;> simp [h]
theorem upto_len (rows : List SRow) (i : Nat) (k : List UInt8) : (upto rows i k).length <= i := by
 have := List.length_filter_le (rowIs rows k) (List.range i)
 rwa [List.length_range] at this
theorem upto_mem {rows : List SRow} {i : Nat} {k : List UInt8} {j : Nat} : j ∈ upto rows i k ↔ j < i /\ (rows.getD j noRow).used = true /\ (rows.getD j noRow).key = k := by
 unfold upto rowIs
 rw [List.mem_filter, List.mem_range, Bool.and_eq_true, decide_eq_true_eq]
def Sto.at (t : Sto) (x : Id) : List Nat := if mayId x = true then upto t.s.rows t.s.rows.length (idKey x) else []
theorem Sto.at_may {t : Sto} {x : Id} (h : mayId x = true) : t.at x = upto t.s.rows t.s.rows.length (idKey x) := by unfold Sto.at; rw [if_pos h]
theorem Sto.at_not {t : Sto} {x : Id} (h : mayId x = false) : t.at x = [] := by unfold Sto.at; rw [if_neg (by rw [h]; simp)]
def keysOk (rows : List SRow) : Prop := ∀ r ∈ rows, r.used = true -> unOk r.key = true
def stKeys (rows : List SRow) : Bool := rows.all (fun r => !r.used || unOk r.key)
theorem stKeys_iff {rows : List SRow} : stKeys rows = true ↔ keysOk rows := by
 unfold stKeys keysOk
 rw [List.all_eq_true]
 constructor
 ·intro h r hr hu
  have := h r hr
  simpa [hu] using this
 ·intro h r hr
  cases hu : r.used with
  | false => rfl
  | true => rw [h r hr hu]; rfl
def DS.stOpen (d : DS) : Int × Option Sto :=
 if d.n < 9 then (1, none) else if d.dead then (14, none) else
 if (((d.now 0).getD 0 0 ≠ 1 /\ (d.now 0).getD 0 0 ≠ 2) ∨ allZ ((d.now 0).drop 1) = false) then (4, none) else
 match (d.slots 1).2 with
 | none => ((d.slots 1).1, none)
 | some s => if stKeys s.rows then (0, some ⟨s, (d.now 0).getD 0 0 == 2⟩) else (4, none)
def DS.wipe (d : DS) : Nat -> Nat -> Int × DS
 | 0, _ => d.sync
 | k + 1, a => if (d.write (a : Nat) (zeros 64)).1 ≠ 0 then d.write (a : Nat) (zeros 64) else (d.write (a : Nat) (zeros 64)).2.wipe k (a + 8)
theorem DS.wipe_ok : ∀ (k a : Nat) (d : DS), (d.wipe k a).2.n = d.n /\ (d.wipe k a).2.ops <= d.ops + k + 1 /\ (d.wipe k a).2.since.length <= d.since.length + k
 | 0, a, d => by
  obtain ⟨h1, h2, h3⟩ := d.sync_ok
  exact ⟨h1, by simpa [DS.wipe] using h2, by simpa [DS.wipe] using h3⟩
 | k + 1, a, d => by
  obtain ⟨h1, h2, h3⟩ := d.write_ok (a : Nat) (zeros 64)
  obtain ⟨g1, g2, g3⟩ := DS.wipe_ok k (a + 8) (d.write (a : Nat) (zeros 64)).2
  unfold DS.wipe
  split
  ·exact ⟨h1, by omega, by omega⟩
  ·exact ⟨by rw [g1, h1], by omega, by omega⟩
def DS.fmt1 (d : DS) : Int × DS := d.wipe ((d.n - 1) / 8) 1
def DS.fmt2 (d : DS) : Int × DS := d.fmt1.2.sign 1
def DS.format (d : DS) : (Int × Option Sto) × DS :=
 if d.n < 9 then ((1, none), d) else if d.fmt1.1 ≠ 0 then ((d.fmt1.1, none), d.fmt1.2) else if d.fmt2.1 ≠ 0 then ((d.fmt2.1, none), d.fmt2.2) else (d.fmt2.2.stOpen, d.fmt2.2)
def Sto.put (t : Sto) (x : Id) (b : List UInt8) : Int × Sto :=
 if mayId x = false then (1, t) else if 448 < b.length then (3, t) else
 match t.at x with
 | i :: _ => if (t.s.get i).2 ≠ 0 then ((t.s.get i).2, t) else if (t.s.get i).1 = b then (0, t) else (7, t)
 | [] => if t.s.free < 0 then (5, t) else ((t.s.put t.s.free (idKey x) b).1, { t with s := (t.s.put t.s.free (idKey x) b).2 })
def Sto.get (t : Sto) (x : Id) : List UInt8 × Int :=
 if mayId x = false then ([], 1) else match t.at x with
 | [] => ([], 6)
 | i :: _ => t.s.get i
def SS.clears (s : SS) : List Nat -> Int × SS
 | [] => (0, s)
 | i :: r => if (s.clear i).1 ≠ 0 then s.clear i else (s.clear i).2.clears r
def Sto.del (t : Sto) (x : Id) : Int × Sto := if mayId x = false then (1, t) else ((t.s.clears (t.at x)).1, { t with s := (t.s.clears (t.at x)).2 })
def Sto.room (t : Sto) : Nat := t.s.rows.countP (fun r => !r.used)
def Sto.setWhole (t : Sto) : Int × Sto := ((t.s.d.sign 2).1, ⟨{ t.s with d := (t.s.d.sign 2).2 }, t.whole || ((t.s.d.sign 2).1 == 0)⟩)
def IntsAt (w : World) (v : Value) (l : List Nat) : Prop := ∃ a cap, v = .slice a l.length cap /\ l.length <= cap /\ cap <= maxLen /\ (l ≠ [] -> ∃ g o, a = some ⟨g, o, none⟩ /\ ∀ i, i < l.length -> w.cell? ⟨g, o + i, none⟩ = some (.int .i64 ((l.getD i 0 : Nat) : Int)))
theorem IntsAt.keep {w w' : World} {v : Value} {l : List Nat} (h : IntsAt w v l) (hb : ∀ g, v.ownBlock = some g -> w'.heap[g]? = w.heap[g]?) : IntsAt w' v l := by
 obtain ⟨a, cap, rfl, h1, h2, h3⟩ := h
 refine ⟨a, cap, rfl, h1, h2, fun hn => ?_⟩
 obtain ⟨g, o, rfl, h4⟩ := h3 hn
 refine ⟨g, o, rfl, fun i hi => ?_⟩
 rw [<- h4 i hi]
 simp only [World.cell?, hb g rfl]
def IdsAt (w : World) (U : List Nat) (o : Option Value) (l : List Nat) : Prop := (l = [] /\ o = none) ∨ (l ≠ [] /\ ∃ v, o = some v /\ IntsAt w v l /\ ∀ g, v.ownBlock = some g -> g < w.heap.size /\ g ∉ U)
theorem IdsAt.keep {w w' : World} {U U' T : List Nat} {o : Option Value} {l : List Nat} (h : IdsAt w U o l) (hc : Chg T w w') (hT : ∀ x ∈ T, x ∈ U ∨ w.heap.size <= x) (hU : ∀ x ∈ U', x ∈ U ∨ w.heap.size <= x) : IdsAt w' U' o l := by
 rcases h with h | ⟨h1, v, h2, h3, h4⟩
 ·exact .inl h
 ·refine .inr ⟨h1, v, h2, h3.keep fun g hg => ?_, fun g hg => ⟨Nat.lt_of_lt_of_le (h4 g hg).1 hc.size, fun hm => ?_⟩⟩
  ·obtain ⟨k1, k2⟩ := h4 g hg
   refine hc.block g k1 (fun hm => ?_)
   rcases hT g hm with h | h
   ·exact k2 h
   ·omega
  ·obtain ⟨k1, k2⟩ := h4 g hg
   rcases hU g hm with h | h
   ·exact k2 h
   ·omega
def Far (G : List Nat) (w : World) (φ : Id -> Option Value) : Prop := ∀ x ∈ G, x < w.heap.size /\ ∀ y v, okD y -> φ y = some v -> v.ownBlock ≠ some x
theorem Far.mono {G : List Nat} {w w' : World} {φ : Id -> Option Value} (h : Far G w φ) (hs : w.heap.size <= w'.heap.size) : Far G w' φ := fun x hx => ⟨Nat.lt_of_lt_of_le (h x hx).1 hs, (h x hx).2⟩
theorem Far.upd {G : List Nat} {w : World} {φ : Id -> Option Value} (h : Far G w φ) (x : Id) {v : Value} (hv : ∀ k ∈ G, v.ownBlock ≠ some k) : Far G w (updF φ x v) := fun k hk => ⟨(h k hk).1, fun y u hy hu => by
 by_cases e : y = x
 ·subst e
  rw [updF_self] at hu
  obtain rfl := Option.some.inj hu
  exact hv k hk
 ·rw [updF_other _ _ e] at hu
  exact (h k hk).2 y u hy hu⟩
theorem Far.del {G : List Nat} {w : World} {φ : Id -> Option Value} (h : Far G w φ) (x : Id) : Far G w (delF φ x) := fun k hk => ⟨(h k hk).1, fun y u hy hu => by
 by_cases e : y = x
 ·subst e
  rw [delF_self] at hu
  cases hu
 ·rw [delF_other _ e] at hu
  exact (h k hk).2 y u hy hu⟩
structure StOk (G : List Nat) (w : World) (q p sp mb : Nat) (Us : List Nat) (φ : Id -> Option Value) (N : Nat) (t : Sto) : Prop where
 head : w.heap[q]? = some (.cells #[.pointer (some ⟨p, 0, none⟩), .pointer (some ⟨sp, 0, none⟩), .map (some mb), .bool t.whole] 98 (0, 0))
 slots : SlotsAt w sp p Us t.s
 map : MapF 38 klD okD w mb φ N
 apart : q ∉ Us /\ mb ∉ Us
 vals : ∀ x, okD x -> IdsAt w (q :: mb :: Us) (φ x) (t.at x)
 ok : keysOk t.s.rows
 far : Far G w φ
def StAt (G : List Nat) (w : World) (q p : Nat) (U : List Nat) (t : Sto) : Prop := ∃ sp mb Us φ N, StOk G w q p sp mb Us φ N t /\ U = q :: mb :: Us
theorem ne_blk {w : World} {q mb t N : Nat} {cs : Array Value} {φ : Id -> Option Value} (h : w.heap[q]? = some (.cells cs t (0, 0))) (hm : MapF 38 klD okD w mb φ N) : q ≠ mb := fun e => by
 obtain ⟨es, clock, h2⟩ := hm.obj
 rw [e, h2] at h
 cases h
theorem SlotsAt.uL {w : World} {q p : Nat} {U : List Nat} {s : SS} (h : SlotsAt w q p U s) : ∀ x ∈ U, x < w.heap.size := by
 obtain ⟨S, rv, R, h⟩ := h
 exact h.uL
theorem StAt.lim {w : World} {q p : Nat} {U : List Nat} {t : Sto} (h : StAt G w q p U t) : ∀ x ∈ U, x < w.heap.size := by
 obtain ⟨sp, mb, Us, φ, N, h, rfl⟩ := h
 intro x hx
 rcases List.mem_cons.1 hx with rfl | hx
 ·exact blk_lt h.head
 ·rcases List.mem_cons.1 hx with rfl | hx
  ·exact h.map.lt
  ·exact h.slots.uL x hx
theorem StOk.keep0 {w w' : World} {q p sp mb : Nat} {Us : List Nat} {φ : Id -> Option Value} {N : Nat} {t : Sto} (h : StOk G w q p sp mb Us φ N t) (hc : Chg [] w w') : StOk G w' q p sp mb Us φ N t :=
 ⟨hc.keep h.head (by simp), h.slots.keep0 hc, h.map.chg hc (by simp), h.apart, fun x hx => (h.vals x hx).keep hc (by simp) (fun y hy => .inl hy), h.ok, h.far.mono hc.size⟩
theorem StAt.keep0 {w w' : World} {q p : Nat} {U : List Nat} {t : Sto} (h : StAt G w q p U t) (hc : Chg [] w w') : StAt G w' q p U t := by
 obtain ⟨sp, mb, Us, φ, N, h, rfl⟩ := h
 exact ⟨sp, mb, Us, φ, N, h.keep0 hc, rfl⟩
def Std (G : List Nat) (w w' : World) (q p : Nat) (U : List Nat) (t : Sto) : Prop := ∃ U', StAt G w' q p U' t /\ (∀ x ∈ U', x ∈ U ∨ w.heap.size <= x) /\ Chg U w w'
theorem Std.glue {w w1 w2 : World} {q p : Nat} {U U1 : List Nat} {t : Sto} (hs : ∀ x ∈ U1, x ∈ U ∨ w.heap.size <= x) (hc : Chg U w w1) (h : Std G w1 w2 q p U1 t) : Std G w w2 q p U t := by
 obtain ⟨U2, b1, b2, b3⟩ := h
 refine ⟨U2, b1, fun x hx => ?_, hc.trans b3 hs⟩
 rcases b2 x hx with h | h
 ·exact hs x h
 ·exact .inr (Nat.le_trans hc.size h)
theorem Std.pre {w0 w w' : World} {q p : Nat} {U : List Nat} {t : Sto} (hc : Chg [] w0 w) (h : Std G w w' q p U t) : Std G w0 w' q p U t := Std.glue (fun x hx => .inl hx) (hc.mono (by simp)) h
theorem Std.post {w w1 w2 : World} {q p : Nat} {U : List Nat} {t : Sto} (h : Std G w w1 q p U t) (hc : Chg [] w1 w2) : Std G w w2 q p U t := by
 obtain ⟨U1, a1, a2, a3⟩ := h
 exact ⟨U1, a1.keep0 hc, a2, a3.trans hc (by simp)⟩
theorem StOk.slotsDid {w w' : World} {q p sp mb : Nat} {Us : List Nat} {φ : Id -> Option Value} {N : Nat} {t : Sto} {s' : SS} (h : StOk G w q p sp mb Us φ N t) (hs : Sid w w' sp p Us s') (hr : s'.rows = t.s.rows) :
  ∃ Us', StOk G w' q p sp mb Us' φ N { t with s := s' } /\ (∀ x ∈ Us', x ∈ Us ∨ w.heap.size <= x) /\ Chg Us w w' := by
 obtain ⟨U', h1, h2, h3⟩ := hs
 have hq := blk_lt h.head
 have hm := h.map.lt
 have hat : ∀ x, Sto.at { t with s := s' } x = t.at x := fun x => by unfold Sto.at; simp only [hr]
 refine ⟨U', ⟨h3.keep h.head h.apart.1, h1, h.map.chg h3 h.apart.2, ⟨fun hx => ?_, fun hx => ?_⟩, fun x hx => ?_, by rw [show ({ t with s := s' } : Sto).s.rows = t.s.rows from hr]; exact h.ok, h.far.mono h3.size⟩, h2, h3⟩
 ·rcases h2 q hx with h4 | h4
  ·exact h.apart.1 h4
  ·omega
 ·rcases h2 mb hx with h4 | h4
  ·exact h.apart.2 h4
  ·omega
 ·rw [hat]
  refine (h.vals x hx).keep h3 (fun y hy => .inl (by simp [hy])) (fun y hy => ?_)
  rcases List.mem_cons.1 hy with rfl | hy
  ·exact .inl (by simp)
  ·rcases List.mem_cons.1 hy with rfl | hy
   ·exact .inl (by simp)
   ·rcases h2 y hy with h4 | h4
    ·exact .inl (by simp [h4])
    ·exact .inr h4
theorem StOk.std {w w' : World} {q p sp mb : Nat} {Us Us' : List Nat} {φ : Id -> Option Value} {N : Nat} {t : Sto} (h : StOk G w' q p sp mb Us' φ N t) (h2 : ∀ x ∈ Us', x ∈ Us ∨ w.heap.size <= x) (h3 : Chg (q :: mb :: Us) w w') : Std G w w' q p (q :: mb :: Us) t := by
 refine ⟨_, ⟨sp, mb, Us', φ, N, h, rfl⟩, fun x hx => ?_, h3⟩
 rcases List.mem_cons.1 hx with rfl | hx
 ·exact .inl (by simp)
 ·rcases List.mem_cons.1 hx with rfl | hx
  ·exact .inl (by simp)
  ·rcases h2 x hx with h4 | h4
   ·exact .inl (by simp [h4])
   ·exact .inr h4
end
section
open Go.RowKit
open Go.ChangeMaps Go.MapKept
theorem keId_klaw : WideMaps.KeyLaw Tryz.prog 38 := deep_law_laid laidD (m := 4) (by decide) (of_decide_eq_true (by kernel_rfl)) (by kernel_rfl) (by rw [Tryz.underlying38])
variable {κ : Type} {k : TypeId} {kv : κ -> Value} {kl : κ -> Lit} {ok : κ -> Prop}
theorem MapF.entry (KL : WideMaps.KeyLaw Tryz.prog k) (E : KE k kv kl ok) {w : World} {b N : Nat} {φ : κ -> Option Value} (h : MapF k kl ok w b φ N) {t e : TypeId} (ht : Tryz.prog.underlying t = some (.map k e)) {z : Value} (hz : ∀ w, (zeroValue e).run Tryz.prog w = .ok z w) {x : κ} (hx : ok x) (hN : N < maxLen) :
  ∃ (st : Nat) (w1 : World), (Instr.mapEntry t (.map (some b)) (kv x)).run Tryz.prog w = .ok (.tuple #[(φ x).getD z, goInt st]) w1 /\ Chg [b] w w1 /\ w1.heap.size = w.heap.size /\
   ∀ (w2 : World) (val : Value), w2.heap[b]? = w1.heap[b]? -> ∃ w3, (Instr.entryStore t (.map (some b)) (goInt st) val).run Tryz.prog w2 = .ok () w3 /\ MapF k kl ok w3 b (updF φ x val) (if (φ x).isSome then N else N + 1) /\ Chg [b] w2 w3 /\ w3.heap.size = w2.heap.size := by
 have hlook := h.look E ht hz hx
 have hst := fun v => h.store E ht hx v hN
 obtain ⟨D, ho, hs, hf⟩ := h
 obtain ⟨es, clock, hb, F, hsz, rfl⟩ := ho
 obtain ⟨v0, st, es1, clock1, hrun, hv0, hstore⟩ := WideElems.entry_then_store KL ht hz hb F (E.of x hx)
 have hv : v0 = (φ x).getD z := by
  rcases Maps.fit_look false E.law ht (hz w) hb F (E.of x hx) with ⟨g1, g2, _⟩ | ⟨e0, y, g1, g2, g3, _⟩
  ·rcases hv0 with ⟨e1, h1, h2, h3⟩ | ⟨_, rfl⟩
   ·exact absurd h2 (g2 e1 h1)
   ·rw [g1] at hlook
    simp only [Bool.false_eq_true, if_false] at hlook
    exact (Result.ok.inj hlook).1
  ·rw [g3] at hlook
   simp only [Bool.false_eq_true, if_false] at hlook
   rw [<- (Result.ok.inj hlook).1]
   rcases hv0 with ⟨e1, h1, h2, rfl⟩ | ⟨g, _⟩
   ·have hnd := F.stamped.2.2
    have : e1 = e0 := by
     obtain ⟨i, hi⟩ := List.getElem?_of_mem h1
     obtain ⟨j, hj⟩ := List.getElem?_of_mem g1
     have hij : i = j := by
      have h4 : (es.toList.map (·.key))[i]? = some (kv x) := by rw [List.getElem?_map, hi]; simp [h2]
      have h5 : (es.toList.map (·.key))[j]? = some (kv x) := by rw [List.getElem?_map, hj]; simp [g2]
      obtain ⟨hl4, h4'⟩ := List.getElem?_eq_some_iff.1 h4
      obtain ⟨hl5, h5'⟩ := List.getElem?_eq_some_iff.1 h5
      have hne := List.pairwise_iff_getElem.1 hnd
      refine Classical.byContradiction fun hne' => ?_
      rcases Nat.lt_or_gt_of_ne hne' with h | h
      ·exact hne i j hl4 hl5 h (h4'.trans h5'.symm)
      ·exact hne j i hl5 hl4 h (h5'.trans h4'.symm)
     subst hij
     rw [hi] at hj
     exact Option.some.inj hj
    rw [this]
   ·exact absurd g2 (g e0 g1)
 subst hv
 obtain ⟨c1, c2⟩ := turned_chg (w := w) (w' := setBlock w b (.map es1 clock1)) (b := b) ⟨es, clock, es1, clock1, hb, rfl⟩
 refine ⟨st, _, hrun, c1, c2, fun w2 val hw2 => ?_⟩
 have hb2 : w2.heap[b]? = some (.map es1 clock1) := by rw [hw2, heap_setBlock_same hb]
 obtain ⟨es', clock', k1, k2⟩ := hstore w2 val hb2
 obtain ⟨w', m1, m2, m3, m4⟩ := hst val
 rw [k2] at m1
 obtain rfl := (Result.ok.inj m1).2
 obtain ⟨d1, d2⟩ := turned_chg (w := w2) (w' := setBlock w2 b (.map es' clock')) (b := b) ⟨es1, clock1, es', clock', hb2, rfl⟩
 refine ⟨_, k1, m2.keep ?_, d1, d2⟩
 rw [heap_setBlock_same hb2, heap_setBlock_same hb]
open Classical in
theorem nodup_len {α : Type} : ∀ {l L : List α}, l.Nodup -> (∀ x ∈ l, x ∈ L) -> l.length <= L.length
 | [], L, _, _ => Nat.zero_le _
 | a :: l, L, h, hs => by
  have h' := List.nodup_cons.1 h
  have ha := hs a (List.mem_cons_self ..)
  have := nodup_len (l := l) (L := L.erase a) h'.2 (fun x hx => (List.mem_erase_of_ne (fun e => h'.1 (by rw [<- e]; exact hx))).2 (hs x (List.mem_cons_of_mem _ hx)))
  rw [List.length_erase_of_mem ha] at this
  have := List.length_pos_of_mem ha
  simp only [List.length_cons]
  omega
theorem MapF.card (E : KE k kv kl ok) {w : World} {b N : Nat} {φ : κ -> Option Value} (h : MapF k kl ok w b φ N) (L : List κ) (hL : ∀ x, ok x -> (φ x).isSome = true -> x ∈ L) : N <= L.length := by
 obtain ⟨D, ho, hs, hf⟩ := h
 have hkeys : ∃ es, D = .map es /\ Go.Maps.Keys (Go.Maps.KeysOf Tryz.prog k) es := by
  obtain ⟨es, clock, hb, F, hn, rfl⟩ := ho
  refine ⟨_, rfl, ?_⟩
  exact fun p hp => Go.Maps.fit_keys F p ((Go.WideShapes.sorted_perm _).mem_iff.1 hp)
 obtain ⟨es, rfl, hk⟩ := hkeys
 obtain ⟨es', he, hp⟩ := ho.tidy E.law
 obtain rfl : es = es' := by simpa using he
 rw [<- hs]
 show es.length <= L.length
 have hn : (es.map (·.1)).Nodup := by
  rw [List.Nodup, List.pairwise_map]
  exact hp
 have hm : ∀ l ∈ es.map (·.1), l ∈ L.map kl := by
  intro l hl
  obtain ⟨p, hp, rfl⟩ := List.mem_map.1 hl
  obtain ⟨v, hv⟩ := hk p hp
  obtain ⟨x, hx, _, e⟩ := E.inv v _ hv
  rw [e]
  refine List.mem_map_of_mem (hL x hx ?_)
  rw [<- (hf x hx).1, Maps.has_eq, List.any_eq_true]
  exact ⟨p, hp, by rw [e]; exact WideAt.sameKey_self (E.law.key (E.of x hx))⟩
 have := nodup_len hn hm
 simpa using this
end
def StOpenPost (p : Nat) (S : List Nat) (w : World) (r : Int × Option Sto) (e : Ending) (w' : World) : Prop := Chg [] w w' /\ match r with
 | (c, none) => e = .returned (.tuple #[.pointer none, .int .i64 c])
 | (c, some t) => ∃ q U, e = .returned (.tuple #[.pointer (some ⟨q, 0, none⟩), .int .i64 c]) /\ StAt [] w' q p U t /\ ∀ x ∈ U, x ∈ S ∨ w.heap.size <= x
theorem sec_len {w : World} {p : Nat} {S : List Nat} {d : DS} (h : DiskAt w p S d) {k : Nat} (hk : k < d.n) : (d.now k).length = 64 := by
 obtain ⟨gn, gl, cn, cl, v, H⟩ := h
 exact H.now.len k hk
theorem stopen_small (p : Nat) (S : List Nat) (d : DS) (w : World) (h : DiskAt w p S d) (hn : d.n < 9) : Calls Tryz.prog 40 #[.pointer (some ⟨p, 0, none⟩)] w fun e w' => e = .returned (.tuple #[.pointer none, .int .i64 1]) /\ Chg [] w w' := by
 have CS := LH (dsectors_any p S d w h)
 generalize d.n = n at *
 clear h
 go_enter Tryz.func40, Tryz.ntmps40
 go_wp2_with (go_at_call 78; refine CS.out.mono ?_; rintro e w' ⟨rfl, hq⟩; subst hq)
 go_ret2
 exact ⟨rfl, Chg.refl _ _⟩
theorem stopen_dead (p : Nat) (S : List Nat) (d : DS) (w : World) (h : DiskAt w p S d) (hn : 9 <= d.n) (hd : d.dead = true) : Calls Tryz.prog 40 #[.pointer (some ⟨p, 0, none⟩)] w fun e w' => e = .returned (.tuple #[.pointer none, .int .i64 14]) /\ Chg [] w w' := by
 have CS := LH (dsectors_any p S d w h)
 have CR := LH ((dread_any p S d 0 w h).mono (fun e w' h1 => (⟨by have := h1.1; rwa [if_pos hd] at this, h1.2⟩ : e = .returned (.tuple #[.slice none 0 0, .int .i64 14]) /\ Chg [] w w')))
 clear h hd
 generalize d.n = n at *
 go_enter Tryz.func40, Tryz.ntmps40
 go_wp2_with (first
  | (go_at_call 78; refine CS.out.mono ?_; rintro e w' ⟨rfl, hq⟩; subst hq)
  | (go_at_call 89; refine CR.out.mono ?_; rintro e w1 ⟨rfl, hc1⟩))
 go_ret2
 exact ⟨rfl, hc1⟩
theorem dread_ok (p : Nat) (S : List Nat) (d : DS) (k : Nat) (w : World) (h : DiskAt w p S d) (hd : d.dead = false) (hk : k < d.n) : Calls Tryz.prog 89 #[.pointer (some ⟨p, 0, none⟩), .int .i64 (k : Int)] w fun e w' =>
  (∃ v, e = .returned (.tuple #[v, .int .i64 0]) /\ BRow w' v (d.now k) /\ ∀ g, v.ownBlock = some g -> w.heap.size <= g) /\ Chg [] w w' := by
 refine (dread_any p S d k w h).mono ?_
 rintro e w' ⟨h1, h2⟩
 rw [if_neg (by simp [hd]), if_pos (by omega)] at h1
 exact ⟨h1, h2⟩
def hdBad (b : List UInt8) : Bool := !(decide (b.getD 0 0 = 1) || decide (b.getD 0 0 = 2)) || !allZ (b.drop 1)
theorem sec_parts {w : World} {v : Value} {b : List UInt8} (h : BRow w v b) (hl : b.length = 64) : ∃ g cap, v = .slice (some ⟨g, 0, none⟩) 64 cap /\ 64 <= cap /\ cap <= maxLen /\ w.cell? ⟨g, 0, none⟩ = some (.int .u8 ((b.getD 0 0).toNat : Int)) /\ BytesAt w (.slice (some ⟨g, 1, none⟩) 63 (cap - 1)) (b.drop 1) := by
 rcases h.2 with ⟨h1, h2⟩ | ⟨g, cap, cur, h1, _, hb, h3, h4, _⟩
 ·omega
 ·obtain ⟨a2, c2, e2, k1, k2, k3⟩ := h.bytes
  rw [h1] at e2
  rw [hl] at h1 h3
  obtain ⟨rfl, _, rfl⟩ := Value.slice.inj e2
  rcases k3 with ⟨k3, _⟩ | ⟨g', o', k3, k4⟩
  ·rw [k3] at hl; cases hl
  ·obtain ⟨rfl, rfl⟩ : g = g' /\ o' = 0 := by simpa [eq_comm] using k3
   have hb' : BytesAt w (.slice (some ⟨g, 0, none⟩) b.length cap) b := by rw [hl, <- h1]; exact h.bytes
   have hd := bytes_drop hb' (k := 1) (by omega) 1 (fun _ => rfl)
   rw [hl] at hd
   refine ⟨g, cap, h1, h3, h4, ?_, hd⟩
   have := k4 0 (by omega)
   rw [this]; rfl
theorem trim_len (g cap : Nat) (l : List UInt8) (w : World) (h : BytesAt w (.slice (some ⟨g, 1, none⟩) 63 cap) l) (hl : l.length = 63) :
  Calls Tryz.prog 90 #[.slice (some ⟨g, 1, none⟩) 63 cap, .string { data := #[0] }] w fun e w' => (∃ a k c, e = .returned (.slice a k c) /\ (allZ l = true -> k = 0) /\ (allZ l = false -> 0 < k)) /\ Chg [] w w' := by
 refine (trim_any _ l w h (by omega)).mono ?_
 rintro e w' ⟨⟨v', rfl, hv⟩, n, rfl⟩
 obtain ⟨a, c, rfl, _⟩ := hv
 have ht := trimmed_len l
 refine ⟨⟨a, _, c, rfl, fun h => ht.2 h, fun h => ?_⟩, (Chg.refl _ _).drewN n⟩
 apply Nat.pos_of_ne_zero
 intro h0
 rw [ht.1 h0] at h; cases h
theorem stopen_head (p : Nat) (S : List Nat) (d : DS) (w : World) (h : DiskAt w p S d) (hn : 9 <= d.n) (hd : d.dead = false) (hbad : hdBad (d.now 0) = true) : Calls Tryz.prog 40 #[.pointer (some ⟨p, 0, none⟩)] w fun e w' => e = .returned (.tuple #[.pointer none, .int .i64 4]) /\ Chg [] w w' := by
 have CS := LH (dsectors_any p S d w h)
 have CR := LH (dread_ok p S d 0 w h hd (by omega))
 have hlen := sec_len h (show 0 < d.n by omega)
 generalize d.now 0 = b at *
 clear h hd
 generalize d.n = n at *
 go_enter Tryz.func40, Tryz.ntmps40
 go_wp2_with (go_at_call 78; refine CS.out.mono ?_; rintro e w' ⟨rfl, hq⟩; subst hq)
 refine CR.out.mono ?_
 rintro e w1 ⟨⟨v, rfl, hr, ho⟩, hc1⟩
 obtain ⟨g, cap, rfl, hc64, hcm, c0, hb63⟩ := sec_parts hr hlen
 have CT := LH (trim_len g (cap - 1) (b.drop 1) w1 hb63 (by simp [hlen]))
 have HC1 := LH hc1
 obtain ⟨x, hx⟩ : ∃ x, x = (b.getD 0 0).toNat := ⟨_, rfl⟩
 have e1 : ∀ c : UInt8, decide (b.getD 0 0 = c) = decide (x = c.toNat) := fun c => by
  rw [hx]
  by_cases h : b.getD 0 0 = c
  ·rw [decide_eq_true h, decide_eq_true (by rw [h])]
  ·rw [decide_eq_false h, decide_eq_false (fun h' => h (UInt8.toNat.inj h'))]
 have hbad' : (!(decide (x = 1) || decide (x = 2)) || !allZ (b.drop 1)) = true := by
  have := hbad
  unfold hdBad at this
  rw [e1, e1] at this
  exact this
 rw [<- hx] at c0
 have hcap : 1 <= cap /\ ¬ cap = 1 := by omega
 have hcl : cap <= 9223372036854775807 := by unfold maxLen at hcm; omega
 clear hr ho hc1 hb63 hbad e1 hx CR CS
 generalize allZ (b.drop 1) = z at *
 by_cases x1 : x = 1
 ·subst x1
  obtain rfl : z = false := by simpa using hbad'
  go_wp2_with fail
  refine CT.out.mono ?_
  rintro e w2 ⟨⟨a, k, c, rfl, _, hk⟩, hc2⟩
  have hk' := hk (by simp)
  have HC2 := LH (HC1.out.trans hc2 (by simp))
  clear hk hc2 CT
  go_wp2
  go_ret2
  exact ⟨rfl, HC2.out⟩
 ·by_cases x2 : x = 2
  ·subst x2
   obtain rfl : z = false := by simpa using hbad'
   go_wp2_with fail
   refine CT.out.mono ?_
   rintro e w2 ⟨⟨a, k, c, rfl, _, hk⟩, hc2⟩
   have hk' := hk (by simp)
   have HC2 := LH (HC1.out.trans hc2 (by simp))
   clear hk hc2 CT
   go_wp2
   go_ret2
   exact ⟨rfl, HC2.out⟩
  ·clear hbad'
   go_wp2
   go_ret2
   exact ⟨rfl, HC1.out⟩
def fillAt (rows : List SRow) (i : Nat) (x : Id) : List Nat := if mayId x = true then upto rows i (idKey x) else []
abbrev intC (l : List Nat) : List Value := l.map (fun j => Value.int .i64 ((j : Nat) : Int))
def FillV (w : World) (B : Nat) (o : Option Value) (l : List Nat) : Prop := (l = [] /\ o = none) ∨ (l ≠ [] /\ ∃ v, o = some v /\ w.ownsRow B 3 1 v l.length (intC l))
structure Fill (w3 wr : World) (B ob mb p sp : Nat) (wh : Bool) (rows : List SRow) (i : Nat) (φ : Id -> Option Value) (N : Nat) : Prop where
 chg : Chg [] w3 wr
 head : wr.heap[ob]? = some (.cells #[.pointer (some ⟨p, 0, none⟩), .pointer (some ⟨sp, 0, none⟩), .map (some mb), .bool wh] 98 (0, 0))
 map : MapF 38 klD okD wr mb φ N
 few : N <= i
 old : w3.heap.size <= ob /\ w3.heap.size <= mb
 base : ob < B /\ mb < B /\ B <= wr.heap.size
 keys : ∀ j, j < i -> (rows.getD j noRow).used = true -> unOk (rows.getD j noRow).key = true
 vals : ∀ x, okD x -> FillV wr B (φ x) (fillAt rows i x)
 apart : ∀ x y u v g, okD x -> okD y -> x ≠ y -> φ x = some u -> φ y = some v -> u.ownBlock = some g -> v.ownBlock ≠ some g
theorem Fill.keep {w3 wr w' : World} {B ob mb p sp : Nat} {wh : Bool} {rows : List SRow} {i : Nat} {φ : Id -> Option Value} {N : Nat} (h : Fill w3 wr B ob mb p sp wh rows i φ N) (hc : Chg [] wr w') : Fill w3 w' B ob mb p sp wh rows i φ N :=
 ⟨h.chg.trans hc (by simp), hc.keep h.head (by simp), h.map.chg hc (by simp), h.few, h.old, ⟨h.base.1, h.base.2.1, Nat.le_trans h.base.2.2 hc.size⟩, h.keys, fun x hx => (h.vals x hx).imp id (fun ⟨h1, v, h2, h3⟩ => ⟨h1, v, h2, row_keep h3 (fun g hg => hc.block g (World.ownsRow.lt h3 g hg).2 (by simp))⟩), h.apart⟩
theorem Fill.skip {w3 wr : World} {B ob mb p sp : Nat} {wh : Bool} {rows : List SRow} {i : Nat} {φ : Id -> Option Value} {N : Nat} (h : Fill w3 wr B ob mb p sp wh rows i φ N) (hu : (rows.getD i noRow).used = false) : Fill w3 wr B ob mb p sp wh rows (i + 1) φ N := by
 have hn : ∀ k, rowIs rows k i = false := fun k => by unfold rowIs; rw [hu]; rfl
 refine ⟨h.chg, h.head, h.map, Nat.le_succ_of_le h.few, h.old, h.base, fun j hj hj2 => ?_, fun x hx => ?_, h.apart⟩
 ·rcases Nat.lt_or_ge j i with h1 | h1
  ·exact h.keys j h1 hj2
  ·obtain rfl : j = i := by omega
   rw [hu] at hj2; cases hj2
 ·have : fillAt rows (i + 1) x = fillAt rows i x := by
   unfold fillAt
   split
   ·rw [upto_succ, hn, if_neg (by simp), List.append_nil]
   ·rfl
  rw [this]
  exact h.vals x hx
theorem okW_small {a : Int} (h1 : -9223372036854775808 <= a) (h2 : a <= 9223372036854775807) : okW a := by
 unfold okW
 exact WalkArith.wf_i64 ⟨h1, h2⟩
theorem may_okD {x : Id} (hm : mayId x = true) : okD x := by
 obtain ⟨a, b, c, d⟩ := may_bounds hm
 exact ⟨okW_small (by omega) (by omega), okW_small (by omega) (by omega), okW_small (by omega) (by omega), okW_small (by omega) (by omega)⟩
theorem Fill.more {w3 wr wa wb : World} {B ob mb p sp : Nat} {wh : Bool} {rows : List SRow} {i : Nat} {φ : Id -> Option Value} {N : Nat} (h : Fill w3 wr B ob mb p sp wh rows i φ N) (hu : (rows.getD i noRow).used = true) (hk : unOk (rows.getD i noRow).key = true) {v' : Value} {x : Id} (hx : x = unId (rows.getD i noRow).key)
  (hrow : wa.ownsRow B 3 1 v' ((fillAt rows i x).length + 1) (intC (fillAt rows i x) ++ [.int .i64 (i : Int)])) (hat : v'.ownBlock = ((φ x).getD (.slice none 0 0)).ownBlock ∨ v'.ownBlock = some wr.heap.size) (hc : Chg (mb :: ((φ x).getD (.slice none 0 0)).ownBlock.toList) wr wa)
  (hcb : Chg [mb] wa wb) (hN : MapF 38 klD okD wb mb (updF φ x v') (if (φ x).isSome then N else N + 1)) : Fill w3 wb B ob mb p sp wh rows (i + 1) (updF φ x v') (if (φ x).isSome then N else N + 1) := by
 obtain ⟨hm, hkey⟩ := un_back hk
 rw [<- hx] at hm hkey
 have hxo := may_okD hm
 have hv0 : ∀ g, ((φ x).getD (.slice none 0 0)).ownBlock = some g -> B <= g /\ g < wr.heap.size := fun g hg => by
  rcases h.vals x hxo with ⟨_, h2⟩ | ⟨_, u, h2, h3⟩
  ·rw [h2] at hg; cases hg
  ·rw [h2] at hg; exact World.ownsRow.lt h3 g hg
 obtain ⟨hb1, hb2, hb3⟩ := h.base
 obtain ⟨ho1, ho2⟩ := h.old
 have hcc : Chg (mb :: ((φ x).getD (.slice none 0 0)).ownBlock.toList) wr wb := hc.trans hcb (fun y hy => .inl (by rw [List.mem_singleton.1 hy]; simp))
 have hmem : ∀ y, y ∈ (mb :: ((φ x).getD (.slice none 0 0)).ownBlock.toList) -> y = mb ∨ ((φ x).getD (.slice none 0 0)).ownBlock = some y := fun y hy => by
  rcases List.mem_cons.1 hy with h | h
  ·exact .inl h
  ·exact .inr (by simpa using h)
 have hv' : ∀ g, v'.ownBlock = some g -> B <= g := fun g hg => (World.ownsRow.lt hrow g hg).1
 have hf : ∀ y, fillAt rows (i + 1) y = if y = x then fillAt rows i y ++ [i] else fillAt rows i y := fun y => by
  by_cases e : y = x
  ·subst e
   rw [if_pos rfl]
   unfold fillAt
   rw [if_pos hm, if_pos hm, upto_succ]
   congr 1
   rw [if_pos]
   unfold rowIs
   rw [hu, hkey]; simp
  ·rw [if_neg e]
   unfold fillAt
   by_cases hy : mayId y = true
   ·rw [if_pos hy, if_pos hy, upto_succ, if_neg, List.append_nil]
    unfold rowIs
    rw [hu, hkey]
    simp only [Bool.true_and, decide_eq_true_eq]
    exact fun h => e (idKey_inj hm hy h).symm
   ·rw [if_neg hy, if_neg hy]
 refine ⟨h.chg.trans hcc (fun y hy => .inr ?_), hcc.keep h.head (fun hy => ?_), hN, ?_, h.old, ⟨hb1, hb2, Nat.le_trans hb3 hcc.size⟩, fun j hj hj2 => ?_, fun y hy => ?_, ?_⟩
 ·rcases hmem y hy with rfl | h1
  ·exact ho2
  ·have := (hv0 y h1).1; omega
 ·rcases hmem ob hy with h1 | h1
  ·exact ne_blk h.head h.map h1
  ·have := (hv0 ob h1).1; omega
 ·have := h.few
  split <;> omega
 ·rcases Nat.lt_or_ge j i with h1 | h1
  ·exact h.keys j h1 hj2
  ·obtain rfl : j = i := by omega
   exact hk
 ·rw [hf y]
  by_cases e : y = x
  ·subst e
   rw [if_pos rfl, updF_self]
   refine .inr ⟨by simp, v', rfl, ?_⟩
   have hr2 : wb.ownsRow B 3 1 v' ((fillAt rows i y).length + 1) (intC (fillAt rows i y) ++ [.int .i64 (i : Int)]) := row_keep hrow (fun g hg => hcb.block g (World.ownsRow.lt hrow g hg).2 (by
    have := hv' g hg
    simp; omega))
   simpa [intC] using hr2
  ·rw [if_neg e, updF_other _ _ e]
   refine (h.vals y hy).imp id (fun ⟨h1, u, h2, h3⟩ => ⟨h1, u, h2, row_keep h3 (fun g hg => hcc.block g (World.ownsRow.lt h3 g hg).2 (fun hmm => ?_))⟩)
   rcases hmem g hmm with h4 | h4
   ·have := (World.ownsRow.lt h3 g hg).1; omega
   ·cases hφ : φ x with
    | none => rw [hφ] at h4; cases h4
    | some z =>
     rw [hφ] at h4
     exact h.apart x y z u g hxo hy (Ne.symm e) hφ h2 h4 hg
 ·intro a b u z g ha hb hab hua hub hug hzg
  by_cases ea : a = x
  ·have eb : b ≠ x := fun e => hab (ea.trans e.symm)
   rw [ea, updF_self] at hua
   obtain rfl := Option.some.inj hua
   rw [updF_other _ _ eb] at hub
   rcases hat with h1 | h1
   ·rw [h1] at hug
    cases hφ : φ x with
    | none => rw [hφ] at hug; cases hug
    | some z' =>
     rw [hφ] at hug
     exact h.apart x b z' z g hxo hb (fun e => eb e.symm) hφ hub hug hzg
   ·rw [h1] at hug
    obtain rfl := Option.some.inj hug
    rcases h.vals b hb with ⟨_, h2⟩ | ⟨_, u2, h2, h3⟩
    ·rw [h2] at hub; cases hub
    ·rw [h2] at hub
     obtain rfl := Option.some.inj hub
     have := (World.ownsRow.lt h3 _ hzg).2
     omega
  ·rw [updF_other _ _ ea] at hua
   by_cases eb : b = x
   ·rw [eb, updF_self] at hub
    obtain rfl := Option.some.inj hub
    rcases hat with h1 | h1
    ·rw [h1] at hzg
     cases hφ : φ x with
     | none => rw [hφ] at hzg; cases hzg
     | some z' =>
      rw [hφ] at hzg
      exact h.apart a x u z' g ha hxo ea hua hφ hug hzg
    ·rw [h1] at hzg
     obtain rfl := Option.some.inj hzg
     rcases h.vals a ha with ⟨_, h2⟩ | ⟨_, u2, h2, h3⟩
     ·rw [h2] at hua; cases hua
     ·rw [h2] at hua
      obtain rfl := Option.some.inj hua
      have := (World.ownsRow.lt h3 _ hug).2
      omega
   ·rw [updF_other _ _ eb] at hub
    exact h.apart a b u z g ha hb hab hua hub hug hzg
theorem wp_entry {P : Program} {o : Oper} {a : Act} {K : Act -> World -> Prop} {Q : Exit -> Act -> World -> Prop} (m x : Operand) (t : TypeId) (ho : o.op = .mapEntry t m x) {w w1 : World} {mv xv v : Value} (hm : a.eval m = mv) (hx : a.eval x = xv)
  (hrun : (Instr.mapEntry t mv xv).run P w = .ok v w1) (h : K (a.put o.dst v) w1) : Oper.wp P o a w K Q := by
 unfold Oper.wp execOp
 simp only [ho, hm, hx, Sem.run_bind, Sem.run_pure, hrun, Result.andThen_ok]
 exact h
theorem wp_entryStore {P : Program} {o : Oper} {a : Act} {K : Act -> World -> Prop} {Q : Exit -> Act -> World -> Prop} (m x y : Operand) (t : TypeId) (ho : o.op = .entryStore t m x y) {w w1 : World} {mv xv yv : Value} (hm : a.eval m = mv) (hx : a.eval x = xv) (hy : a.eval y = yv)
  (hrun : (Instr.entryStore t mv xv yv).run P w = .ok () w1) (h : K (a.put o.dst undef) w1) : Oper.wp P o a w K Q := by
 unfold Oper.wp execOp
 simp only [ho, hm, hx, hy, Sem.run_bind, Sem.run_pure, hrun, Result.andThen_ok]
 exact h
theorem zeroInts (w : World) : (zeroValue 132).run Tryz.prog w = .ok (.slice none 0 0) w := by kernel_rfl
theorem facts_int : (Tryz.prog.info? 3).map (fun i => (i.zero, i.size, i.bytes)) = some (some (.int .i64 0), 1, 8) := by kernel_rfl
theorem FillV.row {w : World} {B : Nat} {o : Option Value} {l : List Nat} (h : FillV w B o l) : w.ownsRow B 3 1 (o.getD (.slice none 0 0)) l.length (intC l) := by
 rcases h with ⟨rfl, rfl⟩ | ⟨_, v, rfl, h⟩
 ·exact World.ownsRow_nil _ _ _ _
 ·exact h
theorem FillV.ids {w : World} {B : Nat} {o : Option Value} {l : List Nat} {U : List Nat} (h : FillV w B o l) (hU : ∀ x ∈ U, x < B) : IdsAt w U o l := by
 rcases h with h | ⟨h1, v, h2, h3⟩
 ·exact .inl h
 ·refine .inr ⟨h1, v, h2, ?_, fun g hg => ⟨(World.ownsRow.lt h3 g hg).2, fun hm => ?_⟩⟩
  ·rcases h3.2 with ⟨e1, e2⟩ | ⟨g, cap, cur, e1, _, _, e3, e4, _⟩
   ·exact absurd (List.eq_nil_of_length_eq_zero e2) h1
   ·refine ⟨_, cap, e1, e3, e4, fun _ => ⟨g, 0, rfl, fun i hi => ?_⟩⟩
    subst e1
    have := h3.cells (g := g) rfl i (.int .i64 ((l.getD i 0 : Nat) : Int)) (by simp [intC, List.getD_eq_getElem?_getD, List.getElem?_eq_getElem hi])
    rwa [add_none] at this
  ·have := (World.ownsRow.lt h3 g hg).1
   have := hU g hm
   omega
theorem Fill.done {w3 wr : World} {B ob mb p sp : Nat} {wh : Bool} {s : SS} {φ : Id -> Option Value} {N : Nat} {Us : List Nat} (h : Fill w3 wr B ob mb p sp wh s.rows s.rows.length φ N) (hs : SlotsAt w3 sp p Us s) : StOk [] wr ob p sp mb Us φ N ⟨s, wh⟩ := by
 obtain ⟨hb1, hb2, hb3⟩ := h.base
 obtain ⟨ho1, ho2⟩ := h.old
 have hl := hs.uL
 refine ⟨h.head, hs.keep0 h.chg, h.map, ⟨fun hm => by have := hl _ hm; omega, fun hm => by have := hl _ hm; omega⟩, fun x hx => (h.vals x hx).ids (fun y hy => ?_), fun r hr hu => ?_, fun x hx => by cases hx⟩
 ·rcases List.mem_cons.1 hy with rfl | hy
  ·exact hb1
  ·rcases List.mem_cons.1 hy with rfl | hy
   ·exact hb2
   ·have := hl y hy; omega
 ·obtain ⟨j, hj, rfl⟩ := List.getElem_of_mem hr
  have := h.keys j hj
  rw [List.getD_eq_getElem?_getD, List.getElem?_eq_getElem hj] at this
  exact this hu
def StOpenPostG (G : List Nat) (p : Nat) (S : List Nat) (w : World) (r : Int × Option Sto) (e : Ending) (w' : World) : Prop := Chg [] w w' /\ match r with
 | (c, none) => e = .returned (.tuple #[.pointer none, .int .i64 c])
 | (c, some t) => ∃ q U, e = .returned (.tuple #[.pointer (some ⟨q, 0, none⟩), .int .i64 c]) /\ StAt G w' q p U t /\ ∀ x ∈ U, x ∈ S ∨ w.heap.size <= x
theorem Fill.doneG {w3 wr : World} {B ob mb p sp : Nat} {wh : Bool} {s : SS} {φ : Id -> Option Value} {N : Nat} {Us G : List Nat} (h : Fill w3 wr B ob mb p sp wh s.rows s.rows.length φ N) (hs : SlotsAt w3 sp p Us s) (hG : ∀ x ∈ G, x < w3.heap.size) : StOk G wr ob p sp mb Us φ N ⟨s, wh⟩ := by
 have h0 := h.done hs
 obtain ⟨hb1, hb2, hb3⟩ := h.base
 obtain ⟨ho1, ho2⟩ := h.old
 have hz := h.chg.size
 refine ⟨h0.head, h0.slots, h0.map, h0.apart, h0.vals, h0.ok, fun x hx => ⟨Nat.lt_of_lt_of_le (hG x hx) hz, fun y v hy hv e => ?_⟩⟩
 have hl := hG x hx
 rcases h.vals y hy with ⟨_, h2⟩ | ⟨_, v', h2, h3⟩
 ·rw [h2] at hv; cases hv
 ·rw [h2] at hv
  obtain rfl := Option.some.inj hv
  have := (World.ownsRow.lt h3 x e).1
  omega
theorem stopen_liveG (G : List Nat) (p : Nat) (S : List Nat) (d : DS) (w : World) (hG0 : ∀ x ∈ G, x < w.heap.size) (h : DiskAt w p S d) (hn : 9 <= d.n) (hd : d.dead = false) (hgood : hdBad (d.now 0) = false) : Calls Tryz.prog 40 #[.pointer (some ⟨p, 0, none⟩)] w (StOpenPostG G p S w d.stOpen) := by
 have CS := LH (dsectors_any p S d w h)
 have CR := LH (dread_ok p S d 0 w h hd (by omega))
 have CO := LH (fun w' (hc : Chg [] w w') => sopen_any p S d 1 w' (h.keep hc (by simp)))
 have hlen := sec_len h (show 0 < d.n by omega)
 have HG : Hid (d.stOpen = match (d.slots 1).2 with | none => ((d.slots 1).1, none) | some s => if stKeys s.rows then (0, some ⟨s, (d.now 0).getD 0 0 == 2⟩) else (4, none)) := LH (by
  unfold DS.stOpen
  refine (if_neg (by omega)).trans ((if_neg (by simp [hd])).trans (if_neg ?_))
  unfold hdBad at hgood
  simp only [Bool.or_eq_false_iff, Bool.not_eq_false', Bool.or_eq_true, decide_eq_true_eq] at hgood
  rintro (⟨h1, h2⟩ | h1)
  ·rcases hgood.1 with h3 | h3
   ·exact h1 h3
   ·exact h2 h3
  ·rw [hgood.2] at h1; cases h1)
 have H1 : Hid ((∃ c, d.slots 1 = (c, none) /\ c ≠ 0) ∨ ∃ s, d.slots 1 = (0, some s)) := LH (by
  unfold DS.slots
  rw [if_neg (by omega), if_neg (by simp [hd]; omega)]
  split
  ·exact .inl ⟨4, rfl, by simp⟩
  ·exact .inr ⟨_, rfl⟩)
 have HH := LH h
 have HG0 := LH hG0
 clear hG0
 generalize d.slots 1 = z at *
 generalize d.stOpen = r at *
 generalize hb0 : d.now 0 = b at *
 clear hd hb0 h
 generalize d.n = n at *
 go_enter Tryz.func40, Tryz.ntmps40
 go_wp2_with (go_at_call 78; refine CS.out.mono ?_; rintro e w' ⟨rfl, hq⟩; subst hq)
 refine CR.out.mono ?_
 rintro e w1 ⟨⟨v, rfl, hr, ho⟩, hc1⟩
 obtain ⟨g, cap, rfl, hc64, hcm, c0, hb63⟩ := sec_parts hr hlen
 have hgl : g < w1.heap.size := hr.lt g rfl
 have CT := LH (trim_len g (cap - 1) (b.drop 1) w1 hb63 (by simp [hlen]))
 have HC1 := LH hc1
 obtain ⟨x, hx⟩ : ∃ x, x = (b.getD 0 0).toNat := ⟨_, rfl⟩
 have e1 : ∀ c : UInt8, decide (b.getD 0 0 = c) = decide (x = c.toNat) := fun c => by
  rw [hx]
  by_cases h : b.getD 0 0 = c
  ·rw [decide_eq_true h, decide_eq_true (by rw [h])]
  ·rw [decide_eq_false h, decide_eq_false (fun h' => h (UInt8.toNat.inj h'))]
 have hgood' : (decide (x = 1) || decide (x = 2)) = true /\ allZ (b.drop 1) = true := by
  have := hgood
  unfold hdBad at this
  rw [e1, e1] at this
  simp only [Bool.or_eq_false_iff, Bool.not_eq_false'] at this
  exact this
 have hwh : (b.getD 0 0 == 2) = decide (x = 2) := by rw [show (b.getD 0 0 == 2) = decide (b.getD 0 0 = 2) from rfl, e1]; rfl
 obtain ⟨wh, hwd⟩ : ∃ wh : Bool, wh = decide (x = 2) := ⟨_, rfl⟩
 rw [hwh, <- hwd] at HG
 rw [<- hx] at c0
 have hwd1 : x = 1 -> false = wh := fun h => by rw [hwd, h]; rfl
 have hwd2 : x = 2 -> true = wh := fun h => by rw [hwd, h]; rfl
 have HWD := LH (And.intro hwd1 hwd2)
 clear hwd hwd1 hwd2
 have hcap : 1 <= cap /\ ¬ cap = 1 := by omega
 have hcl : cap <= 9223372036854775807 := by unfold maxLen at hcm; omega
 obtain ⟨hx12, hz⟩ := hgood'
 simp only [hz] at CT
 clear hr ho hc1 hb63 hgood e1 hx CR CS hz hwh
 have hx12' : x = 1 ∨ x = 2 := by simpa using hx12
 clear hx12
 rcases hx12' with rfl | rfl
 all_goals
  go_wp2_with fail
  refine CT.out.mono ?_
  rintro e w2 ⟨⟨a, k, c, rfl, hk, _⟩, hc2⟩
  obtain rfl := hk (by trivial)
  have HC2 := LH (HC1.out.trans hc2 (by simp))
  have c02 := hc2.cell c0 (by simp)
  have CO2 := LH (CO.out w2 HC2.out)
  clear hc2 CT CO hk
  go_wp2_with fail
  refine CO2.out.mono ?_
  rintro e w3 ⟨hc3, h3⟩
  rcases H1.out with ⟨cc, rfl, hcc⟩ | ⟨s, rfl⟩
  ·dsimp only at h3 HG
   subst h3
   have q : (cc != 0) = true := by simp [hcc]
   have HC3 := LH (HC2.out.trans hc3 (by simp))
   clear hcc hc3
   go_wp2
   go_ret2
   rw [HG.out]
   exact ⟨HC3.out, rfl⟩
  ·dsimp only at h3 HG
   obtain ⟨sp, Us, rfl, hs3, hU3⟩ := h3
   have c03 := hc3.cell c02 (by simp)
   have HC3 := LH (HC2.out.trans hc3 (by simp))
   have HS3 := LH hs3
   have CN := LH (fun w' (hc : Chg [] w3 w') => scount_any sp p Us s w' (hs3.keep0 hc))
   have CU := LH (fun (i : Int) w' (hc : Chg [] w3 w') => sused_any sp p Us s i w' (hs3.keep0 hc))
   have CK := LH (fun (i : Int) w' (hc : Chg [] w3 w') => skey_any sp p Us s i w' (hs3.keep0 hc))
   have hmm := @run_makeMap Tryz.prog
   clear hs3 hc3
   have hc4 : Chg [] w3 (w3.alloc (.map #[] 0)) := (Chg.refl _ _).alloc _
   have c04 := hc4.cell c03 (by simp)
   obtain ⟨w4, hw4⟩ : ∃ w4, w4 = (w3.alloc (.map #[] 0)).alloc (.cells #[.pointer (some ⟨p, 0, none⟩), .pointer (some ⟨sp, 0, none⟩), .map (some w3.heap.size), .bool wh] 98) := ⟨_, rfl⟩
   have HW4 : Hid (∀ q, q = wh -> (w3.alloc (.map #[] 0)).alloc (.cells #[.pointer (some ⟨p, 0, none⟩), .pointer (some ⟨sp, 0, none⟩), .map (some w3.heap.size), .bool q] 98) = w4) := LH (fun q hq => by rw [hw4, hq])
   have hs4 : w4.heap.size = w3.heap.size + 2 := by rw [hw4]; simp
   have HF4 : Hid (Fill w3 w4 (w3.heap.size + 2) (w3.heap.size + 1) w3.heap.size p sp wh s.rows 0 (fun _ => none) 0) := LH (by
    have hh := heap_alloc_new (w3.alloc (.map #[] 0)) (.cells #[.pointer (some ⟨p, 0, none⟩), .pointer (some ⟨sp, 0, none⟩), .map (some w3.heap.size), .bool wh] 98)
    rw [<- hw4, show (w3.alloc (.map #[] 0)).heap.size = w3.heap.size + 1 by simp] at hh
    refine ⟨by rw [hw4]; exact hc4.alloc _, hh, ?_, Nat.le_refl _, ⟨by omega, Nat.le_refl _⟩, ⟨by omega, by omega, by omega⟩, fun j hj => by omega, fun x hx => .inl ⟨?_, rfl⟩, fun x y u v g _ _ _ h => by cases h⟩
    ·rw [hw4]
     exact (MapF.made w3).chg ((Chg.refl [] _).alloc _) (by simp)
    ·unfold fillAt
     split
     ·rfl
     ·rfl)
   have hm1 : s.rows.length <= 1000 := by
    obtain ⟨S0, rv, R, H⟩ := HS3.out
    have := H.few
    omega
   clear hw4
   go_wp2_with fail
   rw [HW4.out]
   rotate_left
   ·first
     | exact HWD.out.1 (by trivial)
     | exact HWD.out.2 (by trivial)
   refine (CN.out w4 HF4.out.chg).mono ?_
   rintro e w' ⟨rfl, hq⟩
   subst hq
   obtain ⟨m, hm⟩ : ∃ m, m = s.rows.length := ⟨_, rfl⟩
   have HM := LH hm
   rw [<- hm]
   have hmz : m <= 1000 := by omega
   clear hm
   go_wp2_with fail
   go_loopg [62] m (fun g' s62 wr => ∃ (i : Nat) (φ : Id -> Option Value) (N : Nat), s62 = .int .i64 i /\ i <= m /\ m <= i + g' /\ Hid (Fill w3 wr (w3.heap.size + 2) (w3.heap.size + 1) w3.heap.size p sp wh s.rows i φ N))
   case atStart => exact ⟨0, _, _, rfl, by omega, by omega, HF4⟩
   case round =>
    obtain ⟨i, φ, N, rfl, hi, hig, HFI⟩ := hrel
    by_cases hlt : i < m
    ·have hiz : (i : Int) < (m : Int) := by omega
     have hhas : s.has (i : Int) := ⟨by omega, by rw [<- HM.out]; omega⟩
     have hrow : s.row (i : Int) = s.rows.getD i noRow := rfl
     have CU1 := LH (CU.out (i : Int) wr HFI.out.chg)
     have hus := SS.used_true hhas
     rw [hrow] at hus
     rw [hus] at CU1
     go_wp2_with fail
     refine CU1.out.mono ?_
     rintro e w' ⟨rfl, hq⟩
     subst hq
     by_cases hu : (s.rows.getD i noRow).used = true
     ·have CK1 := CK.out (i : Int) wr HFI.out.chg
      have hkk : s.key (i : Int) = (s.rows.getD i noRow).key := by
       unfold SS.key
       rw [hus, if_pos hu, hrow]
      rw [hkk] at CK1
      have HCK := LH CK1
      have hkl : (s.rows.getD i noRow).key.length <= 40 := by
       obtain ⟨S0, rv, R, H⟩ := HS3.out
       rw [List.getD_eq_getElem?_getD, List.getElem?_eq_getElem (show i < s.rows.length by rw [<- HM.out]; exact hlt)]
       exact (H.ok.rows _ (List.getElem_mem _)).2
      clear CK1 hkk hus hrow
      rw [hu]
      go_wp2_with fail
      refine HCK.out.mono ?_
      rintro e w5 ⟨⟨kv, rfl, hr5⟩, hc5⟩
      have CD := LH (stread_any kv _ w5 hr5.bytes (by omega))
      obtain ⟨ak, ck, rfl⟩ := hr5.slice
      have HC5 := LH hc5
      clear hr5 hc5 HCK
      go_wp2_with fail
      refine CD.out.mono ?_
      rintro e w6 ⟨rfl, hc6⟩
      have HF6 := LH (HFI.out.keep (HC5.out.trans hc6 (by simp)))
      clear hc6 CD HC5
      by_cases hok : unOk (s.rows.getD i noRow).key = true
      ·have hokr := hok
       rw [hok]
       obtain ⟨y, hy⟩ : ∃ y, y = unId (s.rows.getD i noRow).key := ⟨_, rfl⟩
       rw [<- hy]
       have HY := LH (And.intro hu (And.intro hok hy))
       have hyo := may_okD (un_back hok).1
       rw [<- hy] at hyo
       have HYO := LH hyo
       clear hok hu hy hokr hyo
       obtain ⟨w7, hw7⟩ : ∃ w7, w7 = w6.alloc (.cells (idC y) 38) := ⟨_, rfl⟩
       have hc7 : Chg [] w6 w7 := by rw [hw7]; exact (Chg.refl _ _).alloc _
       have hb7 : w7.heap[w6.heap.size]? = some (.cells (idC y) 38 (0, 0)) := by rw [hw7]; exact heap_alloc_new w6 _
       have HF7 := LH (HF6.out.keep hc7)
       have HB7 := LH hb7
       have HW7 := LH hw7
       clear hw7 hc7 hb7
       obtain ⟨yc, yl, yn, yi⟩ := y
       go_wp2_with fail
       rw [<- HW7.out]
       have c7 := blk_cell HF7.out.head 2 _ rfl
       have mm := id_cells HB7.out
       refine wp_region_L [(7, fun w' => w'.cell? ⟨w3.heap.size + 1, 2, none⟩ = some (.map (some w3.heap.size))), (7, fun w' => (w'.cell? ⟨w6.heap.size, 0, none⟩ = some (.int .i64 yc) /\ w'.cell? ⟨w6.heap.size, 1, none⟩ = some (.int .i64 yl) /\ w'.cell? ⟨w6.heap.size, 2, none⟩ = some (.int .i64 yn) /\ w'.cell? ⟨w6.heap.size, 3, none⟩ = some (.int .i64 yi)))] (by kernel_rfl) ?_ (fun hHeld => ?_)
       ·exact (HoldC.cons (c7) (HoldC.cons (mm) HoldC.nil))
       refine tk 0 ?_ rfl (by kernel_rfl) (fun _ _ _ h => h) (.inl ⟨by rfl, ?_⟩) hHeld ?_; rotate_left; · (intro w _; go_simp; try with_reducible rfl)
       clear hHeld; intro hHeld; try simp only [gA,gB,gC,Act.put,gD,gE,gF]
       refine tk 1 ?_ rfl (by kernel_rfl) (fun _ _ _ h => h) (.inl ⟨by rfl, ?_⟩) hHeld ?_; rotate_left; · (intro w _; go_simp; try with_reducible rfl)
       clear hHeld; intro hHeld; try simp only [gA,gB,gC,Act.put,gD,gE,gF]
       refine tk 2 ?_ rfl (by kernel_rfl) (fun _ _ _ h => h) (.inl ⟨by rfl, ?_⟩) hHeld ?_; rotate_left; · (intro w _; go_simp; try with_reducible rfl)
       clear hHeld; intro hHeld; try simp only [gA,gB,gC,Act.put,gD,gE,gF]
       refine ld 0 3 ?_ rfl rfl (by kernel_rfl) (fun _ _ _ h => h) (.inl ⟨by rfl, ?_⟩) hHeld ?_; rotate_left; · (intro w hSw; (try dsimp only at hSw); go_simp; try with_reducible rfl)
       clear hHeld; intro hHeld; try simp only [gA,gB,gC,Act.put,gD,gE,gF]
       refine ld 1 4 ?_ rfl rfl (by kernel_rfl) (fun _ _ _ h => h) (.inl ⟨by rfl, ?_⟩) hHeld ?_; rotate_left; · (intro w hSw; (try dsimp only at hSw); go_simp; try with_reducible rfl)
       clear hHeld; intro hHeld; try simp only [gA,gB,gC,Act.put,gD,gE,gF]
       refine tk 5 ?_ rfl (by kernel_rfl) (fun _ _ _ h => h) (.inl ⟨by rfl, ?_⟩) hHeld ?_; rotate_left; · (intro w _; go_simp; try with_reducible rfl)
       clear hHeld; intro hHeld; try simp only [gA,gB,gC,Act.put,gD,gE,gF]
       refine wpAnyL_ready (rs := [6]) (by kernel_rfl) (by simp) (AllReadyL.cons (o := _) rfl (fun K hK => ?_) AllReadyL.nil)
       try simp only [gA,gB,gC]
       go_simp
       have hcW : Chg [] w7 (w7.alloc (.cells #[.int .i64 (i : Int)] 3)).drew := ((Chg.refl _ _).alloc _).drew
       have hbW : (w7.alloc (.cells #[.int .i64 (i : Int)] 3)).drew.heap[w7.heap.size]? = some (.cells #[.int .i64 (i : Int)] 3 (0, 0)) := heap_alloc_new w7 _
       generalize (w7.alloc (.cells #[.int .i64 (i : Int)] 3)).drew = W at *
       have c8 := hcW.cell c7 (by simp)
       have mm8 := id_cells (hcW.keep HB7.out (by simp))
       have HFW := LH (HF7.out.keep hcW)
       have HBW := LH hbW
       have hM : w3.heap.size < w7.heap.size := by have := HF7.out.base; omega
       obtain ⟨st, W1, hrun, hcE, hsE, hstore⟩ := HFW.out.map.entry keId_klaw keId (t := 96) Tryz.underlying96 zeroInts HYO.out (by have := HFW.out.few; unfold maxLen; omega)
       have hrowW := (HFW.out.vals _ HYO.out).row
       have HST := LH hstore
       have HCE := LH (And.intro hcE hsE)
       have hrow1 : W1.ownsRow (w3.heap.size + 2) 3 1 ((φ ⟨yc, yl, yn, yi⟩).getD (.slice none 0 0)) (fillAt s.rows i ⟨yc, yl, yn, yi⟩).length (intC (fillAt s.rows i ⟨yc, yl, yn, yi⟩)) := row_keep hrowW (fun k hk => hcE.block k (World.ownsRow.lt hrowW k hk).2 (by
        have := (World.ownsRow.lt hrowW k hk).1
        simp; omega))
       have hel1 := hcE.keep hbW (by simp; omega)
       have HR1 := LH (And.intro hrow1 hel1)
       have hfl : (fillAt s.rows i ⟨yc, yl, yn, yi⟩).length <= 1000 := by
        unfold fillAt
        split
        ·have := upto_len s.rows i (idKey ⟨yc, yl, yn, yi⟩); omega
        ·simp
       have hbW1 : w3.heap.size + 2 <= W1.heap.size := by rw [hsE]; exact HFW.out.base.2.2
       clear hstore hcE hsE hrow1 hrowW hel1 hbW hcW
       clear hHeld
       refine hK.out _ _ ?_ (fun hHeld => ?_)
       ·exact (HoldC.cons (c8) (HoldC.cons (mm8) HoldC.nil))
       clear hK K
       try simp only [gA,gB,gC,Act.put,gD,gE,gF]
       refine wpAnyL_ready (rs := [7]) (by kernel_rfl) (by simp) (AllReadyL.cons (o := _) rfl (fun K hK => ?_) AllReadyL.nil)
       try simp only [gA,gB,gC]
       refine wp_entry _ _ _ rfl (by rfl) (by rfl) hrun ?_
       clear hHeld
       refine hK.out _ _ ?_ (fun hHeld => ?_)
       ·exact (HoldC.past (by kernel_rfl) (HoldC.past (by kernel_rfl) HoldC.nil))
       clear hK K
       try simp only [gA,gB,gC,Act.put,gD,gE,gF]
       refine tk 8 ?_ rfl (by kernel_rfl) (fun _ _ _ h => h) (.inl ⟨by rfl, ?_⟩) hHeld ?_; rotate_left; · (intro w _; go_simp; try with_reducible rfl)
       clear hHeld; intro hHeld; try simp only [gA,gB,gC,Act.put,gD,gE,gF]
       refine tk 10 ?_ rfl (by kernel_rfl) (fun _ _ _ h => h) (.inl ⟨by rfl, ?_⟩) hHeld ?_; rotate_left; · (intro w _; go_simp; try with_reducible rfl)
       clear hHeld; intro hHeld; try simp only [gA,gB,gC,Act.put,gD,gE,gF]
       refine wpAnyL_ready (rs := [9]) (by kernel_rfl) (by simp) (AllReadyL.cons (o := _) rfl (fun K hK => ?_) AllReadyL.nil)
       try simp only [gA,gB,gC]
       obtain ⟨iI, hiI, q1, q2, q3⟩ := info_parts facts_int
       refine wp_append_lies W1 (.tmp 83) (.tmp 85) 132 (by rfl) (w3.heap.size + 2) 3 iI (.int .i64 0) 1 8 Tryz.underlying132 hiI q1 q2 q3 rfl (by omega) _ _ _ (by rfl) HR1.out.1 ⟨w7.heap.size, 0, none⟩ 1 1 [.int .i64 (i : Int)] (by rfl) rfl (fun j u hj => by
        rw [add_none, Nat.zero_add]; exact blk_cell HR1.out.2 j u (by simpa using hj)) (fun u hu => by rw [List.mem_singleton.1 hu]; rfl) (by omega) (by unfold maxLen; omega) (by omega) hbW1 _ rfl ?_
       intro g9 cap9 w9 ho9 hg9 hat9 hl9
       have hc9 : Chg ((φ ⟨yc, yl, yn, yi⟩).getD (.slice none 0 0)).ownBlock.toList W1 w9 := (Chg.refl _ _).grown hg9 (fun k hk => .inl (by rw [hk]; simp))
       have hmb9 : w9.heap[w3.heap.size]? = W1.heap[w3.heap.size]? := hc9.block _ (by omega) (fun hm => by
        have := (World.ownsRow.lt HR1.out.1 _ (by simpa using hm)).1
        omega)
       obtain ⟨w10, hst, hm10, hc10, hs10⟩ := HST.out w9 (.slice (some ⟨g9, 0, none⟩) ((fillAt s.rows i ⟨yc, yl, yn, yi⟩).length + 1) cap9) hmb9
       have HFN := LH (HFW.out.more HY.out.1 HY.out.2.1 HY.out.2.2 ho9 (by
        rcases hat9 with h | h
        ·exact .inl h.symm
        ·right; rw [h, <- HCE.out.2]; rfl) ((HCE.out.1.mono (fun x hx => .inl (by rw [List.mem_singleton.1 hx]; simp))).trans hc9 (fun x hx => .inl (List.mem_cons_of_mem _ hx))) hc10 hm10)
       clear hmb9 hc9 hat9 hg9 ho9 hm10 hc10 hs10
       clear hHeld
       refine hK.out _ _ ?_ (fun hHeld => ?_)
       ·exact (HoldC.past (by kernel_rfl) (HoldC.past (by kernel_rfl) HoldC.nil))
       clear hK K
       try simp only [gA,gB,gC,Act.put,gD,gE,gF]
       refine wpAnyL_ready (rs := [11]) (by kernel_rfl) (by simp) (AllReadyL.cons (o := _) rfl (fun K hK => ?_) AllReadyL.nil)
       try simp only [gA,gB,gC]
       refine wp_entryStore _ _ _ _ rfl (by rfl) (by rfl) (by rfl) hst ?_
       clear hHeld
       refine hK.out _ _ ?_ (fun hHeld => ?_)
       ·exact (HoldC.past (by kernel_rfl) (HoldC.past (by kernel_rfl) HoldC.nil))
       clear hK K
       try simp only [gA,gB,gC,Act.put,gD,gE,gF]
       refine wpAnyL_done (by kernel_rfl) ?_ _
       clear hHeld
       go_wp2_with fail
       go_roundg (gk - 1)
       case measure => omega
       case rel => exact ⟨i + 1, _, _, by go_num, by omega, by omega, HFN⟩
      ·have hall : stKeys s.rows = false := by
        cases hst : stKeys s.rows with
        | false => rfl
        | true =>
         have h1 := stKeys_iff.1 hst (s.rows.getD i noRow) (by
          rw [List.getD_eq_getElem?_getD, List.getElem?_eq_getElem (show i < s.rows.length by rw [<- HM.out]; exact hlt)]
          exact List.getElem_mem _) hu
         exact absurd h1 hok
       have hok' : unOk (s.rows.getD i noRow).key = false := by simpa using hok
       rw [hok']
       have HR : Hid (r = (4, none)) := LH (by rw [HG.out, hall]; rfl)
       have HC6 := LH (HC3.out.trans HF6.out.chg (by simp))
       clear hok hok' hu hall
       go_wp2
       go_ret2
       rw [HR.out]
       exact ⟨HC6.out.alloc _, rfl⟩
     ·have hu' : (s.rows.getD i noRow).used = false := by simpa using hu
      have HN := LH (HFI.out.skip hu')
      clear hus hrow
      rw [hu']
      clear hu hu'
      go_wp2_with fail
      go_roundg (gk - 1)
      case measure => omega
      case rel => exact ⟨i + 1, φ, N, by go_num, by omega, by omega, HN⟩
    ·have him : i = m := by omega
     have hiz : ¬ (i : Int) < (m : Int) := by omega
     rw [him, HM.out] at HFI
     have HE := LH (HFI.out.doneG HS3.out (G := G) (fun x hx => Nat.lt_of_lt_of_le (HG0.out x hx) HC3.out.size))
     have hall : stKeys s.rows = true := stKeys_iff.2 HE.out.ok
     have HFC := LH (And.intro HFI.out.chg HFI.out.old)
     have hw2s := HC2.out.size
     clear HFI
     go_wp2
     go_ret2
     rw [HG.out, if_pos hall]
     refine ⟨HC3.out.trans HFC.out.1 (by simp), w3.heap.size + 1, _, rfl, ⟨sp, w3.heap.size, Us, φ, N, HE.out, rfl⟩, fun y hy => ?_⟩
     have hw3s := HC3.out.size
     rcases List.mem_cons.1 hy with rfl | hy
     ·right; omega
     ·rcases List.mem_cons.1 hy with rfl | hy
      ·right; omega
      ·rcases hU3 y hy with h | h
       ·exact .inl h
       ·right; omega
theorem stopen_live (p : Nat) (S : List Nat) (d : DS) (w : World) (h : DiskAt w p S d) (hn : 9 <= d.n) (hd : d.dead = false) (hgood : hdBad (d.now 0) = false) : Calls Tryz.prog 40 #[.pointer (some ⟨p, 0, none⟩)] w (StOpenPost p S w d.stOpen) :=
 stopen_liveG [] p S d w (by simp) h hn hd hgood
theorem stopen_any (p : Nat) (S : List Nat) (d : DS) (w : World) (h : DiskAt w p S d) : Calls Tryz.prog 40 #[.pointer (some ⟨p, 0, none⟩)] w (StOpenPost p S w d.stOpen) := by
 by_cases hn : d.n < 9
 ·have e : d.stOpen = (1, none) := by unfold DS.stOpen; rw [if_pos hn]
  rw [e]
  exact (stopen_small p S d w h hn).mono fun e w' h1 => ⟨h1.2, h1.1⟩
 ·by_cases hd : d.dead = true
  ·have e : d.stOpen = (14, none) := by unfold DS.stOpen; rw [if_neg hn, if_pos hd]
   rw [e]
   exact (stopen_dead p S d w h (by omega) hd).mono fun e w' h1 => ⟨h1.2, h1.1⟩
  ·cases hb : hdBad (d.now 0) with
   | true =>
    have e : d.stOpen = (4, none) := by
     unfold DS.stOpen
     refine (if_neg hn).trans ((if_neg hd).trans (if_pos ?_))
     unfold hdBad at hb
     simp only [Bool.or_eq_true, Bool.not_eq_true', Bool.or_eq_false_iff, decide_eq_false_iff_not] at hb
     exact hb
    rw [e]
    exact (stopen_head p S d w h (by omega) (by simpa using hd) hb).mono fun e w' h1 => ⟨h1.2, h1.1⟩
   | false => exact stopen_live p S d w h (by omega) (by simpa using hd) hb
def FormatPost (p : Nat) (S : List Nat) (w : World) (r : (Int × Option Sto) × DS) (e : Ending) (w' : World) : Prop := match r with
 | ((c, none), d') => e = .returned (.tuple #[.pointer none, .int .i64 c]) /\ Did w w' p S d'
 | ((c, some t), d') => ∃ q U, e = .returned (.tuple #[.pointer (some ⟨q, 0, none⟩), .int .i64 c]) /\ StAt [] w' q p U t /\ (∀ x ∈ U, x ∈ S ∨ w.heap.size <= x) /\ Chg S w w'
theorem zero_row (w : World) : BRow (w.alloc (.cells Z64 5)) (.slice (some ⟨w.heap.size, 0, none⟩) 64 64) (zeros 64) := by
 have h := row_of_block (l := zeros 64) (heap_alloc_new w (.cells Z64 5)) (by simp [zeros, maxLen])
 simpa [zeros] using h
theorem format_any (p : Nat) (S : List Nat) (d : DS) (w : World) (h : DiskAt w p S d) (ho : d.ops <= 100000000) (hw : d.since.length <= 100000) :
  Calls Tryz.prog 37 #[.pointer (some ⟨p, 0, none⟩)] w (FormatPost p S w d.format) := by
 have CS := LH (fun w' S' (d' : DS) (h' : DiskAt w' p S' d') => dsectors_any p S' d' w' h')
 have hmk := make_64
 by_cases hn : d.n < 9
 ·have e : d.format = ((1, none), d) := by unfold DS.format; rw [if_pos hn]
  have CS1 := LH (dsectors_any p S d w h)
  have HH := LH h
  rw [e]
  generalize hdn : d.n = n at *
  clear h e CS hdn
  go_enter Tryz.func37, Tryz.ntmps37
  go_wp2_with (go_at_call 78; refine CS1.out.mono ?_; rintro e w' ⟨rfl, hq⟩; subst hq)
  go_ret2
  exact ⟨rfl, Did.same HH.out⟩
 ·obtain ⟨m, hm⟩ : ∃ m, m = (d.n - 1) / 8 := ⟨_, rfl⟩
  have HG : Hid (d.format = if (d.wipe m 1).1 ≠ 0 then (((d.wipe m 1).1, none), (d.wipe m 1).2) else if ((d.wipe m 1).2.sign 1).1 ≠ 0 then ((((d.wipe m 1).2.sign 1).1, none), ((d.wipe m 1).2.sign 1).2) else (((d.wipe m 1).2.sign 1).2.stOpen, ((d.wipe m 1).2.sign 1).2)) := LH (by
   unfold DS.format
   rw [if_neg hn]
   unfold DS.fmt2 DS.fmt1
   rw [<- hm])
  have hfew : d.n <= 4160 := by
   obtain ⟨gn, gl, cn, cl, v, H⟩ := h
   exact H.few
  obtain ⟨n, hdn⟩ : ∃ n, n = d.n := ⟨_, rfl⟩
  have HDN := LH hdn
  have hm1 : 8 * m + 1 <= n /\ n < 8 * (m + 1) + 1 /\ m <= 520 := by omega
  have hn9 : 9 <= n := by omega
  have HH := LH h
  have CS1 := LH (dsectors_any p S d w h)
  rw [<- hdn] at CS1
  clear h hn hm hfew hdn
  generalize d.format = r at *
  go_enter Tryz.func37, Tryz.ntmps37
  go_wp2_with (go_at_call 78; refine CS1.out.mono ?_; rintro e w' ⟨rfl, hq⟩; subst hq)
  go_loopg [4] m (fun g' s4 wr => ∃ (i : Nat) (di : DS), s4 = .int .i64 ((1 + 8 * i : Nat) : Int) /\ i <= m /\ m <= i + g' /\ Hid (Did w wr p S di /\ di.n = n /\ di.ops <= d.ops + i /\ di.since.length <= d.since.length + i /\ d.wipe m 1 = di.wipe (m - i) (1 + 8 * i)))
  case atStart => exact ⟨0, d, rfl, by omega, by omega, LH ⟨Did.same HH.out, HDN.out.symm, by omega, by omega, rfl⟩⟩
  case round =>
   obtain ⟨i, di, rfl, hi, hig, HI⟩ := hrel
   obtain ⟨⟨Si, hd1, hd2, hd3⟩, hin, hio, his, hiw⟩ := HI.out
   have CSi := LH (CS.out wr Si di hd1)
   rw [hin] at CSi
   have HD1 := LH hd1
   have HD2 := LH (And.intro hd2 hd3)
   have HIW := LH hiw
   have hwr := hd3.size
   clear HI hd1 hd2 hd3 hiw
   by_cases hlt : i < m
   ·have hle : ((1 + 8 * i : Nat) : Int) + 8 <= (n : Int) := by omega
    have HC := LH ((Chg.refl [] wr).alloc (.cells Z64 5))
    have CW := LH (dwrite_any p Si di ((1 + 8 * i : Nat) : Int) _ (zeros 64) (wr.alloc (.cells Z64 5)) (HD1.out.keep HC.out (by simp)) (by omega) (by omega) ⟨by omega, by omega⟩ (by simp [zeros]) (zero_row wr).bytes)
    have hwok := di.write_ok ((1 + 8 * i : Nat) : Int) (zeros 64)
    have hmi : m - i = (m - (i + 1)) + 1 := by omega
    have HW2 : Hid (d.wipe m 1 = if (di.write ((1 + 8 * i : Nat) : Int) (zeros 64)).1 ≠ 0 then di.write ((1 + 8 * i : Nat) : Int) (zeros 64) else (di.write ((1 + 8 * i : Nat) : Int) (zeros 64)).2.wipe (m - (i + 1)) (1 + 8 * i + 8)) := LH (by
     rw [HIW.out, hmi]; rfl)
    generalize di.write ((1 + 8 * i : Nat) : Int) (zeros 64) = z at *
    obtain ⟨e1, d1⟩ := z
    dsimp only at CW hwok HW2
    clear HIW hmi
    go_wp2_with (go_at_call 78; refine CSi.out.mono ?_; rintro e w' ⟨rfl, hq⟩; subst hq)
    refine CW.out.mono ?_
    rintro e w2 ⟨rfl, hd2⟩
    have HD3 := LH (Did.glue HD2.out.1 HD2.out.2 (Did.pre HC.out hd2))
    clear hd2 CW
    by_cases he : e1 = 0
    ·subst he
     have HW3 : Hid (d.wipe m 1 = d1.wipe (m - (i + 1)) (1 + 8 * (i + 1))) := LH (by
      rw [HW2.out, if_neg (by simp), show 1 + 8 * i + 8 = 1 + 8 * (i + 1) by omega])
     clear HW2
     go_wp2
     go_roundg (gk - 1)
     case measure => omega
     case rel => exact ⟨i + 1, d1, by go_num, by omega, by omega, LH ⟨HD3.out, by rw [hwok.1, hin], by omega, by omega, HW3.out⟩⟩
    ·have HR : Hid (r = ((e1, none), d1)) := LH (by
      have h1 := HW2.out
      rw [if_pos he] at h1
      rw [HG.out, h1, if_pos he])
     have q : (e1 != 0) = true := by simp [he]
     clear he HW2 HG
     go_wp2
     go_ret2
     rw [HR.out]
     exact ⟨rfl, HD3.out⟩
   ·have him : i = m := by omega
    have hle : ¬ ((1 + 8 * i : Nat) : Int) + 8 <= (n : Int) := by omega
    have CY := LH (dsync_any p Si di wr HD1.out (by omega) (by omega))
    have HW2 : Hid (d.wipe m 1 = di.sync) := LH (by rw [HIW.out, him, Nat.sub_self]; rfl)
    obtain ⟨y1, y2, y3⟩ := di.sync_ok
    generalize di.sync = z at *
    obtain ⟨e1, d1⟩ := z
    dsimp only at CY HW2 y1 y2 y3
    rw [HW2.out] at HG
    dsimp only at HG
    clear HIW HW2
    go_wp2_with (go_at_call 78; refine CSi.out.mono ?_; rintro e w' ⟨rfl, hq⟩; subst hq)
    refine CY.out.mono ?_
    rintro e w2 ⟨rfl, hd2⟩
    have HD3 := LH (Did.glue HD2.out.1 HD2.out.2 hd2)
    clear hd2 CY
    by_cases he : e1 = 0
    ·subst he
     obtain ⟨S2, g1, g2, g3⟩ := HD3.out
     have CG := LH (sign_any p S2 d1 1 w2 g1 (by omega) (by omega) (by omega))
     have HS2 := LH (And.intro g2 g3)
     obtain ⟨s1, s2, s3⟩ := d1.sign_ok 1
     rw [if_neg (by simp)] at HG
     generalize d1.sign 1 = z at *
     obtain ⟨e2, d2⟩ := z
     dsimp only at CG HG s1 s2 s3
     rw [show bv 1 = .int .u8 1 from rfl] at CG
     clear g1 g2 g3
     go_wp2_with fail
     refine CG.out.mono ?_
     rintro e w3 ⟨rfl, hd4⟩
     have HD4 := LH (Did.glue HS2.out.1 HS2.out.2 hd4)
     clear hd4 CG
     by_cases he2 : e2 = 0
     ·subst he2
      rw [if_neg (by simp)] at HG
      obtain ⟨S3, g1, g2, g3⟩ := HD4.out
      have CO := LH (stopen_any p S3 d2 w3 g1)
      have HS3 := LH (And.intro g2 g3)
      have HD5 := LH g1
      clear g1 g2 g3
      go_wp2_with fail
      refine CO.out.mono ?_
      rintro e w4 ⟨hc4, h4⟩
      generalize d2.stOpen = z at *
      obtain ⟨e3, ot⟩ := z
      cases ot with
      | none =>
       dsimp only at h4 HG
       subst h4
       have HF : Hid (Did w w4 p S d2) := LH ⟨S3, HD5.out.keep hc4 (by simp), HS3.out.1, HS3.out.2.trans hc4 (by simp)⟩
       clear hc4 CO
       go_wp2
       go_ret2
       rw [HG.out]
       exact ⟨rfl, HF.out⟩
      | some t =>
       dsimp only at h4 HG
       obtain ⟨q, U, rfl, h5, h6⟩ := h4
       have HF : Hid (∃ U, StAt [] w4 q p U t /\ (∀ x ∈ U, x ∈ S ∨ w.heap.size <= x) /\ Chg S w w4) := LH ⟨U, h5, fun x hx => by
        rcases h6 x hx with h | h
        ·exact HS3.out.1 x h
        ·exact .inr (Nat.le_trans HS3.out.2.size h), HS3.out.2.trans hc4 (by simp)⟩
       clear hc4 CO h5 h6
       go_wp2
       go_ret2
       rw [HG.out]
       obtain ⟨U, k1, k2, k3⟩ := HF.out
       exact ⟨q, U, rfl, k1, k2, k3⟩
     ·have HR : Hid (r = ((e2, none), d2)) := LH (by rw [HG.out, if_pos he2])
      have q : (e2 != 0) = true := by simp [he2]
      clear he2 HG
      go_wp2
      go_ret2
      rw [HR.out]
      exact ⟨rfl, HD4.out⟩
    ·have HR : Hid (r = ((e1, none), d1)) := LH (by rw [HG.out, if_pos he])
     have q : (e1 != 0) = true := by simp [he]
     clear he HG
     go_wp2
     go_ret2
     rw [HR.out]
     exact ⟨rfl, HD3.out⟩
section
open Go.RowKit
variable {G : List Nat}
theorem stmade_any (q p : Nat) (w : World) (c0 : w.cell? ⟨q, 0, none⟩ = some (.pointer (some ⟨p, 0, none⟩))) : Calls Tryz.prog 42 #[.pointer (some ⟨q, 0, none⟩)] w fun e w' => e = .returned (.bool true) /\ w = w' := by
 go_enter Tryz.func42, Tryz.ntmps42
 go_wp2
 go_ret
 exact ⟨rfl, rfl⟩
structure LookAt (w : World) (v : Value) (l : List Nat) : Prop where
 form : ∃ a cap, v = .slice a l.length cap /\ l.length <= cap /\ cap <= maxLen
 first : ∀ i r, l = i :: r -> ∃ g o cap, v = .slice (some ⟨g, o, none⟩) l.length cap /\ w.cell? ⟨g, o, none⟩ = some (.int .i64 (i : Int))
theorem StOk.look {w : World} {q p sp mb : Nat} {Us : List Nat} {φ : Id -> Option Value} {N : Nat} {t : Sto} (h : StOk G w q p sp mb Us φ N t) {x : Id} (hx : okD x) :
  ∃ v, (∀ n, (Instr.lookup 96 (.map (some mb)) (idV x) false).run Tryz.prog (w.drewN n) = .ok v (w.drewN n)) /\ LookAt w v (t.at x) := by
 refine ⟨(φ x).getD (.slice none 0 0), fun n => ?_, ?_⟩
 ·exact (h.map.chg ((Chg.refl [] w).drewN n) (by simp)).look keId Tryz.underlying96 zeroInts hx
 ·rcases h.vals x hx with ⟨h1, h2⟩ | ⟨h1, v, h2, h3, _⟩
  ·rw [h1, h2]
   exact ⟨⟨none, 0, rfl, Nat.le_refl _, by unfold maxLen; omega⟩, fun i r h => by cases h⟩
  ·rw [h2]
   obtain ⟨a, cap, rfl, k1, k2, k3⟩ := h3
   refine ⟨⟨a, cap, rfl, k1, k2⟩, fun i r hl => ?_⟩
   obtain ⟨g, o, rfl, hc⟩ := k3 h1
   refine ⟨g, o, cap, rfl, ?_⟩
   have := hc 0 (by rw [hl]; simp)
   rw [hl] at this
   exact this
theorem StOk.cells {w : World} {q p sp mb : Nat} {Us : List Nat} {φ : Id -> Option Value} {N : Nat} {t : Sto} (h : StOk G w q p sp mb Us φ N t) :
  w.cell? ⟨q, 0, none⟩ = some (.pointer (some ⟨p, 0, none⟩)) /\ w.cell? ⟨q, 1, none⟩ = some (.pointer (some ⟨sp, 0, none⟩)) /\ w.cell? ⟨q, 2, none⟩ = some (.map (some mb)) /\ w.cell? ⟨q, 3, none⟩ = some (.bool t.whole) :=
 ⟨blk_cell h.head 0 _ rfl, blk_cell h.head 1 _ rfl, blk_cell h.head 2 _ rfl, blk_cell h.head 3 _ rfl⟩
theorem stget_any (q p : Nat) (U : List Nat) (t : Sto) (x : Id) (w : World) (h : StAt G w q p U t) (hxo : okD x) : Calls Tryz.prog 122 #[.pointer (some ⟨q, 0, none⟩), idV x] w (GetPost (t.get x) w) := by
 obtain ⟨sp, mb, Us, φ, N, h, rfl⟩ := h
 obtain ⟨w1, hw1⟩ : ∃ w1, w1 = w.alloc (.cells (idC x) 38) := ⟨_, rfl⟩
 have hc1 : Chg [] w w1 := by rw [hw1]; exact (Chg.refl [] w).alloc _
 have hb1 : w1.heap[w.heap.size]? = some (.cells (idC x) 38 (0, 0)) := by rw [hw1]; exact heap_alloc_new w _
 have H1 := h.keep0 hc1
 obtain ⟨k0, k1, k2, _⟩ := H1.cells
 have CM := LH (stmade_any q p w1 k0)
 have CY := LH (mayid_any x w1)
 have HB := LH hb1
 have HC1 := LH hc1
 have HW1 := LH hw1
 have HH1 := LH H1
 have HX := LH hxo
 clear hw1 hb1 hc1 h hxo
 by_cases hm : mayId x = true
 ·have HG : Hid (t.get x = match t.at x with | [] => ([], 6) | i :: _ => t.s.get i) := LH (by unfold Sto.get; rw [if_neg (by simp [hm])]; try rfl)
  rw [hm] at CY
  clear H1 k1 k2 hm
  obtain ⟨xc, xl, xn, xi⟩ := x
  go_enter Tryz.func122, Tryz.ntmps122
  go_wp2_with fail
  rw [<- HW1.out]
  refine CM.out.mono ?_
  rintro e w' ⟨rfl, hq⟩
  subst hq
  obtain ⟨m0, m1, m2, m3⟩ := id_cells HB.out
  go_wp2_with fail
  refine CY.out.mono ?_
  rintro e w2 ⟨rfl, hc2⟩
  have HB2 := LH (hc2.keep HB.out (by simp))
  have HH2 := LH (HH1.out.keep0 hc2)
  have HC2 := LH (HC1.out.trans hc2 (by simp))
  clear hc2 m0 m1 m2 m3 k0 CM CY HB
  obtain ⟨v, hlk, hlook⟩ := HH2.out.look HX.out
  obtain ⟨k0, k1, k2, _⟩ := HH2.out.cells
  obtain ⟨m0, m1, m2, m3⟩ := id_cells HB2.out
  obtain ⟨⟨a, cap, hv, hl1, hl2⟩, hfst⟩ := hlook
  cases hat : t.at ⟨xc, xl, xn, xi⟩ with
  | nil =>
   rw [hat] at HG hv
   subst hv
   dsimp only at HG
   have HR : Hid (∀ w', Chg [] w w' -> GetPost ([], 6) w (.returned (.tuple #[.slice none 0 0, .int .i64 6])) w') := LH (fun w' hc => GetPost.nil hc)
   rw [<- HG.out] at HR
   clear hfst hat
   go_wp2_with fail
   go_quiet (fail)
   go_wp2
   go_ret2
   exact HR.out _ (HC2.out.drewN _)
  | cons i rest =>
   obtain ⟨g, o, cap', hv', hc0⟩ := hfst i rest hat
   rw [hv'] at hv
   obtain ⟨rfl, _, rfl⟩ := Value.slice.inj hv
   rw [hat] at HG hv'
   dsimp only at HG
   subst hv'
   have hpos : 0 < (i :: rest).length := by simp
   have hcl : (i :: rest).length <= cap' := by rw [<- hat]; exact hl1
   have hbig : (i :: rest).length <= 9223372036854775807 := by unfold maxLen at hl2; omega
   generalize (i :: rest).length = n at *
   have hn0 : ((n : Int) == 0) = false := by simp; omega
   clear hv hfst hat hl1 hl2
   go_wp2_with fail
   go_quiet (fail)
   have hlk3 : (Instr.lookup 96 (.map (some mb)) (.agg #[.int .i64 xc, .int .i64 xl, .int .i64 xn, .int .i64 xi]) false).run Tryz.prog (w2.drewN nq).drew = .ok (.slice (some ⟨g, o, none⟩) n cap') (w2.drewN nq).drew := hlk (nq + 1)
   have hc03 : (w2.drewN nq).drew.cell? ⟨g, o, none⟩ = some (.int .i64 (i : Int)) := hc0
   have hbn : (w2.drewN nq).drew.heap[w.heap.size]? = some (.cells (idC ⟨xc, xl, xn, xi⟩) 38 (0, 0)) := HB2.out
   have HCn : Hid (Chg [] w (w2.drewN nq).drew) := LH (HC2.out.drewN nq).drew
   have HHn := LH (HH2.out.keep0 ((Chg.refl [] w2).drewN nq).drew)
   have CG := LH (sget_any sp p Us t.s i _ HHn.out.slots)
   obtain ⟨h0, h1, h2, _⟩ := HHn.out.cells
   have mm := id_cells hbn
   clear hlk hc0 k0 k1 k2 m0 m1 m2 m3 hbn
   generalize w2.drewN nq = w3 at *
   go_wp2_with fail
   refine wp_region_L [(12, fun w' => w'.cell? ⟨q, 1, none⟩ = some (.pointer (some ⟨sp, 0, none⟩))), (12, fun w' => w'.cell? ⟨q, 2, none⟩ = some (.map (some mb))), (12, fun w' => (w'.cell? ⟨w.heap.size, 0, none⟩ = some (.int .i64 xc) /\ w'.cell? ⟨w.heap.size, 1, none⟩ = some (.int .i64 xl) /\ w'.cell? ⟨w.heap.size, 2, none⟩ = some (.int .i64 xn) /\ w'.cell? ⟨w.heap.size, 3, none⟩ = some (.int .i64 xi))), (12, fun w' => (Instr.lookup 96 (.map (some mb)) (.agg #[.int .i64 xc, .int .i64 xl, .int .i64 xn, .int .i64 xi]) false).run Tryz.prog w' = .ok (.slice (some ⟨g, o, none⟩) n cap') w'), (12, fun w' => w'.cell? ⟨g, o, none⟩ = some (.int .i64 (i : Int)))] (by kernel_rfl) ?_ (fun hHeld => ?_)
   ·exact (HoldC.cons (h1) (HoldC.cons (h2) (HoldC.cons (mm) (HoldC.cons (hlk3) (HoldC.cons (hc03) HoldC.nil)))))
   refine tk 0 ?_ rfl (by kernel_rfl) (fun _ _ _ h => h) (.inl ⟨by rfl, ?_⟩) hHeld ?_; rotate_left; · (intro w _; go_simp; try with_reducible rfl)
   clear hHeld; intro hHeld; try simp only [gA,gB,gC,Act.put,gD,gE,gF]
   refine tk 1 ?_ rfl (by kernel_rfl) (fun _ _ _ h => h) (.inl ⟨by rfl, ?_⟩) hHeld ?_; rotate_left; · (intro w _; go_simp; try with_reducible rfl)
   clear hHeld; intro hHeld; try simp only [gA,gB,gC,Act.put,gD,gE,gF]
   refine tk 2 ?_ rfl (by kernel_rfl) (fun _ _ _ h => h) (.inl ⟨by rfl, ?_⟩) hHeld ?_; rotate_left; · (intro w _; go_simp; try with_reducible rfl)
   clear hHeld; intro hHeld; try simp only [gA,gB,gC,Act.put,gD,gE,gF]
   refine ld 0 3 ?_ rfl rfl (by kernel_rfl) (fun _ _ _ h => h) (.inl ⟨by rfl, ?_⟩) hHeld ?_; rotate_left; · (intro w hSw; (try dsimp only at hSw); go_simp; try with_reducible rfl)
   clear hHeld; intro hHeld; try simp only [gA,gB,gC,Act.put,gD,gE,gF]
   refine tk 4 ?_ rfl (by kernel_rfl) (fun _ _ _ h => h) (.inl ⟨by rfl, ?_⟩) hHeld ?_; rotate_left; · (intro w _; go_simp; try with_reducible rfl)
   clear hHeld; intro hHeld; try simp only [gA,gB,gC,Act.put,gD,gE,gF]
   refine tk 5 ?_ rfl (by kernel_rfl) (fun _ _ _ h => h) (.inl ⟨by rfl, ?_⟩) hHeld ?_; rotate_left; · (intro w _; go_simp; try with_reducible rfl)
   clear hHeld; intro hHeld; try simp only [gA,gB,gC,Act.put,gD,gE,gF]
   refine tk 6 ?_ rfl (by kernel_rfl) (fun _ _ _ h => h) (.inl ⟨by rfl, ?_⟩) hHeld ?_; rotate_left; · (intro w _; go_simp; try with_reducible rfl)
   clear hHeld; intro hHeld; try simp only [gA,gB,gC,Act.put,gD,gE,gF]
   refine ld 1 7 ?_ rfl rfl (by kernel_rfl) (fun _ _ _ h => h) (.inl ⟨by rfl, ?_⟩) hHeld ?_; rotate_left; · (intro w hSw; (try dsimp only at hSw); go_simp; try with_reducible rfl)
   clear hHeld; intro hHeld; try simp only [gA,gB,gC,Act.put,gD,gE,gF]
   refine ld 2 8 ?_ rfl rfl (by kernel_rfl) (fun _ _ _ h => h) (.inl ⟨by rfl, ?_⟩) hHeld ?_; rotate_left; · (intro w hSw; (try dsimp only at hSw); go_simp; try with_reducible rfl)
   clear hHeld; intro hHeld; try simp only [gA,gB,gC,Act.put,gD,gE,gF]
   refine ld 3 9 ?_ rfl rfl (by kernel_rfl) (fun _ _ _ h => h) (.inl ⟨by rfl, ?_⟩) hHeld ?_; rotate_left; · (intro w hSw; (try dsimp only at hSw); go_simp; try with_reducible rfl)
   clear hHeld; intro hHeld; try simp only [gA,gB,gC,Act.put,gD,gE,gF]
   refine tk 10 ?_ rfl (by kernel_rfl) (fun _ _ _ h => h) (.inl ⟨by rfl, ?_⟩) hHeld ?_; rotate_left; · (intro w _; go_simp; try with_reducible rfl)
   clear hHeld; intro hHeld; try simp only [gA,gB,gC,Act.put,gD,gE,gF]
   refine ld 4 11 ?_ rfl rfl (by kernel_rfl) (fun _ _ _ h => h) (.inl ⟨by rfl, ?_⟩) hHeld ?_; rotate_left; · (intro w hSw; (try dsimp only at hSw); go_simp; try with_reducible rfl)
   clear hHeld; intro hHeld; try simp only [gA,gB,gC,Act.put,gD,gE,gF]
   refine wpAnyL_ready (rs := [12]) (by kernel_rfl) (by simp) (AllReadyL.cons (o := _) rfl (fun K hK => ?_) AllReadyL.nil)
   try simp only [gA,gB,gC]
   go_simp
   refine CG.out.mono ?_
   rintro e w4 ⟨⟨v4, rfl, hb4, ho4⟩, hc4⟩
   have HF : Hid (GetPost (t.s.get i) w (.returned (.tuple #[v4, .int .i64 (t.s.get i).2])) w4) := LH ⟨⟨v4, rfl, hb4, fun k hk => by have := ho4 k hk; have := HCn.out.size; omega⟩, HCn.out.trans hc4 (by simp)⟩
   obtain ⟨a4, c4, rfl⟩ := hb4.slice
   clear hb4 ho4 hc4 CG
   clear hHeld
   refine hK.out _ _ ?_ (fun hHeld => ?_)
   ·exact (HoldC.past (by kernel_rfl) (HoldC.past (by kernel_rfl) (HoldC.past (by kernel_rfl) (HoldC.past (by kernel_rfl) (HoldC.past (by kernel_rfl) HoldC.nil)))))
   clear hK K
   try simp only [gA,gB,gC,Act.put,gD,gE,gF]
   refine tk 13 ?_ rfl (by kernel_rfl) (fun _ _ _ h => h) (.inl ⟨by rfl, ?_⟩) hHeld ?_; rotate_left; · (intro w _; go_simp; try with_reducible rfl)
   clear hHeld; intro hHeld; try simp only [gA,gB,gC,Act.put,gD,gE,gF]
   refine tk 14 ?_ rfl (by kernel_rfl) (fun _ _ _ h => h) (.inl ⟨by rfl, ?_⟩) hHeld ?_; rotate_left; · (intro w _; go_simp; try with_reducible rfl)
   clear hHeld; intro hHeld; try simp only [gA,gB,gC,Act.put,gD,gE,gF]
   refine wpAnyL_ready (rs := [15]) (by kernel_rfl) (by simp) (AllReadyL.cons (o := _) rfl (fun K hK => ?_) AllReadyL.nil)
   try simp only [gA,gB,gC]
   go_simp
   clear hHeld
   refine hK.out _ _ ?_ (fun hHeld => ?_)
   ·exact (HoldC.past (by kernel_rfl) (HoldC.past (by kernel_rfl) (HoldC.past (by kernel_rfl) (HoldC.past (by kernel_rfl) (HoldC.past (by kernel_rfl) HoldC.nil)))))
   clear hK K
   try simp only [gA,gB,gC,Act.put,gD,gE,gF]
   refine wpAnyL_ready (rs := [16]) (by kernel_rfl) (by simp) (AllReadyL.cons (o := _) rfl (fun K hK => ?_) AllReadyL.nil)
   try simp only [gA,gB,gC]
   go_simp
   clear hHeld
   refine hK.out _ _ ?_ (fun hHeld => ?_)
   ·exact (HoldC.past (by kernel_rfl) (HoldC.past (by kernel_rfl) (HoldC.past (by kernel_rfl) (HoldC.past (by kernel_rfl) (HoldC.past (by kernel_rfl) HoldC.nil)))))
   clear hK K
   try simp only [gA,gB,gC,Act.put,gD,gE,gF]
   refine wpAnyL_done (by kernel_rfl) ?_ _
   clear hHeld
   go_wp2_with fail
   go_ret2
   rw [HG.out]
   exact HF.out
 ·have hm' : mayId x = false := by simpa using hm
  have HG : Hid (t.get x = ([], 1)) := LH (by unfold Sto.get; rw [if_pos hm'])
  rw [HG.out]
  have HR : Hid (∀ w', Chg [] w w' -> GetPost ([], 1) w (.returned (.tuple #[.slice none 0 0, .int .i64 1])) w') := LH (fun w' hc => GetPost.nil hc)
  rw [hm'] at CY
  clear H1 k1 k2 hm hm'
  obtain ⟨xc, xl, xn, xi⟩ := x
  go_enter Tryz.func122, Tryz.ntmps122
  go_wp2_with fail
  rw [<- HW1.out]
  refine CM.out.mono ?_
  rintro e w' ⟨rfl, hq⟩
  subst hq
  obtain ⟨m0, m1, m2, m3⟩ := id_cells HB.out
  go_wp2_with fail
  refine CY.out.mono ?_
  rintro e w2 ⟨rfl, hc2⟩
  have HC2 := LH (HC1.out.trans hc2 (by simp))
  clear hc2
  go_wp2
  go_ret2
  exact HR.out _ HC2.out
end
section
open Go.RowKit
variable {G : List Nat}
theorem rowFree_spec : ∀ (l : List SRow) (k : Nat), (rowFree l k = -1 /\ ∀ r ∈ l, r.used = true) ∨ ∃ n, n < l.length /\ rowFree l k = ((k + n : Nat) : Int) /\ (l.getD n noRow).used = false /\ ∀ j, j < n -> (l.getD j noRow).used = true
 | [], k => .inl ⟨rfl, by simp⟩
 | r :: rs, k => by
  rw [rowFree_cons]
  by_cases h : r.used = false
  ·rw [if_pos h]
   exact .inr ⟨0, by simp, by simp, by simpa using h, fun j hj => by omega⟩
  ·rw [if_neg h]
   rcases rowFree_spec rs (k + 1) with ⟨h1, h2⟩ | ⟨n, h1, h2, h3, h4⟩
   ·refine .inl ⟨h1, fun x hx => ?_⟩
    rcases List.mem_cons.1 hx with rfl | hx
    ·simpa using h
    ·exact h2 x hx
   ·refine .inr ⟨n + 1, by simp; omega, by rw [h2]; congr 1; omega, by simpa using h3, fun j hj => ?_⟩
    cases j with
    | zero => simpa using h
    | succ j => simpa using h4 j (by omega)
theorem SS.put_not {s : SS} {i : Int} {key b : List UInt8} (h : (s.put i key b).1 ≠ 0) : (s.put i key b).2.rows = s.rows := by
 unfold SS.put at h ⊢
 split
 ·rfl
 ·split
  ·rfl
  ·split
   ·rfl
   ·split
    ·rfl
    ·split
     ·rfl
     ·rename_i h1 h2 h3 h4 h5
      rw [if_neg h1, if_neg h2, if_neg h3, if_neg h4, if_neg h5] at h
      simp at h
theorem SS.put_done {s : SS} {i : Int} {key b : List UInt8} (h : (s.put i key b).1 = 0) : s.has i /\ (s.row i).used = false /\ (s.put i key b).2.rows = s.rows.set i.toNat ⟨true, b.length, key⟩ := by
 unfold SS.put at h ⊢
 by_cases h1 : ¬ s.has i
 ·rw [if_pos h1] at h; simp at h
 ·rw [if_neg h1] at h ⊢
  by_cases h2 : 40 < key.length ∨ 448 < b.length
  ·rw [if_pos h2] at h; simp at h
  ·rw [if_neg h2] at h ⊢
   by_cases h3 : (s.row i).used = true
   ·rw [if_pos h3] at h; simp at h
   ·rw [if_neg h3] at h ⊢
    by_cases h4 : (s.d.lays (s.pos i + 1) b).1 ≠ 0
    ·rw [if_pos h4] at h; exact absurd h h4
    ·rw [if_neg h4] at h ⊢
     by_cases h5 : ((s.d.lays (s.pos i + 1) b).2.lays (s.pos i) (headBytes b.length key)).1 ≠ 0
     ·rw [if_pos h5] at h; exact absurd h h5
     ·rw [if_neg h5]
      exact ⟨by simpa using h1, by simpa using h3, rfl⟩
theorem SS.clear_not {s : SS} {i : Int} (h : (s.clear i).1 ≠ 0) : (s.clear i).2.rows = s.rows := by
 unfold SS.clear at h ⊢
 split
 ·rfl
 ·split
  ·rfl
  ·split
   ·rfl
   ·rename_i h1 h2 h3
    rw [if_neg h1, if_neg h2, if_neg h3] at h
    simp at h
theorem SS.clear_done {s : SS} {i : Int} (h : (s.clear i).1 = 0) : s.has i /\ (s.row i).used = true /\ (s.clear i).2.rows = s.rows.set i.toNat noRow := by
 unfold SS.clear at h ⊢
 by_cases h1 : ¬ s.has i
 ·rw [if_pos h1] at h; simp at h
 ·rw [if_neg h1] at h ⊢
  by_cases h2 : (s.row i).used = false
  ·rw [if_pos h2] at h; simp at h
  ·rw [if_neg h2] at h ⊢
   by_cases h3 : (s.d.lays (s.pos i) (zeros 64)).1 ≠ 0
   ·rw [if_pos h3] at h; exact absurd h h3
   ·rw [if_neg h3]
    exact ⟨by simpa using h1, by simpa using h2, rfl⟩
theorem getD_set (l : List SRow) (i j : Nat) (r : SRow) : (l.set i r).getD j noRow = if i = j /\ j < l.length then r else l.getD j noRow := by
 simp only [List.getD_eq_getElem?_getD, List.getElem?_set]
 by_cases h : i = j
 ·subst h
  by_cases hl : i < l.length
  ·simp [hl]
  ·simp [hl]
 ·simp [h]
theorem filter_eq (n i : Nat) (h : i < n) : (List.range n).filter (fun j => decide (j = i)) = [i] := by
 induction n with
 | zero => omega
 | succ n ih =>
  rw [List.range_succ, List.filter_append]
  by_cases e : i = n
  ·subst e
   have : (List.range i).filter (fun j => decide (j = i)) = [] := by
    rw [List.filter_eq_nil_iff]
    intro j hj
    have := List.mem_range.1 hj
    simp; omega
   rw [this]; simp
  ·rw [ih (by omega)]
   simp [show ¬ n = i by omega]
theorem upto_put {rows : List SRow} {i : Nat} {k key : List UInt8} {n : Nat} (hi : i < rows.length) (hu : (rows.getD i noRow).used = false) (h0 : upto rows rows.length key = []) : upto (rows.set i ⟨true, n, key⟩) (rows.set i ⟨true, n, key⟩).length k = if k = key then [i] else upto rows rows.length k := by
 rw [List.length_set]
 unfold upto
 by_cases e : k = key
 ·subst e
  rw [if_pos rfl, <- filter_eq rows.length i hi]
  refine List.filter_congr (fun j hj => ?_)
  have hjl := List.mem_range.1 hj
  unfold rowIs
  rw [getD_set]
  by_cases e2 : i = j
  ·subst e2
   simp [hi]
  ·rw [if_neg (fun h => e2 h.1)]
   have : j ∉ upto rows rows.length k := by rw [h0]; simp
   rw [upto_mem] at this
   have e3 : ¬ j = i := fun h => e2 h.symm
   rw [decide_eq_false e3]
   cases hu2 : (rows.getD j noRow).used with
   | false => rfl
   | true =>
    simp only [Bool.true_and, decide_eq_false_iff_not]
    exact fun h => this ⟨hjl, hu2, h⟩
 ·rw [if_neg e]
  refine List.filter_congr (fun j hj => ?_)
  unfold rowIs
  rw [getD_set]
  by_cases e2 : i = j
  ·subst e2
   rw [if_pos ⟨rfl, hi⟩, hu]
   simp only [Bool.true_and, Bool.false_and, decide_eq_false_iff_not]
   exact fun h => e h.symm
  ·rw [if_neg (fun h => e2 h.1)]
theorem filter_not_mem {l : List Nat} {P : Nat -> Bool} {i : Nat} {r : List Nat} (hn : l.Nodup) (h : l.filter P = i :: r) : l.filter (fun j => P j && !decide (j = i)) = r := by
 have e : l.filter (fun j => P j && !decide (j = i)) = (l.filter P).filter (fun j => !decide (j = i)) := by rw [List.filter_filter]; congr 1; funext j; exact Bool.and_comm _ _
 rw [e, h]
 have hnd : (i :: r).Nodup := by rw [<- h]; exact hn.filter _
 have hi := (List.nodup_cons.1 hnd).1
 rw [List.filter_cons]
 simp only [decide_true, Bool.not_true, Bool.false_eq_true, if_false]
 rw [List.filter_eq_self]
 intro j hj
 simp only [Bool.not_eq_true', decide_eq_false_iff_not]
 exact fun e => hi (e ▸ hj)
theorem upto_clear {rows : List SRow} {i : Nat} {key k : List UInt8} {r : List Nat} (h0 : upto rows rows.length key = i :: r) : upto (rows.set i noRow) (rows.set i noRow).length k = if k = key then r else upto rows rows.length k := by
 rw [List.length_set]
 have hm : i ∈ upto rows rows.length key := by rw [h0]; simp
 obtain ⟨hi, hu, hk⟩ := upto_mem.1 hm
 unfold upto
 by_cases e : k = key
 ·subst e
  rw [if_pos rfl, <- filter_not_mem List.nodup_range h0]
  refine List.filter_congr (fun j hj => ?_)
  unfold rowIs
  rw [getD_set]
  by_cases e2 : i = j
  ·subst e2
   rw [if_pos ⟨rfl, hi⟩]
   simp [noRow]
  ·have e3 : decide (j = i) = false := decide_eq_false (fun h => e2 h.symm)
   rw [if_neg (fun h => e2 h.1), e3]
   simp
 ·rw [if_neg e]
  refine List.filter_congr (fun j hj => ?_)
  unfold rowIs
  rw [getD_set]
  by_cases e2 : i = j
  ·subst e2
   rw [if_pos ⟨rfl, hi⟩, hk]
   have : decide (key = k) = false := decide_eq_false (fun h => e h.symm)
   rw [this]
   simp [noRow]
  ·rw [if_neg (fun h => e2 h.1)]
theorem keysOk.set {rows : List SRow} (h : keysOk rows) (i : Nat) {r : SRow} (hr : r.used = true -> unOk r.key = true) : keysOk (rows.set i r) := by
 intro x hx hu
 rcases List.mem_or_eq_of_mem_set hx with h1 | rfl
 ·exact h x h1 hu
 ·exact hr hu
theorem wp_upd {κ : Type} {k : TypeId} {kv : κ -> Value} {kl : κ -> Lit} {ok : κ -> Prop} (E : KE k kv kl ok) (w : World) {o : Oper} {a : Act} {K : Act -> World -> Prop} {Q : Exit -> Act -> World -> Prop} (m x v : Operand) (t : TypeId) (hop : o.op = Op.mapUpdate t m x v) (e : TypeId)
  (ht : Tryz.prog.underlying t = some (.map k e)) (b N : Nat) (φ : κ -> Option Value) (hm : a.eval m = .map (some b)) (h : MapF k kl ok w b φ N) (hN : N < maxLen) (y : κ) (hx : a.eval x = kv y) (hy : ok y) (u : Value) (hv : a.eval v = u)
  (hK : ∀ w', MapF k kl ok w' b (updF φ y u) (if (φ y).isSome then N else N + 1) -> Chg [b] w w' -> w'.heap.size = w.heap.size -> K (a.put o.dst undef) w') : Oper.wp Tryz.prog o a w K Q := by
 obtain ⟨w', hrun, r1, r2, r3⟩ := h.store E ht hy u hN
 unfold Oper.wp
 simp [execOp, hop, hm, hx, hv, hrun, Result.andThen]
 exact hK w' r1 r2 r3
theorem wp_del {κ : Type} {k : TypeId} {kv : κ -> Value} {kl : κ -> Lit} {ok : κ -> Prop} (E : KE k kv kl ok) (w : World) {o : Oper} {a : Act} {K : Act -> World -> Prop} {Q : Exit -> Act -> World -> Prop} (m x : Operand) (t : TypeId) (hop : o.op = Op.call { callee := Callee.builtin Builtin.delete, args := #[m, x], argTypes := #[t, k] }) (e : TypeId)
  (ht : Tryz.prog.underlying t = some (.map k e)) (b N : Nat) (φ : κ -> Option Value) (hm : a.eval m = .map (some b)) (h : MapF k kl ok w b φ N) (y : κ) (hx : a.eval x = kv y) (hy : ok y)
  (hK : ∀ w', MapF k kl ok w' b (delF φ y) (if (φ y).isSome then N - 1 else N) -> Chg [b] w w' -> w'.heap.size = w.heap.size -> K (a.put o.dst (.tuple #[])) w') : Oper.wp Tryz.prog o a w K Q := by
 obtain ⟨w', hrun, r1, r2, r3⟩ := h.drop E ht hy o.type
 unfold Oper.wp execOp
 simp only [hop, resolve, invoke, builtin, Sem.run_bind, Sem.run_pure, Result.andThen_ok, List.map_toArray, List.map_cons, List.map_nil, hm, hx, hrun]
 exact hK _ r1 r2 r3
theorem SlotsAt.keepMap {w w' : World} {q p mb : Nat} {U : List Nat} {s : SS} (h : SlotsAt w q p U s) (hc : Chg [mb] w w') (hm : ∃ es clock, w.heap[mb]? = some (.map es clock)) (hU : mb ∉ U) : SlotsAt w' q p U s := by
 obtain ⟨S, rv, R, h⟩ := h
 have hne : ∀ x ∈ U, x ∉ [mb] := fun x hx hmm => hU (by rw [<- List.mem_singleton.1 hmm]; exact hx)
 refine ⟨S, rv, R, h.obj.keep hc (fun x hx => hne x (h.uB x hx)), h.disk.keep hc (fun x hx => hne x (h.uS x hx)), h.rows, h.sep, fun x hx => ?_, h.uS, h.uB, fun x hx => Nat.lt_of_lt_of_le (h.uL x hx) hc.size, h.ok⟩
 obtain ⟨h1, h2⟩ := h.keys x hx
 refine ⟨h1.chgW hc (fun hn k hk hmm => ?_), fun g hg => ⟨Nat.lt_of_lt_of_le (h2 g hg).1 hc.size, (h2 g hg).2⟩⟩
 obtain rfl := List.mem_singleton.1 hmm
 obtain ⟨es, clock, hmo⟩ := hm
 obtain ⟨a, cap, hv, _, _, h3⟩ := h1
 rw [hv] at hk
 rcases h3 with ⟨h3, _⟩ | ⟨g, o, rfl, hcell⟩
 ·exact hn h3
 ·obtain rfl : g = k := by simpa [Value.ownBlock] using hk
  have := hcell 0 (List.length_pos_iff.2 hn)
  simp only [World.cell?, hmo] at this
  cases this
theorem StOk.added {w w2 w3 : World} {q p sp mb : Nat} {Us : List Nat} {φ : Id -> Option Value} {N N' : Nat} {t : Sto} {s' : SS} {i n : Nat} {x : Id} {v : Value} (h : StOk G w q p sp mb Us φ N t) (hs : Sid w w2 sp p Us s') (hrows : s'.rows = t.s.rows.set i ⟨true, n, idKey x⟩) (hi : i < t.s.rows.length)
  (hu : (t.s.rows.getD i noRow).used = false) (hx : mayId x = true) (hat : t.at x = []) (hc : Chg [mb] w2 w3) (hmap : MapF 38 klD okD w3 mb (updF φ x v) N') (hv : IntsAt w3 v [i]) (hf : ∀ g, v.ownBlock = some g -> w2.heap.size <= g /\ g < w3.heap.size) :
  Std G w w3 q p (q :: mb :: Us) { t with s := s' } := by
 obtain ⟨U', h1, h2, h3⟩ := hs
 have hq := blk_lt h.head
 have hm := h.map.lt
 have hqm := ne_blk h.head h.map
 rw [Sto.at_may hx] at hat
 have hat' : ∀ y, Sto.at { t with s := s' } y = if y = x then [i] else t.at y := fun y => by
  by_cases hy : mayId y = true
  ·rw [Sto.at_may hy, Sto.at_may hy]
   show upto s'.rows s'.rows.length (idKey y) = _
   rw [hrows, upto_put hi hu hat]
   by_cases e : y = x
   ·subst e; rw [if_pos rfl, if_pos rfl]
   ·rw [if_neg e, if_neg (fun h => e (idKey_inj hy hx h))]
  ·have hy' : mayId y = false := by simpa using hy
   rw [Sto.at_not hy', Sto.at_not hy', if_neg (fun e => by subst e; exact hy hx)]
 have hqU : q ∉ U' := fun hx => by
  rcases h2 q hx with h4 | h4
  ·exact h.apart.1 h4
  ·omega
 have hmU : mb ∉ U' := fun hx => by
  rcases h2 mb hx with h4 | h4
  ·exact h.apart.2 h4
  ·omega
 have hcc : Chg (mb :: Us) w w3 := (h3.mono (fun y hy => .inl (List.mem_cons_of_mem _ hy))).trans hc (fun y hy => .inl (by rw [List.mem_singleton.1 hy]; simp))
 have hU2 : ∀ y ∈ q :: mb :: U', y ∈ q :: mb :: Us ∨ w.heap.size <= y := fun y hy => by
  rcases List.mem_cons.1 hy with rfl | hy
  ·exact .inl (by simp)
  ·rcases List.mem_cons.1 hy with rfl | hy
   ·exact .inl (by simp)
   ·rcases h2 y hy with h4 | h4
    ·exact .inl (by simp [h4])
    ·exact .inr h4
 refine StOk.std (Us' := U') ⟨hcc.keep h.head (fun hy => ?_), h1.keepMap hc (h.map.chg h3 h.apart.2).obj hmU, hmap, ⟨hqU, hmU⟩, fun y hy => ?_, ?_, (h.far.mono hcc.size).upd x (fun k hk e => by have := (hf k e).1; have := (h.far k hk).1; have := h3.size; omega)⟩ h2 (hcc.mono (fun y hy => .inl (List.mem_cons_of_mem _ hy)))
 ·rcases List.mem_cons.1 hy with h4 | h4
  ·exact hqm h4
  ·exact h.apart.1 h4
 ·rw [hat' y]
  by_cases e : y = x
  ·subst e
   rw [if_pos rfl, updF_self]
   refine .inr ⟨by simp, v, rfl, hv, fun g hg => ⟨(hf g hg).2, fun hmm => ?_⟩⟩
   have := (hf g hg).1
   rcases List.mem_cons.1 hmm with rfl | hmm
   ·have := h3.size; omega
   ·rcases List.mem_cons.1 hmm with rfl | hmm
    ·have := h3.size; omega
    ·have := h1.uL g hmm; omega
  ·rw [if_neg e, updF_other _ _ e]
   exact (h.vals y hy).keep hcc (fun z hz => .inl (List.mem_cons_of_mem _ hz)) hU2
 ·show keysOk s'.rows
  rw [hrows]
  exact h.ok.set i (fun _ => (un_key hx).2)
end
section
open Go.RowKit
variable {G : List Nat}
theorem SS.free_ok {s : SS} (h : ¬ s.free < 0) : ∃ i : Nat, s.free = (i : Int) /\ i < s.rows.length /\ (s.rows.getD i noRow).used = false := by
 unfold SS.free at h ⊢
 rcases rowFree_spec s.rows 0 with ⟨h1, _⟩ | ⟨n, h1, h2, h3, _⟩
 ·rw [h1] at h; omega
 ·exact ⟨n, by rw [h2, Nat.zero_add], h1, h3⟩
theorem stput_any (q p : Nat) (U : List Nat) (t : Sto) (x : Id) (bv : Value) (b : List UInt8) (w : World) (h : StAt G w q p U t) (hxo : okD x) (hb : BytesAt w bv b) (hbU : b ≠ [] -> ∀ k, bv.ownBlock = some k -> k ∉ U) (hbl : b.length <= 1000000) (ho : t.s.d.ops <= 900000000) (hw : t.s.d.since.length <= 900000) :
  Calls Tryz.prog 121 #[.pointer (some ⟨q, 0, none⟩), idV x, bv] w fun e w' => e = .returned (.int .i64 (t.put x b).1) /\ Std G w w' q p U (t.put x b).2 := by
 obtain ⟨sp, mb, Us, φ, N, h, rfl⟩ := h
 obtain ⟨w1, hw1⟩ : ∃ w1, w1 = w.alloc (.cells (idC x) 38) := ⟨_, rfl⟩
 have hc1 : Chg [] w w1 := by rw [hw1]; exact (Chg.refl [] w).alloc _
 have hb1 : w1.heap[w.heap.size]? = some (.cells (idC x) 38 (0, 0)) := by rw [hw1]; exact heap_alloc_new w _
 have H1 := h.keep0 hc1
 obtain ⟨k0, _, _, _⟩ := H1.cells
 have CM := LH (stmade_any q p w1 k0)
 have CK := LH (stkey_any x w1)
 have HB := LH hb1
 have HC1 := LH hc1
 have HW1 := LH hw1
 have HH1 := LH H1
 have HX := LH hxo
 have HBY := LH (hb.chg hc1 (by simp))
 have HBU := LH hbU
 have HUL := LH h.slots.uL
 obtain ⟨ab, cb, rfl⟩ := hb.slice
 have HST : Hid (∀ w', Chg [] w1 w' -> Std G w w' q p (q :: mb :: Us) t) := LH (fun w' hc => ⟨q :: mb :: Us, ⟨sp, mb, Us, φ, N, H1.keep0 hc, rfl⟩, fun y hy => .inl hy, (hc1.trans hc (by simp)).mono (by simp)⟩)
 clear hw1 hb1 hc1 h hxo hb hbU H1
 unfold KeyPost at CK
 by_cases hm : mayId x = true
 ·simp only [hm, if_true] at CK
  have HM := LH hm
  have HG0 : Hid (t.put x b = if 448 < b.length then (3, t) else match t.at x with
    | i :: _ => if (t.s.get i).2 ≠ 0 then ((t.s.get i).2, t) else if (t.s.get i).1 = b then (0, t) else (7, t)
    | [] => if t.s.free < 0 then (5, t) else ((t.s.put t.s.free (idKey x) b).1, { t with s := (t.s.put t.s.free (idKey x) b).2 })) := LH (by unfold Sto.put; rw [if_neg (by simp [hm])]; try rfl)
  generalize t.put x b = r at *
  obtain ⟨xc, xl, xn, xi⟩ := x
  clear hm
  have hkl := idKey_len ⟨xc, xl, xn, xi⟩
  go_enter Tryz.func121, Tryz.ntmps121
  go_wp2_with fail
  rw [<- HW1.out]
  refine CM.out.mono ?_
  rintro e w' ⟨rfl, hq⟩
  subst hq
  obtain ⟨m0, m1, m2, m3⟩ := id_cells HB.out
  go_wp2_with fail
  refine CK.out.mono ?_
  rintro e w2 ⟨hc2, kv, rfl, hkr, hkf⟩
  have HB2 := LH (hc2.keep HB.out (by simp))
  have HH2 := LH (HH1.out.keep0 hc2)
  have HC2 := LH hc2
  have HBY2 := LH (HBY.out.chg hc2 (by simp))
  have HKR := LH (And.intro hkr hkf)
  obtain ⟨ak, ck, rfl⟩ := hkr.slice
  clear hc2 m0 m1 m2 m3 k0 CM CK HB HBY hkr hkf
  by_cases hlen : 448 < b.length
  ·have HR : Hid (r = (3, t)) := LH (by rw [HG0.out, if_pos hlen])
   have hlz : (448 : Int) < (b.length : Int) := by omega
   clear HG0
   go_wp2
   go_ret
   rw [HR.out]
   exact ⟨rfl, HST.out _ HC2.out⟩
  ·have hlz : ¬ (448 : Int) < (b.length : Int) := by omega
   rw [if_neg hlen] at HG0
   obtain ⟨v, hlk, hlook⟩ := HH2.out.look HX.out
   obtain ⟨k0, k1, k2, _⟩ := HH2.out.cells
   obtain ⟨m0, m1, m2, m3⟩ := id_cells HB2.out
   obtain ⟨⟨a, cap, hv, hl1, hl2⟩, hfst⟩ := hlook
   cases hat : t.at ⟨xc, xl, xn, xi⟩ with
   | nil =>
    rw [hat] at HG0 hv
    subst hv
    dsimp only at HG0
    have HAT := LH hat
    clear hfst hat
    go_wp2_with fail
    go_quiet (fail)
    have HCn : Hid (Chg [] w2 (w2.drewN nq)) := LH ((Chg.refl [] w2).drewN nq)
    have HHn := LH (HH2.out.keep0 HCn.out)
    have HBn := LH (HBY2.out.chg HCn.out (by simp))
    have HKn := LH (HKR.out.1.bytes.chg HCn.out (by simp))
    have HIn := LH (show (w2.drewN nq).heap[w.heap.size]? = some (.cells (idC ⟨xc, xl, xn, xi⟩) 38 (0, 0)) from HB2.out)
    have CF := LH (sfree_any sp p Us t.s _ HHn.out.slots)
    obtain ⟨k0, k1, k2, _⟩ := HHn.out.cells
    clear hlk m0 m1 m2 m3
    generalize w2.drewN nq = w3 at *
    by_cases hfr : t.s.free < 0
    ·have HR : Hid (r = (5, t)) := LH (by rw [HG0.out, if_pos hfr])
     clear HG0
     go_wp2_with (go_at_call 146; refine CF.out.mono ?_; rintro e w' ⟨rfl, hq⟩; subst hq)
     go_ret
     rw [HR.out]
     exact ⟨rfl, HST.out _ (HC2.out.trans HCn.out (by simp))⟩
    ·rw [if_neg hfr] at HG0
     obtain ⟨i, hfi, hil, hiu⟩ := SS.free_ok hfr
     rw [hfi] at CF HG0 hfr
     have CP := LH (sput_any sp p Us t.s (i : Int) _ _ _ b w3 HHn.out.slots HKn.out (fun _ k hk hm => by
      have a1 := HKR.out.2 k hk
      have a2 := HH1.out.slots.uL k hm
      omega) HBn.out (fun hne k hk hm => HBU.out hne k hk (by simp [hm])) (by rw [hkl]; omega) hbl ho hw)
     have hpn := @SS.put_not t.s (i : Int) (idKey ⟨xc, xl, xn, xi⟩) b
     have hpd := @SS.put_done t.s (i : Int) (idKey ⟨xc, xl, xn, xi⟩) b
     generalize t.s.put (i : Int) (idKey ⟨xc, xl, xn, xi⟩) b = z at *
     obtain ⟨ze, zs⟩ := z
     dsimp only at HG0 hpn hpd
     unfold SidPost at CP
     have HPN := LH (And.intro hpn hpd)
     have HIU := LH (And.intro hil hiu)
     clear hpn hpd hfi hil hiu
     go_wp2_with (go_at_call 146; refine CF.out.mono ?_; rintro e w' ⟨rfl, hq⟩; subst hq)
     refine CP.out.mono ?_
     rintro e w4 ⟨rfl, hs4⟩
     have HS4 := LH (Sid.pre (HC1.out.trans (HC2.out.trans HCn.out (by simp)) (by simp)) hs4)
     have HS4' := LH hs4
     clear hs4 CP CF
     by_cases he : ze = 0
     ·subst he
      have HR : Hid (r = (0, { t with s := zs })) := LH (by rw [HG0.out])
      obtain ⟨hhas, hun, hrows⟩ := HPN.out.2 rfl
      obtain ⟨Us', hs1, hs2, hs3⟩ := HS4'.out
      have hid4 : w4.heap[w.heap.size]? = some (.cells (idC ⟨xc, xl, xn, xi⟩) 38 (0, 0)) := hs3.keep HIn.out (fun hm => by have := HUL.out _ hm; omega)
      have c4 := hs3.cell HHn.out.cells.2.2.1 HHn.out.apart.1
      have c4' := hs3.cell HHn.out.cells.1 HHn.out.apart.1
      have HM4 := LH (HHn.out.map.chg hs3 HHn.out.apart.2)
      have mm4 := id_cells hid4
      have HI4 := LH hid4
      have hml := HM4.out.lt
      have hNN : N < maxLen := by
       have h1 := HHn.out.map.card keId (t.s.rows.map (fun r => unId r.key)) (fun y hy hs => by
        rcases HHn.out.vals y hy with ⟨_, h2⟩ | ⟨h1, _⟩
        ·rw [h2] at hs; cases hs
        ·obtain ⟨j, l, hjl⟩ := List.exists_cons_of_ne_nil h1
         by_cases hmy : mayId y = true
         ·rw [Sto.at_may hmy] at hjl
          have hj : j ∈ upto t.s.rows t.s.rows.length (idKey y) := by rw [hjl]; simp
          obtain ⟨j1, j2, j3⟩ := upto_mem.1 hj
          refine List.mem_map.2 ⟨t.s.rows.getD j noRow, ?_, by rw [j3, (un_key hmy).1]⟩
          rw [List.getD_eq_getElem?_getD, List.getElem?_eq_getElem j1]
          exact List.getElem_mem _
         ·rw [Sto.at_not (by simpa using hmy)] at hjl; cases hjl)
       obtain ⟨S0, rv0, R0, H0⟩ := HHn.out.slots
       have := H0.few
       rw [List.length_map] at h1
       unfold maxLen
       omega
      have HRW := LH hrows
      clear hs1 hs2 hs3 hid4 hhas hun hrows HG0
      go_wp2_with fail
      refine wp_region_L [(7, fun w' => w'.cell? ⟨q, 2, none⟩ = some (.map (some mb))), (7, fun w' => (w'.cell? ⟨w.heap.size, 0, none⟩ = some (.int .i64 xc) /\ w'.cell? ⟨w.heap.size, 1, none⟩ = some (.int .i64 xl) /\ w'.cell? ⟨w.heap.size, 2, none⟩ = some (.int .i64 xn) /\ w'.cell? ⟨w.heap.size, 3, none⟩ = some (.int .i64 xi)))] (by kernel_rfl) ?_ (fun hHeld => ?_)
      ·exact (HoldC.cons (c4) (HoldC.cons (mm4) HoldC.nil))
      refine tk 0 ?_ rfl (by kernel_rfl) (fun _ _ _ h => h) (.inl ⟨by rfl, ?_⟩) hHeld ?_; rotate_left; · (intro w _; go_simp; try with_reducible rfl)
      clear hHeld; intro hHeld; try simp only [gA,gB,gC,Act.put,gD,gE,gF]
      refine tk 1 ?_ rfl (by kernel_rfl) (fun _ _ _ h => h) (.inl ⟨by rfl, ?_⟩) hHeld ?_; rotate_left; · (intro w _; go_simp; try with_reducible rfl)
      clear hHeld; intro hHeld; try simp only [gA,gB,gC,Act.put,gD,gE,gF]
      refine tk 2 ?_ rfl (by kernel_rfl) (fun _ _ _ h => h) (.inl ⟨by rfl, ?_⟩) hHeld ?_; rotate_left; · (intro w _; go_simp; try with_reducible rfl)
      clear hHeld; intro hHeld; try simp only [gA,gB,gC,Act.put,gD,gE,gF]
      refine ld 0 3 ?_ rfl rfl (by kernel_rfl) (fun _ _ _ h => h) (.inl ⟨by rfl, ?_⟩) hHeld ?_; rotate_left; · (intro w hSw; (try dsimp only at hSw); go_simp; try with_reducible rfl)
      clear hHeld; intro hHeld; try simp only [gA,gB,gC,Act.put,gD,gE,gF]
      refine ld 1 4 ?_ rfl rfl (by kernel_rfl) (fun _ _ _ h => h) (.inl ⟨by rfl, ?_⟩) hHeld ?_; rotate_left; · (intro w hSw; (try dsimp only at hSw); go_simp; try with_reducible rfl)
      clear hHeld; intro hHeld; try simp only [gA,gB,gC,Act.put,gD,gE,gF]
      refine tk 5 ?_ rfl (by kernel_rfl) (fun _ _ _ h => h) (.inl ⟨by rfl, ?_⟩) hHeld ?_; rotate_left; · (intro w _; go_simp; try with_reducible rfl)
      clear hHeld; intro hHeld; try simp only [gA,gB,gC,Act.put,gD,gE,gF]
      refine wpAnyL_ready (rs := [6]) (by kernel_rfl) (by simp) (AllReadyL.cons (o := _) rfl (fun K hK => ?_) AllReadyL.nil)
      try simp only [gA,gB,gC]
      go_simp
      have hcW : Chg [] w4 (w4.alloc (.cells #[.int .i64 (i : Int)] 3)).drew := ((Chg.refl _ _).alloc _).drew
      have hbW : (w4.alloc (.cells #[.int .i64 (i : Int)] 3)).drew.heap[w4.heap.size]? = some (.cells #[.int .i64 (i : Int)] 3 (0, 0)) := heap_alloc_new w4 _
      have hbl2 : w4.heap.size < (w4.alloc (.cells #[.int .i64 (i : Int)] 3)).drew.heap.size := blk_lt hbW
      generalize (w4.alloc (.cells #[.int .i64 (i : Int)] 3)).drew = W at *
      have c8 := hcW.cell c4 (by simp)
      have mm8 := id_cells (hcW.keep HI4.out (by simp))
      have HMW := LH (HM4.out.chg hcW (by simp))
      clear hHeld
      refine hK.out _ _ ?_ (fun hHeld => ?_)
      ·exact (HoldC.cons (c8) (HoldC.cons (mm8) HoldC.nil))
      clear hK K
      try simp only [gA,gB,gC,Act.put,gD,gE,gF]
      refine wpAnyL_ready (rs := [7]) (by kernel_rfl) (by simp) (AllReadyL.cons (o := _) rfl (fun K hK => ?_) AllReadyL.nil)
      try simp only [gA,gB,gC]
      refine wp_upd keId W (.tmp 77) (.tmp 78) (.tmp 80) 96 (by rfl) 132 Tryz.underlying96 mb N φ (by rfl) HMW.out hNN ⟨xc, xl, xn, xi⟩ (by rfl) HX.out (.slice (some ⟨w4.heap.size, 0, none⟩) 1 1) (by rfl) ?_
      intro w6 hm6 hc6 hs6
      have hv6 : IntsAt w6 (.slice (some ⟨w4.heap.size, 0, none⟩) 1 1) [i] := ⟨_, 1, rfl, by simp, by unfold maxLen; omega, fun _ => ⟨_, 0, rfl, fun j hj => by
       obtain rfl : j = 0 := by simpa using hj
       exact hc6.cell (blk_cell hbW 0 _ rfl) (by simp; omega)⟩⟩
      have hF := HHn.out.added HS4'.out HRW.out HIU.out.1 HIU.out.2 HM.out HAT.out ((hcW.mono (by simp)).trans hc6 (fun y hy => .inl hy)) hm6 hv6 (fun k hk => by
       obtain rfl : w4.heap.size = k := by simpa [Value.ownBlock] using hk
       exact ⟨Nat.le_refl _, by omega⟩)
      have HF := LH (Std.pre (HC1.out.trans (HC2.out.trans HCn.out (by simp)) (by simp)) hF)
      clear hF hm6 hc6 hs6 hv6 hcW hbW
      clear hHeld
      refine hK.out _ _ ?_ (fun hHeld => ?_)
      ·exact (HoldC.past (by kernel_rfl) (HoldC.past (by kernel_rfl) HoldC.nil))
      clear hK K
      try simp only [gA,gB,gC,Act.put,gD,gE,gF]
      refine wpAnyL_done (by kernel_rfl) ?_ _
      clear hHeld
      go_wp2_with fail
      go_ret
      rw [HR.out]
      exact ⟨rfl, HF.out⟩
     ·have HR : Hid (r = (ze, { t with s := zs })) := LH (by rw [HG0.out])
      have q0 : (ze != 0) = true := by simp [he]
      have HF : Hid (Std G w w4 q p (q :: mb :: Us) { t with s := zs }) := LH (by
       obtain ⟨Us', h1, h2, h3⟩ := HHn.out.slotsDid HS4'.out (HPN.out.1 he)
       have hc0 : Chg [] w w3 := HC1.out.trans (HC2.out.trans HCn.out (by simp)) (by simp)
       refine Std.pre hc0 (h1.std h2 (h3.mono (fun y hy => .inl (by simp [hy])))))
      clear HG0 he
      go_wp2
      go_ret
      rw [HR.out]
      exact ⟨rfl, HF.out⟩
   | cons i rest =>
    obtain ⟨g, o, cap', hv', hc0⟩ := hfst i rest hat
    rw [hv'] at hv
    obtain ⟨rfl, _, rfl⟩ := Value.slice.inj hv
    rw [hat] at HG0 hv'
    dsimp only at HG0
    subst hv'
    have hpos : 0 < (i :: rest).length := by simp
    have hcl : (i :: rest).length <= cap' := by rw [<- hat]; exact hl1
    have hbig : (i :: rest).length <= 9223372036854775807 := by rw [hat] at hl1; unfold maxLen at hl2; omega
    generalize (i :: rest).length = n at *
    have hn0 : ((n : Int) == 0) = false := by simp; omega
    clear hv hfst hat hl1 hl2
    go_wp2_with fail
    go_quiet (fail)
    have hc03 : (w2.drewN nq).drew.cell? ⟨g, o, none⟩ = some (.int .i64 (i : Int)) := hc0
    have HCn : Hid (Chg [] w2 (w2.drewN nq).drew) := LH (((Chg.refl [] w2).drewN nq).drew)
    have HHn := LH (HH2.out.keep0 HCn.out)
    have CG := LH (sget_any sp p Us t.s i _ HHn.out.slots)
    have HBn := LH (HBY2.out.chg HCn.out (by simp))
    obtain ⟨h0, h1, h2, _⟩ := HHn.out.cells
    clear hlk hc0 k0 k1 k2 m0 m1 m2 m3
    generalize w2.drewN nq = w3 at *
    go_wp2_with fail
    refine wp_region_L [(7, fun w' => w'.cell? ⟨q, 1, none⟩ = some (.pointer (some ⟨sp, 0, none⟩))), (7, fun w' => w'.cell? ⟨g, o, none⟩ = some (.int .i64 (i : Int)))] (by kernel_rfl) ?_ (fun hHeld => ?_)
    ·exact (HoldC.cons (h1) (HoldC.cons (hc03) HoldC.nil))
    refine tk 0 ?_ rfl (by kernel_rfl) (fun _ _ _ h => h) (.inl ⟨by rfl, ?_⟩) hHeld ?_; rotate_left; · (intro w _; go_simp; try with_reducible rfl)
    clear hHeld; intro hHeld; try simp only [gA,gB,gC,Act.put,gD,gE,gF]
    refine tk 1 ?_ rfl (by kernel_rfl) (fun _ _ _ h => h) (.inl ⟨by rfl, ?_⟩) hHeld ?_; rotate_left; · (intro w _; go_simp; try with_reducible rfl)
    clear hHeld; intro hHeld; try simp only [gA,gB,gC,Act.put,gD,gE,gF]
    refine tk 2 ?_ rfl (by kernel_rfl) (fun _ _ _ h => h) (.inl ⟨by rfl, ?_⟩) hHeld ?_; rotate_left; · (intro w _; go_simp; try with_reducible rfl)
    clear hHeld; intro hHeld; try simp only [gA,gB,gC,Act.put,gD,gE,gF]
    refine ld 0 3 ?_ rfl rfl (by kernel_rfl) (fun _ _ _ h => h) (.inl ⟨by rfl, ?_⟩) hHeld ?_; rotate_left; · (intro w hSw; (try dsimp only at hSw); go_simp; try with_reducible rfl)
    clear hHeld; intro hHeld; try simp only [gA,gB,gC,Act.put,gD,gE,gF]
    refine tk 4 ?_ rfl (by kernel_rfl) (fun _ _ _ h => h) (.inl ⟨by rfl, ?_⟩) hHeld ?_; rotate_left; · (intro w _; go_simp; try with_reducible rfl)
    clear hHeld; intro hHeld; try simp only [gA,gB,gC,Act.put,gD,gE,gF]
    refine tk 5 ?_ rfl (by kernel_rfl) (fun _ _ _ h => h) (.inl ⟨by rfl, ?_⟩) hHeld ?_; rotate_left; · (intro w _; go_simp; try with_reducible rfl)
    clear hHeld; intro hHeld; try simp only [gA,gB,gC,Act.put,gD,gE,gF]
    refine ld 1 6 ?_ rfl rfl (by kernel_rfl) (fun _ _ _ h => h) (.inl ⟨by rfl, ?_⟩) hHeld ?_; rotate_left; · (intro w hSw; (try dsimp only at hSw); go_simp; try with_reducible rfl)
    clear hHeld; intro hHeld; try simp only [gA,gB,gC,Act.put,gD,gE,gF]
    refine wpAnyL_ready (rs := [7]) (by kernel_rfl) (by simp) (AllReadyL.cons (o := _) rfl (fun K hK => ?_) AllReadyL.nil)
    try simp only [gA,gB,gC]
    go_simp
    refine CG.out.mono ?_
    rintro e w4 ⟨⟨v4, rfl, hb4, ho4⟩, hc4⟩
    have HC4 := LH ((HC2.out.trans HCn.out (by simp)).trans hc4 (by simp))
    obtain ⟨a4, c4, rfl⟩ := hb4.slice
    have CE := LH (equal_any _ _ _ _ w4 hb4 (HBn.out.chg hc4 (by simp)))
    clear hb4 ho4 hc4 CG
    clear hHeld
    refine hK.out _ _ ?_ (fun hHeld => ?_)
    ·exact (HoldC.past (by kernel_rfl) (HoldC.past (by kernel_rfl) HoldC.nil))
    clear hK K
    try simp only [gA,gB,gC,Act.put,gD,gE,gF]
    refine tk 8 ?_ rfl (by kernel_rfl) (fun _ _ _ h => h) (.inl ⟨by rfl, ?_⟩) hHeld ?_; rotate_left; · (intro w _; go_simp; try with_reducible rfl)
    clear hHeld; intro hHeld; try simp only [gA,gB,gC,Act.put,gD,gE,gF]
    refine tk 9 ?_ rfl (by kernel_rfl) (fun _ _ _ h => h) (.inl ⟨by rfl, ?_⟩) hHeld ?_; rotate_left; · (intro w _; go_simp; try with_reducible rfl)
    clear hHeld; intro hHeld; try simp only [gA,gB,gC,Act.put,gD,gE,gF]
    refine tk 10 ?_ rfl (by kernel_rfl) (fun _ _ _ h => h) (.inl ⟨by rfl, ?_⟩) hHeld ?_; rotate_left; · (intro w _; go_simp; try with_reducible rfl)
    clear hHeld; intro hHeld; try simp only [gA,gB,gC,Act.put,gD,gE,gF]
    refine wpAnyL_ready (rs := [11]) (by kernel_rfl) (by simp) (AllReadyL.cons (o := _) rfl (fun K hK => ?_) AllReadyL.nil)
    try simp only [gA,gB,gC]
    go_simp
    clear hHeld
    refine hK.out _ _ ?_ (fun hHeld => ?_)
    ·exact (HoldC.past (by kernel_rfl) (HoldC.past (by kernel_rfl) HoldC.nil))
    clear hK K
    try simp only [gA,gB,gC,Act.put,gD,gE,gF]
    refine wpAnyL_ready (rs := [12]) (by kernel_rfl) (by simp) (AllReadyL.cons (o := _) rfl (fun K hK => ?_) AllReadyL.nil)
    try simp only [gA,gB,gC]
    go_simp
    clear hHeld
    refine hK.out _ _ ?_ (fun hHeld => ?_)
    ·exact (HoldC.past (by kernel_rfl) (HoldC.past (by kernel_rfl) HoldC.nil))
    clear hK K
    try simp only [gA,gB,gC,Act.put,gD,gE,gF]
    refine wpAnyL_done (by kernel_rfl) ?_ _
    clear hHeld
    generalize t.s.get i = z at *
    obtain ⟨zb, ze⟩ := z
    dsimp only at CE HG0
    by_cases he : ze = 0
    ·subst he
     rw [if_neg (by simp)] at HG0
     by_cases hbb : zb = b
     ·have HR : Hid (r = (0, t)) := LH (by rw [HG0.out, if_pos hbb])
      rw [decide_eq_true hbb] at CE
      clear HG0 hbb
      go_wp2_with (go_at_call 145; refine CE.out.mono ?_; rintro e w' ⟨rfl, hq⟩; subst hq)
      go_ret
      rw [HR.out]
      exact ⟨rfl, HST.out _ HC4.out⟩
     ·have HR : Hid (r = (7, t)) := LH (by rw [HG0.out, if_neg hbb])
      rw [decide_eq_false hbb] at CE
      clear HG0 hbb
      go_wp2_with (go_at_call 145; refine CE.out.mono ?_; rintro e w' ⟨rfl, hq⟩; subst hq)
      go_ret
      rw [HR.out]
      exact ⟨rfl, HST.out _ HC4.out⟩
    ·have HR : Hid (r = (ze, t)) := LH (by rw [HG0.out, if_pos he])
     have q0 : (ze != 0) = true := by simp [he]
     clear HG0 he
     go_wp2
     go_ret
     rw [HR.out]
     exact ⟨rfl, HST.out _ HC4.out⟩
 ·have hm' : mayId x = false := by simpa using hm
  have HG : Hid (t.put x b = (1, t)) := LH (by unfold Sto.put; rw [if_pos hm'])
  rw [HG.out]
  simp only [hm] at CK
  clear hm hm'
  obtain ⟨xc, xl, xn, xi⟩ := x
  go_enter Tryz.func121, Tryz.ntmps121
  go_wp2_with fail
  rw [<- HW1.out]
  refine CM.out.mono ?_
  rintro e w' ⟨rfl, hq⟩
  subst hq
  obtain ⟨m0, m1, m2, m3⟩ := id_cells HB.out
  go_wp2_with fail
  refine CK.out.mono ?_
  rintro e w2 ⟨hc2, rfl⟩
  have HC2 := LH hc2
  clear hc2
  go_wp2
  go_ret
  exact ⟨rfl, HST.out _ HC2.out⟩
end
end Go.Proofs.YtdkhmfcfihbjeaaGreatDoor.W
