/- Texts laid together. -/
import Derived.Test.YtdkhmfcfihbjeaaGreatDoorKL1
import Derived.Test.YtdkhmfcfihbjeaaGreatDoorKL3
import Derived.Laws.ResultCell
import Derived.Laws.Rows
import Derived.Test.YtdkhmfcfihbjeaaGreatDoorKL2
import Derived.Laws.CopyOwn
import Derived.WideKeyEntry
import Derived.Maps.AppendAt
/- Package store: read; the eye's End. -/
namespace Go.Proofs.YtdkhmfcfihbjeaaGreatDoor.W
open Go.RowKit
set_option linter.unusedVariables false
set_option linter.unusedSimpArgs false

def endOf (l : List UInt8) (bad : Int) : Int := if bad ≠ 0 then bad else if l = [] then 0 else 3
set_option maxHeartbeats 2000000 in
theorem eend_any (b g : Nat) (l : List UInt8) (bad : Int) (w : World) (h : EyeAt w b g l bad) :
    Calls Tryz.prog 58 #[.pointer (some ⟨b, 0, none⟩)] w fun e w' => e = .returned (.int .i64 (endOf l bad)) ∧ w = w' := by
  have CF := Lib.hid (efail_any b g l bad w h)
  obtain ⟨v, hb, hv, _, _, _⟩ := h
  obtain ⟨a, cap, rfl⟩ := hv.slice
  have h1 := blk_cell hb 1 _ rfl
  unfold endOf
  clear hb hv
  by_cases hbad : bad = 0
  · subst hbad
    rw [if_neg (by simp)]
    by_cases hl : l = []
    · subst hl
      rw [if_pos rfl]
      go_enter Tryz.func58, Tryz.ntmps58
      go_wp2_with (go_at_call 55; refine CF.out.mono ?_; rintro e w' ⟨rfl, hq⟩; subst hq)
      go_ret
      exact ⟨rfl, rfl⟩
    · rw [if_neg hl]
      have hp : 0 < l.length := List.length_pos_iff.2 hl
      clear hl
      go_enter Tryz.func58, Tryz.ntmps58
      go_wp2_with (go_at_call 55; refine CF.out.mono ?_; rintro e w' ⟨rfl, hq⟩; subst hq)
      go_ret
      exact ⟨rfl, rfl⟩
  · rw [if_pos hbad]
    have q : (bad != 0) = true := by simp [hbad]
    clear hbad
    go_enter Tryz.func58, Tryz.ntmps58
    go_wp2_with (go_at_call 55; refine CF.out.mono ?_; rintro e w' ⟨rfl, hq⟩; subst hq)
    go_ret
    exact ⟨rfl, rfl⟩

theorem EyeAt.pick {w : World} {b g : Nat} {l : List UInt8} {bad : Int} (h : EyeAt w b g l bad) (M : Nat) (hM : M ≠ b) : ∃ g', EyeAt w b g' l bad ∧ (g' = g ∧ g < w.heap.size ∨ g' = M) := by
  obtain ⟨v, hb, hv, hgb, hg, hl⟩ := h
  rcases hg with hg | hg
  · exact ⟨g, ⟨v, hb, hv, hgb, .inl hg, hl⟩, .inl ⟨rfl, hg⟩⟩
  · subst hg
    have hv' : l = [] := by
      rcases hv with ⟨_, h⟩ | ⟨o, cap, h, _⟩
      · exact h
      · cases h
    exact ⟨M, ⟨_, hb, .inl ⟨rfl, hv'⟩, by first | exact hM | exact hM.symm, .inr rfl, hl⟩, .inr rfl⟩
/-- An eye that is read while an id is filled in block N. -/
structure EyeNew (w0 w : World) (b g N : Nat) (x : Id) (r : Int × List UInt8 × Int) : Prop where
  eye : EyeAt w b g r.2.1 r.2.2
  chg : Chg [] w0 w
  own : w0.heap.size ≤ b
  blk : w.heap[N]? = some (.cells (idC x) 38 (0, 0))
  own2 : w0.heap.size ≤ N
  ne : N ≠ b ∧ N ≠ g
theorem EyeNew.num {w0 w : World} {b g N : Nat} {x : Id} {r : Int × List UInt8 × Int} (h : EyeNew w0 w b g N x r) (n : Nat) (h1 : 1 ≤ n) (h7 : n ≤ 7) (r' : Int × List UInt8 × Int) (hr : r' = eyeNum r.2.1 r.2.2 n) :
    Calls Tryz.prog 54 #[.pointer (some ⟨b, 0, none⟩), .int .i64 n] w fun e w' => e = .returned (.int .i64 r'.1) ∧ EyeNew w0 w' b g N x r' := by
  subst hr
  refine (enum_any b g r.2.1 r.2.2 n w h.eye (by omega) (by omega)).mono ?_
  rintro e w' ⟨rfl, h2, h3⟩
  refine ⟨rfl, h2, h.chg.trans h3 (fun x hx => .inr ?_), h.own, h3.keep h.blk (by simpa using h.ne.1), h.own2, h.ne⟩
  rw [List.mem_singleton.1 hx]; exact h.own
theorem EyeNew.set {w0 w : World} {b g N : Nat} {x y : Id} {r : Int × List UInt8 × Int} (h : EyeNew w0 w b g N x r) (j : Nat) (u : Value) (hy : (idC x).setIfInBounds j u = idC y) : EyeNew w0 (w.setCell ⟨N, j, none⟩ u) b g N y r := by
  have hc : Chg [N] w (w.setCell ⟨N, j, none⟩ u) := (Chg.refl [N] w).setCell (p := ⟨N, j, none⟩) (.inl (by simp)) u
  refine ⟨h.eye.keep hc (by simpa using Ne.symm h.ne.1) (by simpa using Ne.symm h.ne.2), h.chg.setCell (p := ⟨N, j, none⟩) (.inr h.own2) u, h.own, ?_, h.own2, h.ne⟩
  rw [← hy]; exact set_blk h.blk
theorem EyeNew.cells {w0 w : World} {b g N : Nat} {a c d e : Int} {r : Int × List UInt8 × Int} (h : EyeNew w0 w b g N ⟨a, c, d, e⟩ r) : (w.cell? ⟨N, 0, none⟩ = some (.int .i64 a) ∧ w.cell? ⟨N, 1, none⟩ = some (.int .i64 c) ∧ w.cell? ⟨N, 2, none⟩ = some (.int .i64 d) ∧ w.cell? ⟨N, 3, none⟩ = some (.int .i64 e)) ∧
    w.frozen? ⟨N, 0, none⟩ = false ∧ w.frozen? ⟨N, 1, none⟩ = false ∧ w.frozen? ⟨N, 2, none⟩ = false ∧ w.frozen? ⟨N, 3, none⟩ = false :=
  ⟨id_cells h.blk, blk_frozen h.blk 0, blk_frozen h.blk 1, blk_frozen h.blk 2, blk_frozen h.blk 3⟩

theorem idSize : (Tryz.prog.info? 38).map (·.size) = some 4 := by kernel_rfl
theorem ret_id {fn : Func} {p u : Tmp} (h : fn.results = #[.cell p 38, .tmp u]) (tmps : Array Value) {w : World} {b t : Nat} {x : Id} {q : Value} (hp : tmps.getD p undef = .pointer (some ⟨b, 0, none⟩)) (hu : tmps.getD u undef = q) (hb : w.heap[b]? = some (.cells (idC x) t (0, 0))) :
    (results fn tmps).run Tryz.prog w = .ok (.tuple #[idV x, q]) w := by
  have hl := run_loadVar_row (P := Tryz.prog) w b t 38 (idC x) (0, 0) _ hb Tryz.underlying38 rfl (by rw [idSize]; rfl)
  rw [results_cell_tmp h, hp, hu]
  simp only [asAddr, Sem.run_pure, Result.andThen_ok, hl]
theorem id_written {w : World} {b t : Nat} {y : Id} (h : w.heap[b]? = some (.cells (idC y) t (0, 0))) (x : Id) :
    ((((w.setCell ⟨b, 0, none⟩ (.int .i64 x.c)).setCell ⟨b, 1, none⟩ (.int .i64 x.l)).setCell ⟨b, 2, none⟩ (.int .i64 x.n)).setCell ⟨b, 3, none⟩ (.int .i64 x.i)).heap[b]? = some (.cells (idC x) t (0, 0)) :=
  set_blk (set_blk (set_blk (set_blk h)))

set_option maxHeartbeats 4000000 in
set_option maxRecDepth 100000 in
theorem stread_any (v : Value) (l : List UInt8) (w : World) (h : BytesAt w v l) (hl : l.length ≤ 100000) :
    Calls Tryz.prog 94 #[v] w fun e w' => e = .returned (.tuple #[idV (unId l), .bool (unOk l)]) ∧ Chg [] w w' := by
  obtain ⟨w1, hw1⟩ : ∃ w1, w1 = w.alloc (.cells (idC ⟨0, 0, 0, 0⟩) 38) := ⟨_, rfl⟩
  have hc1 : Chg [] w w1 := by rw [hw1]; exact (Chg.refl [] w).alloc _
  have hb1 : w1.heap[w.heap.size]? = some (.cells (idC ⟨0, 0, 0, 0⟩) 38 (0, 0)) := by rw [hw1]; exact heap_alloc_new w _
  have CE := Lib.hid (neweye_any v l w1 (h.chg hc1 (by simp)) (by omega))
  have HB := Lib.hid hb1
  have HC1 := Lib.hid hc1
  have HW1 := Lib.hid hw1
  obtain ⟨a, cap, hv⟩ := h.slice
  subst hv
  have HU : Hid (unId l = ⟨(un1 l).1, (un2 l).1, (un3 l).1, (un4 l).1⟩ ∧ unOk l = (decide (endOf (un4 l).2.1 (un4 l).2.2 = 0) && mayId (unId l))) := Lib.hid ⟨rfl, by
    unfold unOk endOf
    by_cases h1 : (un4 l).2.2 = 0
    · by_cases h2 : (un4 l).2.1 = [] <;> simp [h1, h2]
    · simp [h1]⟩
  clear h hw1 hb1 hc1
  go_enter Tryz.func94, Tryz.ntmps94
  go_wp2_with fail
  rw [← HW1.out]
  refine CE.out.mono ?_
  rintro e w2 ⟨b, g0, rfl, he0, hb2, hg2, hc2⟩
  have hw1s : w1.heap.size = w.heap.size + 1 := by rw [HW1.out]; simp
  obtain ⟨g, he2, hgg⟩ := he0.pick 0 (by omega)
  obtain ⟨w3, hw3⟩ : ∃ w3, w3 = w2.alloc (.cells (idC ⟨0, 0, 0, 0⟩) 38) := ⟨_, rfl⟩
  have hb3 : b < w2.heap.size := by obtain ⟨v, hb, _⟩ := he2; exact blk_lt hb
  have hc3 : Chg [] w2 w3 := by rw [hw3]; exact (Chg.refl [] w2).alloc _
  have hen : EyeNew w1 w3 b g w2.heap.size ⟨0, 0, 0, 0⟩ (0, l, 0) := ⟨he2.keep hc3 (by simp) (by simp), hc2.trans hc3 (by simp), hb2, by rw [hw3]; exact heap_alloc_new w2 _, hc2.size, by omega, by
    have := hc2.size
    rcases hgg with ⟨rfl, h⟩ | rfl <;> omega⟩
  have HB2 := Lib.hid ((hc2.trans hc3 (by simp)).keep HB.out (by simp))
  have hlt : w.heap.size < w2.heap.size := by have := hc2.size; omega
  have CN := Lib.hid (hen.num 1 (by omega) (by omega) (un1 l) rfl)
  have HW3 := Lib.hid hw3
  clear he2 hb2 hg2 hc2 CE hw3 hc3 hen he0 hgg
  go_wp2_with fail
  rw [← HW3.out]
  refine CN.out.mono ?_
  rintro e w4 ⟨rfl, h4⟩
  obtain ⟨⟨m0, m1, m2, m3⟩, f0, f1, f2, f3⟩ := h4.cells
  have h4' := h4.set 0 (.int .i64 (un1 l).1) (y := ⟨(un1 l).1, 0, 0, 0⟩) rfl
  have CN4 := Lib.hid (h4'.num 3 (by omega) (by omega) (un2 l) rfl)
  clear h4 h4' CN HW3
  go_wp2_with fail
  refine CN4.out.mono ?_
  rintro e w5 ⟨rfl, h5⟩
  obtain ⟨⟨m0, m1, m2, m3⟩, f0, f1, f2, f3⟩ := h5.cells
  have h5' := h5.set 1 (.int .i64 (un2 l).1) (y := ⟨(un1 l).1, (un2 l).1, 0, 0⟩) rfl
  have CN5 := Lib.hid (h5'.num 4 (by omega) (by omega) (un3 l) rfl)
  clear h5 h5' CN4
  go_wp2_with fail
  refine CN5.out.mono ?_
  rintro e w6 ⟨rfl, h6⟩
  obtain ⟨⟨m0, m1, m2, m3⟩, f0, f1, f2, f3⟩ := h6.cells
  have h6' := h6.set 2 (.int .i64 (un3 l).1) (y := ⟨(un1 l).1, (un2 l).1, (un3 l).1, 0⟩) rfl
  have CN6 := Lib.hid (h6'.num 1 (by omega) (by omega) (un4 l) rfl)
  clear h6 h6' CN5
  go_wp2_with fail
  refine CN6.out.mono ?_
  rintro e w7 ⟨rfl, h7⟩
  obtain ⟨⟨m0, m1, m2, m3⟩, f0, f1, f2, f3⟩ := h7.cells
  have h7' := h7.set 3 (.int .i64 (un4 l).1) (y := ⟨(un1 l).1, (un2 l).1, (un3 l).1, (un4 l).1⟩) rfl
  rw [← HU.out.1] at h7'
  have HE := Lib.hid h7'
  have HUI := Lib.hid HU.out.2
  clear h7 h7' CN6 HU
  generalize un4 l = z4 at *
  obtain ⟨x, hx⟩ : ∃ x, x = unId l := ⟨_, rfl⟩
  obtain ⟨ok, hok⟩ : ∃ ok, ok = unOk l := ⟨_, rfl⟩
  rw [← hx] at HE HUI
  rw [← hok] at HUI
  have HX := Lib.hid hx
  have HOK := Lib.hid hok
  clear hx hok
  go_wp2_with fail
  obtain ⟨xc, xl, xn, xi⟩ := x
  generalize hw8 : w7.setCell _ _ = w8 at *
  have HE8 := Lib.hid (show EyeNew w1 w8.drew b g w2.heap.size _ z4 from ⟨HE.out.eye.keep ((Chg.refl [] _).drew) (by simp) (by simp), HE.out.chg.drew, HE.out.own, HE.out.blk, HE.out.own2, HE.out.ne⟩)
  have HR8 := Lib.hid (HE8.out.chg.keep HB.out (by simp))
  have CF := Lib.hid (eend_any b g _ _ _ HE8.out.eye)
  have mm := id_cells HE8.out.blk
  obtain ⟨r, hr⟩ : ∃ r, r = endOf z4.2.1 z4.2.2 := ⟨_, rfl⟩
  rw [← hr] at CF HUI
  clear hr HE hw8 m0 m1 m2 m3 f0 f1 f2 f3
  by_cases hr0 : r = 0
  · subst hr0
    have CM := Lib.hid (mayid_any ⟨xc, xl, xn, xi⟩ w8.drew)
    have hk : ok = mayId ⟨xc, xl, xn, xi⟩ := by simpa using HUI.out
    subst hk
    refine wp_region_L [(8, fun w' => (w'.cell? ⟨w2.heap.size, 0, none⟩ = some (.int .i64 xc) ∧ w'.cell? ⟨w2.heap.size, 1, none⟩ = some (.int .i64 xl) ∧ w'.cell? ⟨w2.heap.size, 2, none⟩ = some (.int .i64 xn) ∧ w'.cell? ⟨w2.heap.size, 3, none⟩ = some (.int .i64 xi))), (6, fun w' => (w'.cell? ⟨w2.heap.size, 0, none⟩ = some (.int .i64 xc) ∧ w'.cell? ⟨w2.heap.size, 1, none⟩ = some (.int .i64 xl) ∧ w'.cell? ⟨w2.heap.size, 2, none⟩ = some (.int .i64 xn) ∧ w'.cell? ⟨w2.heap.size, 3, none⟩ = some (.int .i64 xi)))] (by kernel_rfl) ?_ (fun hHeld => ?_)
    · exact (HoldC.cons (mm) (HoldC.cons (mm) HoldC.nil))
    refine wpAnyL_load 0 (i := 0) (oi := _) (v := ?_) rfl rfl (by kernel_rfl) (by kernel_rfl) (by kernel_rfl) (by kernel_rfl) (by kernel_rfl) (by kernel_rfl) (fun _ _ _ h => h) (Or.inl ⟨by rfl, ?_⟩) (by assumption) (fun hNew => ?_)
    rotate_left
    · intro w hSw
      (try dsimp only at hSw)
      go_simp
      try with_reducible rfl
    clear hHeld
    have hHeld := hNew
    clear hNew
    try simp only [List.getElem_toArray, List.getElem_cons_succ, List.getElem_cons_zero, Act.put, List.setIfInBounds_toArray, List.set_cons_zero, List.set_cons_succ]
    refine wpAnyL_take (i := 1) (oi := _) (v := ?_) rfl (by kernel_rfl) (by kernel_rfl) (by kernel_rfl) (by kernel_rfl) (by kernel_rfl) (fun _ _ _ h => h) (Or.inl ⟨by rfl, ?_⟩) (by assumption) (fun hNew => ?_)
    rotate_left
    · intro w _
      go_simp
      try with_reducible rfl
    clear hHeld
    have hHeld := hNew
    clear hNew
    try simp only [List.getElem_toArray, List.getElem_cons_succ, List.getElem_cons_zero, Act.put, List.setIfInBounds_toArray, List.set_cons_zero, List.set_cons_succ]
    refine wpAnyL_ready (rs := [2]) (by kernel_rfl) (by simp) ?_
    refine AllReadyL.cons (o := _) rfl (fun K hK => ?_) AllReadyL.nil
    try simp only [List.getElem_toArray, List.getElem_cons_succ, List.getElem_cons_zero]
    go_simp
    refine (CF.out).mono ?_
    rintro e w9 ⟨rfl, hw9⟩
    subst hw9
    clear hHeld
    refine hK.out _ _ ?_ (fun hHeld => ?_)
    · exact (HoldC.cons (mm) (HoldC.cons (mm) HoldC.nil))
    clear hK K
    try simp only [List.getElem_toArray, List.getElem_cons_succ, List.getElem_cons_zero, Act.put, List.setIfInBounds_toArray, List.set_cons_zero, List.set_cons_succ]
    refine wpAnyL_take (i := 3) (oi := _) (v := ?_) rfl (by kernel_rfl) (by kernel_rfl) (by kernel_rfl) (by kernel_rfl) (by kernel_rfl) (fun _ _ _ h => h) (Or.inl ⟨by rfl, ?_⟩) (by assumption) (fun hNew => ?_)
    rotate_left
    · intro w _
      go_simp
      try with_reducible rfl
    clear hHeld
    have hHeld := hNew
    clear hNew
    try simp only [List.getElem_toArray, List.getElem_cons_succ, List.getElem_cons_zero, Act.put, List.setIfInBounds_toArray, List.set_cons_zero, List.set_cons_succ]
    refine wpAnyL_take (i := 4) (oi := _) (v := ?_) rfl (by kernel_rfl) (by kernel_rfl) (by kernel_rfl) (by kernel_rfl) (by kernel_rfl) (fun _ _ _ h => h) (Or.inl ⟨by rfl, ?_⟩) (by assumption) (fun hNew => ?_)
    rotate_left
    · intro w _
      go_simp
      try with_reducible rfl
    clear hHeld
    have hHeld := hNew
    clear hNew
    try simp only [List.getElem_toArray, List.getElem_cons_succ, List.getElem_cons_zero, Act.put, List.setIfInBounds_toArray, List.set_cons_zero, List.set_cons_succ]
    refine wpAnyL_load 1 (i := 5) (oi := _) (v := ?_) rfl rfl (by kernel_rfl) (by kernel_rfl) (by kernel_rfl) (by kernel_rfl) (by kernel_rfl) (by kernel_rfl) (fun _ _ _ h => h) (Or.inl ⟨by rfl, ?_⟩) (by assumption) (fun hNew => ?_)
    rotate_left
    · intro w hSw
      (try dsimp only at hSw)
      go_simp
      try with_reducible rfl
    clear hHeld
    have hHeld := hNew
    clear hNew
    try simp only [List.getElem_toArray, List.getElem_cons_succ, List.getElem_cons_zero, Act.put, List.setIfInBounds_toArray, List.set_cons_zero, List.set_cons_succ]
    refine wpAnyL_ready (rs := [6]) (by kernel_rfl) (by simp) ?_
    refine AllReadyL.cons (o := _) rfl (fun K hK => ?_) AllReadyL.nil
    try simp only [List.getElem_toArray, List.getElem_cons_succ, List.getElem_cons_zero]
    go_simp
    refine CM.out.mono ?_
    rintro e w10 ⟨rfl, hc10⟩
    have HC10 := Lib.hid hc10
    have mm := id_cells (hc10.keep HE8.out.blk (by simp))
    clear hc10
    clear hHeld
    refine hK.out _ _ ?_ (fun hHeld => ?_)
    · exact (HoldC.cons (mm) (HoldC.past (by kernel_rfl) HoldC.nil))
    clear hK K
    try simp only [List.getElem_toArray, List.getElem_cons_succ, List.getElem_cons_zero, Act.put, List.setIfInBounds_toArray, List.set_cons_zero, List.set_cons_succ]
    refine wpAnyL_take (i := 7) (oi := _) (v := ?_) rfl (by kernel_rfl) (by kernel_rfl) (by kernel_rfl) (by kernel_rfl) (by kernel_rfl) (fun _ _ _ h => h) (Or.inl ⟨by rfl, ?_⟩) (by assumption) (fun hNew => ?_)
    rotate_left
    · intro w _
      go_simp
      try with_reducible rfl
    clear hHeld
    have hHeld := hNew
    clear hNew
    try simp only [List.getElem_toArray, List.getElem_cons_succ, List.getElem_cons_zero, Act.put, List.setIfInBounds_toArray, List.set_cons_zero, List.set_cons_succ]
    obtain ⟨v0, v1, v2, v3⟩ := id_cells (HC10.out.keep HR8.out (by simp))
    have y0 := blk_frozen (HC10.out.keep HR8.out (by simp)) 0
    have y1 := blk_frozen (HC10.out.keep HR8.out (by simp)) 1
    have y2 := blk_frozen (HC10.out.keep HR8.out (by simp)) 2
    have y3 := blk_frozen (HC10.out.keep HR8.out (by simp)) 3
    refine wpAnyL_ready (rs := [8]) (by kernel_rfl) (by simp) ?_
    refine AllReadyL.cons (o := _) rfl (fun K hK => ?_) AllReadyL.nil
    try simp only [List.getElem_toArray, List.getElem_cons_succ, List.getElem_cons_zero]
    go_simp
    clear hHeld
    refine hK.out _ _ ?_ (fun hHeld => ?_)
    · exact (HoldC.past (by kernel_rfl) (HoldC.past (by kernel_rfl) HoldC.nil))
    clear hK K
    try simp only [List.getElem_toArray, List.getElem_cons_succ, List.getElem_cons_zero, Act.put, List.setIfInBounds_toArray, List.set_cons_zero, List.set_cons_succ]
    refine wpAnyL_take (i := 9) (oi := _) (v := ?_) rfl (by kernel_rfl) (by kernel_rfl) (by kernel_rfl) (by kernel_rfl) (by kernel_rfl) (fun _ _ _ h => h) (Or.inl ⟨by rfl, ?_⟩) (by assumption) (fun hNew => ?_)
    rotate_left
    · intro w _
      go_simp
      try with_reducible rfl
    clear hHeld
    have hHeld := hNew
    clear hNew
    try simp only [List.getElem_toArray, List.getElem_cons_succ, List.getElem_cons_zero, Act.put, List.setIfInBounds_toArray, List.set_cons_zero, List.set_cons_succ]
    refine wpAnyL_done (by kernel_rfl) ?_ _
    clear hHeld
    go_wp2_with fail
    have HW := Lib.hid (id_written (HC10.out.keep HR8.out (by simp)) ⟨xc, xl, xn, xi⟩)
    refine bodyPost_ret (ret_id rfl _ rfl rfl HW.out) rfl ?_
    refine ⟨by rw [← HX.out, ← HOK.out]; rfl, ?_⟩
    have hc := (HC1.out.trans (HE8.out.chg.trans HC10.out (by simp)) (by simp))
    exact (((hc.setCell (.inr (Nat.le_refl _)) _).setCell (.inr (Nat.le_refl _)) _).setCell (.inr (Nat.le_refl _)) _).setCell (.inr (Nat.le_refl _)) _
  · have hk : ok = false := by simpa [hr0] using HUI.out
    subst hk
    have qr : (r == 0) = false := by simpa using hr0
    refine wp_region_L [(8, fun w' => (w'.cell? ⟨w2.heap.size, 0, none⟩ = some (.int .i64 xc) ∧ w'.cell? ⟨w2.heap.size, 1, none⟩ = some (.int .i64 xl) ∧ w'.cell? ⟨w2.heap.size, 2, none⟩ = some (.int .i64 xn) ∧ w'.cell? ⟨w2.heap.size, 3, none⟩ = some (.int .i64 xi)))] (by kernel_rfl) ?_ (fun hHeld => ?_)
    · exact (HoldC.cons (mm) HoldC.nil)
    refine wpAnyL_load 0 (i := 0) (oi := _) (v := ?_) rfl rfl (by kernel_rfl) (by kernel_rfl) (by kernel_rfl) (by kernel_rfl) (by kernel_rfl) (by kernel_rfl) (fun _ _ _ h => h) (Or.inl ⟨by rfl, ?_⟩) (by assumption) (fun hNew => ?_)
    rotate_left
    · intro w hSw
      (try dsimp only at hSw)
      go_simp
      try with_reducible rfl
    clear hHeld
    have hHeld := hNew
    clear hNew
    try simp only [List.getElem_toArray, List.getElem_cons_succ, List.getElem_cons_zero, Act.put, List.setIfInBounds_toArray, List.set_cons_zero, List.set_cons_succ]
    refine wpAnyL_take (i := 1) (oi := _) (v := ?_) rfl (by kernel_rfl) (by kernel_rfl) (by kernel_rfl) (by kernel_rfl) (by kernel_rfl) (fun _ _ _ h => h) (Or.inl ⟨by rfl, ?_⟩) (by assumption) (fun hNew => ?_)
    rotate_left
    · intro w _
      go_simp
      try with_reducible rfl
    clear hHeld
    have hHeld := hNew
    clear hNew
    try simp only [List.getElem_toArray, List.getElem_cons_succ, List.getElem_cons_zero, Act.put, List.setIfInBounds_toArray, List.set_cons_zero, List.set_cons_succ]
    refine wpAnyL_ready (rs := [2]) (by kernel_rfl) (by simp) ?_
    refine AllReadyL.cons (o := _) rfl (fun K hK => ?_) AllReadyL.nil
    try simp only [List.getElem_toArray, List.getElem_cons_succ, List.getElem_cons_zero]
    go_simp
    refine (CF.out).mono ?_
    rintro e w9 ⟨rfl, hw9⟩
    subst hw9
    clear hHeld
    refine hK.out _ _ ?_ (fun hHeld => ?_)
    · exact (HoldC.cons (mm) HoldC.nil)
    clear hK K
    try simp only [List.getElem_toArray, List.getElem_cons_succ, List.getElem_cons_zero, Act.put, List.setIfInBounds_toArray, List.set_cons_zero, List.set_cons_succ]
    refine wpAnyL_take (i := 3) (oi := _) (v := ?_) rfl (by kernel_rfl) (by kernel_rfl) (by kernel_rfl) (by kernel_rfl) (by kernel_rfl) (fun _ _ _ h => h) (Or.inl ⟨by rfl, ?_⟩) (by assumption) (fun hNew => ?_)
    rotate_left
    · intro w _
      go_simp
      try with_reducible rfl
    clear hHeld
    have hHeld := hNew
    clear hNew
    try simp only [List.getElem_toArray, List.getElem_cons_succ, List.getElem_cons_zero, Act.put, List.setIfInBounds_toArray, List.set_cons_zero, List.set_cons_succ]
    refine wpAnyL_take (i := 4) (oi := _) (v := ?_) rfl (by kernel_rfl) (by kernel_rfl) (by kernel_rfl) (by kernel_rfl) (by kernel_rfl) (fun _ _ _ h => h) (Or.inl ⟨by rfl, ?_⟩) (by assumption) (fun hNew => ?_)
    rotate_left
    · intro w _
      go_simp
      try with_reducible rfl
    clear hHeld
    have hHeld := hNew
    clear hNew
    try simp only [List.getElem_toArray, List.getElem_cons_succ, List.getElem_cons_zero, Act.put, List.setIfInBounds_toArray, List.set_cons_zero, List.set_cons_succ]
    refine wpAnyL_take (i := 5) (oi := _) (v := _) rfl (by kernel_rfl) (by kernel_rfl) (by kernel_rfl) (by kernel_rfl) (by kernel_rfl) (fun _ _ _ h => h) (Or.inr ⟨by rfl, rfl⟩) (by assumption) (fun hNew => ?_)
    clear hHeld
    have hHeld := hNew
    clear hNew
    try simp only [List.getElem_toArray, List.getElem_cons_succ, List.getElem_cons_zero, Act.put, List.setIfInBounds_toArray, List.set_cons_zero, List.set_cons_succ]
    refine wpAnyL_take (i := 6) (oi := _) (v := _) rfl (by kernel_rfl) (by kernel_rfl) (by kernel_rfl) (by kernel_rfl) (by kernel_rfl) (fun _ _ _ h => h) (Or.inr ⟨by rfl, rfl⟩) (by assumption) (fun hNew => ?_)
    clear hHeld
    have hHeld := hNew
    clear hNew
    try simp only [List.getElem_toArray, List.getElem_cons_succ, List.getElem_cons_zero, Act.put, List.setIfInBounds_toArray, List.set_cons_zero, List.set_cons_succ]
    refine wpAnyL_take (i := 7) (oi := _) (v := ?_) rfl (by kernel_rfl) (by kernel_rfl) (by kernel_rfl) (by kernel_rfl) (by kernel_rfl) (fun _ _ _ h => h) (Or.inl ⟨by rfl, ?_⟩) (by assumption) (fun hNew => ?_)
    rotate_left
    · intro w _
      go_simp
      try with_reducible rfl
    clear hHeld
    have hHeld := hNew
    clear hNew
    try simp only [List.getElem_toArray, List.getElem_cons_succ, List.getElem_cons_zero, Act.put, List.setIfInBounds_toArray, List.set_cons_zero, List.set_cons_succ]
    have HR9 : w8.heap[w.heap.size]? = some (.cells (idC ⟨0, 0, 0, 0⟩) 38 (0, 0)) := HR8.out
    obtain ⟨v0, v1, v2, v3⟩ := id_cells HR9
    have y0 := blk_frozen HR9 0
    have y1 := blk_frozen HR9 1
    have y2 := blk_frozen HR9 2
    have y3 := blk_frozen HR9 3
    clear HR9
    refine wpAnyL_ready (rs := [8]) (by kernel_rfl) (by simp) ?_
    refine AllReadyL.cons (o := _) rfl (fun K hK => ?_) AllReadyL.nil
    try simp only [List.getElem_toArray, List.getElem_cons_succ, List.getElem_cons_zero]
    go_simp
    clear hHeld
    refine hK.out _ _ ?_ (fun hHeld => ?_)
    · exact (HoldC.past (by kernel_rfl) HoldC.nil)
    clear hK K
    try simp only [List.getElem_toArray, List.getElem_cons_succ, List.getElem_cons_zero, Act.put, List.setIfInBounds_toArray, List.set_cons_zero, List.set_cons_succ]
    refine wpAnyL_take (i := 9) (oi := _) (v := ?_) rfl (by kernel_rfl) (by kernel_rfl) (by kernel_rfl) (by kernel_rfl) (by kernel_rfl) (fun _ _ _ h => h) (Or.inl ⟨by rfl, ?_⟩) (by assumption) (fun hNew => ?_)
    rotate_left
    · intro w _
      go_simp
      try with_reducible rfl
    clear hHeld
    have hHeld := hNew
    clear hNew
    try simp only [List.getElem_toArray, List.getElem_cons_succ, List.getElem_cons_zero, Act.put, List.setIfInBounds_toArray, List.set_cons_zero, List.set_cons_succ]
    refine wpAnyL_done (by kernel_rfl) ?_ _
    clear hHeld
    go_wp2_with fail
    have HW := Lib.hid (id_written HR8.out ⟨xc, xl, xn, xi⟩)
    refine bodyPost_ret (ret_id rfl _ rfl rfl HW.out) rfl ?_
    refine ⟨by rw [← HX.out, ← HOK.out]; rfl, ?_⟩
    have hc := HC1.out.trans HE8.out.chg (by simp)
    exact (((hc.setCell (.inr (Nat.le_refl _)) _).setCell (.inr (Nat.le_refl _)) _).setCell (.inr (Nat.le_refl _)) _).setCell (.inr (Nat.le_refl _)) _
end Go.Proofs.YtdkhmfcfihbjeaaGreatDoor.W

/- The reference's eye: Num. -/
namespace Go.Proofs.YtdkhmfcfihbjeaaGreatDoor.W
open Go.RowKit
set_option linter.unusedVariables false
set_option linter.unusedSimpArgs false

def REyeV (w : World) (v : Value) (g : Nat) (l : List UInt8) : Prop :=
  (l = [] ∧ ∃ a cap, v = .slice a 0 cap) ∨ ∃ o cap, v = .slice (some ⟨g, o, none⟩) l.length cap ∧ l.length ≤ cap ∧ cap ≤ maxLen ∧ g < w.heap.size ∧ ∀ i, i < l.length → w.cell? ⟨g, o + i, none⟩ = some (bv (l.getD i 0))
theorem REyeV.keepC {w w' : World} {v : Value} {g : Nat} {l : List UInt8} {S : List Nat} (h : REyeV w v g l) (hc : Chg S w w') (hn : g ∉ S) : REyeV w' v g l := by
  rcases h with h | ⟨o, cap, rfl, h1, h2, h3, hcell⟩
  · exact .inl h
  · exact .inr ⟨o, cap, rfl, h1, h2, Nat.lt_of_lt_of_le h3 hc.size, fun i hi => hc.cell (hcell i hi) hn⟩
theorem REyeV.slice {w : World} {v : Value} {g : Nat} {l : List UInt8} (h : REyeV w v g l) : ∃ a cap, v = .slice a l.length cap := by
  rcases h with ⟨rfl, a, cap, rfl⟩ | ⟨o, cap, rfl, _⟩
  · exact ⟨_, _, rfl⟩
  · exact ⟨_, _, rfl⟩
/-- The reference's eye in block b, its bytes in block g. -/
def REyeAt (w : World) (b g : Nat) (l : List UInt8) (bad : Int) : Prop :=
  ∃ v, w.heap[b]? = some (.cells #[v, .int .i64 bad] 127 (0, 0)) ∧ REyeV w v g l ∧ g ≠ b ∧ l.length ≤ 1000000
theorem REyeAt.keep {w w' : World} {b g : Nat} {l : List UInt8} {bad : Int} {S : List Nat} (h : REyeAt w b g l bad) (hc : Chg S w w') (hb : b ∉ S) (hg : g ∉ S) : REyeAt w' b g l bad := by
  obtain ⟨v, h1, h2, h3, h4⟩ := h
  exact ⟨v, hc.keep h1 hb, h2.keepC hc hg, h3, h4⟩
theorem REyeV.dropped {w : World} {g o cap n : Nat} {l : List UInt8} (hl : l.length ≤ cap) (hc : cap ≤ maxLen) (hg : g < w.heap.size) (hcell : ∀ i, i < l.length → w.cell? ⟨g, o + i, none⟩ = some (bv (l.getD i 0))) (hn : n ≤ l.length) :
    REyeV w (.slice (some ⟨g, if cap = n then o else o + n, none⟩) (l.length - n) (cap - n)) g (l.drop n) := by
  right
  have hdl : (l.drop n).length = l.length - n := List.length_drop ..
  refine ⟨if cap = n then o else o + n, cap - n, by rw [hdl], by omega, by omega, hg, fun i hi => ?_⟩
  have h2 : ¬ (cap = n) := by omega
  rw [if_neg h2, getD_drop, Nat.add_assoc]
  exact hcell (n + i) (by omega)

set_option maxHeartbeats 4000000 in
set_option maxRecDepth 100000 in
theorem rnum_ok (b g o cap : Nat) (l : List UInt8) (n : Nat) (w : World) (h : w.heap[b]? = some (.cells #[.slice (some ⟨g, o, none⟩) l.length cap, .int .i64 0] 127 (0, 0)))
    (hl : l.length ≤ cap) (hc : cap ≤ maxLen) (hcell : ∀ i, i < l.length → w.cell? ⟨g, o + i, none⟩ = some (bv (l.getD i 0))) (h1 : 1 ≤ n) (h7 : n ≤ 7) (hn : n ≤ l.length) (hll : l.length ≤ 1000000) :
    Calls Tryz.prog 59 #[.pointer (some ⟨b, 0, none⟩), .int .i64 n] w fun e w' => e = .returned (.int .i64 (beNum (l.take n))) ∧
      w' = w.setCell ⟨b, 0, none⟩ (.slice (some ⟨g, if cap = n then o else o + n, none⟩) (l.length - n) (cap - n)) := by
  have b0 := blk_cell h 0 _ rfl
  have b1 := blk_cell h 1 _ rfl
  have f0 := blk_frozen h 0
  have hbl := blk_lt h
  have HC := Lib.hid hcell
  have HL := Lib.hid hl
  unfold maxLen at hc
  have hcapn : n ≤ cap := by omega
  have hn1 : ¬ ((n : Int) < 1) := by omega
  have hn7 : ¬ ((7 : Int) < (n : Int)) := by omega
  have q1 : decide ((n : Int) < 1) = false := by simpa using hn1
  have q7 : decide ((7 : Int) < (n : Int)) = false := by simpa using hn7
  have ql : decide (l.length < n) = false := by simp; omega
  clear h hcell
  obtain rfl | hcn := Decidable.em (n = cap)
  all_goals
    try (have hcn' : ¬ (cap = n) := fun h => hcn h.symm)
    try clear hcn
    go_enter Tryz.func59, Tryz.ntmps59
    go_wp2
    go_loop [5, 6] (fun x i => ∃ k : Nat, k ≤ n ∧ i = .int .i64 k ∧ x = .int .i64 (beNum (l.take k))) (fun _ i => n - (intOf i).toNat)
    case atStart => exact ⟨0, Nat.zero_le _, rfl, rfl⟩
    case round =>
      obtain ⟨k, hk, rfl, rfl⟩ := hrel
      by_cases hlt : k < n
      · have hcl := HC.out k (by omega)
        have hb := beNum_take_le l k (by omega)
        have hkz : (k : Int) < (n : Int) := by omega
        have hkl : (k : Int) < (l.length : Int) := by omega
        have hkz1 : (k : Int).toNat = k := by omega
        obtain ⟨c, hcc⟩ : ∃ c, c = l.getD k 0 := ⟨_, rfl⟩
        rw [← hcc] at hcl
        have hc8 := c.toNat_lt
        have HX : Hid (beNum (l.take (k + 1)) = beNum (l.take k) * 256 + c.toNat) := Lib.hid (by rw [take_snocU l k (by omega), beNum_snoc, hcc])
        clear hcc
        obtain ⟨x, hx⟩ : ∃ x, x = beNum (l.take k) := ⟨_, rfl⟩
        rw [← hx] at hb HX ⊢
        clear hx
        unfold bv at hcl
        have hor : bits .or .i64 ((x : Int) * 256) (c.toNat : Int) = ((x * 256 + c.toNat : Nat) : Int) := by
          have := i64_or_nat (x * 256) c.toNat (by omega) (by omega)
          rw [or_byte] at this
          simpa using this
        go_wp2
        go_round
        case rel => exact ⟨k + 1, by omega, by go_num, by rw [HX.out]; go_num⟩
        case measure => simp [intOf]; omega
      · have hk9 : k = n := by omega
        have HK := Lib.hid hk9
        clear hk9
        go_wp2
        go_ret
        exact ⟨by rw [HK.out]; rfl, rfl⟩

set_option maxHeartbeats 2000000 in
set_option maxRecDepth 100000 in
theorem rnum_short (b : Nat) (a : Option Addr) (L cap : Nat) (n : Nat) (w : World) (h : w.heap[b]? = some (.cells #[.slice a L cap, .int .i64 0] 127 (0, 0)))
    (h1 : 1 ≤ n) (h7 : n ≤ 7) (hn : L < n) :
    Calls Tryz.prog 59 #[.pointer (some ⟨b, 0, none⟩), .int .i64 n] w fun e w' => e = .returned (.int .i64 0) ∧ w' = w.setCell ⟨b, 1, none⟩ (.int .i64 2) := by
  have b0 := blk_cell h 0 _ rfl
  have b1 := blk_cell h 1 _ rfl
  have f1 := blk_frozen h 1
  have hbl := blk_lt h
  have q1 : decide ((n : Int) < 1) = false := by simp; omega
  have q7 : decide ((7 : Int) < (n : Int)) = false := by simp; omega
  have ql : decide (L < n) = true := by simp; omega
  clear h
  go_enter Tryz.func59, Tryz.ntmps59
  go_wp2
  go_ret
  exact ⟨rfl, rfl⟩

set_option maxHeartbeats 2000000 in
set_option maxRecDepth 100000 in
theorem rnum_bad (b : Nat) (v : Value) (bad n : Int) (w : World) (h : w.heap[b]? = some (.cells #[v, .int .i64 bad] 127 (0, 0))) (hb : bad ≠ 0) :
    Calls Tryz.prog 59 #[.pointer (some ⟨b, 0, none⟩), .int .i64 n] w fun e w' => e = .returned (.int .i64 0) ∧ w = w' := by
  have b1 := blk_cell h 1 _ rfl
  have hbl := blk_lt h
  have q1 : (bad == 0) = false := by simp [hb]
  have q2 : (bad != 0) = true := by simp [hb]
  clear h hb
  go_enter Tryz.func59, Tryz.ntmps59
  go_wp2
  go_ret
  exact ⟨rfl, rfl⟩

/-- The reference's Num. -/
theorem rnum_any (b g : Nat) (l : List UInt8) (bad : Int) (width : Int) (w : World) (h : REyeAt w b g l bad) (h1 : 1 ≤ width) (h7 : width ≤ 7) :
    Calls Tryz.prog 59 #[.pointer (some ⟨b, 0, none⟩), .int .i64 width] w fun e w' => e = .returned (.int .i64 (eyeNum l bad width.toNat).1) ∧
      REyeAt w' b g (eyeNum l bad width.toNat).2.1 (eyeNum l bad width.toNat).2.2 ∧ Chg [b] w w' := by
  obtain ⟨n, rfl⟩ := Int.eq_ofNat_of_zero_le (show 0 ≤ width by omega)
  rw [Int.toNat_natCast]
  have hE := h
  obtain ⟨v, hb, hv, hgb, hll⟩ := h
  by_cases hbad : bad = 0
  · subst hbad
    by_cases hlen : l.length < n
    · obtain ⟨a, cap, rfl⟩ := hv.slice
      rw [show eyeNum l 0 n = (0, l, 2) by unfold eyeNum; rw [if_neg (by simp), if_pos hlen]]
      refine (rnum_short b a _ cap n w hb (by omega) (by omega) hlen).mono ?_
      rintro e w' ⟨rfl, rfl⟩
      have hc := (Chg.refl [b] w).setCell (p := ⟨b, 1, none⟩) (.inl (by simp)) (.int .i64 2)
      exact ⟨rfl, ⟨_, set_blk hb, hv.keepC hc (by simp; exact hgb), hgb, hll⟩, hc⟩
    · rw [show eyeNum l 0 n = ((beNum (l.take n) : Int), l.drop n, 0) by unfold eyeNum; rw [if_neg (by simp), if_neg hlen]]
      rcases hv with ⟨rfl, _⟩ | ⟨o, cap, rfl, hlc, hcm, hg, hcell⟩
      · simp at hlen; omega
      refine (rnum_ok b g o cap l n w hb hlc hcm hcell (by omega) (by omega) (by omega) hll).mono ?_
      rintro e w' ⟨rfl, rfl⟩
      have hc := (Chg.refl [b] w).setCell (p := ⟨b, 0, none⟩) (.inl (by simp)) (.slice (some ⟨g, if cap = n then o else o + n, none⟩) (l.length - n) (cap - n))
      exact ⟨rfl, ⟨_, set_blk hb, (REyeV.dropped hlc hcm hg hcell (by omega)).keepC hc (by simp; exact hgb), hgb, by show (l.drop n).length ≤ _; rw [List.length_drop]; omega⟩, hc⟩
  · rw [show eyeNum l bad n = (0, l, bad) by unfold eyeNum; rw [if_pos hbad]]
    refine (rnum_bad b v bad n w hb hbad).mono ?_
    rintro e w' ⟨rfl, rfl⟩
    exact ⟨rfl, hE, Chg.refl _ _⟩

end Go.Proofs.YtdkhmfcfihbjeaaGreatDoor.W

/- Package wire's eye: Bool. -/
namespace Go.Proofs.YtdkhmfcfihbjeaaGreatDoor.W
open Go.RowKit
set_option linter.unusedVariables false
set_option linter.unusedSimpArgs false

end Go.Proofs.YtdkhmfcfihbjeaaGreatDoor.W

/- The reference's eye: Bool, Form, Fall. -/
namespace Go.Proofs.YtdkhmfcfihbjeaaGreatDoor.W
open Go.RowKit
set_option linter.unusedVariables false
set_option linter.unusedSimpArgs false

end Go.Proofs.YtdkhmfcfihbjeaaGreatDoor.W

/- The reference's eye: Raw. -/
namespace Go.Proofs.YtdkhmfcfihbjeaaGreatDoor.W
open Go.RowKit
set_option linter.unusedVariables false
set_option linter.unusedSimpArgs false

theorem REyeV.bytes {w : World} {v : Value} {g : Nat} {l : List UInt8} (h : REyeV w v g l) : ∃ a cap, v = .slice a l.length cap ∧ (l = [] ∨ ∃ o, a = some ⟨g, o, none⟩ ∧ l.length ≤ cap ∧ cap ≤ maxLen ∧ g < w.heap.size ∧ ∀ i, i < l.length → w.cell? ⟨g, o + i, none⟩ = some (bv (l.getD i 0))) := by
  rcases h with ⟨rfl, a, cap, rfl⟩ | ⟨o, cap, rfl, h1, h2, h3, hc⟩
  · exact ⟨a, cap, rfl, .inl rfl⟩
  · exact ⟨_, cap, rfl, .inr ⟨o, rfl, h1, h2, h3, hc⟩⟩

end Go.Proofs.YtdkhmfcfihbjeaaGreatDoor.W

/- Package server: getId, and the reference's (printed by gen_svg.py). -/
namespace Go.Proofs.YtdkhmfcfihbjeaaGreatDoor.W
open Go.RowKit
set_option linter.unusedVariables false
set_option linter.unusedSimpArgs false

/-! ### Plainly: what is left, and the error -/
def enV (s : PB) (n : Nat) : Int := (eyeNum s.1 s.2 n).1
def enS (s : PB) (n : Nat) : PB := ((eyeNum s.1 s.2 n).2.1, (eyeNum s.1 s.2 n).2.2)
def erV (s : PB) : List UInt8 := (eyeRaw s.1 s.2 65535).1
def erS (s : PB) : PB := ((eyeRaw s.1 s.2 65535).2.1, (eyeRaw s.1 s.2 65535).2.2)
def giV (s : PB) : Id := ⟨enV s 1, enV (enS s 1) 3, enV (enS (enS s 1) 3) 4, enV (enS (enS (enS s 1) 3) 4) 1⟩
def giS (s : PB) : PB := enS (enS (enS (enS s 1) 3) 4) 1
theorem REyeAt.pick {w : World} {b g : Nat} {l : List UInt8} {bad : Int} (h : REyeAt w b g l bad) (M : Nat) (hM : M ≠ b) : ∃ g', REyeAt w b g' l bad ∧ (g' = g ∧ g < w.heap.size ∨ g' = M) := by
  obtain ⟨v, hb, hv, hgb, hl⟩ := h
  rcases hv with ⟨h1, a, cap, h2⟩ | ⟨o, cap, h1, h2, h3, h4, h5⟩
  · exact ⟨M, ⟨v, hb, .inl ⟨h1, a, cap, h2⟩, hM, hl⟩, .inr rfl⟩
  · exact ⟨g, ⟨v, hb, .inr ⟨o, cap, h1, h2, h3, h4, h5⟩, hgb, hl⟩, .inl ⟨rfl, h4⟩⟩
theorem REyeAt.blt {w : World} {b g : Nat} {l : List UInt8} {bad : Int} (h : REyeAt w b g l bad) : b < w.heap.size := by obtain ⟨v, hb, _⟩ := h; exact blk_lt hb
theorem EyeAt.blt {w : World} {b g : Nat} {l : List UInt8} {bad : Int} (h : EyeAt w b g l bad) : b < w.heap.size := by obtain ⟨v, hb, _⟩ := h; exact blk_lt hb
theorem ret_idc {fn : Func} {p : Tmp} (h : fn.results = #[.cell p 38]) (tmps : Array Value) {w : World} {b t : Nat} {x : Id} (hp : tmps.getD p undef = .pointer (some ⟨b, 0, none⟩)) (hb : w.heap[b]? = some (.cells (idC x) t (0, 0))) :
    (results fn tmps).run Tryz.prog w = .ok (idV x) w := by
  have hl := run_loadVar_row (P := Tryz.prog) w b t 38 (idC x) (0, 0) _ hb Tryz.underlying38 rfl (by rw [idSize]; rfl)
  have he : (results fn tmps).run Tryz.prog w = ((asAddr (tmps.getD p undef)).run Tryz.prog w).andThen fun a w₁ => (loadVar 38 a).run Tryz.prog w₁ := by
    simp only [results, h]
    simp [Sem.run_bind, Result.andThen]
  rw [he, hp]
  simp only [asAddr, Sem.run_pure, Result.andThen_ok, hl]
theorem idf_cells {w : World} {N t : Nat} {a c d e : Int} (h : w.heap[N]? = some (.cells (idC ⟨a, c, d, e⟩) t (0, 0))) : (w.cell? ⟨N, 0, none⟩ = some (.int .i64 a) ∧ w.cell? ⟨N, 1, none⟩ = some (.int .i64 c) ∧ w.cell? ⟨N, 2, none⟩ = some (.int .i64 d) ∧ w.cell? ⟨N, 3, none⟩ = some (.int .i64 e)) ∧
    w.frozen? ⟨N, 0, none⟩ = false ∧ w.frozen? ⟨N, 1, none⟩ = false ∧ w.frozen? ⟨N, 2, none⟩ = false ∧ w.frozen? ⟨N, 3, none⟩ = false :=
  ⟨id_cells h, blk_frozen h 0, blk_frozen h 1, blk_frozen h 2, blk_frozen h 3⟩

/-- An eye of our own, beside the blocks K. -/
structure EyeS (K : List Nat) (w0 w : World) (b : Nat) (s : PB) : Prop where
  eye : ∃ g, EyeAt w b g s.1 s.2 ∧ g ∉ K
  own : w0.heap.size ≤ b ∧ b ∉ K
  chg : Chg [] w0 w
  lim : ∀ x ∈ K, x < w.heap.size
def EyeP (K : List Nat) (w0 w : World) (b : Nat) (v : Value) (s : PB) (e : Ending) (w' : World) : Prop := e = .returned v ∧ EyeS K w0 w' b s ∧ ∀ x ∈ K, w'.heap[x]? = w.heap[x]?
section
variable {K Y : List Nat} {w0 w w' : World} {b : Nat} {s s' : PB}
theorem EyeS.step {g : Nat} (h : EyeS K w0 w b s) (hg : g ∉ K) (he : EyeAt w' b g s'.1 s'.2) (hc : Chg [b] w w') : EyeS K w0 w' b s' ∧ ∀ x ∈ K, w'.heap[x]? = w.heap[x]? :=
  ⟨⟨⟨g, he, hg⟩, h.own, h.chg.trans hc (fun x hx => by rw [List.mem_singleton.1 hx]; exact .inr h.own.1), fun x hx => Nat.lt_of_lt_of_le (h.lim x hx) hc.size⟩, fun x hx => hc.block x (h.lim x hx) (fun hm => h.own.2 (by rw [← List.mem_singleton.1 hm]; exact hx))⟩
theorem EyeS.add (h : EyeS K w0 w b s) (hc : Chg [] w w') (hY : ∀ k ∈ Y, k ∈ K ∨ (w.heap.size ≤ k ∧ k < w'.heap.size)) : EyeS Y w0 w' b s := by
  obtain ⟨g, he, hg⟩ := h.eye
  have hb := he.blt
  obtain ⟨g', he', hg'⟩ := he.pick (w'.heap.size + b + 1) (by omega)
  refine ⟨⟨g', he'.keep hc (by simp) (by simp), fun hm => ?_⟩, ⟨h.own.1, fun hm => ?_⟩, h.chg.trans hc (by simp), fun x hx => ?_⟩
  · rcases hg' with ⟨rfl, h1⟩ | rfl
    · rcases hY _ hm with h2 | h2
      · exact hg h2
      · omega
    · rcases hY _ hm with h2 | h2
      · have := h.lim _ h2; have := hc.size; omega
      · omega
  · rcases hY _ hm with h2 | h2
    · exact h.own.2 h2
    · omega
  · rcases hY x hx with h2 | h2
    · exact Nat.lt_of_lt_of_le (h.lim x h2) hc.size
    · exact h2.2
theorem EyeS.sub (h : EyeS K w0 w b s) (hY : ∀ k ∈ Y, k ∈ K) : EyeS Y w0 w b s := by
  obtain ⟨g, he, hg⟩ := h.eye
  exact ⟨⟨g, he, fun hm => hg (hY g hm)⟩, ⟨h.own.1, fun hm => h.own.2 (hY b hm)⟩, h.chg, fun x hx => h.lim x (hY x hx)⟩
theorem EyeS.set {N : Nat} (h : EyeS K w0 w b s) (hN : N ∈ K) (hN0 : w0.heap.size ≤ N) (j : Nat) (u : Value) : EyeS K w0 (w.setCell ⟨N, j, none⟩ u) b s := by
  obtain ⟨g, he, hg⟩ := h.eye
  have hc : Chg [N] w (w.setCell ⟨N, j, none⟩ u) := (Chg.refl [N] w).setCell (p := ⟨N, j, none⟩) (.inl (by simp)) u
  exact ⟨⟨g, he.keep hc (fun hm => h.own.2 (by rw [List.mem_singleton.1 hm]; exact hN)) (fun hm => hg (by rw [List.mem_singleton.1 hm]; exact hN)), hg⟩, h.own, h.chg.trans hc (fun x hx => by rw [List.mem_singleton.1 hx]; exact .inr hN0), fun x hx => by have := h.lim x hx; simpa [World.setCell] using this⟩
theorem esNum (h : EyeS K w0 w b s) (n : Nat) (h1 : 1 ≤ n) (h7 : n ≤ 7) : Calls Tryz.prog 54 #[.pointer (some ⟨b, 0, none⟩), .int .i64 (n : Int)] w (EyeP K w0 w b (.int .i64 (enV s n)) (enS s n)) := by
  obtain ⟨g, he, hg⟩ := h.eye
  refine (enum_any b g s.1 s.2 (n : Int) w he (by omega) (by omega)).mono ?_
  rintro e w' ⟨rfl, h2, h3⟩
  rw [Int.toNat_natCast] at h2 ⊢
  exact ⟨rfl, h.step (s' := enS s n) hg h2 h3⟩
theorem esRaw (h : EyeS K w0 w b s) : Calls Tryz.prog 57 #[.pointer (some ⟨b, 0, none⟩), .int .i64 65535] w fun e w' => ∃ v, EyeP K w0 w b v (erS s) e w' ∧ BRow w' v (erV s) ∧ (∀ k, v.ownBlock = some k → w.heap.size ≤ k) ∧ Chg [b] w w' := by
  obtain ⟨g, he, hg⟩ := h.eye
  refine (eraw_any b g s.1 s.2 65535 w he (by omega)).mono ?_
  rintro e w' ⟨v, rfl, h1, h2, h3, h4⟩
  exact ⟨v, ⟨rfl, h.step (s' := erS s) hg h3 h4⟩, h1, h2, h4⟩
theorem esEnd (h : EyeS K w0 w b s) : Calls Tryz.prog 58 #[.pointer (some ⟨b, 0, none⟩)] w fun e w' => e = .returned (.int .i64 (endOf s.1 s.2)) ∧ w = w' := by
  obtain ⟨g, he, hg⟩ := h.eye
  exact eend_any b g s.1 s.2 w he
theorem esFail (h : EyeS K w0 w b s) : Calls Tryz.prog 55 #[.pointer (some ⟨b, 0, none⟩)] w fun e w' => e = .returned (.int .i64 s.2) ∧ w = w' := by
  obtain ⟨g, he, hg⟩ := h.eye
  exact efail_any b g s.1 s.2 w he
set_option maxHeartbeats 4000000 in
set_option maxRecDepth 100000 in
theorem esGetId (h : EyeS K w0 w b s) : Calls Tryz.prog 56 #[.pointer (some ⟨b, 0, none⟩)] w (EyeP K w0 w b (idV (giV s)) (giS s)) := by
  obtain ⟨A, hA⟩ : ∃ A, A = w.heap.size := ⟨_, rfl⟩
  obtain ⟨w1, hw1⟩ : ∃ w1, w1 = (w.alloc (.cells (idC ⟨0, 0, 0, 0⟩) 38)).alloc (.cells (idC ⟨0, 0, 0, 0⟩) 38) := ⟨_, rfl⟩
  have hc1 : Chg [] w w1 := by rw [hw1]; exact ((Chg.refl [] w).alloc _).alloc _
  have hbA : w1.heap[A]? = some (.cells (idC ⟨0, 0, 0, 0⟩) 38 (0, 0)) := by rw [hw1, hA]; exact blk_alloc (heap_alloc_new w _)
  have hbB : w1.heap[A + 1]? = some (.cells (idC ⟨0, 0, 0, 0⟩) 38 (0, 0)) := by rw [hw1, hA]; exact heap_at (by simp)
  have hs := h.chg.size
  have hA0 : w0.heap.size ≤ A := by omega
  have hlA := blk_lt hbB
  have h1 : EyeS (A :: (A + 1) :: K) w0 w1 b s := h.add hc1 (fun k hk => by
    rcases List.mem_cons.1 hk with rfl | hk
    · exact .inr ⟨by omega, by omega⟩
    · rcases List.mem_cons.1 hk with rfl | hk
      · exact .inr ⟨by omega, hlA⟩
      · exact .inl hk)
  have HK1 : Hid (∀ y ∈ K, w1.heap[y]? = w.heap[y]? ∧ y < A) := Lib.hid (fun y hy => ⟨hc1.block y (h.lim y hy) (by simp), by have := h.lim y hy; omega⟩)
  have HAA := Lib.hid hbA
  have HA := Lib.hid hA
  have HW1 := Lib.hid hw1
  obtain ⟨⟨m0, m1, m2, m3⟩, f0, f1, f2, f3⟩ := idf_cells hbB
  have HBB := Lib.hid hbB
  have C1 := Lib.hid (esNum h1 1 (by omega) (by omega))
  have HG : Hid (giV s = ⟨enV s 1, enV (enS s 1) 3, enV (enS (enS s 1) 3) 4, enV (enS (enS (enS s 1) 3) 4) 1⟩ ∧ giS s = enS (enS (enS (enS s 1) 3) 4) 1) := Lib.hid ⟨rfl, rfl⟩
  have HA0 := Lib.hid hA0
  generalize giV s = gv at *
  generalize giS s = gs at *
  clear hw1 hc1 hbA hbB hs hA0 hlA h1 h hA
  go_enter Tryz.func56, Tryz.ntmps56
  go_wp2_with fail
  rw [← HW1.out, ← HA.out]
  refine C1.out.mono ?_
  rintro e w2 ⟨rfl, h2, k2⟩
  have HB2 := Lib.hid (keepO HBB.out (k2 (A + 1) (by simp)))
  have HA2 := Lib.hid (keepO HAA.out (k2 A (by simp)))
  have HK2 := Lib.hid k2
  have C2 := Lib.hid (esNum (h2.set (N := A + 1) (by simp) (by have := HA0.out; omega) 0 (.int .i64 (enV s 1))) 3 (by omega) (by omega))
  have HS2 := Lib.hid (set_blk (j := 0) (u := .int .i64 (enV s 1)) HB2.out)
  clear m0 m1 m2 m3 f0 f1 f2 f3
  obtain ⟨⟨m0, m1, m2, m3⟩, f0, f1, f2, f3⟩ := idf_cells HB2.out
  clear h2 k2 C1
  go_wp2_with fail
  refine C2.out.mono ?_
  rintro e w3 ⟨rfl, h3, k3⟩
  have HB3 : Hid (w3.heap[A + 1]? = some (.cells (idC ⟨enV s 1, 0, 0, 0⟩) 38 (0, 0))) := Lib.hid (keepO HS2.out (k3 (A + 1) (by simp)))
  have HK3 := Lib.hid k3
  have C3 := Lib.hid (esNum (h3.set (N := A + 1) (by simp) (by have := HA0.out; omega) 1 (.int .i64 (enV (enS s 1) 3))) 4 (by omega) (by omega))
  have HS3 := Lib.hid (set_blk (j := 1) (u := .int .i64 (enV (enS s 1) 3)) HB3.out)
  clear m0 m1 m2 m3 f0 f1 f2 f3
  obtain ⟨⟨m0, m1, m2, m3⟩, f0, f1, f2, f3⟩ := idf_cells HB3.out
  clear h3 k3 C2
  go_wp2_with fail
  refine C3.out.mono ?_
  rintro e w4 ⟨rfl, h4, k4⟩
  have HB4 : Hid (w4.heap[A + 1]? = some (.cells (idC ⟨enV s 1, enV (enS s 1) 3, 0, 0⟩) 38 (0, 0))) := Lib.hid (keepO HS3.out (k4 (A + 1) (by simp)))
  have HK4 := Lib.hid k4
  have C4 := Lib.hid (esNum (h4.set (N := A + 1) (by simp) (by have := HA0.out; omega) 2 (.int .i64 (enV (enS (enS s 1) 3) 4))) 1 (by omega) (by omega))
  have HS4 := Lib.hid (set_blk (j := 2) (u := .int .i64 (enV (enS (enS s 1) 3) 4)) HB4.out)
  clear m0 m1 m2 m3 f0 f1 f2 f3
  obtain ⟨⟨m0, m1, m2, m3⟩, f0, f1, f2, f3⟩ := idf_cells HB4.out
  clear h4 k4 C3
  go_wp2_with fail
  refine C4.out.mono ?_
  rintro e w5 ⟨rfl, h5, k5⟩
  have HB5 : Hid (w5.heap[A + 1]? = some (.cells (idC ⟨enV s 1, enV (enS s 1) 3, enV (enS (enS s 1) 3) 4, 0⟩) 38 (0, 0))) := Lib.hid (keepO HS4.out (k5 (A + 1) (by simp)))
  have HA5 : Hid (w5.heap[A]? = some (.cells (idC ⟨0, 0, 0, 0⟩) 38 (0, 0))) := Lib.hid (by
    have e0 : A ≠ A + 1 := by omega
    exact keepO (blk_sets (keepO (blk_sets (keepO (blk_sets HA2.out e0) (HK3.out A (by simp))) e0) (HK4.out A (by simp))) e0) (k5 A (by simp)))
  have HK5 : Hid (∀ y ∈ K, w5.heap[y]? = w.heap[y]?) := Lib.hid (fun y hy => by
    have hm : y ∈ A :: (A + 1) :: K := List.mem_cons_of_mem _ (List.mem_cons_of_mem _ hy)
    have hlt := (HK1.out y hy).2
    have hb : ∀ (a : World) (j : Nat) (u : Value), (a.setCell ⟨A + 1, j, none⟩ u).heap[y]? = a.heap[y]? := fun a j u => Below.heap_setCell a ⟨A + 1, j, none⟩ u y (by show y ≠ A + 1; omega)
    rw [k5 y hm, hb, HK4.out y hm, hb, HK3.out y hm, hb, HK2.out y hm, (HK1.out y hy).1])
  have HS5 := Lib.hid (set_blk (j := 3) (u := .int .i64 (enV (enS (enS (enS s 1) 3) 4) 1)) HB5.out)
  have H5 := Lib.hid (h5.set (N := A + 1) (by simp) (by have := HA0.out; omega) 3 (.int .i64 (enV (enS (enS (enS s 1) 3) 4) 1)))
  clear m0 m1 m2 m3 f0 f1 f2 f3
  obtain ⟨⟨m0, m1, m2, m3⟩, f0, f1, f2, f3⟩ := idf_cells HB5.out
  obtain ⟨⟨p0, p1, p2, p3⟩, g0, g1, g2, g3⟩ := idf_cells HA5.out
  clear h5 k5 C4
  have HFA : ∀ x : Id, Hid ((((((w5.setCell ⟨A + 1, 3, none⟩ (.int .i64 (enV (enS (enS (enS s 1) 3) 4) 1))).setCell ⟨A, 0, none⟩ (.int .i64 x.c)).setCell ⟨A, 1, none⟩ (.int .i64 x.l)).setCell ⟨A, 2, none⟩ (.int .i64 x.n)).setCell ⟨A, 3, none⟩ (.int .i64 x.i)).heap[A]? = some (.cells (idC x) 38 (0, 0))) := fun x => Lib.hid (id_written (blk_sets HA5.out (by omega)) x)
  have HES : ∀ x : Id, Hid (EyeS K w0 (((((w5.setCell ⟨A + 1, 3, none⟩ (.int .i64 (enV (enS (enS (enS s 1) 3) 4) 1))).setCell ⟨A, 0, none⟩ (.int .i64 x.c)).setCell ⟨A, 1, none⟩ (.int .i64 x.l)).setCell ⟨A, 2, none⟩ (.int .i64 x.n)).setCell ⟨A, 3, none⟩ (.int .i64 x.i)) b gs) := fun x => Lib.hid (by
    rw [HG.out.2]
    have h0 := HA0.out
    exact ((((H5.out.set (N := A) (by simp) h0 0 _).set (N := A) (by simp) h0 1 _).set (N := A) (by simp) h0 2 _).set (N := A) (by simp) h0 3 _).sub (fun k hk => List.mem_cons_of_mem _ (List.mem_cons_of_mem _ hk)))
  have HEK : ∀ x : Id, Hid (∀ y ∈ K, (((((w5.setCell ⟨A + 1, 3, none⟩ (.int .i64 (enV (enS (enS (enS s 1) 3) 4) 1))).setCell ⟨A, 0, none⟩ (.int .i64 x.c)).setCell ⟨A, 1, none⟩ (.int .i64 x.l)).setCell ⟨A, 2, none⟩ (.int .i64 x.n)).setCell ⟨A, 3, none⟩ (.int .i64 x.i)).heap[y]? = w.heap[y]?) := fun x => Lib.hid (fun y hy => by
    have hlt := (HK1.out y hy).2
    have hb : ∀ (a : World) (N j : Nat) (u : Value), A ≤ N → (a.setCell ⟨N, j, none⟩ u).heap[y]? = a.heap[y]? := fun a N j u hN => Below.heap_setCell a ⟨N, j, none⟩ u y (by show y ≠ N; omega)
    rw [hb _ _ _ _ (Nat.le_refl _), hb _ _ _ _ (Nat.le_refl _), hb _ _ _ _ (Nat.le_refl _), hb _ _ _ _ (Nat.le_refl _), hb _ _ _ _ (by omega), HK5.out y hy])
  have HFX := HFA gv
  have HEX := HES gv
  have HKX := HEK gv
  rw [HG.out.1] at HFX HEX HKX
  clear HFA HES HEK
  go_wp2_with fail
  refine bodyPost_ret (ret_idc rfl _ rfl HFX.out) rfl ?_
  exact ⟨by rw [HG.out.1], HEX.out, HKX.out⟩
end

/-- An eye of our own, beside the blocks K. -/
structure REyeS (K : List Nat) (w0 w : World) (b : Nat) (s : PB) : Prop where
  eye : ∃ g, REyeAt w b g s.1 s.2 ∧ g ∉ K
  own : w0.heap.size ≤ b ∧ b ∉ K
  chg : Chg [] w0 w
  lim : ∀ x ∈ K, x < w.heap.size
section
variable {K Y : List Nat} {w0 w w' : World} {b : Nat} {s s' : PB}
theorem REyeS.step {g : Nat} (h : REyeS K w0 w b s) (hg : g ∉ K) (he : REyeAt w' b g s'.1 s'.2) (hc : Chg [b] w w') : REyeS K w0 w' b s' ∧ ∀ x ∈ K, w'.heap[x]? = w.heap[x]? :=
  ⟨⟨⟨g, he, hg⟩, h.own, h.chg.trans hc (fun x hx => by rw [List.mem_singleton.1 hx]; exact .inr h.own.1), fun x hx => Nat.lt_of_lt_of_le (h.lim x hx) hc.size⟩, fun x hx => hc.block x (h.lim x hx) (fun hm => h.own.2 (by rw [← List.mem_singleton.1 hm]; exact hx))⟩
theorem REyeS.add (h : REyeS K w0 w b s) (hc : Chg [] w w') (hY : ∀ k ∈ Y, k ∈ K ∨ (w.heap.size ≤ k ∧ k < w'.heap.size)) : REyeS Y w0 w' b s := by
  obtain ⟨g, he, hg⟩ := h.eye
  have hb := he.blt
  obtain ⟨g', he', hg'⟩ := he.pick (w'.heap.size + b + 1) (by omega)
  refine ⟨⟨g', he'.keep hc (by simp) (by simp), fun hm => ?_⟩, ⟨h.own.1, fun hm => ?_⟩, h.chg.trans hc (by simp), fun x hx => ?_⟩
  · rcases hg' with ⟨rfl, h1⟩ | rfl
    · rcases hY _ hm with h2 | h2
      · exact hg h2
      · omega
    · rcases hY _ hm with h2 | h2
      · have := h.lim _ h2; have := hc.size; omega
      · omega
  · rcases hY _ hm with h2 | h2
    · exact h.own.2 h2
    · omega
  · rcases hY x hx with h2 | h2
    · exact Nat.lt_of_lt_of_le (h.lim x h2) hc.size
    · exact h2.2
theorem REyeS.sub (h : REyeS K w0 w b s) (hY : ∀ k ∈ Y, k ∈ K) : REyeS Y w0 w b s := by
  obtain ⟨g, he, hg⟩ := h.eye
  exact ⟨⟨g, he, fun hm => hg (hY g hm)⟩, ⟨h.own.1, fun hm => h.own.2 (hY b hm)⟩, h.chg, fun x hx => h.lim x (hY x hx)⟩
theorem REyeS.set {N : Nat} (h : REyeS K w0 w b s) (hN : N ∈ K) (hN0 : w0.heap.size ≤ N) (j : Nat) (u : Value) : REyeS K w0 (w.setCell ⟨N, j, none⟩ u) b s := by
  obtain ⟨g, he, hg⟩ := h.eye
  have hc : Chg [N] w (w.setCell ⟨N, j, none⟩ u) := (Chg.refl [N] w).setCell (p := ⟨N, j, none⟩) (.inl (by simp)) u
  exact ⟨⟨g, he.keep hc (fun hm => h.own.2 (by rw [List.mem_singleton.1 hm]; exact hN)) (fun hm => hg (by rw [List.mem_singleton.1 hm]; exact hN)), hg⟩, h.own, h.chg.trans hc (fun x hx => by rw [List.mem_singleton.1 hx]; exact .inr hN0), fun x hx => by have := h.lim x hx; simpa [World.setCell] using this⟩
end
end Go.Proofs.YtdkhmfcfihbjeaaGreatDoor.W

/- Package server: Decode, and the reference's (printed by gen_svh.py). -/
namespace Go.Proofs.YtdkhmfcfihbjeaaGreatDoor.W
open Go.RowKit
set_option linter.unusedVariables false
set_option linter.unusedSimpArgs false

/-! ### Plainly -/
def reqDec (l : List UInt8) : Rq × Int :=
  if (enS (l, 0) 1).2 = 0 ∧ kindB (enV (l, 0) 1) = false then (noRq, 4) else
  if endOf (erS (giS (enS (l, 0) 1))).1 (erS (giS (enS (l, 0) 1))).2 ≠ 0 then (noRq, endOf (erS (giS (enS (l, 0) 1))).1 (erS (giS (enS (l, 0) 1))).2) else
  (⟨enV (l, 0) 1, giV (enS (l, 0) 1), erV (giS (enS (l, 0) 1))⟩, 0)
theorem enS_bad {s : PB} (h : s.2 ≠ 0) (n : Nat) : enS s n = s ∧ enV s n = 0 := by
  unfold enS enV eyeNum
  rw [if_pos h]
  exact ⟨rfl, rfl⟩
theorem giS_bad {s : PB} (h : s.2 ≠ 0) : giS s = s := by
  unfold giS
  rw [(enS_bad h 1).1, (enS_bad h 3).1, (enS_bad h 4).1, (enS_bad h 1).1]
/-- What a decoder of requests answers. -/
def DecPost (w0 : World) (r : Rq × Int) (e : Ending) (w' : World) : Prop := ∃ bv, e = .returned (.tuple #[rqV r.1 bv, .int .i64 r.2]) ∧ BytesAt w' bv r.1.b ∧ (∀ k, bv.ownBlock = some k → w0.heap.size ≤ k) ∧ Chg [] w0 w'
theorem six_cells {w : World} {N t : Nat} {a0 a1 a2 a3 a4 a5 : Value} (h : w.heap[N]? = some (.cells #[a0, a1, a2, a3, a4, a5] t (0, 0))) :
    (w.cell? ⟨N, 0, none⟩ = some a0 ∧ w.cell? ⟨N, 1, none⟩ = some a1 ∧ w.cell? ⟨N, 2, none⟩ = some a2 ∧ w.cell? ⟨N, 3, none⟩ = some a3 ∧ w.cell? ⟨N, 4, none⟩ = some a4 ∧ w.cell? ⟨N, 5, none⟩ = some a5) ∧
    w.frozen? ⟨N, 0, none⟩ = false ∧ w.frozen? ⟨N, 1, none⟩ = false ∧ w.frozen? ⟨N, 2, none⟩ = false ∧ w.frozen? ⟨N, 3, none⟩ = false ∧ w.frozen? ⟨N, 4, none⟩ = false ∧ w.frozen? ⟨N, 5, none⟩ = false :=
  ⟨⟨blk_cell h 0 _ rfl, blk_cell h 1 _ rfl, blk_cell h 2 _ rfl, blk_cell h 3 _ rfl, blk_cell h 4 _ rfl, blk_cell h 5 _ rfl⟩, blk_frozen h 0, blk_frozen h 1, blk_frozen h 2, blk_frozen h 3, blk_frozen h 4, blk_frozen h 5⟩
theorem four_mid {w : World} {N t : Nat} {a0 a1 a2 a3 a4 a5 u1 u2 u3 u4 : Value} (h : w.heap[N]? = some (.cells #[a0, a1, a2, a3, a4, a5] t (0, 0))) :
    ((((w.setCell ⟨N, 1, none⟩ u1).setCell ⟨N, 2, none⟩ u2).setCell ⟨N, 3, none⟩ u3).setCell ⟨N, 4, none⟩ u4).heap[N]? = some (.cells #[a0, u1, u2, u3, u4, a5] t (0, 0)) :=
  set_blk (set_blk (set_blk (set_blk h)))
theorem set_six {w : World} {b t : Nat} {a0 a1 a2 a3 a4 a5 : Value} (h : w.heap[b]? = some (.cells #[a0, a1, a2, a3, a4, a5] t (0, 0))) (u0 u1 u2 u3 u4 u5 : Value) :
    ((((((w.setCell ⟨b, 0, none⟩ u0).setCell ⟨b, 1, none⟩ u1).setCell ⟨b, 2, none⟩ u2).setCell ⟨b, 3, none⟩ u3).setCell ⟨b, 4, none⟩ u4).setCell ⟨b, 5, none⟩ u5).heap[b]? = some (.cells #[u0, u1, u2, u3, u4, u5] t (0, 0)) := six_set h u0 u1 u2 u3 u4 u5
theorem chg_six {w0 w : World} (hc : Chg [] w0 w) {b : Nat} (hb : w0.heap.size ≤ b) (u0 u1 u2 u3 u4 u5 : Value) :
    Chg [] w0 ((((((w.setCell ⟨b, 0, none⟩ u0).setCell ⟨b, 1, none⟩ u1).setCell ⟨b, 2, none⟩ u2).setCell ⟨b, 3, none⟩ u3).setCell ⟨b, 4, none⟩ u4).setCell ⟨b, 5, none⟩ u5) :=
  (((((hc.setCell (.inr hb) _).setCell (.inr hb) _).setCell (.inr hb) _).setCell (.inr hb) _).setCell (.inr hb) _).setCell (.inr hb) _
theorem bytes_six {w : World} {v : Value} {l : List UInt8} (h : BytesAt w v l) {b : Nat} (hb : ∀ k, v.ownBlock = some k → k ≠ b) (u0 u1 u2 u3 u4 u5 : Value) :
    BytesAt ((((((w.setCell ⟨b, 0, none⟩ u0).setCell ⟨b, 1, none⟩ u1).setCell ⟨b, 2, none⟩ u2).setCell ⟨b, 3, none⟩ u3).setCell ⟨b, 4, none⟩ u4).setCell ⟨b, 5, none⟩ u5) v l := by
  refine h.chg (S := [b]) ((((((((Chg.refl [b] w).setCell (.inl ?_) _).setCell (.inl ?_) _).setCell (.inl ?_) _).setCell (.inl ?_) _).setCell (.inl ?_) _).setCell (.inl ?_) _)) (fun k hk hm => hb k hk (List.mem_singleton.1 hm)) <;> simp

theorem ret_rq {fn : Func} {p u : Tmp} (h : fn.results = #[.cell p 40, .tmp u]) (tmps : Array Value) {w : World} {b t : Nat} {r : Rq} {bv q : Value} (hp : tmps.getD p undef = .pointer (some ⟨b, 0, none⟩)) (hu : tmps.getD u undef = q) (hb : w.heap[b]? = some (.cells (rqL r bv).toArray t (0, 0))) :
    (results fn tmps).run Tryz.prog w = .ok (.tuple #[rqV r bv, q]) w := by
  have hl := run_loadVar_row (P := Tryz.prog) w b t 40 (rqL r bv).toArray (0, 0) _ hb Tryz.underlying40 rfl (rq_size _ _)
  rw [results_cell_tmp h, hp, hu]
  simp only [asAddr, Sem.run_pure, Result.andThen_ok, hl]
  rfl
set_option maxHeartbeats 8000000 in
set_option maxRecDepth 100000 in
theorem svdec_any (v : Value) (l : List UInt8) (w : World) (hv : BytesAt w v l) (hl : l.length ≤ 1000000) : Calls Tryz.prog 26 #[v] w (DecPost w (reqDec l)) := by
  obtain ⟨R, hR⟩ : ∃ R, R = w.heap.size := ⟨_, rfl⟩
  obtain ⟨w1, hw1⟩ : ∃ w1, w1 = w.alloc (.cells zeroRq 40) := ⟨_, rfl⟩
  have hc1 : Chg [] w w1 := by rw [hw1]; exact (Chg.refl [] w).alloc _
  have hb1 : w1.heap[R]? = some (.cells zeroRq 40 (0, 0)) := by rw [hw1, hR]; exact heap_alloc_new w _
  have hs1 : w1.heap.size = R + 1 := by rw [hw1, hR]; simp
  have CE := Lib.hid (neweye_any v l w1 (hv.chg hc1 (by simp)) hl)
  obtain ⟨a, cap, rfl⟩ := hv.slice
  have HB1 := Lib.hid hb1
  have HC1 := Lib.hid hc1
  have HW1 := Lib.hid hw1
  have HR := Lib.hid hR
  have HS1 := Lib.hid hs1
  have HRW : Hid (w.heap.size ≤ R) := Lib.hid (by omega)
  have HD0 : Hid (reqDec l = if (enS (l, 0) 1).2 = 0 ∧ kindB (enV (l, 0) 1) = false then (noRq, 4) else if endOf (erS (giS (enS (l, 0) 1))).1 (erS (giS (enS (l, 0) 1))).2 ≠ 0 then (noRq, endOf (erS (giS (enS (l, 0) 1))).1 (erS (giS (enS (l, 0) 1))).2) else (⟨enV (l, 0) 1, giV (enS (l, 0) 1), erV (giS (enS (l, 0) 1))⟩, 0)) := Lib.hid rfl
  clear hb1 hc1 hw1 hR hs1 hv
  go_enter Tryz.func26, Tryz.ntmps26
  go_wp2_with fail
  rw [show (#[.int .i64 0, .int .i64 0, .int .i64 0, .int .i64 0, .int .i64 0, .slice none 0 0] : Array Value) = zeroRq from rfl, ← HW1.out, ← HR.out]
  refine CE.out.mono ?_
  rintro e w2 ⟨b, g, rfl, he2, hb2, hg2, hc2⟩
  obtain ⟨L, hLE⟩ : ∃ L, L = w2.heap.size := ⟨_, rfl⟩
  obtain ⟨w3, hw3⟩ : ∃ w3, w3 = w2.alloc (.cells #[.int .i64 0, .int .i64 0, .int .i64 0, .int .i64 0, .int .i64 0, .slice none 0 0] 40) := ⟨_, rfl⟩
  have hs2 := hc2.size
  have hs1 := HS1.out
  have h2 : EyeS [R] w w2 b (l, 0) := ⟨⟨g, he2, by simp; omega⟩, ⟨by have := HRW.out; omega, by simp; omega⟩, HC1.out.trans hc2 (by simp), fun x hx => by rw [List.mem_singleton.1 hx]; omega⟩
  have hc3 : Chg [] w2 w3 := by rw [hw3]; exact (Chg.refl [] w2).alloc _
  have hbL : w3.heap[L]? = some (.cells zeroRq 40 (0, 0)) := by rw [hw3, hLE]; exact heap_alloc_new w2 _
  have H3 : Hid (EyeS [L, R] w w3 b (l, 0)) := Lib.hid (h2.add hc3 (fun k hk => by
    simp at hk
    rcases hk with rfl | rfl
    · exact .inr ⟨by omega, blk_lt hbL⟩
    · exact .inl (by simp)))
  have HL3 := Lib.hid hbL
  have HR3 := Lib.hid ((hc2.trans hc3 (by simp)).keep HB1.out (by simp))
  have HL0 : Hid (w.heap.size ≤ L) := Lib.hid (by have := HRW.out; omega)
  have HRL : Hid (R ≠ L) := Lib.hid (by omega)
  have HW3 := Lib.hid hw3
  have HLE := Lib.hid hLE
  have HLE2 : Hid (L = L) := Lib.hid rfl
  have C1 := Lib.hid (esNum H3.out 1 (by omega) (by omega))
  clear CE he2 hb2 hg2 hc2 hw3 hLE h2 hc3 hbL hs1 hs2

  go_wp2_with fail
  rw [← HW3.out]
  try rw [← HLE.out]
  try rw [HLE2.out]
  refine C1.out.mono ?_
  rintro e w4 ⟨rfl, h4, k4⟩
  have HL4 := Lib.hid (keepO HL3.out (k4 L (by simp)))
  have HR4 := Lib.hid (keepO HR3.out (k4 R (by simp)))
  obtain ⟨k, hk⟩ : ∃ k, k = enV (l, 0) 1 := ⟨_, rfl⟩
  rw [← hk]
  have HKK := Lib.hid hk
  have H5 := Lib.hid (h4.set (N := L) (by simp) HL0.out 0 (.int .i64 k))
  have HL5 : Hid ((w4.setCell ⟨L, 0, none⟩ (.int .i64 k)).heap[L]? = some (.cells #[.int .i64 k, .int .i64 0, .int .i64 0, .int .i64 0, .int .i64 0, .slice none 0 0] 40 (0, 0))) := Lib.hid (set_blk HL4.out)
  have HR5 : Hid ((w4.setCell ⟨L, 0, none⟩ (.int .i64 k)).heap[R]? = some (.cells #[.int .i64 0, .int .i64 0, .int .i64 0, .int .i64 0, .int .i64 0, .slice none 0 0] 40 (0, 0))) := Lib.hid (blk_sets HR4.out HRL.out)
  obtain ⟨⟨m0, m1, m2, m3, m4, m5⟩, f0, f1, f2, f3, f4, f5⟩ := six_cells (a0 := .int .i64 0) (a1 := .int .i64 0) (a2 := .int .i64 0) (a3 := .int .i64 0) (a4 := .int .i64 0) (a5 := .slice none 0 0) HL4.out
  have HLB := Lib.hid (blk_lt HL4.out)
  clear h4 k4 C1 hk
  have CF := Lib.hid (esFail H5.out)
  obtain ⟨s1, hs1⟩ : ∃ s1, s1 = enS (l, 0) 1 := ⟨_, rfl⟩
  rw [← hs1] at CF H5
  rw [← HKK.out, ← hs1] at HD0
  go_wp2_with fail
  refine CF.out.mono ?_
  rintro e w' ⟨rfl, hq⟩
  subst hq
  clear m0 m1 m2 m3 m4 m5 f0 f1 f2 f3 f4 f5 CF hs1
  generalize w4.setCell ⟨L, 0, none⟩ (.int .i64 k) = w5 at *
  obtain ⟨bad, hbad⟩ : ∃ bad, bad = s1.2 := ⟨_, rfl⟩
  rw [← hbad] at HD0 ⊢
  have H6 := H5
  have HL6 := HL5
  have HR6 := HR5
  have CK := Lib.hid (kind_any k w5)
  obtain ⟨⟨m0, m1, m2, m3, m4, m5⟩, f0, f1, f2, f3, f4, f5⟩ := six_cells HL5.out
  clear hbad
  by_cases hb0 : bad = 0
  · by_cases hk : kindB k = true
    · rw [if_neg (by simp [hk])] at HD0
      have HD := HD0
      subst hb0
      rw [hk] at CK
      clear hk
      go_wp2_with fail
      refine CK.out.mono ?_
      rintro e w' ⟨rfl, hq⟩
      subst hq
      have C2 := Lib.hid (esGetId H6.out)
      go_wp2_with fail
      refine C2.out.mono ?_
      rintro e w6 ⟨rfl, h6, k6⟩
      have HL7 := Lib.hid (keepO HL6.out (k6 L (by simp)))
      have HR7 := Lib.hid (keepO HR6.out (k6 R (by simp)))
      obtain ⟨x, hx⟩ : ∃ x, x = giV s1 := ⟨_, rfl⟩
      rw [← hx]
      rw [← hx] at HD
      obtain ⟨s2, hs2⟩ : ∃ s2, s2 = giS s1 := ⟨_, rfl⟩
      rw [← hs2] at HD h6
      obtain ⟨xc, xl, xn, xi⟩ := x
      have H8 := Lib.hid ((((h6.set (N := L) (by simp) HL0.out 1 (.int .i64 xc)).set (N := L) (by simp) HL0.out 2 (.int .i64 xl)).set (N := L) (by simp) HL0.out 3 (.int .i64 xn)).set (N := L) (by simp) HL0.out 4 (.int .i64 xi))
      have HL8 := Lib.hid (four_mid (u1 := .int .i64 xc) (u2 := .int .i64 xl) (u3 := .int .i64 xn) (u4 := .int .i64 xi) HL7.out)
      have HR8 := Lib.hid (blk_sets (u := .int .i64 xi) (j := 4) (blk_sets (u := .int .i64 xn) (j := 3) (blk_sets (u := .int .i64 xl) (j := 2) (blk_sets (u := .int .i64 xc) (j := 1) HR7.out HRL.out) HRL.out) HRL.out) HRL.out)
      have C3 := Lib.hid (esRaw H8.out)
      clear m0 m1 m2 m3 m4 m5 f0 f1 f2 f3 f4 f5
      obtain ⟨⟨m0, m1, m2, m3, m4, m5⟩, f0, f1, f2, f3, f4, f5⟩ := six_cells HL7.out
      have HLB7 := Lib.hid (blk_lt HL8.out)
      clear h6 k6 C2 hx hs2
      go_wp2_with fail
      refine C3.out.mono ?_
      rintro e w7 ⟨v7, ⟨rfl, h7, k7⟩, hb7, hn7, hc7⟩
      have HL9 := Lib.hid (keepO HL8.out (k7 L (by simp)))
      have HR9 := Lib.hid (keepO HR8.out (k7 R (by simp)))
      obtain ⟨s3, hs3⟩ : ∃ s3, s3 = erS s2 := ⟨_, rfl⟩
      rw [← hs3] at HD h7
      obtain ⟨bb, hbb⟩ : ∃ bb, bb = erV s2 := ⟨_, rfl⟩
      rw [← hbb] at HD hb7
      obtain ⟨a7, c7, rfl⟩ := hb7.slice
      have hnL : ∀ q, (Value.slice a7 bb.length c7).ownBlock = some q → q ≠ L ∧ q ≠ R := fun q hq => by
        have h1 := hn7 q hq
        have h2 := HLB7.out
        have h3 := blk_lt HR8.out
        omega
      have HBB : Hid (BytesAt (w7.setCell ⟨L, 5, none⟩ (.slice a7 bb.length c7)) (.slice a7 bb.length c7) bb) := Lib.hid (hb7.bytes.chg (S := [L]) ((Chg.refl [L] w7).setCell (p := ⟨L, 5, none⟩) (.inl (by simp)) _) (fun q hq hm => (hnL q hq).1 (List.mem_singleton.1 hm)))
      have HNR : Hid (∀ q, (Value.slice a7 bb.length c7).ownBlock = some q → q ≠ R) := Lib.hid (fun q hq => (hnL q hq).2)
      have HNW : Hid (∀ q, (Value.slice a7 bb.length c7).ownBlock = some q → w.heap.size ≤ q) := Lib.hid (fun q hq => by
        have h1 := hn7 q hq
        have h2 := H8.out.chg.size
        omega)
      have H9 := Lib.hid (h7.set (N := L) (by simp) HL0.out 5 (.slice a7 bb.length c7))
      have HLA : Hid ((w7.setCell ⟨L, 5, none⟩ (.slice a7 bb.length c7)).heap[L]? = some (.cells #[.int .i64 k, .int .i64 xc, .int .i64 xl, .int .i64 xn, .int .i64 xi, .slice a7 bb.length c7] 40 (0, 0))) := Lib.hid (set_blk HL9.out)
      have HRA := Lib.hid (blk_sets (u := .slice a7 bb.length c7) (j := 5) HR9.out HRL.out)
      have C4 := Lib.hid (esEnd H9.out)
      clear m0 m1 m2 m3 m4 m5 f0 f1 f2 f3 f4 f5
      obtain ⟨⟨m0, m1, m2, m3, m4, m5⟩, f0, f1, f2, f3, f4, f5⟩ := six_cells HL9.out
      clear h7 k7 hb7 hn7 hc7 C3 hs3 hbb hnL
      obtain ⟨ff, hff⟩ : ∃ ff, ff = endOf s3.1 s3.2 := ⟨_, rfl⟩
      rw [← hff] at HD C4
      have HCC := Lib.hid H9.out.chg
      go_wp2_with fail
      refine C4.out.mono ?_
      rintro e w' ⟨rfl, hq⟩
      subst hq
      clear m0 m1 m2 m3 m4 m5 f0 f1 f2 f3 f4 f5 C4 hff
      generalize w7.setCell ⟨L, 5, none⟩ (.slice a7 bb.length c7) = w8 at *
      obtain ⟨⟨r0, r1, r2, r3, r4, r5⟩, g0, g1, g2, g3, g4, g5⟩ := six_cells HRA.out
      by_cases hf : ff = 0
      · rw [if_neg (by simp [hf])] at HD
        subst hf
        obtain ⟨⟨m0, m1, m2, m3, m4, m5⟩, f0, f1, f2, f3, f4, f5⟩ := six_cells HLA.out
        have HFX := Lib.hid (set_six HRA.out (.int .i64 k) (.int .i64 xc) (.int .i64 xl) (.int .i64 xn) (.int .i64 xi) (.slice a7 bb.length c7))
        have HCX := Lib.hid (chg_six HCC.out HRW.out (.int .i64 k) (.int .i64 xc) (.int .i64 xl) (.int .i64 xn) (.int .i64 xi) (.slice a7 bb.length c7))
        have HBX := Lib.hid (bytes_six HBB.out HNR.out (.int .i64 k) (.int .i64 xc) (.int .i64 xl) (.int .i64 xn) (.int .i64 xi) (.slice a7 bb.length c7))
        go_wp2_with fail
        refine bodyPost_ret (ret_rq (r := ⟨k, ⟨xc, xl, xn, xi⟩, bb⟩) (bv := .slice a7 bb.length c7) rfl _ rfl rfl HFX.out) rfl ?_
        rw [HD.out]
        exact ⟨_, rfl, HBX.out, HNW.out, HCX.out⟩
      · rw [if_pos hf] at HD
        have qf : (ff != 0) = true := by simp [hf]
        have HFX := Lib.hid (set_six HRA.out (.int .i64 0) (.int .i64 0) (.int .i64 0) (.int .i64 0) (.int .i64 0) (.slice none 0 0))
        have HCX := Lib.hid (chg_six HCC.out HRW.out (.int .i64 0) (.int .i64 0) (.int .i64 0) (.int .i64 0) (.int .i64 0) (.slice none 0 0))
        clear hf
        go_wp2_with fail
        refine bodyPost_ret (ret_rq (r := noRq) (bv := .slice none 0 0) rfl _ rfl rfl HFX.out) rfl ?_
        rw [HD.out]
        exact ⟨_, rfl, BytesAt.nil _, by simp [Value.ownBlock], HCX.out⟩
    · have hk : kindB k = false := by cases h : kindB k with | true => exact absurd h hk | false => rfl
      rw [if_pos ⟨hb0, hk⟩] at HD0
      subst hb0
      rw [hk] at CK
      obtain ⟨⟨r0, r1, r2, r3, r4, r5⟩, g0, g1, g2, g3, g4, g5⟩ := six_cells HR5.out
      have HFX := Lib.hid (set_six HR5.out (.int .i64 0) (.int .i64 0) (.int .i64 0) (.int .i64 0) (.int .i64 0) (.slice none 0 0))
      have HCX := Lib.hid (chg_six H5.out.chg HRW.out (.int .i64 0) (.int .i64 0) (.int .i64 0) (.int .i64 0) (.int .i64 0) (.slice none 0 0))
      clear hk
      go_wp2_with fail
      refine CK.out.mono ?_
      rintro e w' ⟨rfl, hq⟩
      subst hq
      go_wp2_with fail
      refine bodyPost_ret (ret_rq (r := noRq) (bv := .slice none 0 0) rfl _ rfl rfl HFX.out) rfl ?_
      rw [HD0.out]
      exact ⟨_, rfl, BytesAt.nil _, by simp [Value.ownBlock], HCX.out⟩
  · rw [if_neg (fun h => hb0 h.1)] at HD0
    have HD := HD0
    have qb : (bad == 0) = false := by simp [hb0]
    clear hb0
    have C2 := Lib.hid (esGetId H6.out)
    go_wp2_with fail
    refine C2.out.mono ?_
    rintro e w6 ⟨rfl, h6, k6⟩
    have HL7 := Lib.hid (keepO HL6.out (k6 L (by simp)))
    have HR7 := Lib.hid (keepO HR6.out (k6 R (by simp)))
    obtain ⟨x, hx⟩ : ∃ x, x = giV s1 := ⟨_, rfl⟩
    rw [← hx]
    rw [← hx] at HD
    obtain ⟨s2, hs2⟩ : ∃ s2, s2 = giS s1 := ⟨_, rfl⟩
    rw [← hs2] at HD h6
    obtain ⟨xc, xl, xn, xi⟩ := x
    have H8 := Lib.hid ((((h6.set (N := L) (by simp) HL0.out 1 (.int .i64 xc)).set (N := L) (by simp) HL0.out 2 (.int .i64 xl)).set (N := L) (by simp) HL0.out 3 (.int .i64 xn)).set (N := L) (by simp) HL0.out 4 (.int .i64 xi))
    have HL8 := Lib.hid (four_mid (u1 := .int .i64 xc) (u2 := .int .i64 xl) (u3 := .int .i64 xn) (u4 := .int .i64 xi) HL7.out)
    have HR8 := Lib.hid (blk_sets (u := .int .i64 xi) (j := 4) (blk_sets (u := .int .i64 xn) (j := 3) (blk_sets (u := .int .i64 xl) (j := 2) (blk_sets (u := .int .i64 xc) (j := 1) HR7.out HRL.out) HRL.out) HRL.out) HRL.out)
    have C3 := Lib.hid (esRaw H8.out)
    clear m0 m1 m2 m3 m4 m5 f0 f1 f2 f3 f4 f5
    obtain ⟨⟨m0, m1, m2, m3, m4, m5⟩, f0, f1, f2, f3, f4, f5⟩ := six_cells HL7.out
    have HLB7 := Lib.hid (blk_lt HL8.out)
    clear h6 k6 C2 hx hs2
    go_wp2_with fail
    refine C3.out.mono ?_
    rintro e w7 ⟨v7, ⟨rfl, h7, k7⟩, hb7, hn7, hc7⟩
    have HL9 := Lib.hid (keepO HL8.out (k7 L (by simp)))
    have HR9 := Lib.hid (keepO HR8.out (k7 R (by simp)))
    obtain ⟨s3, hs3⟩ : ∃ s3, s3 = erS s2 := ⟨_, rfl⟩
    rw [← hs3] at HD h7
    obtain ⟨bb, hbb⟩ : ∃ bb, bb = erV s2 := ⟨_, rfl⟩
    rw [← hbb] at HD hb7
    obtain ⟨a7, c7, rfl⟩ := hb7.slice
    have hnL : ∀ q, (Value.slice a7 bb.length c7).ownBlock = some q → q ≠ L ∧ q ≠ R := fun q hq => by
      have h1 := hn7 q hq
      have h2 := HLB7.out
      have h3 := blk_lt HR8.out
      omega
    have HBB : Hid (BytesAt (w7.setCell ⟨L, 5, none⟩ (.slice a7 bb.length c7)) (.slice a7 bb.length c7) bb) := Lib.hid (hb7.bytes.chg (S := [L]) ((Chg.refl [L] w7).setCell (p := ⟨L, 5, none⟩) (.inl (by simp)) _) (fun q hq hm => (hnL q hq).1 (List.mem_singleton.1 hm)))
    have HNR : Hid (∀ q, (Value.slice a7 bb.length c7).ownBlock = some q → q ≠ R) := Lib.hid (fun q hq => (hnL q hq).2)
    have HNW : Hid (∀ q, (Value.slice a7 bb.length c7).ownBlock = some q → w.heap.size ≤ q) := Lib.hid (fun q hq => by
      have h1 := hn7 q hq
      have h2 := H8.out.chg.size
      omega)
    have H9 := Lib.hid (h7.set (N := L) (by simp) HL0.out 5 (.slice a7 bb.length c7))
    have HLA : Hid ((w7.setCell ⟨L, 5, none⟩ (.slice a7 bb.length c7)).heap[L]? = some (.cells #[.int .i64 k, .int .i64 xc, .int .i64 xl, .int .i64 xn, .int .i64 xi, .slice a7 bb.length c7] 40 (0, 0))) := Lib.hid (set_blk HL9.out)
    have HRA := Lib.hid (blk_sets (u := .slice a7 bb.length c7) (j := 5) HR9.out HRL.out)
    have C4 := Lib.hid (esEnd H9.out)
    clear m0 m1 m2 m3 m4 m5 f0 f1 f2 f3 f4 f5
    obtain ⟨⟨m0, m1, m2, m3, m4, m5⟩, f0, f1, f2, f3, f4, f5⟩ := six_cells HL9.out
    clear h7 k7 hb7 hn7 hc7 C3 hs3 hbb hnL
    obtain ⟨ff, hff⟩ : ∃ ff, ff = endOf s3.1 s3.2 := ⟨_, rfl⟩
    rw [← hff] at HD C4
    have HCC := Lib.hid H9.out.chg
    go_wp2_with fail
    refine C4.out.mono ?_
    rintro e w' ⟨rfl, hq⟩
    subst hq
    clear m0 m1 m2 m3 m4 m5 f0 f1 f2 f3 f4 f5 C4 hff
    generalize w7.setCell ⟨L, 5, none⟩ (.slice a7 bb.length c7) = w8 at *
    obtain ⟨⟨r0, r1, r2, r3, r4, r5⟩, g0, g1, g2, g3, g4, g5⟩ := six_cells HRA.out
    by_cases hf : ff = 0
    · rw [if_neg (by simp [hf])] at HD
      subst hf
      obtain ⟨⟨m0, m1, m2, m3, m4, m5⟩, f0, f1, f2, f3, f4, f5⟩ := six_cells HLA.out
      have HFX := Lib.hid (set_six HRA.out (.int .i64 k) (.int .i64 xc) (.int .i64 xl) (.int .i64 xn) (.int .i64 xi) (.slice a7 bb.length c7))
      have HCX := Lib.hid (chg_six HCC.out HRW.out (.int .i64 k) (.int .i64 xc) (.int .i64 xl) (.int .i64 xn) (.int .i64 xi) (.slice a7 bb.length c7))
      have HBX := Lib.hid (bytes_six HBB.out HNR.out (.int .i64 k) (.int .i64 xc) (.int .i64 xl) (.int .i64 xn) (.int .i64 xi) (.slice a7 bb.length c7))
      go_wp2_with fail
      refine bodyPost_ret (ret_rq (r := ⟨k, ⟨xc, xl, xn, xi⟩, bb⟩) (bv := .slice a7 bb.length c7) rfl _ rfl rfl HFX.out) rfl ?_
      rw [HD.out]
      exact ⟨_, rfl, HBX.out, HNW.out, HCX.out⟩
    · rw [if_pos hf] at HD
      have qf : (ff != 0) = true := by simp [hf]
      have HFX := Lib.hid (set_six HRA.out (.int .i64 0) (.int .i64 0) (.int .i64 0) (.int .i64 0) (.int .i64 0) (.slice none 0 0))
      have HCX := Lib.hid (chg_six HCC.out HRW.out (.int .i64 0) (.int .i64 0) (.int .i64 0) (.int .i64 0) (.int .i64 0) (.slice none 0 0))
      clear hf
      go_wp2_with fail
      refine bodyPost_ret (ret_rq (r := noRq) (bv := .slice none 0 0) rfl _ rfl rfl HFX.out) rfl ?_
      rw [HD.out]
      exact ⟨_, rfl, BytesAt.nil _, by simp [Value.ownBlock], HCX.out⟩

end Go.Proofs.YtdkhmfcfihbjeaaGreatDoor.W

/- Slots on a disk that lives: what Put and Clear leave, plainly. -/
namespace Go.Proofs.YtdkhmfcfihbjeaaGreatDoor.W
set_option linter.unusedVariables false
set_option linter.unusedSimpArgs false

def DS.Live (d : DS) : Prop := d.dead = false ∧ d.fuse < 0
theorem DS.write_live {d : DS} (hd : d.Live) (k : Nat) (b : List UInt8) (hk : k < d.n) (hb : b.length = 64) : (d.write (k : Int) b).1 = 0 ∧ (d.write (k : Int) b).2.Live ∧ (d.write (k : Int) b).2.n = d.n ∧ (d.write (k : Int) b).2.now = upd d.now k b := by
  obtain ⟨h1, h2⟩ := hd
  have h3 : ¬ d.fuse = 0 := by omega
  have h4 : ¬ (0 : Int) < d.fuse := by omega
  unfold DS.write DS.op
  simp [h1, h3, h4, hb, hk, DS.Live]
  omega
theorem DS.sync_live {d : DS} (hd : d.Live) : (d.sync).1 = 0 ∧ (d.sync).2.Live ∧ (d.sync).2.n = d.n ∧ (d.sync).2.now = d.now ∧ (d.sync).2.since = [] := by
  obtain ⟨h1, h2⟩ := hd
  have h3 : ¬ d.fuse = 0 := by omega
  have h4 : ¬ (0 : Int) < d.fuse := by omega
  unfold DS.sync DS.op
  simp [h1, h3, h4, DS.Live]
  omega
theorem DS.lay_live (pos : Nat) (b : List UInt8) : ∀ (k j : Nat) (d : DS), d.Live → pos + j + k ≤ d.n → (d.lay pos b k j).1 = 0 ∧ (d.lay pos b k j).2.Live ∧ (d.lay pos b k j).2.n = d.n ∧ (∀ i, (d.lay pos b k j).2.now i = if pos + j ≤ i ∧ i < pos + j + k then secAt b (i - pos) else d.now i) ∧ (d.lay pos b k j).2.since = [] := by
  intro k
  induction k with
  | zero =>
    intro j d hd hn
    obtain ⟨h1, h2, h3, h4, h5⟩ := d.sync_live hd
    exact ⟨h1, h2, h3, fun i => by rw [if_neg (by omega)]; show (d.sync).2.now i = _; rw [h4], h5⟩
  | succ k ih =>
    intro j d hd hn
    obtain ⟨h1, h2, h3, h4⟩ := DS.write_live hd (pos + j) (secAt b j) (by omega) (secAt_len b j)
    obtain ⟨i1, i2, i3, i4, i5⟩ := ih (j + 1) _ h2 (by rw [h3]; omega)
    unfold DS.lay
    rw [if_neg (by rw [h1]; simp)]
    refine ⟨i1, i2, by rw [i3, h3], fun i => ?_, i5⟩
    rw [i4, h4]
    unfold upd
    by_cases hi : i = pos + j
    · subst hi
      rw [if_neg (by omega), if_pos rfl, if_pos (by omega)]
      congr 1
      omega
    · rw [if_neg hi]
      by_cases hm : pos + (j + 1) ≤ i ∧ i < pos + (j + 1) + k
      · rw [if_pos hm, if_pos (by omega)]
      · rw [if_neg hm, if_neg (by omega)]
theorem DS.lays_live {d : DS} (pos : Nat) (b : List UInt8) (hd : d.Live) (hn : pos + nsec b.length ≤ d.n) : (d.lays pos b).1 = 0 ∧ (d.lays pos b).2.Live ∧ (d.lays pos b).2.n = d.n ∧ (∀ i, (d.lays pos b).2.now i = if pos ≤ i ∧ i < pos + nsec b.length then secAt b (i - pos) else d.now i) ∧ (d.lays pos b).2.since = [] :=
  DS.lay_live pos b _ 0 d hd hn

theorem beNum_two (n : Nat) (hn : n < 65536) : beNum (beBytes 2 n) = n := by
  simp [beBytes, beNum, UInt8.toNat_ofNat']
  omega
theorem allZ_zeros (n : Nat) : allZ (zeros n) = true := by simp [allZ, zeros]
theorem head_back (n : Nat) (key : List UInt8) (hn : n ≤ 448) (hk : key.length ≤ 40) : headOf (secAt (headBytes n key) 0) = some ⟨true, n, key⟩ := by
  have hl := headBytes_len n key hn hk
  have hs : secAt (headBytes n key) 0 = 1 :: (beBytes 2 n ++ (beBytes 2 key.length ++ (key ++ zeros (64 - (5 + key.length))))) := by
    unfold secAt
    rw [Nat.zero_mul, List.drop_zero, List.take_of_length_le (by omega), hl, head_h3, h3_eq n key hn hk]
    simp
  obtain ⟨z, hz⟩ : ∃ z, z = zeros (64 - (5 + key.length)) := ⟨_, rfl⟩
  have hzz : allZ z = true := by rw [hz]; exact allZ_zeros _
  rw [hs, ← hz]
  have e1 : eyeNum (1 :: (beBytes 2 n ++ (beBytes 2 key.length ++ (key ++ z)))) 0 1 = (1, beBytes 2 n ++ (beBytes 2 key.length ++ (key ++ z)), 0) := by
    unfold eyeNum
    rw [if_neg (by simp), if_neg (by simp)]
    rfl
  have e2 : eyeNum (beBytes 2 n ++ (beBytes 2 key.length ++ (key ++ z))) 0 2 = ((n : Int), beBytes 2 key.length ++ (key ++ z), 0) := by
    unfold eyeNum
    rw [if_neg (by simp), if_neg (by simp [beBytes_len]), List.take_left' (beBytes_len 2 n), List.drop_left' (beBytes_len 2 n), beNum_two n (by omega)]
  have e3 : eyeRaw (beBytes 2 key.length ++ (key ++ z)) 0 40 = (key, z, 0) := by
    unfold eyeRaw
    rw [if_neg (by simp), if_neg (by simp [beBytes_len]), List.take_left' (beBytes_len 2 _), List.drop_left' (beBytes_len 2 _), beNum_two _ (by omega), if_neg (by omega), if_neg (by simp), List.take_left' rfl, List.drop_left' rfl]
  unfold headOf
  rw [if_neg (by simp [allZ]), e1]
  dsimp only
  rw [e2]
  dsimp only
  rw [e3]
  dsimp only
  rw [if_neg (by simp [hzz]; omega)]
  simp
theorem head_none : headOf (secAt (zeros 64) 0) = some noRow := by rfl
theorem flat_full (b : List UInt8) : ∀ m, m * 64 ≤ b.length → flat m (secAt b) = b.take (m * 64) := by
  intro m
  induction m with
  | zero => intro _; simp [flat]
  | succ m ih =>
    intro h
    rw [flat_succ, ih (by omega)]
    unfold secAt
    have hl : ((b.drop (m * 64)).take 64).length = 64 := by rw [List.length_take, List.length_drop]; omega
    rw [hl]
    simp only [zeros, Nat.sub_self, List.replicate_zero, List.append_nil]
    rw [show (m + 1) * 64 = m * 64 + 64 by omega, List.take_add]
theorem flat_back (b : List UInt8) : (flat (nsec b.length) (secAt b)).take b.length = b := by
  by_cases h : b.length % 64 = 0
  · have hm : nsec b.length * 64 = b.length := by unfold nsec; omega
    rw [flat_full b _ (by omega), hm, List.take_length, List.take_length]
  · obtain ⟨m, hm⟩ : ∃ m, nsec b.length = m + 1 := ⟨nsec b.length - 1, by unfold nsec; omega⟩
    have hm1 : m * 64 ≤ b.length ∧ b.length < (m + 1) * 64 := by unfold nsec at hm; omega
    rw [hm, flat_succ, flat_full b m hm1.1]
    unfold secAt
    have hl : (b.drop (m * 64)).take 64 = b.drop (m * 64) := List.take_of_length_le (by rw [List.length_drop]; omega)
    rw [hl, ← List.append_assoc, List.take_append_drop, List.take_left' rfl]
theorem flat_congr (m : Nat) (f g : Nat → List UInt8) (h : ∀ k, k < m → f k = g k) : flat m f = flat m g := by
  induction m with
  | zero => rfl
  | succ m ih => rw [flat_succ, flat_succ, ih (fun k hk => h k (by omega)), h m (by omega)]

/-- Slots on a disk that lives, each told: used or not, and what it holds. -/
structure Told (s : SS) (u : Nat → Bool) (v : Nat → List UInt8) : Prop where
  live : s.d.Live
  room : s.first + 8 * s.rows.length ≤ s.d.n
  head : ∀ k, k < s.rows.length → headOf (s.d.now (s.first + 8 * k)) = some (s.rows.getD k noRow)
  used : ∀ k, k < s.rows.length → (s.rows.getD k noRow).used = u k
  data : ∀ k, k < s.rows.length → u k = true → s.data (k : Int) = v k
theorem Told.small {s : SS} {u : Nat → Bool} {v : Nat → List UInt8} (h : Told s u v) (k : Nat) (hk : k < s.rows.length) : (s.rows.getD k noRow).n ≤ 448 := (headOf_ok (h.head k hk)).1
theorem Told.get {s : SS} {u : Nat → Bool} {v : Nat → List UInt8} (h : Told s u v) (k : Nat) (hk : k < s.rows.length) : s.get (k : Int) = if u k then (v k, 0) else ([], 6) := by
  unfold SS.get
  have hh : s.has (k : Int) := ⟨by omega, by omega⟩
  have hr : s.row (k : Int) = s.rows.getD k noRow := rfl
  rw [if_neg (by simpa using hh), hr, h.used k hk]
  cases hu : u k with
  | false => simp
  | true =>
    rw [if_neg (by simp), h.live.1]
    simp [h.data k hk hu]
theorem set_getD (l : List SRow) (k j : Nat) (x : SRow) (hk : k < l.length) : (l.set k x).getD j noRow = if j = k then x else l.getD j noRow := by
  rw [List.getD_eq_getElem?_getD, List.getElem?_set, List.getD_eq_getElem?_getD]
  by_cases h : k = j
  · subst h; simp [hk]
  · rw [if_neg h, if_neg (fun e => h e.symm)]
/-- Put, where it may be. -/
theorem Told.put {s : SS} {u : Nat → Bool} {v : Nat → List UInt8} (h : Told s u v) (k : Nat) (hk : k < s.rows.length) (key b : List UInt8) (hu : u k = false) (hkey : key.length ≤ 40) (hb : b.length ≤ 448) :
    (s.put (k : Int) key b).1 = 0 ∧ Told (s.put (k : Int) key b).2 (fun j => if j = k then true else u j) (fun j => if j = k then b else v j) ∧ (s.put (k : Int) key b).2.rows.length = s.rows.length ∧ (s.put (k : Int) key b).2.first = s.first ∧ (s.put (k : Int) key b).2.d.n = s.d.n ∧ (s.put (k : Int) key b).2.d.since = [] := by
  have hh : s.has (k : Int) := ⟨by omega, by omega⟩
  have hr : s.row (k : Int) = s.rows.getD k noRow := rfl
  have hp : s.pos (k : Int) = s.first + 8 * k := rfl
  have hns : nsec b.length ≤ 7 := by unfold nsec; omega
  have hroom := h.room
  obtain ⟨a1, a2, a3, a4, a5⟩ := DS.lays_live (s.pos k + 1) b h.live (by rw [hp]; omega)
  have hh1 : nsec (headBytes b.length key).length = 1 := by rw [headBytes_len _ _ hb hkey]; unfold nsec; omega
  obtain ⟨b1, b2, b3, b4, b5⟩ := DS.lays_live (s.pos k) (headBytes b.length key) a2 (by rw [hh1, a3, hp]; omega)
  have hput : s.put (k : Int) key b = (0, { s with d := ((s.d.lays (s.pos k + 1) b).2.lays (s.pos k) (headBytes b.length key)).2, rows := s.rows.set k ⟨true, b.length, key⟩ }) := by
    unfold SS.put
    rw [if_neg (by simpa using hh), if_neg (by omega), hr, h.used k hk, hu, if_neg (by simp), if_neg (by rw [a1]; simp), if_neg (by rw [b1]; simp)]
    rfl
  rw [hput]
  generalize hd2 : ((s.d.lays (s.pos k + 1) b).2.lays (s.pos k) (headBytes b.length key)).2 = d2 at *
  have hnow : ∀ i, d2.now i = if i = s.first + 8 * k then secAt (headBytes b.length key) 0 else if s.first + 8 * k + 1 ≤ i ∧ i < s.first + 8 * k + 1 + nsec b.length then secAt b (i - (s.first + 8 * k + 1)) else s.d.now i := fun i => by
    rw [b4, a4, hh1, hp]
    by_cases hi : i = s.first + 8 * k
    · rw [if_pos (by omega), if_pos hi, hi, Nat.sub_self]
    · rw [if_neg (by omega), if_neg hi]
  refine ⟨rfl, ⟨b2, ?_, fun j hj => ?_, fun j hj => ?_, fun j hj huj => ?_⟩, by simp, rfl, by rw [← a3, ← b3], b5⟩
  · show s.first + 8 * (s.rows.set k _).length ≤ d2.n
    rw [List.length_set, b3, a3]
    exact hroom
  · replace hj : j < s.rows.length := by simpa using hj
    show headOf (d2.now (s.first + 8 * j)) = some ((s.rows.set k _).getD j noRow)
    rw [set_getD _ _ _ _ hk, hnow]
    by_cases hjk : j = k
    · subst hjk
      rw [if_pos rfl, if_pos rfl]
      exact head_back _ _ hb hkey
    · rw [if_neg (by omega), if_neg (by omega), if_neg hjk]
      exact h.head j hj
  · replace hj : j < s.rows.length := by simpa using hj
    show ((s.rows.set k _).getD j noRow).used = _
    rw [set_getD _ _ _ _ hk]
    by_cases hjk : j = k
    · rw [if_pos hjk, if_pos hjk]
    · rw [if_neg hjk, if_neg hjk]
      exact h.used j hj
  · replace hj : j < s.rows.length := by simpa using hj
    show (flat (nsec ((s.rows.set k _).getD j noRow).n) (fun i => d2.now (s.first + 8 * j + 1 + i))).take ((s.rows.set k _).getD j noRow).n = _
    rw [set_getD _ _ _ _ hk]
    by_cases hjk : j = k
    · subst hjk
      rw [if_pos rfl, if_pos rfl]
      dsimp only
      rw [flat_congr _ _ (secAt b) (fun i hi => by rw [hnow, if_neg (by omega), if_pos (by omega)]; congr 1; omega)]
      exact flat_back b
    · rw [if_neg hjk, if_neg hjk]
      try dsimp only at huj
      rw [if_neg hjk] at huj
      have hsm := h.small j hj
      rw [flat_congr _ _ (fun i => s.d.now (s.first + 8 * j + 1 + i)) (fun i hi => by
        have : i < 7 := by unfold nsec at hi; omega
        rw [hnow, if_neg (by omega), if_neg (by omega)])]
      exact h.data j hj huj
/-- Clear, where it may be. -/
theorem Told.clear {s : SS} {u : Nat → Bool} {v : Nat → List UInt8} (h : Told s u v) (k : Nat) (hk : k < s.rows.length) (hu : u k = true) :
    (s.clear (k : Int)).1 = 0 ∧ Told (s.clear (k : Int)).2 (fun j => if j = k then false else u j) v ∧ (s.clear (k : Int)).2.rows.length = s.rows.length ∧ (s.clear (k : Int)).2.first = s.first ∧ (s.clear (k : Int)).2.d.n = s.d.n ∧ (s.clear (k : Int)).2.d.since = [] := by
  have hh : s.has (k : Int) := ⟨by omega, by omega⟩
  have hr : s.row (k : Int) = s.rows.getD k noRow := rfl
  have hp : s.pos (k : Int) = s.first + 8 * k := rfl
  have hroom := h.room
  have hh1 : nsec (zeros 64).length = 1 := rfl
  obtain ⟨a1, a2, a3, a4, a5⟩ := DS.lays_live (s.pos k) (zeros 64) h.live (by rw [hp, hh1]; omega)
  have hcl : s.clear (k : Int) = (0, { s with d := (s.d.lays (s.pos k) (zeros 64)).2, rows := s.rows.set k noRow }) := by
    unfold SS.clear
    rw [if_neg (by simpa using hh), hr, h.used k hk, hu, if_neg (by simp), if_neg (by rw [a1]; simp)]
    rfl
  rw [hcl]
  generalize hd2 : (s.d.lays (s.pos k) (zeros 64)).2 = d2 at *
  have hnow : ∀ i, d2.now i = if i = s.first + 8 * k then secAt (zeros 64) 0 else s.d.now i := fun i => by
    rw [a4, hh1, hp]
    by_cases hi : i = s.first + 8 * k
    · rw [if_pos (by omega), if_pos hi, hi, Nat.sub_self]
    · rw [if_neg (by omega), if_neg hi]
  refine ⟨rfl, ⟨a2, ?_, fun j hj => ?_, fun j hj => ?_, fun j hj huj => ?_⟩, by simp, rfl, a3, a5⟩
  · show s.first + 8 * (s.rows.set k _).length ≤ d2.n
    rw [List.length_set, a3]
    exact hroom
  · replace hj : j < s.rows.length := by simpa using hj
    show headOf (d2.now (s.first + 8 * j)) = some ((s.rows.set k _).getD j noRow)
    rw [set_getD _ _ _ _ hk, hnow]
    by_cases hjk : j = k
    · subst hjk
      rw [if_pos rfl, if_pos rfl]
      exact head_none
    · rw [if_neg (by omega), if_neg hjk]
      exact h.head j hj
  · replace hj : j < s.rows.length := by simpa using hj
    show ((s.rows.set k _).getD j noRow).used = _
    rw [set_getD _ _ _ _ hk]
    by_cases hjk : j = k
    · rw [if_pos hjk, if_pos hjk]; rfl
    · rw [if_neg hjk, if_neg hjk]
      exact h.used j hj
  · replace hj : j < s.rows.length := by simpa using hj
    try dsimp only at huj
    by_cases hjk : j = k
    · rw [if_pos hjk] at huj; cases huj
    · rw [if_neg hjk] at huj
      show (flat (nsec ((s.rows.set k _).getD j noRow).n) (fun i => d2.now (s.first + 8 * j + 1 + i))).take ((s.rows.set k _).getD j noRow).n = _
      rw [set_getD _ _ _ _ hk, if_neg hjk]
      have hsm := h.small j hj
      rw [flat_congr _ _ (fun i => s.d.now (s.first + 8 * j + 1 + i)) (fun i hi => by
        have : i < 7 := by unfold nsec at hi; omega
        rw [hnow, if_neg (by omega)])]
      exact h.data j hj huj
/-- Opened anew they are the same. -/
theorem rowsFrom_told {d : DS} {first : Nat} {rows : List SRow} : ∀ (m k : Nat), k + m = rows.length → (∀ j, k ≤ j → j < rows.length → headOf (d.now (first + 8 * j)) = some (rows.getD j noRow)) → rowsFrom d first m k = some (rows.drop k) := by
  intro m
  induction m with
  | zero => intro k hk _; unfold rowsFrom; rw [List.drop_eq_nil_of_le (by omega)]
  | succ m ih =>
    intro k hk h
    unfold rowsFrom
    rw [h k (Nat.le_refl _) (by omega)]
    dsimp only
    rw [ih (k + 1) (by omega) (fun j h1 h2 => h j (by omega) h2)]
    have hlt : k < rows.length := by omega
    rw [Option.map_some, List.drop_eq_getElem_cons hlt, List.getD_eq_getElem?_getD, List.getElem?_eq_getElem hlt]
    rfl
theorem Told.anew {s : SS} {u : Nat → Bool} {v : Nat → List UInt8} (h : Told s u v) (hn : (s.d.n - s.first) / 8 = s.rows.length) (hz : s.d.n ≠ 0) : s.d.slots (s.first : Int) = (0, some s) := by
  have hroom := h.room
  unfold DS.slots
  rw [if_neg (by omega), if_neg (by rw [h.live.1]; simp [hz]), Int.toNat_natCast, hn, rowsFrom_told s.rows.length 0 (by omega) (fun j _ hj => h.head j hj)]
  rfl
end Go.Proofs.YtdkhmfcfihbjeaaGreatDoor.W

/- A disk behind a crash, plainly; copies of all its sectors. -/
namespace Go.Proofs.YtdkhmfcfihbjeaaGreatDoor.W
open Go.RowKit
set_option linter.unusedVariables false
set_option linter.unusedSimpArgs false

/-- Is number i left? -/
def leftAt (ch : List UInt8) (i : Nat) : Bool := decide (ch.length ≤ i) || decide ((ch.getD i 0) &&& 1 = 1)
/-- Those of what waited that are left. -/
def chosen (ch : List UInt8) : List (Nat × List UInt8) → Nat → List (Nat × List UInt8)
  | [], _ => []
  | x :: l, i => if leftAt ch i then x :: chosen ch l (i + 1) else chosen ch l (i + 1)
theorem chosen_mem {ch : List UInt8} {x : Nat × List UInt8} : ∀ (l : List (Nat × List UInt8)) (i : Nat), x ∈ chosen ch l i → x ∈ l
  | [], i, h => by cases h
  | y :: l, i, h => by
    unfold chosen at h
    split at h
    · rcases List.mem_cons.1 h with rfl | h
      · exact List.mem_cons_self ..
      · exact List.mem_cons_of_mem _ (chosen_mem l _ h)
    · exact List.mem_cons_of_mem _ (chosen_mem l _ h)
def DS.crash (d : DS) (ch : List UInt8) : DS :=
  { n := d.n, now := applied (chosen ch d.since 0) d.lasts, lasts := applied (chosen ch d.since 0) d.lasts, since := [], fuse := -1, ops := 0, dead := false }

theorem flat_at (n : Nat) (f : Nat → List UInt8) (h : ∀ i, i < n → (f i).length = 64) (k i : Nat) (hk : k < n) (hi : i < 64) : (flat n f)[k * 64 + i]? = (f k)[i]? := by
  induction n with
  | zero => omega
  | succ n ih =>
    rw [flat_succ]
    have hl := flat_len n f (fun i hi => h i (by omega))
    by_cases hkn : k = n
    · subst hkn
      rw [List.getElem?_append_right (by omega), hl, show k * 64 + i - k * 64 = i by omega]
    · rw [List.getElem?_append_left (by omega), ih (fun i hi => h i (by omega)) (by omega)]
theorem SecsAt.whole {w : World} {g n : Nat} {f : Nat → List UInt8} (h : SecsAt w g n f) : (flat n f).length = n * 64 ∧ w.rangeAt g 0 (bvs (flat n f)) := by
  have hl := flat_len n f (fun i hi => h.len i hi)
  refine ⟨hl, fun j v hv => ?_⟩
  have hj : j < n * 64 := by
    have := (List.getElem?_eq_some_iff.1 hv).1
    rwa [bvs_len, hl] at this
  have hk : j / 64 < n := by omega
  have he : j = j / 64 * 64 + j % 64 := by omega
  have h1 := h.range (j / 64) hk (j % 64) v (by
    have e1 : (bvs (flat n f))[j]? = ((flat n f)[j]?).map bv := by simp [bvs]
    rw [e1, he, flat_at n f (fun i hi => h.len i hi) _ _ hk (by omega)] at hv
    have e2 : (bvs (f (j / 64)))[j % 64]? = ((f (j / 64))[j % 64]?).map bv := by simp [bvs]
    rw [e2]
    have e3 : (j / 64 * 64 + j % 64) / 64 = j / 64 := by omega
    first | exact hv | (simpa [e3] using hv))
  rw [Nat.zero_add]
  rw [show j = j / 64 * 64 + j % 64 from he]
  exact h1
end Go.Proofs.YtdkhmfcfihbjeaaGreatDoor.W

/- Slots on a disk that may die: what Put and Clear leave, and what is there behind a crash, plainly. -/
namespace Go.Proofs.YtdkhmfcfihbjeaaGreatDoor.W
set_option linter.unusedVariables false
set_option linter.unusedSimpArgs false

/-- A disk at rest: alive, and all that was written lasts. -/
structure DS.Rest (d : DS) : Prop where
  alive : d.dead = false
  none : d.since = []
  same : ∀ i, d.lasts i = d.now i
/-- A disk that died while the sectors j .. j+k-1 of b were laid from pos on. -/
def DS.Fell (d0 d : DS) (pos : Nat) (b : List UInt8) (j k : Nat) : Prop :=
  d.dead = true ∧ d.n = d0.n ∧ d.lasts = d0.lasts ∧ ∃ ws, d.since = d0.since ++ ws ∧ ∀ x ∈ ws, ∃ i, j ≤ i ∧ i < j + k ∧ x = (pos + i, secAt b i)
theorem DS.write_may {d : DS} (hd : d.dead = false) (k : Nat) (b : List UInt8) (hk : k < d.n) (hb : b.length = 64) :
    ((d.write (k : Int) b).1 = 0 ∧ (d.write (k : Int) b).2.dead = false ∧ (d.write (k : Int) b).2.n = d.n ∧ (d.write (k : Int) b).2.now = upd d.now k b ∧ (d.write (k : Int) b).2.lasts = d.lasts ∧ (d.write (k : Int) b).2.since = d.since ++ [(k, b)]) ∨
    ((d.write (k : Int) b).1 = 14 ∧ (d.write (k : Int) b).2.dead = true ∧ (d.write (k : Int) b).2.n = d.n ∧ (d.write (k : Int) b).2.lasts = d.lasts ∧ (d.write (k : Int) b).2.since = d.since ++ [(k, b)]) := by
  have hk' : 0 ≤ (k : Int) ∧ (k : Int) < d.n ∧ b.length = 64 := ⟨by omega, by omega, hb⟩
  by_cases hf : d.fuse = 0
  · right
    unfold DS.write DS.op
    simp only [hd, Bool.false_eq_true, if_false]
    rw [if_pos hk']
    simp [hf]
  · left
    unfold DS.write DS.op
    simp only [hd, Bool.false_eq_true, if_false]
    rw [if_pos hk']
    simp [hf, hd]
theorem DS.sync_may {d : DS} (hd : d.dead = false) :
    ((d.sync).1 = 0 ∧ (d.sync).2.dead = false ∧ (d.sync).2.n = d.n ∧ (d.sync).2.now = d.now ∧ (d.sync).2.lasts = applied d.since d.lasts ∧ (d.sync).2.since = []) ∨
    ((d.sync).1 = 14 ∧ (d.sync).2.dead = true ∧ (d.sync).2.n = d.n ∧ (d.sync).2.lasts = d.lasts ∧ (d.sync).2.since = d.since) := by
  by_cases hf : d.fuse = 0
  · right
    unfold DS.sync DS.op
    simp [hd, hf]
  · left
    unfold DS.sync DS.op
    simp [hd, hf]
theorem DS.lay_may (pos : Nat) (b : List UInt8) : ∀ (k j : Nat) (d : DS), d.dead = false → (∀ i, applied d.since d.lasts i = d.now i) → pos + j + k ≤ d.n →
    ((d.lay pos b k j).1 = 0 ∧ (d.lay pos b k j).2.Rest ∧ (d.lay pos b k j).2.n = d.n ∧ ∀ i, (d.lay pos b k j).2.now i = if pos + j ≤ i ∧ i < pos + j + k then secAt b (i - pos) else d.now i) ∨
    ((d.lay pos b k j).1 = 14 ∧ DS.Fell d (d.lay pos b k j).2 pos b j k) := by
  intro k
  induction k with
  | zero =>
    intro j d hd hs hn
    rcases d.sync_may hd with ⟨h1, h2, h3, h4, h5, h6⟩ | ⟨h1, h2, h3, h4, h5⟩
    · exact .inl ⟨h1, ⟨h2, h6, fun i => by show (d.sync).2.lasts i = (d.sync).2.now i; rw [h5, h4, hs]⟩, h3, fun i => by rw [if_neg (by omega)]; show (d.sync).2.now i = _; rw [h4]⟩
    · exact .inr ⟨h1, h2, h3, h4, [], by show (d.sync).2.since = _; rw [h5]; simp, by simp⟩
  | succ k ih =>
    intro j d hd hs hn
    unfold DS.lay
    rcases DS.write_may hd (pos + j) (secAt b j) (by omega) (secAt_len b j) with ⟨h1, h2, h3, h4, h5, h6⟩ | ⟨h1, h2, h3, h4, h5⟩
    · rw [if_neg (by rw [h1]; simp)]
      generalize (d.write ((pos + j : Nat) : Int) (secAt b j)).2 = d2 at *
      have hs2 : ∀ i, applied d2.since d2.lasts i = d2.now i := fun i => by
        have := hs
        rw [h6, h5, h4]
        unfold applied at *
        rw [List.foldl_append]
        show upd (List.foldl _ d.lasts d.since) (pos + j) (secAt b j) i = upd d.now (pos + j) (secAt b j) i
        unfold upd
        split
        · rfl
        · exact hs i
      rcases ih (j + 1) d2 h2 hs2 (by rw [h3]; omega) with ⟨i1, i2, i3, i4⟩ | ⟨i1, i2, i3, i4, ws, i5, i6⟩
      · refine .inl ⟨i1, i2, by rw [i3, h3], fun i => ?_⟩
        rw [i4, h4]
        unfold upd
        by_cases hi : i = pos + j
        · subst hi
          rw [if_neg (by omega), if_pos rfl, if_pos (by omega)]
          congr 1
          omega
        · rw [if_neg hi]
          by_cases hm : pos + (j + 1) ≤ i ∧ i < pos + (j + 1) + k
          · rw [if_pos hm, if_pos (by omega)]
          · rw [if_neg hm, if_neg (by omega)]
      · refine .inr ⟨i1, i2, by rw [i3, h3], by rw [i4, h5], (pos + j, secAt b j) :: ws, by rw [i5, h6]; simp, fun x hx => ?_⟩
        rcases List.mem_cons.1 hx with rfl | hx
        · exact ⟨j, by omega, by omega, rfl⟩
        · obtain ⟨i, a1, a2, a3⟩ := i6 x hx
          exact ⟨i, by omega, by omega, a3⟩
    · rw [if_pos (by rw [h1]; simp)]
      exact .inr ⟨h1, h2, h3, h4, [(pos + j, secAt b j)], h5, fun x hx => by
        rw [List.mem_singleton.1 hx]
        exact ⟨j, by omega, by omega, rfl⟩⟩
theorem DS.lays_may {d : DS} (pos : Nat) (b : List UInt8) (hd : d.Rest) (hn : pos + nsec b.length ≤ d.n) :
    ((d.lays pos b).1 = 0 ∧ (d.lays pos b).2.Rest ∧ (d.lays pos b).2.n = d.n ∧ ∀ i, (d.lays pos b).2.now i = if pos ≤ i ∧ i < pos + nsec b.length then secAt b (i - pos) else d.now i) ∨
    ((d.lays pos b).1 = 14 ∧ (d.lays pos b).2.dead = true ∧ (d.lays pos b).2.n = d.n ∧ (d.lays pos b).2.lasts = d.lasts ∧ ∀ x ∈ (d.lays pos b).2.since, ∃ i, i < nsec b.length ∧ x = (pos + i, secAt b i)) := by
  rcases DS.lay_may pos b (nsec b.length) 0 d hd.alive (fun i => by rw [hd.none]; exact hd.same i) hn with h | ⟨h1, h2, h3, h4, ws, h5, h6⟩
  · exact .inl h
  · refine .inr ⟨h1, h2, h3, h4, fun x hx => ?_⟩
    have hx : x ∈ (d.lay pos b (nsec b.length) 0).2.since := hx
    rw [h5, hd.none, List.nil_append] at hx
    obtain ⟨i, a1, a2, a3⟩ := h6 x hx
    exact ⟨i, by omega, a3⟩
/-- What is applied elsewhere does not matter. -/
theorem applied_far (i : Nat) : ∀ (l : List (Nat × List UInt8)) (f : Nat → List UInt8), (∀ x ∈ l, x.1 ≠ i) → applied l f i = f i
  | [], f, h => rfl
  | x :: l, f, h => by
    show applied l (upd f x.1 x.2) i = f i
    rw [applied_far i l _ (fun y hy => h y (List.mem_cons_of_mem _ hy))]
    unfold upd
    rw [if_neg (fun e => h x (List.mem_cons_self ..) e.symm)]
theorem applied_same (i : Nat) (s : List UInt8) : ∀ (l : List (Nat × List UInt8)) (f : Nat → List UInt8), (∀ x ∈ l, x = (i, s)) → applied l f i = f i ∨ applied l f i = s
  | [], f, h => .inl rfl
  | x :: l, f, h => by
    show applied l (upd f x.1 x.2) i = f i ∨ applied l (upd f x.1 x.2) i = s
    obtain rfl := h x (List.mem_cons_self ..)
    have hu : upd f i s i = s := by unfold upd; rw [if_pos rfl]
    rcases applied_same i s l (upd f i s) (fun y hy => h y (List.mem_cons_of_mem _ hy)) with h1 | h1
    · exact .inr (by rw [h1, hu])
    · exact .inr h1

/-- Slots on a disk at rest, each told. -/
structure ToldR (s : SS) (u : Nat → Bool) (v : Nat → List UInt8) : Prop where
  rest : s.d.Rest
  room : s.first + 8 * s.rows.length ≤ s.d.n
  head : ∀ k, k < s.rows.length → headOf (s.d.now (s.first + 8 * k)) = some (s.rows.getD k noRow)
  used : ∀ k, k < s.rows.length → (s.rows.getD k noRow).used = u k
  data : ∀ k, k < s.rows.length → u k = true → s.data (k : Int) = v k
theorem ToldR.small {s : SS} {u : Nat → Bool} {v : Nat → List UInt8} (h : ToldR s u v) (k : Nat) (hk : k < s.rows.length) : (s.rows.getD k noRow).n ≤ 448 := (headOf_ok (h.head k hk)).1
theorem ToldR.get {s : SS} {u : Nat → Bool} {v : Nat → List UInt8} (h : ToldR s u v) (k : Nat) (hk : k < s.rows.length) : s.get (k : Int) = if u k then (v k, 0) else ([], 6) := by
  unfold SS.get
  have hh : s.has (k : Int) := ⟨by omega, by omega⟩
  have hr : s.row (k : Int) = s.rows.getD k noRow := rfl
  rw [if_neg (by simpa using hh), hr, h.used k hk]
  cases hu : u k with
  | false => simp
  | true =>
    rw [if_neg (by simp), h.rest.alive]
    simp [h.data k hk hu]
/-- How the disk's sectors look to a slot. -/
theorem ToldR.of_now {s : SS} {u : Nat → Bool} {v : Nat → List UInt8} (h : ToldR s u v) (d2 : DS) (hr : d2.Rest) (hn : d2.n = s.d.n) (k : Nat) (hk : k < s.rows.length) (r : SRow) (hh : headOf (d2.now (s.first + 8 * k)) = some r)
    (hfar : ∀ j i, j < s.rows.length → j ≠ k → i < 8 → d2.now (s.first + 8 * j + i) = s.d.now (s.first + 8 * j + i)) (b : List UInt8)
    (hb : r.used = true → (flat (nsec r.n) (fun i => d2.now (s.first + 8 * k + 1 + i))).take r.n = b) :
    ToldR { s with d := d2, rows := s.rows.set k r } (fun j => if j = k then r.used else u j) (fun j => if j = k then b else v j) := by
  refine ⟨hr, ?_, fun j hj => ?_, fun j hj => ?_, fun j hj huj => ?_⟩
  · show s.first + 8 * (s.rows.set k r).length ≤ d2.n
    rw [List.length_set, hn]
    exact h.room
  · replace hj : j < s.rows.length := by simpa using hj
    show headOf (d2.now (s.first + 8 * j)) = some ((s.rows.set k r).getD j noRow)
    rw [set_getD _ _ _ _ hk]
    by_cases hjk : j = k
    · subst hjk
      rw [if_pos rfl]
      exact hh
    · rw [if_neg hjk, ← h.head j hj]
      have := hfar j 0 hj hjk (by omega)
      rw [Nat.add_zero] at this
      rw [this]
  · replace hj : j < s.rows.length := by simpa using hj
    show ((s.rows.set k r).getD j noRow).used = _
    rw [set_getD _ _ _ _ hk]
    by_cases hjk : j = k
    · rw [if_pos hjk, if_pos hjk]
    · rw [if_neg hjk, if_neg hjk]
      exact h.used j hj
  · replace hj : j < s.rows.length := by simpa using hj
    show (flat (nsec ((s.rows.set k r).getD j noRow).n) (fun i => d2.now (s.first + 8 * j + 1 + i))).take ((s.rows.set k r).getD j noRow).n = _
    rw [set_getD _ _ _ _ hk]
    try dsimp only at huj
    by_cases hjk : j = k
    · subst hjk
      rw [if_pos rfl] at huj
      rw [if_pos rfl, if_pos rfl]
      exact hb huj
    · rw [if_neg hjk] at huj
      rw [if_neg hjk, if_neg hjk]
      have hsm := h.small j hj
      rw [flat_congr _ _ (fun i => s.d.now (s.first + 8 * j + 1 + i)) (fun i hi => by
        have : i < 7 := by unfold nsec at hi; omega
        have := hfar j (1 + i) hj hjk (by omega)
        rw [← Nat.add_assoc] at this
        exact this)]
      exact h.data j hj huj
theorem set_self (l : List SRow) (k : Nat) (hk : k < l.length) : l.set k (l.getD k noRow) = l := by
  rw [List.getD_eq_getElem?_getD, List.getElem?_eq_getElem hk, Option.getD_some]
  exact List.set_getElem_self hk

/-- What a crash leaves of slots that are told so, or so. -/
def Lost (s : SS) (d2 : DS) (u : Nat → Bool) (v : Nat → List UInt8) (k : Nat) (q : Bool) (b : List UInt8) : Prop :=
  d2.dead = true ∧ d2.n = s.d.n ∧ ∀ ch, ∃ rows, rows.length = s.rows.length ∧ (ToldR { s with d := d2.crash ch, rows := rows } u v ∨ ToldR { s with d := d2.crash ch, rows := rows } (fun j => if j = k then q else u j) (fun j => if j = k then b else v j))
theorem crash_rest (d : DS) (ch : List UInt8) : (d.crash ch).Rest := ⟨rfl, rfl, fun i => rfl⟩
theorem crash_now {d : DS} {ch : List UInt8} (i : Nat) : (d.crash ch).now i = applied (chosen ch d.since 0) d.lasts i := rfl
theorem ToldR.again {s : SS} {u : Nat → Bool} {v : Nat → List UInt8} (h : ToldR s u v) (d2 : DS) (hr : d2.Rest) (hn : d2.n = s.d.n) (k : Nat) (hk : k < s.rows.length) (hu : u k = false) (hh : d2.now (s.first + 8 * k) = s.d.now (s.first + 8 * k))
    (hfar : ∀ j i, j < s.rows.length → j ≠ k → i < 8 → d2.now (s.first + 8 * j + i) = s.d.now (s.first + 8 * j + i)) : ToldR { s with d := d2 } u v := by
  have h1 := h.of_now d2 hr hn k hk (s.rows.getD k noRow) (by rw [hh]; exact h.head k hk) hfar (v k) (fun e => by
    rw [h.used k hk, hu] at e; cases e)
  rw [set_self _ _ hk, h.used k hk] at h1
  have e1 : (fun j => if j = k then u k else u j) = u := by funext j; split <;> simp_all
  have e2 : (fun j => if j = k then v k else v j) = v := by funext j; split <;> simp_all
  rw [e1, e2] at h1
  exact h1

theorem ToldR.put {s : SS} {u : Nat → Bool} {v : Nat → List UInt8} (h : ToldR s u v) (k : Nat) (hk : k < s.rows.length) (key b : List UInt8) (hu : u k = false) (hkey : key.length ≤ 40) (hb : b.length ≤ 448) :
    ((s.put (k : Int) key b).1 = 0 ∧ ToldR (s.put (k : Int) key b).2 (fun j => if j = k then true else u j) (fun j => if j = k then b else v j) ∧ (s.put (k : Int) key b).2.rows.length = s.rows.length ∧ (s.put (k : Int) key b).2.first = s.first ∧ (s.put (k : Int) key b).2.d.n = s.d.n) ∨
    ((s.put (k : Int) key b).1 = 14 ∧ (s.put (k : Int) key b).2.rows = s.rows ∧ (s.put (k : Int) key b).2.first = s.first ∧ Lost s (s.put (k : Int) key b).2.d u v k true b) := by
  have hh : s.has (k : Int) := ⟨by omega, by omega⟩
  have hr : s.row (k : Int) = s.rows.getD k noRow := rfl
  have hp : s.pos (k : Int) = s.first + 8 * k := rfl
  have hns : nsec b.length ≤ 7 := by unfold nsec; omega
  have hroom := h.room
  have hput : s.put (k : Int) key b = if (s.d.lays (s.pos k + 1) b).1 ≠ 0 then ((s.d.lays (s.pos k + 1) b).1, { s with d := (s.d.lays (s.pos k + 1) b).2 }) else
    if ((s.d.lays (s.pos k + 1) b).2.lays (s.pos k) (headBytes b.length key)).1 ≠ 0 then (((s.d.lays (s.pos k + 1) b).2.lays (s.pos k) (headBytes b.length key)).1, { s with d := ((s.d.lays (s.pos k + 1) b).2.lays (s.pos k) (headBytes b.length key)).2 }) else
    (0, { s with d := ((s.d.lays (s.pos k + 1) b).2.lays (s.pos k) (headBytes b.length key)).2, rows := s.rows.set k ⟨true, b.length, key⟩ }) := by
    unfold SS.put
    rw [if_neg (by simpa using hh), if_neg (by omega), hr, h.used k hk, hu, if_neg (by simp)]
    rfl
  rw [hput]
  have hh1 : nsec (headBytes b.length key).length = 1 := by rw [headBytes_len _ _ hb hkey]; unfold nsec; omega
  rcases DS.lays_may (s.pos k + 1) b h.rest (by rw [hp]; omega) with ⟨a1, a2, a3, a4⟩ | ⟨a1, a2, a3, a4, a5⟩
  · rw [if_neg (by rw [a1]; simp)]
    generalize (s.d.lays (s.pos k + 1) b).2 = d1 at *
    rw [hp] at a4
    have hfar1 : ∀ j i, j < s.rows.length → j ≠ k → i < 8 → d1.now (s.first + 8 * j + i) = s.d.now (s.first + 8 * j + i) := fun j i _ hj hi => by
      rw [a4, if_neg (by omega)]
    have hhd1 : d1.now (s.first + 8 * k) = s.d.now (s.first + 8 * k) := by rw [a4, if_neg (by omega)]
    rcases DS.lays_may (s.pos k) (headBytes b.length key) a2 (by rw [hh1, a3, hp]; omega) with ⟨b1, b2, b3, b4⟩ | ⟨b1, b2, b3, b4, b5⟩
    · left
      rw [if_neg (by rw [b1]; simp)]
      generalize (d1.lays (s.pos k) (headBytes b.length key)).2 = d2 at *
      rw [hp, hh1] at b4
      refine ⟨rfl, h.of_now d2 b2 (by rw [b3, a3]) k hk ⟨true, b.length, key⟩ ?_ (fun j i hj hjk hi => ?_) b (fun _ => ?_), by simp, rfl, by rw [← a3, ← b3]⟩
      · rw [b4, if_pos (by omega), Nat.sub_self]
        exact head_back _ _ hb hkey
      · rw [b4, if_neg (by omega)]
        exact hfar1 j i hj hjk hi
      · dsimp only
        rw [flat_congr _ _ (secAt b) (fun i hi => by rw [b4, if_neg (by omega), a4, if_pos (by omega)]; congr 1; omega)]
        exact flat_back b
    · right
      rw [if_pos (by rw [b1]; simp)]
      generalize (d1.lays (s.pos k) (headBytes b.length key)).2 = d2 at *
      refine ⟨b1, rfl, rfl, b2, by rw [b3, a3], fun ch => ?_⟩
      rw [hh1] at b5
      have hall : ∀ x ∈ chosen ch d2.since 0, x = (s.first + 8 * k, secAt (headBytes b.length key) 0) := fun x hx => by
        obtain ⟨i, hi, rfl⟩ := b5 x (chosen_mem _ _ hx)
        obtain rfl : i = 0 := by omega
        rw [hp, Nat.add_zero]
      have hn2 : (d2.crash ch).n = s.d.n := by show d2.n = _; rw [b3, a3]
      have hl1 : ∀ i, d2.lasts i = d1.now i := fun i => by rw [b4]; exact a2.same i
      have hoth : ∀ i, i ≠ s.first + 8 * k → (d2.crash ch).now i = d1.now i := fun i hi => by
        rw [crash_now, applied_far i _ _ (fun x hx => by rw [hall x hx]; exact fun e => hi e.symm), hl1]
      have hfar2 : ∀ j i, j < s.rows.length → j ≠ k → i < 8 → (d2.crash ch).now (s.first + 8 * j + i) = s.d.now (s.first + 8 * j + i) := fun j i hj hjk hi => by
        rw [hoth _ (by omega)]
        exact hfar1 j i hj hjk hi
      rcases applied_same (s.first + 8 * k) (secAt (headBytes b.length key) 0) (chosen ch d2.since 0) d2.lasts hall with hA | hA
      · refine ⟨s.rows, rfl, .inl (h.again (d2.crash ch) (crash_rest _ _) hn2 k hk hu ?_ hfar2)⟩
        rw [crash_now, hA, hl1, hhd1]
      · refine ⟨s.rows.set k ⟨true, b.length, key⟩, by simp, .inr (h.of_now (d2.crash ch) (crash_rest _ _) hn2 k hk ⟨true, b.length, key⟩ ?_ hfar2 b (fun _ => ?_))⟩
        · rw [crash_now, hA]
          exact head_back _ _ hb hkey
        · dsimp only
          rw [flat_congr _ _ (secAt b) (fun i hi => by rw [hoth _ (by omega), a4, if_pos (by omega)]; congr 1; omega)]
          exact flat_back b
  · right
    rw [if_pos (by rw [a1]; simp)]
    generalize (s.d.lays (s.pos k + 1) b).2 = d1 at *
    refine ⟨a1, rfl, rfl, a2, a3, fun ch => ⟨s.rows, rfl, .inl ?_⟩⟩
    have hn2 : (d1.crash ch).n = s.d.n := a3
    have hoth : ∀ i, i < s.first + 8 * k + 1 ∨ s.first + 8 * k + 8 ≤ i → (d1.crash ch).now i = s.d.now i := fun i hi => by
      rw [crash_now, applied_far i _ _ (fun x hx => by
        obtain ⟨t, ht, rfl⟩ := a5 x (chosen_mem _ _ hx)
        rw [hp]
        show s.first + 8 * k + 1 + t ≠ i
        omega), a4]
      exact h.rest.same i
    refine h.again (d1.crash ch) (crash_rest _ _) hn2 k hk hu (hoth _ (by omega)) (fun j i hj hjk hi => hoth _ (by omega))
theorem ToldR.clear {s : SS} {u : Nat → Bool} {v : Nat → List UInt8} (h : ToldR s u v) (k : Nat) (hk : k < s.rows.length) (hu : u k = true) :
    ((s.clear (k : Int)).1 = 0 ∧ ToldR (s.clear (k : Int)).2 (fun j => if j = k then false else u j) v ∧ (s.clear (k : Int)).2.rows.length = s.rows.length ∧ (s.clear (k : Int)).2.first = s.first ∧ (s.clear (k : Int)).2.d.n = s.d.n) ∨
    ((s.clear (k : Int)).1 = 14 ∧ (s.clear (k : Int)).2.rows = s.rows ∧ (s.clear (k : Int)).2.first = s.first ∧ Lost s (s.clear (k : Int)).2.d u v k false (v k)) := by
  have hh : s.has (k : Int) := ⟨by omega, by omega⟩
  have hr : s.row (k : Int) = s.rows.getD k noRow := rfl
  have hp : s.pos (k : Int) = s.first + 8 * k := rfl
  have hroom := h.room
  have e2 : (fun j => if j = k then v k else v j) = v := by funext j; split <;> simp_all
  have hcl : s.clear (k : Int) = if (s.d.lays (s.pos k) (zeros 64)).1 ≠ 0 then ((s.d.lays (s.pos k) (zeros 64)).1, { s with d := (s.d.lays (s.pos k) (zeros 64)).2 }) else (0, { s with d := (s.d.lays (s.pos k) (zeros 64)).2, rows := s.rows.set k noRow }) := by
    unfold SS.clear
    rw [if_neg (by simpa using hh), hr, h.used k hk, hu, if_neg (by simp)]
    rfl
  rw [hcl]
  have hh1 : nsec (zeros 64).length = 1 := rfl
  rcases DS.lays_may (s.pos k) (zeros 64) h.rest (by rw [hh1, hp]; omega) with ⟨b1, b2, b3, b4⟩ | ⟨b1, b2, b3, b4, b5⟩
  · left
    rw [if_neg (by rw [b1]; simp)]
    generalize (s.d.lays (s.pos k) (zeros 64)).2 = d2 at *
    rw [hp, hh1] at b4
    have h1 := h.of_now d2 b2 b3 k hk noRow (by rw [b4, if_pos (by omega), Nat.sub_self]; exact head_none) (fun j i hj hjk hi => by rw [b4, if_neg (by omega)]) (v k) (fun e => by cases e)
    rw [e2] at h1
    exact ⟨rfl, h1, by simp, rfl, b3⟩
  · right
    rw [if_pos (by rw [b1]; simp)]
    generalize (s.d.lays (s.pos k) (zeros 64)).2 = d2 at *
    refine ⟨b1, rfl, rfl, b2, b3, fun ch => ?_⟩
    rw [hh1] at b5
    have hall : ∀ x ∈ chosen ch d2.since 0, x = (s.first + 8 * k, secAt (zeros 64) 0) := fun x hx => by
      obtain ⟨i, hi, rfl⟩ := b5 x (chosen_mem _ _ hx)
      obtain rfl : i = 0 := by omega
      rw [hp, Nat.add_zero]
    have hn2 : (d2.crash ch).n = s.d.n := b3
    have hl1 : ∀ i, d2.lasts i = s.d.now i := fun i => by rw [b4]; exact h.rest.same i
    have hoth : ∀ i, i ≠ s.first + 8 * k → (d2.crash ch).now i = s.d.now i := fun i hi => by
      rw [crash_now, applied_far i _ _ (fun x hx => by rw [hall x hx]; exact fun e => hi e.symm), hl1]
    have hfar2 : ∀ j i, j < s.rows.length → j ≠ k → i < 8 → (d2.crash ch).now (s.first + 8 * j + i) = s.d.now (s.first + 8 * j + i) := fun j i hj hjk hi => hoth _ (by omega)
    rcases applied_same (s.first + 8 * k) (secAt (zeros 64) 0) (chosen ch d2.since 0) d2.lasts hall with hA | hA
    · refine ⟨s.rows, rfl, .inl ?_⟩
      have h1 := h.of_now (d2.crash ch) (crash_rest _ _) hn2 k hk (s.rows.getD k noRow) (by rw [crash_now, hA, hl1]; exact h.head k hk) hfar2 (v k) (fun _ => by
        have hsm := h.small k hk
        rw [flat_congr _ _ (fun i => s.d.now (s.first + 8 * k + 1 + i)) (fun i hi => hoth _ (by omega))]
        exact h.data k hk hu)
      rw [set_self _ _ hk, h.used k hk] at h1
      have e1 : (fun j => if j = k then u k else u j) = u := by funext j; split <;> simp_all
      rw [e1, e2] at h1
      exact h1
    · refine ⟨s.rows.set k noRow, by simp, .inr (h.of_now (d2.crash ch) (crash_rest _ _) hn2 k hk noRow ?_ hfar2 (v k) (fun e => by cases e))⟩
      rw [crash_now, hA]
      exact head_none
/-- Opened anew they are as they are told. -/
theorem ToldR.anew {s : SS} {u : Nat → Bool} {v : Nat → List UInt8} (h : ToldR s u v) (hn : (s.d.n - s.first) / 8 = s.rows.length) (hz : s.d.n ≠ 0) : s.d.slots (s.first : Int) = (0, some s) := by
  have hroom := h.room
  unfold DS.slots
  rw [if_neg (by omega), if_neg (by rw [h.rest.alive]; simp [hz]), Int.toNat_natCast, hn, rowsFrom_told s.rows.length 0 (by omega) (fun j _ hj => h.head j hj)]
  rfl
/-- At rest, a crash loses nothing. -/
theorem ToldR.crash {s : SS} {u : Nat → Bool} {v : Nat → List UInt8} (h : ToldR s u v) (ch : List UInt8) : ToldR { s with d := s.d.crash ch } u v := by
  have hnow : ∀ i, (s.d.crash ch).now i = s.d.now i := fun i => by
    rw [crash_now, h.rest.none]
    exact h.rest.same i
  refine ⟨crash_rest _ _, h.room, fun k hk => by show headOf ((s.d.crash ch).now _) = _; rw [hnow]; exact h.head k hk, h.used, fun k hk hu => ?_⟩
  rw [← h.data k hk hu]
  unfold SS.data
  congr 2
  funext i
  exact hnow _
theorem ToldR.fuse {s : SS} {u : Nat → Bool} {v : Nat → List UInt8} (h : ToldR s u v) (n : Int) : ToldR { s with d := s.d.setFuse n } u v := ⟨⟨h.rest.alive, h.rest.none, h.rest.same⟩, h.room, h.head, h.used, h.data⟩
end Go.Proofs.YtdkhmfcfihbjeaaGreatDoor.W

/- Package store: sign. -/
namespace Go.Proofs.YtdkhmfcfihbjeaaGreatDoor.W
open Go.RowKit
set_option linter.unusedVariables false
set_option linter.unusedSimpArgs false

def DS.sign (d : DS) (n : UInt8) : Int × DS := if (d.write 0 (n :: zeros 63)).1 ≠ 0 then d.write 0 (n :: zeros 63) else (d.write 0 (n :: zeros 63)).2.sync
theorem DS.sign_ok (d : DS) (n : UInt8) : (d.sign n).2.n = d.n ∧ (d.sign n).2.ops ≤ d.ops + 2 ∧ (d.sign n).2.since.length ≤ d.since.length + 1 := by
  obtain ⟨h1, h2, h3⟩ := d.write_ok 0 (n :: zeros 63)
  obtain ⟨g1, g2, g3⟩ := (d.write 0 (n :: zeros 63)).2.sync_ok
  unfold DS.sign
  split
  · exact ⟨h1, by omega, by omega⟩
  · exact ⟨by rw [g1, h1], by omega, by omega⟩
theorem mark_cells (n : UInt8) : Z64.setIfInBounds 0 (bv n) = (bvs (n :: zeros 63)).toArray := by
  unfold Z64
  rfl

set_option maxHeartbeats 2000000 in
set_option maxRecDepth 100000 in
theorem sign_any (p : Nat) (S : List Nat) (d : DS) (n : UInt8) (w : World) (h : DiskAt w p S d) (hn : 1 ≤ d.n) (ho : d.ops ≤ 900000000) (hw : d.since.length ≤ 900000) :
    Calls Tryz.prog 81 #[.pointer (some ⟨p, 0, none⟩), bv n] w fun e w' => e = .returned (.int .i64 (d.sign n).1) ∧ Did w w' p S (d.sign n).2 := by
  have hmk := make_64
  obtain ⟨w1, hw1⟩ : ∃ w1, w1 = w.alloc (.cells (Z64.setIfInBounds 0 (bv n)) 5) := ⟨_, rfl⟩
  have hb0 : (w.alloc (.cells Z64 5)).heap[w.heap.size]? = some (.cells Z64 5 (0, 0)) := heap_alloc_new w _
  have c0 : (w.alloc (.cells Z64 5)).cell? ⟨w.heap.size, 0, none⟩ = some (bv 0) := blk_cell hb0 0 _ rfl
  have f0 := blk_frozen hb0 0
  have hb1 : w1.heap[w.heap.size]? = some (.cells (bvs (n :: zeros 63)).toArray 5 (0, 0)) := by
    rw [hw1, ← mark_cells]
    exact heap_alloc_new w _
  have hc1 : Chg [] w w1 := by rw [hw1]; exact (Chg.refl [] w).alloc _
  have hr1 := row_of_block hb1 (by simp [zeros, maxLen])
  have hlen : (n :: zeros 63).length = 64 := by simp [zeros]
  rw [hlen] at hr1
  have HW1 := Lib.hid hw1
  have hd1 := h.keep hc1 (by simp)
  have CW := Lib.hid (dwrite_any p S d 0 _ (n :: zeros 63) w1 hd1 (by omega) (by omega) ⟨by omega, by omega⟩ hlen hr1.bytes)
  have HG : Hid (d.sign n = if (d.write 0 (n :: zeros 63)).1 ≠ 0 then d.write 0 (n :: zeros 63) else (d.write 0 (n :: zeros 63)).2.sync) := Lib.hid rfl
  obtain ⟨h1, h2, h3⟩ := d.write_ok 0 (n :: zeros 63)
  generalize d.sign n = r at *
  generalize d.write 0 (n :: zeros 63) = r1 at *
  obtain ⟨e1, d1⟩ := r1
  dsimp only at *
  have HC1 := Lib.hid hc1
  have hv : bv n = .int .u8 (n.toNat : Int) := rfl
  have hv0 : bv 0 = .int .u8 0 := rfl
  rw [hv0] at c0
  rw [hv] at HW1 ⊢
  clear hb0 hb1 hc1 hr1 hw1 hd1 hlen hv hv0 h
  go_enter Tryz.func81, Tryz.ntmps81
  go_wp2_with fail
  rw [← HW1.out]
  refine CW.out.mono ?_
  rintro e w2 ⟨rfl, hd2⟩
  have HD2 := Lib.hid (Did.pre HC1.out hd2)
  clear hd2 CW
  by_cases he : e1 = 0
  · subst he
    have HR : Hid (r = d1.sync) := Lib.hid (by rw [HG.out, if_neg (by simp)])
    obtain ⟨S2, hs1, hs2, hs3⟩ := HD2.out
    have CY := Lib.hid (dsync_any p S2 d1 w2 hs1 (by omega) (by omega))
    have HS2 := Lib.hid (And.intro hs2 hs3)
    clear hs1 hs2 hs3
    go_wp2_with fail
    refine CY.out.mono ?_
    rintro e w3 ⟨rfl, hd3⟩
    have HD3 := Lib.hid (Did.glue HS2.out.1 HS2.out.2 hd3)
    clear hd3 CY
    go_wp2
    go_ret
    rw [HR.out]
    exact ⟨rfl, HD3.out⟩
  · have HR : Hid (r = (e1, d1)) := Lib.hid (by rw [HG.out, if_pos he])
    have q : (e1 != 0) = true := by simp [he]
    clear he
    go_wp2
    go_ret
    rw [HR.out]
    exact ⟨rfl, HD2.out⟩
end Go.Proofs.YtdkhmfcfihbjeaaGreatDoor.W

/- Package store, plainly; where a store lies in memory. -/
namespace Go.Proofs.YtdkhmfcfihbjeaaGreatDoor.W
open Go.RowKit
set_option linter.unusedVariables false
set_option linter.unusedSimpArgs false
variable {G : List Nat}

/-! ### Plainly -/
structure Sto where
  s : SS
  whole : Bool
def rowIs (rows : List SRow) (k : List UInt8) (j : Nat) : Bool := (rows.getD j noRow).used && decide ((rows.getD j noRow).key = k)
/-- The slots ahead of the i-th that have a key. -/
def upto (rows : List SRow) (i : Nat) (k : List UInt8) : List Nat := (List.range i).filter (rowIs rows k)
theorem upto_succ (rows : List SRow) (i : Nat) (k : List UInt8) : upto rows (i + 1) k = upto rows i k ++ if rowIs rows k i then [i] else [] := by
  unfold upto
  rw [List.range_succ, List.filter_append]
  congr 1
  by_cases h : rowIs rows k i = true <;> simp [h]
theorem upto_len (rows : List SRow) (i : Nat) (k : List UInt8) : (upto rows i k).length ≤ i := by
  have := List.length_filter_le (rowIs rows k) (List.range i)
  rwa [List.length_range] at this
theorem upto_mem {rows : List SRow} {i : Nat} {k : List UInt8} {j : Nat} : j ∈ upto rows i k ↔ j < i ∧ (rows.getD j noRow).used = true ∧ (rows.getD j noRow).key = k := by
  unfold upto rowIs
  rw [List.mem_filter, List.mem_range, Bool.and_eq_true, decide_eq_true_eq]
def Sto.at (t : Sto) (x : Id) : List Nat := if mayId x = true then upto t.s.rows t.s.rows.length (idKey x) else []
theorem Sto.at_may {t : Sto} {x : Id} (h : mayId x = true) : t.at x = upto t.s.rows t.s.rows.length (idKey x) := by unfold Sto.at; rw [if_pos h]
theorem Sto.at_not {t : Sto} {x : Id} (h : mayId x = false) : t.at x = [] := by unfold Sto.at; rw [if_neg (by rw [h]; simp)]
def keysOk (rows : List SRow) : Prop := ∀ r ∈ rows, r.used = true → unOk r.key = true
def stKeys (rows : List SRow) : Bool := rows.all (fun r => !r.used || unOk r.key)
theorem stKeys_iff {rows : List SRow} : stKeys rows = true ↔ keysOk rows := by
  unfold stKeys keysOk
  rw [List.all_eq_true]
  constructor
  · intro h r hr hu
    have := h r hr
    simpa [hu] using this
  · intro h r hr
    cases hu : r.used with
    | false => rfl
    | true => rw [h r hr hu]; rfl
def DS.stOpen (d : DS) : Int × Option Sto :=
  if d.n < 9 then (1, none) else if d.dead then (14, none) else
  if (((d.now 0).getD 0 0 ≠ 1 ∧ (d.now 0).getD 0 0 ≠ 2) ∨ allZ ((d.now 0).drop 1) = false) then (4, none) else
  match (d.slots 1).2 with
  | none => ((d.slots 1).1, none)
  | some s => if stKeys s.rows then (0, some ⟨s, (d.now 0).getD 0 0 == 2⟩) else (4, none)
def DS.wipe (d : DS) : Nat → Nat → Int × DS
  | 0, _ => d.sync
  | k + 1, a => if (d.write (a : Nat) (zeros 64)).1 ≠ 0 then d.write (a : Nat) (zeros 64) else (d.write (a : Nat) (zeros 64)).2.wipe k (a + 8)
theorem DS.wipe_ok : ∀ (k a : Nat) (d : DS), (d.wipe k a).2.n = d.n ∧ (d.wipe k a).2.ops ≤ d.ops + k + 1 ∧ (d.wipe k a).2.since.length ≤ d.since.length + k
  | 0, a, d => by
    obtain ⟨h1, h2, h3⟩ := d.sync_ok
    exact ⟨h1, by simpa [DS.wipe] using h2, by simpa [DS.wipe] using h3⟩
  | k + 1, a, d => by
    obtain ⟨h1, h2, h3⟩ := d.write_ok (a : Nat) (zeros 64)
    obtain ⟨g1, g2, g3⟩ := DS.wipe_ok k (a + 8) (d.write (a : Nat) (zeros 64)).2
    unfold DS.wipe
    split
    · exact ⟨h1, by omega, by omega⟩
    · exact ⟨by rw [g1, h1], by omega, by omega⟩
def DS.fmt1 (d : DS) : Int × DS := d.wipe ((d.n - 1) / 8) 1
def DS.fmt2 (d : DS) : Int × DS := d.fmt1.2.sign 1
def DS.format (d : DS) : (Int × Option Sto) × DS :=
  if d.n < 9 then ((1, none), d) else if d.fmt1.1 ≠ 0 then ((d.fmt1.1, none), d.fmt1.2) else if d.fmt2.1 ≠ 0 then ((d.fmt2.1, none), d.fmt2.2) else (d.fmt2.2.stOpen, d.fmt2.2)
def Sto.put (t : Sto) (x : Id) (b : List UInt8) : Int × Sto :=
  if mayId x = false then (1, t) else if 448 < b.length then (3, t) else
  match t.at x with
  | i :: _ => if (t.s.get i).2 ≠ 0 then ((t.s.get i).2, t) else if (t.s.get i).1 = b then (0, t) else (7, t)
  | [] => if t.s.free < 0 then (5, t) else ((t.s.put t.s.free (idKey x) b).1, { t with s := (t.s.put t.s.free (idKey x) b).2 })
def Sto.get (t : Sto) (x : Id) : List UInt8 × Int :=
  if mayId x = false then ([], 1) else match t.at x with
  | [] => ([], 6)
  | i :: _ => t.s.get i
def SS.clears (s : SS) : List Nat → Int × SS
  | [] => (0, s)
  | i :: r => if (s.clear i).1 ≠ 0 then s.clear i else (s.clear i).2.clears r
def Sto.del (t : Sto) (x : Id) : Int × Sto := if mayId x = false then (1, t) else ((t.s.clears (t.at x)).1, { t with s := (t.s.clears (t.at x)).2 })
def Sto.room (t : Sto) : Nat := t.s.rows.countP (fun r => !r.used)
def Sto.setWhole (t : Sto) : Int × Sto := ((t.s.d.sign 2).1, ⟨{ t.s with d := (t.s.d.sign 2).2 }, t.whole || ((t.s.d.sign 2).1 == 0)⟩)

/-! ### In memory -/
def IntsAt (w : World) (v : Value) (l : List Nat) : Prop := ∃ a cap, v = .slice a l.length cap ∧ l.length ≤ cap ∧ cap ≤ maxLen ∧ (l ≠ [] → ∃ g o, a = some ⟨g, o, none⟩ ∧ ∀ i, i < l.length → w.cell? ⟨g, o + i, none⟩ = some (.int .i64 ((l.getD i 0 : Nat) : Int)))
theorem IntsAt.keep {w w' : World} {v : Value} {l : List Nat} (h : IntsAt w v l) (hb : ∀ g, v.ownBlock = some g → w'.heap[g]? = w.heap[g]?) : IntsAt w' v l := by
  obtain ⟨a, cap, rfl, h1, h2, h3⟩ := h
  refine ⟨a, cap, rfl, h1, h2, fun hn => ?_⟩
  obtain ⟨g, o, rfl, h4⟩ := h3 hn
  refine ⟨g, o, rfl, fun i hi => ?_⟩
  rw [← h4 i hi]
  simp only [World.cell?, hb g rfl]
/-- What the map has at an id. -/
def IdsAt (w : World) (U : List Nat) (o : Option Value) (l : List Nat) : Prop := (l = [] ∧ o = none) ∨ (l ≠ [] ∧ ∃ v, o = some v ∧ IntsAt w v l ∧ ∀ g, v.ownBlock = some g → g < w.heap.size ∧ g ∉ U)
theorem IdsAt.keep {w w' : World} {U U' T : List Nat} {o : Option Value} {l : List Nat} (h : IdsAt w U o l) (hc : Chg T w w') (hT : ∀ x ∈ T, x ∈ U ∨ w.heap.size ≤ x) (hU : ∀ x ∈ U', x ∈ U ∨ w.heap.size ≤ x) : IdsAt w' U' o l := by
  rcases h with h | ⟨h1, v, h2, h3, h4⟩
  · exact .inl h
  · refine .inr ⟨h1, v, h2, h3.keep fun g hg => ?_, fun g hg => ⟨Nat.lt_of_lt_of_le (h4 g hg).1 hc.size, fun hm => ?_⟩⟩
    · obtain ⟨k1, k2⟩ := h4 g hg
      refine hc.block g k1 (fun hm => ?_)
      rcases hT g hm with h | h
      · exact k2 h
      · omega
    · obtain ⟨k1, k2⟩ := h4 g hg
      rcases hU g hm with h | h
      · exact k2 h
      · omega
/-- No block of G is one of the map's values. -/
def Far (G : List Nat) (w : World) (φ : Id → Option Value) : Prop := ∀ x ∈ G, x < w.heap.size ∧ ∀ y v, okD y → φ y = some v → v.ownBlock ≠ some x
theorem Far.mono {G : List Nat} {w w' : World} {φ : Id → Option Value} (h : Far G w φ) (hs : w.heap.size ≤ w'.heap.size) : Far G w' φ := fun x hx => ⟨Nat.lt_of_lt_of_le (h x hx).1 hs, (h x hx).2⟩
theorem Far.upd {G : List Nat} {w : World} {φ : Id → Option Value} (h : Far G w φ) (x : Id) {v : Value} (hv : ∀ k ∈ G, v.ownBlock ≠ some k) : Far G w (updF φ x v) := fun k hk => ⟨(h k hk).1, fun y u hy hu => by
  by_cases e : y = x
  · subst e
    rw [updF_self] at hu
    obtain rfl := Option.some.inj hu
    exact hv k hk
  · rw [updF_other _ _ e] at hu
    exact (h k hk).2 y u hy hu⟩
theorem Far.del {G : List Nat} {w : World} {φ : Id → Option Value} (h : Far G w φ) (x : Id) : Far G w (delF φ x) := fun k hk => ⟨(h k hk).1, fun y u hy hu => by
  by_cases e : y = x
  · subst e
    rw [delF_self] at hu
    cases hu
  · rw [delF_other _ e] at hu
    exact (h k hk).2 y u hy hu⟩
structure StOk (G : List Nat) (w : World) (q p sp mb : Nat) (Us : List Nat) (φ : Id → Option Value) (N : Nat) (t : Sto) : Prop where
  head : w.heap[q]? = some (.cells #[.pointer (some ⟨p, 0, none⟩), .pointer (some ⟨sp, 0, none⟩), .map (some mb), .bool t.whole] 98 (0, 0))
  slots : SlotsAt w sp p Us t.s
  map : MapF 38 klD okD w mb φ N
  apart : q ∉ Us ∧ mb ∉ Us
  vals : ∀ x, okD x → IdsAt w (q :: mb :: Us) (φ x) (t.at x)
  ok : keysOk t.s.rows
  far : Far G w φ
def StAt (G : List Nat) (w : World) (q p : Nat) (U : List Nat) (t : Sto) : Prop := ∃ sp mb Us φ N, StOk G w q p sp mb Us φ N t ∧ U = q :: mb :: Us
theorem ne_blk {w : World} {q mb t N : Nat} {cs : Array Value} {φ : Id → Option Value} (h : w.heap[q]? = some (.cells cs t (0, 0))) (hm : MapF 38 klD okD w mb φ N) : q ≠ mb := fun e => by
  obtain ⟨es, clock, h2⟩ := hm.obj
  rw [e, h2] at h
  cases h
theorem SlotsAt.uL {w : World} {q p : Nat} {U : List Nat} {s : SS} (h : SlotsAt w q p U s) : ∀ x ∈ U, x < w.heap.size := by
  obtain ⟨S, rv, R, h⟩ := h
  exact h.uL
theorem StAt.lim {w : World} {q p : Nat} {U : List Nat} {t : Sto} (h : StAt G w q p U t) : ∀ x ∈ U, x < w.heap.size := by
  obtain ⟨sp, mb, Us, φ, N, h, rfl⟩ := h
  intro x hx
  rcases List.mem_cons.1 hx with rfl | hx
  · exact blk_lt h.head
  · rcases List.mem_cons.1 hx with rfl | hx
    · exact h.map.lt
    · exact h.slots.uL x hx
theorem StOk.keep0 {w w' : World} {q p sp mb : Nat} {Us : List Nat} {φ : Id → Option Value} {N : Nat} {t : Sto} (h : StOk G w q p sp mb Us φ N t) (hc : Chg [] w w') : StOk G w' q p sp mb Us φ N t :=
  ⟨hc.keep h.head (by simp), h.slots.keep0 hc, h.map.chg hc (by simp), h.apart, fun x hx => (h.vals x hx).keep hc (by simp) (fun y hy => .inl hy), h.ok, h.far.mono hc.size⟩
theorem StAt.keep0 {w w' : World} {q p : Nat} {U : List Nat} {t : Sto} (h : StAt G w q p U t) (hc : Chg [] w w') : StAt G w' q p U t := by
  obtain ⟨sp, mb, Us, φ, N, h, rfl⟩ := h
  exact ⟨sp, mb, Us, φ, N, h.keep0 hc, rfl⟩
/-- What doing with a store leaves. -/
def Std (G : List Nat) (w w' : World) (q p : Nat) (U : List Nat) (t : Sto) : Prop := ∃ U', StAt G w' q p U' t ∧ (∀ x ∈ U', x ∈ U ∨ w.heap.size ≤ x) ∧ Chg U w w'
theorem Std.same {w : World} {q p : Nat} {U : List Nat} {t : Sto} (h : StAt G w q p U t) : Std G w w q p U t := ⟨U, h, fun x hx => .inl hx, Chg.refl _ _⟩
theorem Std.glue {w w1 w2 : World} {q p : Nat} {U U1 : List Nat} {t : Sto} (hs : ∀ x ∈ U1, x ∈ U ∨ w.heap.size ≤ x) (hc : Chg U w w1) (h : Std G w1 w2 q p U1 t) : Std G w w2 q p U t := by
  obtain ⟨U2, b1, b2, b3⟩ := h
  refine ⟨U2, b1, fun x hx => ?_, hc.trans b3 hs⟩
  rcases b2 x hx with h | h
  · exact hs x h
  · exact .inr (Nat.le_trans hc.size h)
theorem Std.pre {w0 w w' : World} {q p : Nat} {U : List Nat} {t : Sto} (hc : Chg [] w0 w) (h : Std G w w' q p U t) : Std G w0 w' q p U t := Std.glue (fun x hx => .inl hx) (hc.mono (by simp)) h
theorem Std.post {w w1 w2 : World} {q p : Nat} {U : List Nat} {t : Sto} (h : Std G w w1 q p U t) (hc : Chg [] w1 w2) : Std G w w2 q p U t := by
  obtain ⟨U1, a1, a2, a3⟩ := h
  exact ⟨U1, a1.keep0 hc, a2, a3.trans hc (by simp)⟩
/-- The slots go on under the store, which slots have which keys stays. -/
theorem StOk.slotsDid {w w' : World} {q p sp mb : Nat} {Us : List Nat} {φ : Id → Option Value} {N : Nat} {t : Sto} {s' : SS} (h : StOk G w q p sp mb Us φ N t) (hs : Sid w w' sp p Us s') (hr : s'.rows = t.s.rows) :
    ∃ Us', StOk G w' q p sp mb Us' φ N { t with s := s' } ∧ (∀ x ∈ Us', x ∈ Us ∨ w.heap.size ≤ x) ∧ Chg Us w w' := by
  obtain ⟨U', h1, h2, h3⟩ := hs
  have hq := blk_lt h.head
  have hm := h.map.lt
  have hat : ∀ x, Sto.at { t with s := s' } x = t.at x := fun x => by unfold Sto.at; simp only [hr]
  refine ⟨U', ⟨h3.keep h.head h.apart.1, h1, h.map.chg h3 h.apart.2, ⟨fun hx => ?_, fun hx => ?_⟩, fun x hx => ?_, by rw [show ({ t with s := s' } : Sto).s.rows = t.s.rows from hr]; exact h.ok, h.far.mono h3.size⟩, h2, h3⟩
  · rcases h2 q hx with h4 | h4
    · exact h.apart.1 h4
    · omega
  · rcases h2 mb hx with h4 | h4
    · exact h.apart.2 h4
    · omega
  · rw [hat]
    refine (h.vals x hx).keep h3 (fun y hy => .inl (by simp [hy])) (fun y hy => ?_)
    rcases List.mem_cons.1 hy with rfl | hy
    · exact .inl (by simp)
    · rcases List.mem_cons.1 hy with rfl | hy
      · exact .inl (by simp)
      · rcases h2 y hy with h4 | h4
        · exact .inl (by simp [h4])
        · exact .inr h4
theorem StOk.std {w w' : World} {q p sp mb : Nat} {Us Us' : List Nat} {φ : Id → Option Value} {N : Nat} {t : Sto} (h : StOk G w' q p sp mb Us' φ N t) (h2 : ∀ x ∈ Us', x ∈ Us ∨ w.heap.size ≤ x) (h3 : Chg (q :: mb :: Us) w w') : Std G w w' q p (q :: mb :: Us) t := by
  refine ⟨_, ⟨sp, mb, Us', φ, N, h, rfl⟩, fun x hx => ?_, h3⟩
  rcases List.mem_cons.1 hx with rfl | hx
  · exact .inl (by simp)
  · rcases List.mem_cons.1 hx with rfl | hx
    · exact .inl (by simp)
    · rcases h2 x hx with h4 | h4
      · exact .inl (by simp [h4])
      · exact .inr h4
end Go.Proofs.YtdkhmfcfihbjeaaGreatDoor.W

/- 'm[k] = append(m[k], x)': an entry of a map, and its store. -/
namespace Go.Proofs.YtdkhmfcfihbjeaaGreatDoor.W
open Go.RowKit
open Go.ChangeMaps Go.MapKept
set_option linter.unusedVariables false
set_option linter.unusedSimpArgs false

theorem keId_klaw : WideMaps.KeyLaw Tryz.prog 38 := deep_law_laid laidD (m := 4) (by decide) (of_decide_eq_true (by kernel_rfl)) (by kernel_rfl) (by rw [Tryz.underlying38])
variable {κ : Type} {k : TypeId} {kv : κ → Value} {kl : κ → Lit} {ok : κ → Prop}
theorem MapF.entry (KL : WideMaps.KeyLaw Tryz.prog k) (E : KE k kv kl ok) {w : World} {b N : Nat} {φ : κ → Option Value} (h : MapF k kl ok w b φ N) {t e : TypeId} (ht : Tryz.prog.underlying t = some (.map k e)) {z : Value} (hz : ∀ w, (zeroValue e).run Tryz.prog w = .ok z w) {x : κ} (hx : ok x) (hN : N < maxLen) :
    ∃ (st : Nat) (w1 : World), (Instr.mapEntry t (.map (some b)) (kv x)).run Tryz.prog w = .ok (.tuple #[(φ x).getD z, goInt st]) w1 ∧ Chg [b] w w1 ∧ w1.heap.size = w.heap.size ∧
      ∀ (w2 : World) (val : Value), w2.heap[b]? = w1.heap[b]? → ∃ w3, (Instr.entryStore t (.map (some b)) (goInt st) val).run Tryz.prog w2 = .ok () w3 ∧ MapF k kl ok w3 b (updF φ x val) (if (φ x).isSome then N else N + 1) ∧ Chg [b] w2 w3 ∧ w3.heap.size = w2.heap.size := by
  have hlook := h.look E ht hz hx
  have hst := fun v => h.store E ht hx v hN
  obtain ⟨D, ho, hs, hf⟩ := h
  obtain ⟨es, clock, hb, F, hsz, rfl⟩ := ho
  obtain ⟨v0, st, es1, clock1, hrun, hv0, hstore⟩ := WideElems.entry_then_store KL ht hz hb F (E.of x hx)
  have hv : v0 = (φ x).getD z := by
    rcases Maps.fit_look false E.law ht (hz w) hb F (E.of x hx) with ⟨g1, g2, _⟩ | ⟨e0, y, g1, g2, g3, _⟩
    · rcases hv0 with ⟨e1, h1, h2, h3⟩ | ⟨_, rfl⟩
      · exact absurd h2 (g2 e1 h1)
      · rw [g1] at hlook
        simp only [Bool.false_eq_true, if_false] at hlook
        exact (Result.ok.inj hlook).1
    · rw [g3] at hlook
      simp only [Bool.false_eq_true, if_false] at hlook
      rw [← (Result.ok.inj hlook).1]
      rcases hv0 with ⟨e1, h1, h2, rfl⟩ | ⟨g, _⟩
      · have hnd := F.stamped.2.2
        have : e1 = e0 := by
          obtain ⟨i, hi⟩ := List.getElem?_of_mem h1
          obtain ⟨j, hj⟩ := List.getElem?_of_mem g1
          have hij : i = j := by
            have h4 : (es.toList.map (·.key))[i]? = some (kv x) := by rw [List.getElem?_map, hi]; simp [h2]
            have h5 : (es.toList.map (·.key))[j]? = some (kv x) := by rw [List.getElem?_map, hj]; simp [g2]
            obtain ⟨hl4, h4'⟩ := List.getElem?_eq_some_iff.1 h4
            obtain ⟨hl5, h5'⟩ := List.getElem?_eq_some_iff.1 h5
            have hne := List.pairwise_iff_getElem.1 hnd
            refine Classical.byContradiction fun hne' => ?_
            rcases Nat.lt_or_gt_of_ne hne' with h | h
            · exact hne i j hl4 hl5 h (h4'.trans h5'.symm)
            · exact hne j i hl5 hl4 h (h5'.trans h4'.symm)
          subst hij
          rw [hi] at hj
          exact Option.some.inj hj
        rw [this]
      · exact absurd g2 (g e0 g1)
  subst hv
  obtain ⟨c1, c2⟩ := turned_chg (w := w) (w' := setBlock w b (.map es1 clock1)) (b := b) ⟨es, clock, es1, clock1, hb, rfl⟩
  refine ⟨st, _, hrun, c1, c2, fun w2 val hw2 => ?_⟩
  have hb2 : w2.heap[b]? = some (.map es1 clock1) := by rw [hw2, heap_setBlock_same hb]
  obtain ⟨es', clock', k1, k2⟩ := hstore w2 val hb2
  obtain ⟨w', m1, m2, m3, m4⟩ := hst val
  rw [k2] at m1
  obtain rfl := (Result.ok.inj m1).2
  obtain ⟨d1, d2⟩ := turned_chg (w := w2) (w' := setBlock w2 b (.map es' clock')) (b := b) ⟨es1, clock1, es', clock', hb2, rfl⟩
  refine ⟨_, k1, m2.keep ?_, d1, d2⟩
  rw [heap_setBlock_same hb2, heap_setBlock_same hb]
open Classical in
theorem nodup_len {α : Type} : ∀ {l L : List α}, l.Nodup → (∀ x ∈ l, x ∈ L) → l.length ≤ L.length
  | [], L, _, _ => Nat.zero_le _
  | a :: l, L, h, hs => by
    have h' := List.nodup_cons.1 h
    have ha := hs a (List.mem_cons_self ..)
    have := nodup_len (l := l) (L := L.erase a) h'.2 (fun x hx => (List.mem_erase_of_ne (fun e => h'.1 (by rw [← e]; exact hx))).2 (hs x (List.mem_cons_of_mem _ hx)))
    rw [List.length_erase_of_mem ha] at this
    have := List.length_pos_of_mem ha
    simp only [List.length_cons]
    omega
/-- How many entries a map may have. -/
theorem MapF.card (E : KE k kv kl ok) {w : World} {b N : Nat} {φ : κ → Option Value} (h : MapF k kl ok w b φ N) (L : List κ) (hL : ∀ x, ok x → (φ x).isSome = true → x ∈ L) : N ≤ L.length := by
  obtain ⟨D, ho, hs, hf⟩ := h
  have hkeys : ∃ es, D = .map es ∧ Go.Maps.Keys (Go.Maps.KeysOf Tryz.prog k) es := by
    obtain ⟨es, clock, hb, F, hn, rfl⟩ := ho
    refine ⟨_, rfl, ?_⟩
    exact fun p hp => Go.Maps.fit_keys F p ((Go.WideShapes.sorted_perm _).mem_iff.1 hp)
  obtain ⟨es, rfl, hk⟩ := hkeys
  obtain ⟨es', he, hp⟩ := ho.tidy E.law
  obtain rfl : es = es' := by simpa using he
  rw [← hs]
  show es.length ≤ L.length
  have hn : (es.map (·.1)).Nodup := by
    rw [List.Nodup, List.pairwise_map]
    exact hp
  have hm : ∀ l ∈ es.map (·.1), l ∈ L.map kl := by
    intro l hl
    obtain ⟨p, hp, rfl⟩ := List.mem_map.1 hl
    obtain ⟨v, hv⟩ := hk p hp
    obtain ⟨x, hx, _, e⟩ := E.inv v _ hv
    rw [e]
    refine List.mem_map_of_mem (hL x hx ?_)
    rw [← (hf x hx).1, Maps.has_eq, List.any_eq_true]
    exact ⟨p, hp, by rw [e]; exact WideAt.sameKey_self (E.law.key (E.of x hx))⟩
  have := nodup_len hn hm
  simpa using this

end Go.Proofs.YtdkhmfcfihbjeaaGreatDoor.W

/- Package store: Open, where it is refused. -/
namespace Go.Proofs.YtdkhmfcfihbjeaaGreatDoor.W
open Go.RowKit
set_option linter.unusedVariables false
set_option linter.unusedSimpArgs false

def StOpenPost (p : Nat) (S : List Nat) (w : World) (r : Int × Option Sto) (e : Ending) (w' : World) : Prop := Chg [] w w' ∧ match r with
  | (c, none) => e = .returned (.tuple #[.pointer none, .int .i64 c])
  | (c, some t) => ∃ q U, e = .returned (.tuple #[.pointer (some ⟨q, 0, none⟩), .int .i64 c]) ∧ StAt [] w' q p U t ∧ ∀ x ∈ U, x ∈ S ∨ w.heap.size ≤ x
theorem sec_len {w : World} {p : Nat} {S : List Nat} {d : DS} (h : DiskAt w p S d) {k : Nat} (hk : k < d.n) : (d.now k).length = 64 := by
  obtain ⟨gn, gl, cn, cl, v, H⟩ := h
  exact H.now.len k hk

set_option maxHeartbeats 2000000 in
set_option maxRecDepth 100000 in
theorem stopen_small (p : Nat) (S : List Nat) (d : DS) (w : World) (h : DiskAt w p S d) (hn : d.n < 9) : Calls Tryz.prog 40 #[.pointer (some ⟨p, 0, none⟩)] w fun e w' => e = .returned (.tuple #[.pointer none, .int .i64 1]) ∧ Chg [] w w' := by
  have CS := Lib.hid (dsectors_any p S d w h)
  generalize d.n = n at *
  clear h
  go_enter Tryz.func40, Tryz.ntmps40
  go_wp2_with (go_at_call 78; refine CS.out.mono ?_; rintro e w' ⟨rfl, hq⟩; subst hq)
  go_ret2
  exact ⟨rfl, Chg.refl _ _⟩
set_option maxHeartbeats 2000000 in
set_option maxRecDepth 100000 in
theorem stopen_dead (p : Nat) (S : List Nat) (d : DS) (w : World) (h : DiskAt w p S d) (hn : 9 ≤ d.n) (hd : d.dead = true) : Calls Tryz.prog 40 #[.pointer (some ⟨p, 0, none⟩)] w fun e w' => e = .returned (.tuple #[.pointer none, .int .i64 14]) ∧ Chg [] w w' := by
  have CS := Lib.hid (dsectors_any p S d w h)
  have CR := Lib.hid ((dread_any p S d 0 w h).mono (fun e w' h1 => (⟨by have := h1.1; rwa [if_pos hd] at this, h1.2⟩ : e = .returned (.tuple #[.slice none 0 0, .int .i64 14]) ∧ Chg [] w w')))
  clear h hd
  generalize d.n = n at *
  go_enter Tryz.func40, Tryz.ntmps40
  go_wp2_with (first
    | (go_at_call 78; refine CS.out.mono ?_; rintro e w' ⟨rfl, hq⟩; subst hq)
    | (go_at_call 89; refine CR.out.mono ?_; rintro e w1 ⟨rfl, hc1⟩))
  go_ret2
  exact ⟨rfl, hc1⟩
theorem dread_ok (p : Nat) (S : List Nat) (d : DS) (k : Nat) (w : World) (h : DiskAt w p S d) (hd : d.dead = false) (hk : k < d.n) : Calls Tryz.prog 89 #[.pointer (some ⟨p, 0, none⟩), .int .i64 (k : Int)] w fun e w' =>
    (∃ v, e = .returned (.tuple #[v, .int .i64 0]) ∧ BRow w' v (d.now k) ∧ ∀ g, v.ownBlock = some g → w.heap.size ≤ g) ∧ Chg [] w w' := by
  refine (dread_any p S d k w h).mono ?_
  rintro e w' ⟨h1, h2⟩
  rw [if_neg (by simp [hd]), if_pos (by omega)] at h1
  exact ⟨h1, h2⟩
/-- What the sector says of the store. -/
def hdBad (b : List UInt8) : Bool := !(decide (b.getD 0 0 = 1) || decide (b.getD 0 0 = 2)) || !allZ (b.drop 1)
theorem sec_parts {w : World} {v : Value} {b : List UInt8} (h : BRow w v b) (hl : b.length = 64) : ∃ g cap, v = .slice (some ⟨g, 0, none⟩) 64 cap ∧ 64 ≤ cap ∧ cap ≤ maxLen ∧ w.cell? ⟨g, 0, none⟩ = some (.int .u8 ((b.getD 0 0).toNat : Int)) ∧ BytesAt w (.slice (some ⟨g, 1, none⟩) 63 (cap - 1)) (b.drop 1) := by
  rcases h.2 with ⟨h1, h2⟩ | ⟨g, cap, cur, h1, _, hb, h3, h4, _⟩
  · omega
  · obtain ⟨a2, c2, e2, k1, k2, k3⟩ := h.bytes
    rw [h1] at e2
    rw [hl] at h1 h3
    obtain ⟨rfl, _, rfl⟩ := Value.slice.inj e2
    rcases k3 with ⟨k3, _⟩ | ⟨g', o', k3, k4⟩
    · rw [k3] at hl; cases hl
    · obtain ⟨rfl, rfl⟩ : g = g' ∧ o' = 0 := by simpa [eq_comm] using k3
      have hb' : BytesAt w (.slice (some ⟨g, 0, none⟩) b.length cap) b := by rw [hl, ← h1]; exact h.bytes
      have hd := bytes_drop hb' (k := 1) (by omega) 1 (fun _ => rfl)
      rw [hl] at hd
      refine ⟨g, cap, h1, h3, h4, ?_, hd⟩
      have := k4 0 (by omega)
      rw [this]; rfl
theorem trim_len (g cap : Nat) (l : List UInt8) (w : World) (h : BytesAt w (.slice (some ⟨g, 1, none⟩) 63 cap) l) (hl : l.length = 63) :
    Calls Tryz.prog 90 #[.slice (some ⟨g, 1, none⟩) 63 cap, .string { data := #[0] }] w fun e w' => (∃ a k c, e = .returned (.slice a k c) ∧ (allZ l = true → k = 0) ∧ (allZ l = false → 0 < k)) ∧ Chg [] w w' := by
  refine (trim_any _ l w h (by omega)).mono ?_
  rintro e w' ⟨⟨v', rfl, hv⟩, n, rfl⟩
  obtain ⟨a, c, rfl, _⟩ := hv
  have ht := trimmed_len l
  refine ⟨⟨a, _, c, rfl, fun h => ht.2 h, fun h => ?_⟩, (Chg.refl _ _).drewN n⟩
  apply Nat.pos_of_ne_zero
  intro h0
  rw [ht.1 h0] at h; cases h
set_option maxHeartbeats 4000000 in
set_option maxRecDepth 100000 in
theorem stopen_head (p : Nat) (S : List Nat) (d : DS) (w : World) (h : DiskAt w p S d) (hn : 9 ≤ d.n) (hd : d.dead = false) (hbad : hdBad (d.now 0) = true) : Calls Tryz.prog 40 #[.pointer (some ⟨p, 0, none⟩)] w fun e w' => e = .returned (.tuple #[.pointer none, .int .i64 4]) ∧ Chg [] w w' := by
  have CS := Lib.hid (dsectors_any p S d w h)
  have CR := Lib.hid (dread_ok p S d 0 w h hd (by omega))
  have hlen := sec_len h (show 0 < d.n by omega)
  generalize d.now 0 = b at *
  clear h hd
  generalize d.n = n at *
  go_enter Tryz.func40, Tryz.ntmps40
  go_wp2_with (go_at_call 78; refine CS.out.mono ?_; rintro e w' ⟨rfl, hq⟩; subst hq)
  refine CR.out.mono ?_
  rintro e w1 ⟨⟨v, rfl, hr, ho⟩, hc1⟩
  obtain ⟨g, cap, rfl, hc64, hcm, c0, hb63⟩ := sec_parts hr hlen
  have CT := Lib.hid (trim_len g (cap - 1) (b.drop 1) w1 hb63 (by simp [hlen]))
  have HC1 := Lib.hid hc1
  obtain ⟨x, hx⟩ : ∃ x, x = (b.getD 0 0).toNat := ⟨_, rfl⟩
  have e1 : ∀ c : UInt8, decide (b.getD 0 0 = c) = decide (x = c.toNat) := fun c => by
    rw [hx]
    by_cases h : b.getD 0 0 = c
    · rw [decide_eq_true h, decide_eq_true (by rw [h])]
    · rw [decide_eq_false h, decide_eq_false (fun h' => h (UInt8.toNat.inj h'))]
  have hbad' : (!(decide (x = 1) || decide (x = 2)) || !allZ (b.drop 1)) = true := by
    have := hbad
    unfold hdBad at this
    rw [e1, e1] at this
    exact this
  rw [← hx] at c0
  have hcap : 1 ≤ cap ∧ ¬ cap = 1 := by omega
  have hcl : cap ≤ 9223372036854775807 := by unfold maxLen at hcm; omega
  clear hr ho hc1 hb63 hbad e1 hx CR CS
  generalize allZ (b.drop 1) = z at *
  by_cases x1 : x = 1
  · subst x1
    obtain rfl : z = false := by simpa using hbad'
    go_wp2_with fail
    refine CT.out.mono ?_
    rintro e w2 ⟨⟨a, k, c, rfl, _, hk⟩, hc2⟩
    have hk' := hk (by simp)
    have HC2 := Lib.hid (HC1.out.trans hc2 (by simp))
    clear hk hc2 CT
    go_wp2
    go_ret2
    exact ⟨rfl, HC2.out⟩
  · by_cases x2 : x = 2
    · subst x2
      obtain rfl : z = false := by simpa using hbad'
      go_wp2_with fail
      refine CT.out.mono ?_
      rintro e w2 ⟨⟨a, k, c, rfl, _, hk⟩, hc2⟩
      have hk' := hk (by simp)
      have HC2 := Lib.hid (HC1.out.trans hc2 (by simp))
      clear hk hc2 CT
      go_wp2
      go_ret2
      exact ⟨rfl, HC2.out⟩
    · clear hbad'
      go_wp2
      go_ret2
      exact ⟨rfl, HC1.out⟩
end Go.Proofs.YtdkhmfcfihbjeaaGreatDoor.W

/- Package store: Open. -/
namespace Go.Proofs.YtdkhmfcfihbjeaaGreatDoor.W
open Go.RowKit
set_option linter.unusedVariables false
set_option linter.unusedSimpArgs false

def fillAt (rows : List SRow) (i : Nat) (x : Id) : List Nat := if mayId x = true then upto rows i (idKey x) else []
abbrev intC (l : List Nat) : List Value := l.map (fun j => Value.int .i64 ((j : Nat) : Int))
def FillV (w : World) (B : Nat) (o : Option Value) (l : List Nat) : Prop := (l = [] ∧ o = none) ∨ (l ≠ [] ∧ ∃ v, o = some v ∧ w.ownsRow B 3 1 v l.length (intC l))
structure Fill (w3 wr : World) (B ob mb p sp : Nat) (wh : Bool) (rows : List SRow) (i : Nat) (φ : Id → Option Value) (N : Nat) : Prop where
  chg : Chg [] w3 wr
  head : wr.heap[ob]? = some (.cells #[.pointer (some ⟨p, 0, none⟩), .pointer (some ⟨sp, 0, none⟩), .map (some mb), .bool wh] 98 (0, 0))
  map : MapF 38 klD okD wr mb φ N
  few : N ≤ i
  old : w3.heap.size ≤ ob ∧ w3.heap.size ≤ mb
  base : ob < B ∧ mb < B ∧ B ≤ wr.heap.size
  keys : ∀ j, j < i → (rows.getD j noRow).used = true → unOk (rows.getD j noRow).key = true
  vals : ∀ x, okD x → FillV wr B (φ x) (fillAt rows i x)
  apart : ∀ x y u v g, okD x → okD y → x ≠ y → φ x = some u → φ y = some v → u.ownBlock = some g → v.ownBlock ≠ some g
theorem Fill.keep {w3 wr w' : World} {B ob mb p sp : Nat} {wh : Bool} {rows : List SRow} {i : Nat} {φ : Id → Option Value} {N : Nat} (h : Fill w3 wr B ob mb p sp wh rows i φ N) (hc : Chg [] wr w') : Fill w3 w' B ob mb p sp wh rows i φ N :=
  ⟨h.chg.trans hc (by simp), hc.keep h.head (by simp), h.map.chg hc (by simp), h.few, h.old, ⟨h.base.1, h.base.2.1, Nat.le_trans h.base.2.2 hc.size⟩, h.keys, fun x hx => (h.vals x hx).imp id (fun ⟨h1, v, h2, h3⟩ => ⟨h1, v, h2, row_keep h3 (fun g hg => hc.block g (World.ownsRow.lt h3 g hg).2 (by simp))⟩), h.apart⟩
/-- A row that is not used. -/
theorem Fill.skip {w3 wr : World} {B ob mb p sp : Nat} {wh : Bool} {rows : List SRow} {i : Nat} {φ : Id → Option Value} {N : Nat} (h : Fill w3 wr B ob mb p sp wh rows i φ N) (hu : (rows.getD i noRow).used = false) : Fill w3 wr B ob mb p sp wh rows (i + 1) φ N := by
  have hn : ∀ k, rowIs rows k i = false := fun k => by unfold rowIs; rw [hu]; rfl
  refine ⟨h.chg, h.head, h.map, Nat.le_succ_of_le h.few, h.old, h.base, fun j hj hj2 => ?_, fun x hx => ?_, h.apart⟩
  · rcases Nat.lt_or_ge j i with h1 | h1
    · exact h.keys j h1 hj2
    · obtain rfl : j = i := by omega
      rw [hu] at hj2; cases hj2
  · have : fillAt rows (i + 1) x = fillAt rows i x := by
      unfold fillAt
      split
      · rw [upto_succ, hn, if_neg (by simp), List.append_nil]
      · rfl
    rw [this]
    exact h.vals x hx
theorem okW_small {a : Int} (h1 : -9223372036854775808 ≤ a) (h2 : a ≤ 9223372036854775807) : okW a := by
  unfold okW
  exact WalkArith.wf_i64 ⟨h1, h2⟩
theorem may_okD {x : Id} (hm : mayId x = true) : okD x := by
  obtain ⟨a, b, c, d⟩ := may_bounds hm
  exact ⟨okW_small (by omega) (by omega), okW_small (by omega) (by omega), okW_small (by omega) (by omega), okW_small (by omega) (by omega)⟩
/-- An id more. -/
theorem Fill.more {w3 wr wa wb : World} {B ob mb p sp : Nat} {wh : Bool} {rows : List SRow} {i : Nat} {φ : Id → Option Value} {N : Nat} (h : Fill w3 wr B ob mb p sp wh rows i φ N) (hu : (rows.getD i noRow).used = true) (hk : unOk (rows.getD i noRow).key = true) {v' : Value} {x : Id} (hx : x = unId (rows.getD i noRow).key)
    (hrow : wa.ownsRow B 3 1 v' ((fillAt rows i x).length + 1) (intC (fillAt rows i x) ++ [.int .i64 (i : Int)])) (hat : v'.ownBlock = ((φ x).getD (.slice none 0 0)).ownBlock ∨ v'.ownBlock = some wr.heap.size) (hc : Chg (mb :: ((φ x).getD (.slice none 0 0)).ownBlock.toList) wr wa)
    (hcb : Chg [mb] wa wb) (hN : MapF 38 klD okD wb mb (updF φ x v') (if (φ x).isSome then N else N + 1)) : Fill w3 wb B ob mb p sp wh rows (i + 1) (updF φ x v') (if (φ x).isSome then N else N + 1) := by
  obtain ⟨hm, hkey⟩ := un_back hk
  rw [← hx] at hm hkey
  have hxo := may_okD hm
  have hv0 : ∀ g, ((φ x).getD (.slice none 0 0)).ownBlock = some g → B ≤ g ∧ g < wr.heap.size := fun g hg => by
    rcases h.vals x hxo with ⟨_, h2⟩ | ⟨_, u, h2, h3⟩
    · rw [h2] at hg; cases hg
    · rw [h2] at hg; exact World.ownsRow.lt h3 g hg
  obtain ⟨hb1, hb2, hb3⟩ := h.base
  obtain ⟨ho1, ho2⟩ := h.old
  have hcc : Chg (mb :: ((φ x).getD (.slice none 0 0)).ownBlock.toList) wr wb := hc.trans hcb (fun y hy => .inl (by rw [List.mem_singleton.1 hy]; simp))
  have hmem : ∀ y, y ∈ (mb :: ((φ x).getD (.slice none 0 0)).ownBlock.toList) → y = mb ∨ ((φ x).getD (.slice none 0 0)).ownBlock = some y := fun y hy => by
    rcases List.mem_cons.1 hy with h | h
    · exact .inl h
    · exact .inr (by simpa using h)
  have hv' : ∀ g, v'.ownBlock = some g → B ≤ g := fun g hg => (World.ownsRow.lt hrow g hg).1
  have hf : ∀ y, fillAt rows (i + 1) y = if y = x then fillAt rows i y ++ [i] else fillAt rows i y := fun y => by
    by_cases e : y = x
    · subst e
      rw [if_pos rfl]
      unfold fillAt
      rw [if_pos hm, if_pos hm, upto_succ]
      congr 1
      rw [if_pos]
      unfold rowIs
      rw [hu, hkey]; simp
    · rw [if_neg e]
      unfold fillAt
      by_cases hy : mayId y = true
      · rw [if_pos hy, if_pos hy, upto_succ, if_neg, List.append_nil]
        unfold rowIs
        rw [hu, hkey]
        simp only [Bool.true_and, decide_eq_true_eq]
        exact fun h => e (idKey_inj hm hy h).symm
      · rw [if_neg hy, if_neg hy]
  refine ⟨h.chg.trans hcc (fun y hy => .inr ?_), hcc.keep h.head (fun hy => ?_), hN, ?_, h.old, ⟨hb1, hb2, Nat.le_trans hb3 hcc.size⟩, fun j hj hj2 => ?_, fun y hy => ?_, ?_⟩
  · rcases hmem y hy with rfl | h1
    · exact ho2
    · have := (hv0 y h1).1; omega
  · rcases hmem ob hy with h1 | h1
    · exact ne_blk h.head h.map h1
    · have := (hv0 ob h1).1; omega
  · have := h.few
    split <;> omega
  · rcases Nat.lt_or_ge j i with h1 | h1
    · exact h.keys j h1 hj2
    · obtain rfl : j = i := by omega
      exact hk
  · rw [hf y]
    by_cases e : y = x
    · subst e
      rw [if_pos rfl, updF_self]
      refine .inr ⟨by simp, v', rfl, ?_⟩
      have hr2 : wb.ownsRow B 3 1 v' ((fillAt rows i y).length + 1) (intC (fillAt rows i y) ++ [.int .i64 (i : Int)]) := row_keep hrow (fun g hg => hcb.block g (World.ownsRow.lt hrow g hg).2 (by
        have := hv' g hg
        simp; omega))
      simpa [intC] using hr2
    · rw [if_neg e, updF_other _ _ e]
      refine (h.vals y hy).imp id (fun ⟨h1, u, h2, h3⟩ => ⟨h1, u, h2, row_keep h3 (fun g hg => hcc.block g (World.ownsRow.lt h3 g hg).2 (fun hmm => ?_))⟩)
      rcases hmem g hmm with h4 | h4
      · have := (World.ownsRow.lt h3 g hg).1; omega
      · cases hφ : φ x with
        | none => rw [hφ] at h4; cases h4
        | some z =>
          rw [hφ] at h4
          exact h.apart x y z u g hxo hy (Ne.symm e) hφ h2 h4 hg
  · intro a b u z g ha hb hab hua hub hug hzg
    by_cases ea : a = x
    · have eb : b ≠ x := fun e => hab (ea.trans e.symm)
      rw [ea, updF_self] at hua
      obtain rfl := Option.some.inj hua
      rw [updF_other _ _ eb] at hub
      rcases hat with h1 | h1
      · rw [h1] at hug
        cases hφ : φ x with
        | none => rw [hφ] at hug; cases hug
        | some z' =>
          rw [hφ] at hug
          exact h.apart x b z' z g hxo hb (fun e => eb e.symm) hφ hub hug hzg
      · rw [h1] at hug
        obtain rfl := Option.some.inj hug
        rcases h.vals b hb with ⟨_, h2⟩ | ⟨_, u2, h2, h3⟩
        · rw [h2] at hub; cases hub
        · rw [h2] at hub
          obtain rfl := Option.some.inj hub
          have := (World.ownsRow.lt h3 _ hzg).2
          omega
    · rw [updF_other _ _ ea] at hua
      by_cases eb : b = x
      · rw [eb, updF_self] at hub
        obtain rfl := Option.some.inj hub
        rcases hat with h1 | h1
        · rw [h1] at hzg
          cases hφ : φ x with
          | none => rw [hφ] at hzg; cases hzg
          | some z' =>
            rw [hφ] at hzg
            exact h.apart a x u z' g ha hxo ea hua hφ hug hzg
        · rw [h1] at hzg
          obtain rfl := Option.some.inj hzg
          rcases h.vals a ha with ⟨_, h2⟩ | ⟨_, u2, h2, h3⟩
          · rw [h2] at hua; cases hua
          · rw [h2] at hua
            obtain rfl := Option.some.inj hua
            have := (World.ownsRow.lt h3 _ hug).2
            omega
      · rw [updF_other _ _ eb] at hub
        exact h.apart a b u z g ha hb hab hua hub hug hzg
end Go.Proofs.YtdkhmfcfihbjeaaGreatDoor.W

/- Package store: Open. -/
namespace Go.Proofs.YtdkhmfcfihbjeaaGreatDoor.W
open Go.RowKit
set_option linter.unusedVariables false
set_option linter.unusedSimpArgs false

theorem wp_entry {P : Program} {o : Oper} {a : Act} {K : Act → World → Prop} {Q : Exit → Act → World → Prop} (m x : Operand) (t : TypeId) (ho : o.op = .mapEntry t m x) {w w1 : World} {mv xv v : Value} (hm : a.eval m = mv) (hx : a.eval x = xv)
    (hrun : (Instr.mapEntry t mv xv).run P w = .ok v w1) (h : K (a.put o.dst v) w1) : Oper.wp P o a w K Q := by
  unfold Oper.wp execOp
  simp only [ho, hm, hx, Sem.run_bind, Sem.run_pure, hrun, Result.andThen_ok]
  exact h
theorem wp_entryStore {P : Program} {o : Oper} {a : Act} {K : Act → World → Prop} {Q : Exit → Act → World → Prop} (m x y : Operand) (t : TypeId) (ho : o.op = .entryStore t m x y) {w w1 : World} {mv xv yv : Value} (hm : a.eval m = mv) (hx : a.eval x = xv) (hy : a.eval y = yv)
    (hrun : (Instr.entryStore t mv xv yv).run P w = .ok () w1) (h : K (a.put o.dst undef) w1) : Oper.wp P o a w K Q := by
  unfold Oper.wp execOp
  simp only [ho, hm, hx, hy, Sem.run_bind, Sem.run_pure, hrun, Result.andThen_ok]
  exact h
theorem zeroInts (w : World) : (zeroValue 132).run Tryz.prog w = .ok (.slice none 0 0) w := by kernel_rfl
theorem facts_int : (Tryz.prog.info? 3).map (fun i => (i.zero, i.size, i.bytes)) = some (some (.int .i64 0), 1, 8) := by kernel_rfl
theorem FillV.row {w : World} {B : Nat} {o : Option Value} {l : List Nat} (h : FillV w B o l) : w.ownsRow B 3 1 (o.getD (.slice none 0 0)) l.length (intC l) := by
  rcases h with ⟨rfl, rfl⟩ | ⟨_, v, rfl, h⟩
  · exact World.ownsRow_nil _ _ _ _
  · exact h
theorem FillV.ids {w : World} {B : Nat} {o : Option Value} {l : List Nat} {U : List Nat} (h : FillV w B o l) (hU : ∀ x ∈ U, x < B) : IdsAt w U o l := by
  rcases h with h | ⟨h1, v, h2, h3⟩
  · exact .inl h
  · refine .inr ⟨h1, v, h2, ?_, fun g hg => ⟨(World.ownsRow.lt h3 g hg).2, fun hm => ?_⟩⟩
    · rcases h3.2 with ⟨e1, e2⟩ | ⟨g, cap, cur, e1, _, _, e3, e4, _⟩
      · exact absurd (List.eq_nil_of_length_eq_zero e2) h1
      · refine ⟨_, cap, e1, e3, e4, fun _ => ⟨g, 0, rfl, fun i hi => ?_⟩⟩
        subst e1
        have := h3.cells (g := g) rfl i (.int .i64 ((l.getD i 0 : Nat) : Int)) (by simp [intC, List.getD_eq_getElem?_getD, List.getElem?_eq_getElem hi])
        rwa [add_none] at this
    · have := (World.ownsRow.lt h3 g hg).1
      have := hU g hm
      omega
theorem Fill.done {w3 wr : World} {B ob mb p sp : Nat} {wh : Bool} {s : SS} {φ : Id → Option Value} {N : Nat} {Us : List Nat} (h : Fill w3 wr B ob mb p sp wh s.rows s.rows.length φ N) (hs : SlotsAt w3 sp p Us s) : StOk [] wr ob p sp mb Us φ N ⟨s, wh⟩ := by
  obtain ⟨hb1, hb2, hb3⟩ := h.base
  obtain ⟨ho1, ho2⟩ := h.old
  have hl := hs.uL
  refine ⟨h.head, hs.keep0 h.chg, h.map, ⟨fun hm => by have := hl _ hm; omega, fun hm => by have := hl _ hm; omega⟩, fun x hx => (h.vals x hx).ids (fun y hy => ?_), fun r hr hu => ?_, fun x hx => by cases hx⟩
  · rcases List.mem_cons.1 hy with rfl | hy
    · exact hb1
    · rcases List.mem_cons.1 hy with rfl | hy
      · exact hb2
      · have := hl y hy; omega
  · obtain ⟨j, hj, rfl⟩ := List.getElem_of_mem hr
    have := h.keys j hj
    rw [List.getD_eq_getElem?_getD, List.getElem?_eq_getElem hj] at this
    exact this hu

set_option maxHeartbeats 4000000 in
set_option maxRecDepth 100000 in
theorem stopen_live (p : Nat) (S : List Nat) (d : DS) (w : World) (h : DiskAt w p S d) (hn : 9 ≤ d.n) (hd : d.dead = false) (hgood : hdBad (d.now 0) = false) : Calls Tryz.prog 40 #[.pointer (some ⟨p, 0, none⟩)] w (StOpenPost p S w d.stOpen) := by
  have CS := Lib.hid (dsectors_any p S d w h)
  have CR := Lib.hid (dread_ok p S d 0 w h hd (by omega))
  have CO := Lib.hid (fun w' (hc : Chg [] w w') => sopen_any p S d 1 w' (h.keep hc (by simp)))
  have hlen := sec_len h (show 0 < d.n by omega)
  have HG : Hid (d.stOpen = match (d.slots 1).2 with | none => ((d.slots 1).1, none) | some s => if stKeys s.rows then (0, some ⟨s, (d.now 0).getD 0 0 == 2⟩) else (4, none)) := Lib.hid (by
    unfold DS.stOpen
    refine (if_neg (by omega)).trans ((if_neg (by simp [hd])).trans (if_neg ?_))
    unfold hdBad at hgood
    simp only [Bool.or_eq_false_iff, Bool.not_eq_false', Bool.or_eq_true, decide_eq_true_eq] at hgood
    rintro (⟨h1, h2⟩ | h1)
    · rcases hgood.1 with h3 | h3
      · exact h1 h3
      · exact h2 h3
    · rw [hgood.2] at h1; cases h1)
  have H1 : Hid ((∃ c, d.slots 1 = (c, none) ∧ c ≠ 0) ∨ ∃ s, d.slots 1 = (0, some s)) := Lib.hid (by
    unfold DS.slots
    rw [if_neg (by omega), if_neg (by simp [hd]; omega)]
    split
    · exact .inl ⟨4, rfl, by simp⟩
    · exact .inr ⟨_, rfl⟩)
  have HH := Lib.hid h
  generalize d.slots 1 = z at *
  generalize d.stOpen = r at *
  generalize hb0 : d.now 0 = b at *
  clear hd hb0 h
  generalize d.n = n at *
  go_enter Tryz.func40, Tryz.ntmps40
  go_wp2_with (go_at_call 78; refine CS.out.mono ?_; rintro e w' ⟨rfl, hq⟩; subst hq)
  refine CR.out.mono ?_
  rintro e w1 ⟨⟨v, rfl, hr, ho⟩, hc1⟩
  obtain ⟨g, cap, rfl, hc64, hcm, c0, hb63⟩ := sec_parts hr hlen
  have hgl : g < w1.heap.size := hr.lt g rfl
  have CT := Lib.hid (trim_len g (cap - 1) (b.drop 1) w1 hb63 (by simp [hlen]))
  have HC1 := Lib.hid hc1
  obtain ⟨x, hx⟩ : ∃ x, x = (b.getD 0 0).toNat := ⟨_, rfl⟩
  have e1 : ∀ c : UInt8, decide (b.getD 0 0 = c) = decide (x = c.toNat) := fun c => by
    rw [hx]
    by_cases h : b.getD 0 0 = c
    · rw [decide_eq_true h, decide_eq_true (by rw [h])]
    · rw [decide_eq_false h, decide_eq_false (fun h' => h (UInt8.toNat.inj h'))]
  have hgood' : (decide (x = 1) || decide (x = 2)) = true ∧ allZ (b.drop 1) = true := by
    have := hgood
    unfold hdBad at this
    rw [e1, e1] at this
    simp only [Bool.or_eq_false_iff, Bool.not_eq_false'] at this
    exact this
  have hwh : (b.getD 0 0 == 2) = decide (x = 2) := by rw [show (b.getD 0 0 == 2) = decide (b.getD 0 0 = 2) from rfl, e1]; rfl
  obtain ⟨wh, hwd⟩ : ∃ wh : Bool, wh = decide (x = 2) := ⟨_, rfl⟩
  rw [hwh, ← hwd] at HG
  rw [← hx] at c0
  have hwd1 : x = 1 → false = wh := fun h => by rw [hwd, h]; rfl
  have hwd2 : x = 2 → true = wh := fun h => by rw [hwd, h]; rfl
  have HWD := Lib.hid (And.intro hwd1 hwd2)
  clear hwd hwd1 hwd2
  have hcap : 1 ≤ cap ∧ ¬ cap = 1 := by omega
  have hcl : cap ≤ 9223372036854775807 := by unfold maxLen at hcm; omega
  obtain ⟨hx12, hz⟩ := hgood'
  simp only [hz] at CT
  clear hr ho hc1 hb63 hgood e1 hx CR CS hz hwh
  have hx12' : x = 1 ∨ x = 2 := by simpa using hx12
  clear hx12
  rcases hx12' with rfl | rfl
  all_goals
    go_wp2_with fail
    refine CT.out.mono ?_
    rintro e w2 ⟨⟨a, k, c, rfl, hk, _⟩, hc2⟩
    obtain rfl := hk (by trivial)
    have HC2 := Lib.hid (HC1.out.trans hc2 (by simp))
    have c02 := hc2.cell c0 (by simp)
    have CO2 := Lib.hid (CO.out w2 HC2.out)
    clear hc2 CT CO hk
    go_wp2_with fail
    refine CO2.out.mono ?_
    rintro e w3 ⟨hc3, h3⟩
    rcases H1.out with ⟨cc, rfl, hcc⟩ | ⟨s, rfl⟩
    · dsimp only at h3 HG
      subst h3
      have q : (cc != 0) = true := by simp [hcc]
      have HC3 := Lib.hid (HC2.out.trans hc3 (by simp))
      clear hcc hc3
      go_wp2
      go_ret2
      rw [HG.out]
      exact ⟨HC3.out, rfl⟩
    · dsimp only at h3 HG
      obtain ⟨sp, Us, rfl, hs3, hU3⟩ := h3
      have c03 := hc3.cell c02 (by simp)
      have HC3 := Lib.hid (HC2.out.trans hc3 (by simp))
      have HS3 := Lib.hid hs3
      have CN := Lib.hid (fun w' (hc : Chg [] w3 w') => scount_any sp p Us s w' (hs3.keep0 hc))
      have CU := Lib.hid (fun (i : Int) w' (hc : Chg [] w3 w') => sused_any sp p Us s i w' (hs3.keep0 hc))
      have CK := Lib.hid (fun (i : Int) w' (hc : Chg [] w3 w') => skey_any sp p Us s i w' (hs3.keep0 hc))
      have hmm := @run_makeMap Tryz.prog
      clear hs3 hc3
      have hc4 : Chg [] w3 (w3.alloc (.map #[] 0)) := (Chg.refl _ _).alloc _
      have c04 := hc4.cell c03 (by simp)
      obtain ⟨w4, hw4⟩ : ∃ w4, w4 = (w3.alloc (.map #[] 0)).alloc (.cells #[.pointer (some ⟨p, 0, none⟩), .pointer (some ⟨sp, 0, none⟩), .map (some w3.heap.size), .bool wh] 98) := ⟨_, rfl⟩
      have HW4 : Hid (∀ q, q = wh → (w3.alloc (.map #[] 0)).alloc (.cells #[.pointer (some ⟨p, 0, none⟩), .pointer (some ⟨sp, 0, none⟩), .map (some w3.heap.size), .bool q] 98) = w4) := Lib.hid (fun q hq => by rw [hw4, hq])
      have hs4 : w4.heap.size = w3.heap.size + 2 := by rw [hw4]; simp
      have HF4 : Hid (Fill w3 w4 (w3.heap.size + 2) (w3.heap.size + 1) w3.heap.size p sp wh s.rows 0 (fun _ => none) 0) := Lib.hid (by
        have hh := heap_alloc_new (w3.alloc (.map #[] 0)) (.cells #[.pointer (some ⟨p, 0, none⟩), .pointer (some ⟨sp, 0, none⟩), .map (some w3.heap.size), .bool wh] 98)
        rw [← hw4, show (w3.alloc (.map #[] 0)).heap.size = w3.heap.size + 1 by simp] at hh
        refine ⟨by rw [hw4]; exact hc4.alloc _, hh, ?_, Nat.le_refl _, ⟨by omega, Nat.le_refl _⟩, ⟨by omega, by omega, by omega⟩, fun j hj => by omega, fun x hx => .inl ⟨?_, rfl⟩, fun x y u v g _ _ _ h => by cases h⟩
        · rw [hw4]
          exact (MapF.made w3).chg ((Chg.refl [] _).alloc _) (by simp)
        · unfold fillAt
          split
          · rfl
          · rfl)
      have hm1 : s.rows.length ≤ 1000 := by
        obtain ⟨S0, rv, R, H⟩ := HS3.out
        have := H.few
        omega
      clear hw4
      go_wp2_with fail
      rw [HW4.out]
      rotate_left
      · first
          | exact HWD.out.1 (by trivial)
          | exact HWD.out.2 (by trivial)
      refine (CN.out w4 HF4.out.chg).mono ?_
      rintro e w' ⟨rfl, hq⟩
      subst hq
      obtain ⟨m, hm⟩ : ∃ m, m = s.rows.length := ⟨_, rfl⟩
      have HM := Lib.hid hm
      rw [← hm]
      have hmz : m ≤ 1000 := by omega
      clear hm
      go_wp2_with fail
      go_loopg [62] m (fun g' s62 wr => ∃ (i : Nat) (φ : Id → Option Value) (N : Nat), s62 = .int .i64 i ∧ i ≤ m ∧ m ≤ i + g' ∧ Hid (Fill w3 wr (w3.heap.size + 2) (w3.heap.size + 1) w3.heap.size p sp wh s.rows i φ N))
      case atStart => exact ⟨0, _, _, rfl, by omega, by omega, HF4⟩
      case round =>
        obtain ⟨i, φ, N, rfl, hi, hig, HFI⟩ := hrel
        by_cases hlt : i < m
        · have hiz : (i : Int) < (m : Int) := by omega
          have hhas : s.has (i : Int) := ⟨by omega, by rw [← HM.out]; omega⟩
          have hrow : s.row (i : Int) = s.rows.getD i noRow := rfl
          have CU1 := Lib.hid (CU.out (i : Int) wr HFI.out.chg)
          have hus := SS.used_true hhas
          rw [hrow] at hus
          rw [hus] at CU1
          go_wp2_with fail
          refine CU1.out.mono ?_
          rintro e w' ⟨rfl, hq⟩
          subst hq
          by_cases hu : (s.rows.getD i noRow).used = true
          · have CK1 := CK.out (i : Int) wr HFI.out.chg
            have hkk : s.key (i : Int) = (s.rows.getD i noRow).key := by
              unfold SS.key
              rw [hus, if_pos hu, hrow]
            rw [hkk] at CK1
            have HCK := Lib.hid CK1
            have hkl : (s.rows.getD i noRow).key.length ≤ 40 := by
              obtain ⟨S0, rv, R, H⟩ := HS3.out
              rw [List.getD_eq_getElem?_getD, List.getElem?_eq_getElem (show i < s.rows.length by rw [← HM.out]; exact hlt)]
              exact (H.ok.rows _ (List.getElem_mem _)).2
            clear CK1 hkk hus hrow
            rw [hu]
            go_wp2_with fail
            refine HCK.out.mono ?_
            rintro e w5 ⟨⟨kv, rfl, hr5⟩, hc5⟩
            have CD := Lib.hid (stread_any kv _ w5 hr5.bytes (by omega))
            obtain ⟨ak, ck, rfl⟩ := hr5.slice
            have HC5 := Lib.hid hc5
            clear hr5 hc5 HCK
            go_wp2_with fail
            refine CD.out.mono ?_
            rintro e w6 ⟨rfl, hc6⟩
            have HF6 := Lib.hid (HFI.out.keep (HC5.out.trans hc6 (by simp)))
            clear hc6 CD HC5
            by_cases hok : unOk (s.rows.getD i noRow).key = true
            · have hokr := hok
              rw [hok]
              obtain ⟨y, hy⟩ : ∃ y, y = unId (s.rows.getD i noRow).key := ⟨_, rfl⟩
              rw [← hy]
              have HY := Lib.hid (And.intro hu (And.intro hok hy))
              have hyo := may_okD (un_back hok).1
              rw [← hy] at hyo
              have HYO := Lib.hid hyo
              clear hok hu hy hokr hyo
              obtain ⟨w7, hw7⟩ : ∃ w7, w7 = w6.alloc (.cells (idC y) 38) := ⟨_, rfl⟩
              have hc7 : Chg [] w6 w7 := by rw [hw7]; exact (Chg.refl _ _).alloc _
              have hb7 : w7.heap[w6.heap.size]? = some (.cells (idC y) 38 (0, 0)) := by rw [hw7]; exact heap_alloc_new w6 _
              have HF7 := Lib.hid (HF6.out.keep hc7)
              have HB7 := Lib.hid hb7
              have HW7 := Lib.hid hw7
              clear hw7 hc7 hb7
              obtain ⟨yc, yl, yn, yi⟩ := y
              go_wp2_with fail
              rw [← HW7.out]
              have c7 := blk_cell HF7.out.head 2 _ rfl
              have mm := id_cells HB7.out
              refine wp_region_L [(7, fun w' => w'.cell? ⟨w3.heap.size + 1, 2, none⟩ = some (.map (some w3.heap.size))), (7, fun w' => (w'.cell? ⟨w6.heap.size, 0, none⟩ = some (.int .i64 yc) ∧ w'.cell? ⟨w6.heap.size, 1, none⟩ = some (.int .i64 yl) ∧ w'.cell? ⟨w6.heap.size, 2, none⟩ = some (.int .i64 yn) ∧ w'.cell? ⟨w6.heap.size, 3, none⟩ = some (.int .i64 yi)))] (by kernel_rfl) ?_ (fun hHeld => ?_)
              · exact (HoldC.cons (c7) (HoldC.cons (mm) HoldC.nil))
              refine wpAnyL_take (i := 0) (oi := _) (v := ?_) rfl (by kernel_rfl) (by kernel_rfl) (by kernel_rfl) (by kernel_rfl) (by kernel_rfl) (fun _ _ _ h => h) (Or.inl ⟨by rfl, ?_⟩) (by assumption) (fun hNew => ?_)
              rotate_left
              · intro w _
                go_simp
                try with_reducible rfl
              clear hHeld
              have hHeld := hNew
              clear hNew
              try simp only [List.getElem_toArray, List.getElem_cons_succ, List.getElem_cons_zero, Act.put, List.setIfInBounds_toArray, List.set_cons_zero, List.set_cons_succ]
              refine wpAnyL_take (i := 1) (oi := _) (v := ?_) rfl (by kernel_rfl) (by kernel_rfl) (by kernel_rfl) (by kernel_rfl) (by kernel_rfl) (fun _ _ _ h => h) (Or.inl ⟨by rfl, ?_⟩) (by assumption) (fun hNew => ?_)
              rotate_left
              · intro w _
                go_simp
                try with_reducible rfl
              clear hHeld
              have hHeld := hNew
              clear hNew
              try simp only [List.getElem_toArray, List.getElem_cons_succ, List.getElem_cons_zero, Act.put, List.setIfInBounds_toArray, List.set_cons_zero, List.set_cons_succ]
              refine wpAnyL_take (i := 2) (oi := _) (v := ?_) rfl (by kernel_rfl) (by kernel_rfl) (by kernel_rfl) (by kernel_rfl) (by kernel_rfl) (fun _ _ _ h => h) (Or.inl ⟨by rfl, ?_⟩) (by assumption) (fun hNew => ?_)
              rotate_left
              · intro w _
                go_simp
                try with_reducible rfl
              clear hHeld
              have hHeld := hNew
              clear hNew
              try simp only [List.getElem_toArray, List.getElem_cons_succ, List.getElem_cons_zero, Act.put, List.setIfInBounds_toArray, List.set_cons_zero, List.set_cons_succ]
              refine wpAnyL_load 0 (i := 3) (oi := _) (v := ?_) rfl rfl (by kernel_rfl) (by kernel_rfl) (by kernel_rfl) (by kernel_rfl) (by kernel_rfl) (by kernel_rfl) (fun _ _ _ h => h) (Or.inl ⟨by rfl, ?_⟩) (by assumption) (fun hNew => ?_)
              rotate_left
              · intro w hSw
                (try dsimp only at hSw)
                go_simp
                try with_reducible rfl
              clear hHeld
              have hHeld := hNew
              clear hNew
              try simp only [List.getElem_toArray, List.getElem_cons_succ, List.getElem_cons_zero, Act.put, List.setIfInBounds_toArray, List.set_cons_zero, List.set_cons_succ]
              refine wpAnyL_load 1 (i := 4) (oi := _) (v := ?_) rfl rfl (by kernel_rfl) (by kernel_rfl) (by kernel_rfl) (by kernel_rfl) (by kernel_rfl) (by kernel_rfl) (fun _ _ _ h => h) (Or.inl ⟨by rfl, ?_⟩) (by assumption) (fun hNew => ?_)
              rotate_left
              · intro w hSw
                (try dsimp only at hSw)
                go_simp
                try with_reducible rfl
              clear hHeld
              have hHeld := hNew
              clear hNew
              try simp only [List.getElem_toArray, List.getElem_cons_succ, List.getElem_cons_zero, Act.put, List.setIfInBounds_toArray, List.set_cons_zero, List.set_cons_succ]
              refine wpAnyL_take (i := 5) (oi := _) (v := ?_) rfl (by kernel_rfl) (by kernel_rfl) (by kernel_rfl) (by kernel_rfl) (by kernel_rfl) (fun _ _ _ h => h) (Or.inl ⟨by rfl, ?_⟩) (by assumption) (fun hNew => ?_)
              rotate_left
              · intro w _
                go_simp
                try with_reducible rfl
              clear hHeld
              have hHeld := hNew
              clear hNew
              try simp only [List.getElem_toArray, List.getElem_cons_succ, List.getElem_cons_zero, Act.put, List.setIfInBounds_toArray, List.set_cons_zero, List.set_cons_succ]
              refine wpAnyL_ready (rs := [6]) (by kernel_rfl) (by simp) ?_
              refine AllReadyL.cons (o := _) rfl (fun K hK => ?_) AllReadyL.nil
              try simp only [List.getElem_toArray, List.getElem_cons_succ, List.getElem_cons_zero]
              go_simp
              have hcW : Chg [] w7 (w7.alloc (.cells #[.int .i64 (i : Int)] 3)).drew := ((Chg.refl _ _).alloc _).drew
              have hbW : (w7.alloc (.cells #[.int .i64 (i : Int)] 3)).drew.heap[w7.heap.size]? = some (.cells #[.int .i64 (i : Int)] 3 (0, 0)) := heap_alloc_new w7 _
              generalize (w7.alloc (.cells #[.int .i64 (i : Int)] 3)).drew = W at *
              have c8 := hcW.cell c7 (by simp)
              have mm8 := id_cells (hcW.keep HB7.out (by simp))
              have HFW := Lib.hid (HF7.out.keep hcW)
              have HBW := Lib.hid hbW
              have hM : w3.heap.size < w7.heap.size := by have := HF7.out.base; omega
              obtain ⟨st, W1, hrun, hcE, hsE, hstore⟩ := HFW.out.map.entry keId_klaw keId (t := 96) Tryz.underlying96 zeroInts HYO.out (by have := HFW.out.few; unfold maxLen; omega)
              have hrowW := (HFW.out.vals _ HYO.out).row
              have HST := Lib.hid hstore
              have HCE := Lib.hid (And.intro hcE hsE)
              have hrow1 : W1.ownsRow (w3.heap.size + 2) 3 1 ((φ ⟨yc, yl, yn, yi⟩).getD (.slice none 0 0)) (fillAt s.rows i ⟨yc, yl, yn, yi⟩).length (intC (fillAt s.rows i ⟨yc, yl, yn, yi⟩)) := row_keep hrowW (fun k hk => hcE.block k (World.ownsRow.lt hrowW k hk).2 (by
                have := (World.ownsRow.lt hrowW k hk).1
                simp; omega))
              have hel1 := hcE.keep hbW (by simp; omega)
              have HR1 := Lib.hid (And.intro hrow1 hel1)
              have hfl : (fillAt s.rows i ⟨yc, yl, yn, yi⟩).length ≤ 1000 := by
                unfold fillAt
                split
                · have := upto_len s.rows i (idKey ⟨yc, yl, yn, yi⟩); omega
                · simp
              have hbW1 : w3.heap.size + 2 ≤ W1.heap.size := by rw [hsE]; exact HFW.out.base.2.2
              clear hstore hcE hsE hrow1 hrowW hel1 hbW hcW
              clear hHeld
              refine hK.out _ _ ?_ (fun hHeld => ?_)
              · exact (HoldC.cons (c8) (HoldC.cons (mm8) HoldC.nil))
              clear hK K
              try simp only [List.getElem_toArray, List.getElem_cons_succ, List.getElem_cons_zero, Act.put, List.setIfInBounds_toArray, List.set_cons_zero, List.set_cons_succ]
              refine wpAnyL_ready (rs := [7]) (by kernel_rfl) (by simp) ?_
              refine AllReadyL.cons (o := _) rfl (fun K hK => ?_) AllReadyL.nil
              try simp only [List.getElem_toArray, List.getElem_cons_succ, List.getElem_cons_zero]
              refine wp_entry _ _ _ rfl (by rfl) (by rfl) hrun ?_
              clear hHeld
              refine hK.out _ _ ?_ (fun hHeld => ?_)
              · exact (HoldC.past (by kernel_rfl) (HoldC.past (by kernel_rfl) HoldC.nil))
              clear hK K
              try simp only [List.getElem_toArray, List.getElem_cons_succ, List.getElem_cons_zero, Act.put, List.setIfInBounds_toArray, List.set_cons_zero, List.set_cons_succ]
              refine wpAnyL_take (i := 8) (oi := _) (v := ?_) rfl (by kernel_rfl) (by kernel_rfl) (by kernel_rfl) (by kernel_rfl) (by kernel_rfl) (fun _ _ _ h => h) (Or.inl ⟨by rfl, ?_⟩) (by assumption) (fun hNew => ?_)
              rotate_left
              · intro w _
                go_simp
                try with_reducible rfl
              clear hHeld
              have hHeld := hNew
              clear hNew
              try simp only [List.getElem_toArray, List.getElem_cons_succ, List.getElem_cons_zero, Act.put, List.setIfInBounds_toArray, List.set_cons_zero, List.set_cons_succ]
              refine wpAnyL_take (i := 10) (oi := _) (v := ?_) rfl (by kernel_rfl) (by kernel_rfl) (by kernel_rfl) (by kernel_rfl) (by kernel_rfl) (fun _ _ _ h => h) (Or.inl ⟨by rfl, ?_⟩) (by assumption) (fun hNew => ?_)
              rotate_left
              · intro w _
                go_simp
                try with_reducible rfl
              clear hHeld
              have hHeld := hNew
              clear hNew
              try simp only [List.getElem_toArray, List.getElem_cons_succ, List.getElem_cons_zero, Act.put, List.setIfInBounds_toArray, List.set_cons_zero, List.set_cons_succ]
              refine wpAnyL_ready (rs := [9]) (by kernel_rfl) (by simp) ?_
              refine AllReadyL.cons (o := _) rfl (fun K hK => ?_) AllReadyL.nil
              try simp only [List.getElem_toArray, List.getElem_cons_succ, List.getElem_cons_zero]
              obtain ⟨iI, hiI, q1, q2, q3⟩ := info_parts facts_int
              refine wp_append_lies W1 (.tmp 83) (.tmp 85) 132 (by rfl) (w3.heap.size + 2) 3 iI (.int .i64 0) 1 8 Tryz.underlying132 hiI q1 q2 q3 rfl (by omega) _ _ _ (by rfl) HR1.out.1 ⟨w7.heap.size, 0, none⟩ 1 1 [.int .i64 (i : Int)] (by rfl) rfl (fun j u hj => by
                rw [add_none, Nat.zero_add]; exact blk_cell HR1.out.2 j u (by simpa using hj)) (fun u hu => by rw [List.mem_singleton.1 hu]; rfl) (by omega) (by unfold maxLen; omega) (by omega) hbW1 _ rfl ?_
              intro g9 cap9 w9 ho9 hg9 hat9 hl9
              have hc9 : Chg ((φ ⟨yc, yl, yn, yi⟩).getD (.slice none 0 0)).ownBlock.toList W1 w9 := (Chg.refl _ _).grown hg9 (fun k hk => .inl (by rw [hk]; simp))
              have hmb9 : w9.heap[w3.heap.size]? = W1.heap[w3.heap.size]? := hc9.block _ (by omega) (fun hm => by
                have := (World.ownsRow.lt HR1.out.1 _ (by simpa using hm)).1
                omega)
              obtain ⟨w10, hst, hm10, hc10, hs10⟩ := HST.out w9 (.slice (some ⟨g9, 0, none⟩) ((fillAt s.rows i ⟨yc, yl, yn, yi⟩).length + 1) cap9) hmb9
              have HFN := Lib.hid (HFW.out.more HY.out.1 HY.out.2.1 HY.out.2.2 ho9 (by
                rcases hat9 with h | h
                · exact .inl h.symm
                · right; rw [h, ← HCE.out.2]; rfl) ((HCE.out.1.mono (fun x hx => .inl (by rw [List.mem_singleton.1 hx]; simp))).trans hc9 (fun x hx => .inl (List.mem_cons_of_mem _ hx))) hc10 hm10)
              clear hmb9 hc9 hat9 hg9 ho9 hm10 hc10 hs10
              clear hHeld
              refine hK.out _ _ ?_ (fun hHeld => ?_)
              · exact (HoldC.past (by kernel_rfl) (HoldC.past (by kernel_rfl) HoldC.nil))
              clear hK K
              try simp only [List.getElem_toArray, List.getElem_cons_succ, List.getElem_cons_zero, Act.put, List.setIfInBounds_toArray, List.set_cons_zero, List.set_cons_succ]
              refine wpAnyL_ready (rs := [11]) (by kernel_rfl) (by simp) ?_
              refine AllReadyL.cons (o := _) rfl (fun K hK => ?_) AllReadyL.nil
              try simp only [List.getElem_toArray, List.getElem_cons_succ, List.getElem_cons_zero]
              refine wp_entryStore _ _ _ _ rfl (by rfl) (by rfl) (by rfl) hst ?_
              clear hHeld
              refine hK.out _ _ ?_ (fun hHeld => ?_)
              · exact (HoldC.past (by kernel_rfl) (HoldC.past (by kernel_rfl) HoldC.nil))
              clear hK K
              try simp only [List.getElem_toArray, List.getElem_cons_succ, List.getElem_cons_zero, Act.put, List.setIfInBounds_toArray, List.set_cons_zero, List.set_cons_succ]
              refine wpAnyL_done (by kernel_rfl) ?_ _
              clear hHeld
              go_wp2_with fail
              go_roundg (gk - 1)
              case measure => omega
              case rel => exact ⟨i + 1, _, _, by go_num, by omega, by omega, HFN⟩
            · have hall : stKeys s.rows = false := by
                cases hst : stKeys s.rows with
                | false => rfl
                | true =>
                  have h1 := stKeys_iff.1 hst (s.rows.getD i noRow) (by
                    rw [List.getD_eq_getElem?_getD, List.getElem?_eq_getElem (show i < s.rows.length by rw [← HM.out]; exact hlt)]
                    exact List.getElem_mem _) hu
                  exact absurd h1 hok
              have hok' : unOk (s.rows.getD i noRow).key = false := by simpa using hok
              rw [hok']
              have HR : Hid (r = (4, none)) := Lib.hid (by rw [HG.out, hall]; rfl)
              have HC6 := Lib.hid (HC3.out.trans HF6.out.chg (by simp))
              clear hok hok' hu hall
              go_wp2
              go_ret2
              rw [HR.out]
              exact ⟨HC6.out.alloc _, rfl⟩
          · have hu' : (s.rows.getD i noRow).used = false := by simpa using hu
            have HN := Lib.hid (HFI.out.skip hu')
            clear hus hrow
            rw [hu']
            clear hu hu'
            go_wp2_with fail
            go_roundg (gk - 1)
            case measure => omega
            case rel => exact ⟨i + 1, φ, N, by go_num, by omega, by omega, HN⟩
        · have him : i = m := by omega
          have hiz : ¬ (i : Int) < (m : Int) := by omega
          rw [him, HM.out] at HFI
          have HE := Lib.hid (HFI.out.done HS3.out)
          have hall : stKeys s.rows = true := stKeys_iff.2 HE.out.ok
          have HFC := Lib.hid (And.intro HFI.out.chg HFI.out.old)
          have hw2s := HC2.out.size
          clear HFI
          go_wp2
          go_ret2
          rw [HG.out, if_pos hall]
          refine ⟨HC3.out.trans HFC.out.1 (by simp), w3.heap.size + 1, _, rfl, ⟨sp, w3.heap.size, Us, φ, N, HE.out, rfl⟩, fun y hy => ?_⟩
          have hw3s := HC3.out.size
          rcases List.mem_cons.1 hy with rfl | hy
          · right; omega
          · rcases List.mem_cons.1 hy with rfl | hy
            · right; omega
            · rcases hU3 y hy with h | h
              · exact .inl h
              · right; omega
end Go.Proofs.YtdkhmfcfihbjeaaGreatDoor.W
