/- Package slot: Open, of a disk that lives. -/
import Derived.Test.YtipfgghdoicdhaaDoorS9
namespace Go.Proofs.YtipfgghdoicdhaaDoor.W
open Go.RowKit
set_option linter.unusedVariables false
set_option linter.unusedSimpArgs false

/-- 's.rows = append(s.rows, r)', the row just laid into a new block. -/
theorem wp_app_row {o : Oper} {a : Act} {K : Act → World → Prop} {Q : Exit → Act → World → Prop} (s y : Operand) (ho : o.op = .call { callee := .builtin .append, args := #[s, y], argTypes := #[84, 84] })
    {w wr : World} {pa pb q p first : Nat} {rv : Value} {R : List (SRow × Value)} (h : OpenAt w wr pa pb q p first rv R) (x : SRow × Value) (hx : BytesAt wr x.2 x.1.key) (hxU : ∀ g, x.2.ownBlock = some g → g < wr.heap.size ∧ w.heap.size ≤ g ∧ g ∉ blks q [rowD rv R] ∧ g ≠ pa ∧ g ≠ pb)
    (hl : R.length ≤ 1000000) (hs : a.eval s = rv) (hy : a.eval y = .slice (some ⟨wr.heap.size, 0, none⟩) 1 1)
    (hk : ∀ g cap w2, w2.cell? ⟨pa, 0, none⟩ = some (.pointer (some ⟨q, 0, none⟩)) → w2.cell? ⟨q, 2, none⟩ = some rv → w2.frozen? ⟨q, 2, none⟩ = false → q < w2.heap.size → Hid (OpenAt w (w2.setCell ⟨q, 2, none⟩ (.slice (some ⟨g, 0, none⟩) (R.length + 1) cap)) pa pb q p first (.slice (some ⟨g, 0, none⟩) (R.length + 1) cap) (R ++ [x])) → K (a.put o.dst (.slice (some ⟨g, 0, none⟩) (R.length + 1) cap)) w2) :
    Oper.wp Tryd.prog o a (wr.alloc (.cells (rcell x).toArray 89)) K Q := by
  obtain ⟨i, z, hi, hz, h1, h2, h3⟩ := info_three facts_row
  have hrow : wr.ownsRow 0 89 3 rv R.length (rcells R) := h.obj.rows _ (List.mem_singleton.2 rfl)
  obtain ⟨ka, kc, hkv⟩ := hx.slice
  have hrow' : (wr.alloc (.cells (rcell x).toArray 89)).ownsRow 0 89 3 rv R.length (rcells R) := hrow.alloc _
  refine wp_append_lies _ s y 84 ho 0 89 i z 3 40 Tryd.underlying84 hi hz h2 h3 h1 (by omega) rv R.length (rcells R) hs hrow' ⟨wr.heap.size, 0, none⟩ 1 1 (rcell x) hy rfl
    (fun j u hj => by rw [add_none, Nat.zero_add]; exact blk_cell (heap_alloc_new wr _) j u (by simpa using hj)) (fun u hu => by
      unfold rcell at hu
      rw [hkv] at hu
      rcases List.mem_cons.1 hu with rfl | hu
      · rfl
      · rcases List.mem_cons.1 hu with rfl | hu
        · rfl
        · obtain rfl := List.mem_singleton.1 hu
          rfl) (by omega) (by unfold maxLen; omega) (by omega) (Nat.zero_le _) _ rfl ?_
  intro g cap w2 hrow hg hat hlt
  have hg' : wr.grownBy w2 rv.ownBlock := grownBy_trans (World.grownBy_alloc wr _ _) hg
  have hkeep : ∀ k, k < wr.heap.size → rv.ownBlock ≠ some k → w2.heap[k]? = wr.heap[k]? := fun k h1 h2 => hg'.block k h1 (fun e => h2 e.symm)
  have hrb : ∀ k, rv.ownBlock = some k → k ∈ blks q [rowD rv R] := fun k hk => blks_row (r := rowD rv R) (List.mem_singleton.2 rfl) hk
  have hq := (hkeep q (blk_lt h.obj.head) (fun e => (h.obj.row_ne (r := rowD rv R) (List.mem_singleton.2 rfl) e) rfl)).trans h.obj.head
  have hpa := (hkeep pa (blk_lt h.ca) (fun e => (h.new _ (hrb _ e)).2.1 rfl)).trans h.ca
  refine hk g cap w2 (blk_cell hpa 0 _ rfl) (blk_cell hq 2 _ rfl) (blk_frozen hq 2) (blk_lt hq) (Lib.hid (h.more x hg' hrow (fun k hk => ?_) hx hxU))
  obtain rfl : g = k := by simpa [Value.ownBlock] using hk
  rcases hat with h4 | h4
  · exact .inl h4
  · exact .inr (by rw [h4]; simp)

theorem leaves_put {P : Program} {fn : Func} {R : Ending → World → Prop} (i : Nat) (v : Value) (hres : ∀ t : Array Value, results fn (t.setIfInBounds i v) = results fn t) :
    ∀ (ds : List Deferred) (u : FrameMode) (w : World) (t : Array Value), Leaves P fn (t.setIfInBounds i v) R ds u w → Leaves P fn t R ds u w := by
  intro ds
  induction ds with
  | nil =>
    intro u w t h
    cases u with
    | run => exact h
    | returning =>
      obtain ⟨x, h1, h2⟩ := h
      exact ⟨x, by rw [hres] at h1; exact h1, h2⟩
    | panicking c => exact h
  | cons d ds ih =>
    intro u w t h
    obtain ⟨h0, fv, cap, f, args, h1, h2, h3⟩ := h
    refine ⟨h0, fv, cap, f, args, h1, h2, h3.mono ?_⟩
    intro e u' w' hr
    cases e with
    | returned x => exact ih _ _ _ hr
    | panicked c => exact ih _ _ _ hr
    | outgrown => exact hr
theorem open_res (i : Nat) (v : Value) (h4 : i ≠ 4) (h5 : i ≠ 5) (t : Array Value) : results Tryd.f14 (t.setIfInBounds i v) = results Tryd.f14 t := by
  unfold results
  rw [Tryd.results14]
  simp [Array.getElem?_setIfInBounds_ne h4, Array.getElem?_setIfInBounds_ne h5]
theorem openQ {R : Ending → World → Prop} (i : Nat) (v : Value) (h4 : i ≠ 4) (h5 : i ≠ 5) (c : List PanicEntry) (a : Act) (w : World) (h : bodyPostD Tryd.prog Tryd.f14 R (.panic c) (a.put (some i) v) w) : bodyPostD Tryd.prog Tryd.f14 R (.panic c) a w :=
  leaves_put i v (open_res i v h4 h5) _ _ _ _ h

set_option maxHeartbeats 8000000 in
set_option maxRecDepth 100000 in
theorem sopen_live (p : Nat) (S : List Nat) (d : DS) (first : Nat) (w : World) (h : DiskAt w p S d) (hb : first ≤ d.n) (hd : d.dead = false) (hn : d.n ≠ 0) :
    Calls Tryd.prog 14 #[.pointer (some ⟨p, 0, none⟩), .int .i64 (first : Int)] w (OpenPost p S w (d.slots first)) := by
  have hg : d.slots first = match rowsFrom d first ((d.n - first) / 8) 0 with
      | none => (4, none)
      | some rows => (0, some ⟨d, first, rows⟩) := by
    unfold DS.slots
    rw [if_neg (by omega), if_neg (by simp [hd, hn])]
    rfl
  obtain ⟨w2, hw2⟩ : ∃ w2, w2 = (w.alloc (.cells #[.pointer none] 34)).alloc (.cells #[.int .i64 0] 25) := ⟨_, rfl⟩
  obtain ⟨w3, hw3⟩ : ∃ w3, w3 = (w2.setCell ⟨w.heap.size, 0, none⟩ (.pointer (some ⟨w.heap.size + 2, 0, none⟩))).alloc (.cells #[.pointer (some ⟨p, 0, none⟩), .int .i64 (first : Int), .slice none 0 0] 86) := ⟨_, rfl⟩
  have hc2 : Chg [] w w2 := by rw [hw2]; exact ((Chg.refl _ _).alloc _).alloc _
  have CS := Lib.hid (fun w' (hc : Chg [] w w') => dsectors_any p S d w' (h.keep hc (by simp)))
  have CD := Lib.hid (ddead_any p S d w2 (h.keep hc2 (by simp)))
  have CR := Lib.hid (fun k w' (hc : Chg [] w w') => dread_any p S d k w' (h.keep hc (by simp)))
  have hs2 : w2.heap.size = w.heap.size + 2 := by rw [hw2]; simp
  have hpa : w2.heap[w.heap.size]? = some (.cells #[.pointer none] 34 (0, 0)) := by rw [hw2]; exact blk_alloc (heap_alloc_new w _)
  have hpb : w2.heap[w.heap.size + 1]? = some (.cells #[.int .i64 0] 25 (0, 0)) := by
    rw [hw2]
    have := heap_alloc_new (w.alloc (.cells #[.pointer none] 34)) (.cells #[.int .i64 0] 25)
    simpa using this
  have hs2' : (w2.setCell ⟨w.heap.size, 0, none⟩ (.pointer (some ⟨w.heap.size + 2, 0, none⟩))).heap.size = w.heap.size + 2 := by rw [← hs2]; simp [World.setCell]
  have hq2 : ((w2.setCell ⟨w.heap.size, 0, none⟩ (.pointer (some ⟨w.heap.size + 2, 0, none⟩))).alloc (.cells #[.pointer (some ⟨p, 0, none⟩), .int .i64 (first : Int), .slice none 0 0] 86)).heap[w.heap.size + 2]? = some (.cells #[.pointer (some ⟨p, 0, none⟩), .int .i64 (first : Int), .slice none 0 0] 86 (0, 0)) := by
    have h1 := heap_alloc_new (w2.setCell ⟨w.heap.size, 0, none⟩ (.pointer (some ⟨w.heap.size + 2, 0, none⟩))) (.cells #[.pointer (some ⟨p, 0, none⟩), .int .i64 (first : Int), .slice none 0 0] 86)
    rw [hs2'] at h1
    exact h1
  have HO3 : Hid (OpenAt w w3 w.heap.size (w.heap.size + 1) (w.heap.size + 2) p first (.slice none 0 0) []) := Lib.hid (by
    rw [hw3]
    refine ⟨((hc2.setCell (p := ⟨w.heap.size, 0, none⟩) (.inr (Nat.le_refl _)) _).alloc _), ⟨Nat.le_refl _, by omega⟩, blk_alloc (set_blk hpa), blk_alloc (blk_sets hpb (by omega)), ⟨hq2, fun r hr => ?_, by simp [blks, rowD, Value.ownBlock]⟩, fun x hx => ?_, fun x hx => by cases hx⟩
    · obtain rfl : r = rowD (.slice none 0 0) [] := by simpa using hr
      exact ⟨rfl, .inl ⟨rfl, rfl⟩⟩
    · have : x = w.heap.size + 2 := by simpa [blks, rowD, Value.ownBlock] using hx
      omega)
  have hfew : d.n ≤ 4160 := by
    obtain ⟨gn, gl, cn, cl, v, hd⟩ := h
    exact hd.few
  have hlen64 : Hid (∀ k, k < d.n → (d.now k).length = 64) := Lib.hid (by
    obtain ⟨gn, gl, cn, cl, v, hd⟩ := h
    exact fun k hk => hd.now.len k hk)
  have h0 : ¬ (first : Int) < 0 := by omega
  have h1 : ¬ (d.n : Int) < (first : Int) := by omega
  have hnz : ¬ (d.n : Int) = 0 := by omega
  have hnz1 : ((d.n : Int) == 0) = false := by simp [hn]
  have hmf : ∀ (fn : Fn) (first cap : Array Value) (w : World), (Instr.makeFunc fn first cap).run Tryd.prog w = .ok (.func fn first cap) w := fun _ _ _ _ => rfl
  have HDK := Lib.hid h
  have HW2 := Lib.hid hw2
  have HW3 := Lib.hid hw3
  have HC2 := Lib.hid hc2
  have f0 := blk_frozen hpa 0
  have a0 := blk_cell hpa 0 _ rfl
  have l0 := blk_lt hpa
  have hw2z := hs2
  have HG := Lib.hid hg
  rw [hd] at CD
  have HD := Lib.hid hd
  have HPA := Lib.hid hpa
  have HPB := Lib.hid hpb
  obtain ⟨Z, hZ⟩ : ∃ Z, Z = d.slots first := ⟨_, rfl⟩
  rw [← hZ] at HG ⊢
  obtain ⟨m, hm⟩ : ∃ m, m = (d.n - first) / 8 := ⟨_, rfl⟩
  rw [← hm] at HG
  obtain ⟨n, hnn⟩ : ∃ n, n = d.n := ⟨_, rfl⟩
  have HN := Lib.hid hnn
  rw [← hnn] at h1 hnz hnz1 hfew hb CS hm
  have hm8 : first + 8 * m ≤ n ∧ n < first + 8 * m + 8 := by omega
  clear h hg hw2 hw3 hc2 hpa hpb hq2 hs2' hd hZ hn hnn hm
  go_enter_defers Tryd.func14, Tryd.ntmps14
  go_wp2_with (first
      | (go_at_call 40; rw [← HW2.out]; refine (CS.out _ HC2.out).mono ?_; rintro e w' ⟨rfl, hq⟩; subst hq)
      | (go_at_call 40; refine (CS.out _ HC2.out).mono ?_; rintro e w' ⟨rfl, hq⟩; subst hq)
      | (go_at_call 26; refine CD.out.mono ?_; rintro e w' ⟨rfl, hq⟩; subst hq))
  rw [← HW3.out]
  go_loopg [6] m (fun g' s6 wr => ∃ (k : Nat) (rv : Value) (R : List (SRow × Value)), s6 = .int .i64 ((first + 8 * k : Nat) : Int) ∧ k ≤ m ∧ m ≤ k + g' ∧ Hid (OpenAt w wr w.heap.size (w.heap.size + 1) (w.heap.size + 2) p first rv R ∧ R.length = k ∧ rowsFrom d first m 0 = (rowsFrom d first (m - k) k).map (R.map (·.1) ++ ·)))
  case atStart => exact ⟨0, .slice none 0 0, [], by simp, by omega, by omega, Lib.hid ⟨HO3.out, rfl, by simp⟩⟩
  case round =>
    obtain ⟨k, rv, R, rfl, hk, hkg, HR⟩ := hrel
    obtain ⟨hO, hRl, hrows⟩ := HR.out
    have HO := Lib.hid hO
    have HROWS := Lib.hid hrows
    have CSr := Lib.hid (CS.out wr hO.chg)
    clear hO hrows f0 a0 l0 HR
    have hk8 : first + 8 * k ≤ 4160 := by omega
    have hwr : Hid (IntKind.i64.wrap (((first + 8 * k : Nat) : Int) + 8) = ((first + 8 * k + 8 : Nat) : Int)) := Lib.hid (by rw [IntWalk.i64_in _ ⟨by omega, by omega⟩]; push_cast; omega)
    by_cases hlt : k < m
    · have hle : (first : Int) + 8 * (k : Int) + 8 ≤ (n : Int) := by omega
      go_wp2_with (go_at_call 40; refine CSr.out.mono ?_; rintro e w' ⟨rfl, hq⟩; subst hq)
      have hlen := hlen64.out (first + 8 * k) (by rw [← HN.out]; omega)
      have HLEN := Lib.hid hlen
      refine (CR.out _ wr HO.out.chg).mono ?_
      rintro e w4 ⟨he, hc4⟩
      rw [if_neg (by rw [HD.out]; simp), if_pos ⟨by omega, by rw [← HN.out]; omega⟩] at he
      obtain ⟨v4, rfl, hr4, hn4⟩ := he
      rw [show ((first : Int) + 8 * (k : Int)).toNat = first + 8 * k by omega] at hr4
      have HO4 := Lib.hid (HO.out.keep hc4)
      have CH := Lib.hid (head_any v4 (d.now (first + 8 * k)) w4.drew (hr4.bytes.chg (by exact (Chg.refl [] w4).drew) (by simp)) (by rw [hlen]; omega))
      obtain ⟨a4, c4, hv4⟩ := hr4.bytes.slice
      rw [hlen] at hv4
      obtain ⟨b4, hb4⟩ : ∃ b4, b4 = d.now (first + 8 * k) := ⟨_, rfl⟩
      have HB4 := Lib.hid hb4
      rw [← hb4] at CH
      subst hv4
      clear hlen hr4 hn4 hc4 hb4
      have a0 := blk_cell HO4.out.ca 0 _ rfl
      have a1 := blk_cell HO4.out.obj.head 2 _ rfl
      go_wp2_with (go_at_call 43; refine (must_ok _).mono ?_; rintro e w' ⟨rfl, hq⟩; subst hq)
      refine wp_region_L [(11, fun w' => w'.cell? ⟨w.heap.size, 0, none⟩ = some (.pointer (some ⟨w.heap.size + 2, 0, none⟩))), (11, fun w' => w'.cell? ⟨w.heap.size + 2, 2, none⟩ = some rv)] (by kernel_rfl) ?_ (fun hHeld => ?_)
      · exact (HoldC.cons (a0) (HoldC.cons (a1) HoldC.nil))
      refine wpAnyL_load 0 (i := 0) (oi := _) (v := ?_) rfl rfl (by kernel_rfl) (by kernel_rfl) (by kernel_rfl) (by kernel_rfl) (by kernel_rfl) (by kernel_rfl) (by intro c a w hq; refine openQ _ _ ?_ ?_ c a w hq <;> decide) (Or.inl ⟨by rfl, ?_⟩) (by assumption) (fun hNew => ?_)
      rotate_left
      · intro w hSw
        (try dsimp only at hSw)
        go_simp
        try with_reducible rfl
      clear hHeld
      have hHeld := hNew
      clear hNew
      try simp only [List.getElem_toArray, List.getElem_cons_succ, List.getElem_cons_zero, Act.put, List.setIfInBounds_toArray, List.set_cons_zero, List.set_cons_succ]
      refine wpAnyL_load 0 (i := 1) (oi := _) (v := ?_) rfl rfl (by kernel_rfl) (by kernel_rfl) (by kernel_rfl) (by kernel_rfl) (by kernel_rfl) (by kernel_rfl) (by intro c a w hq; refine openQ _ _ ?_ ?_ c a w hq <;> decide) (Or.inl ⟨by rfl, ?_⟩) (by assumption) (fun hNew => ?_)
      rotate_left
      · intro w hSw
        (try dsimp only at hSw)
        go_simp
        try with_reducible rfl
      clear hHeld
      have hHeld := hNew
      clear hNew
      try simp only [List.getElem_toArray, List.getElem_cons_succ, List.getElem_cons_zero, Act.put, List.setIfInBounds_toArray, List.set_cons_zero, List.set_cons_succ]
      refine wpAnyL_take (i := 2) (oi := _) (v := ?_) rfl (by kernel_rfl) (by kernel_rfl) (by kernel_rfl) (by kernel_rfl) (by kernel_rfl) (by intro c a w hq; refine openQ _ _ ?_ ?_ c a w hq <;> decide) (Or.inl ⟨by rfl, ?_⟩) (by assumption) (fun hNew => ?_)
      rotate_left
      · intro w _
        go_simp
        try with_reducible rfl
      clear hHeld
      have hHeld := hNew
      clear hNew
      try simp only [List.getElem_toArray, List.getElem_cons_succ, List.getElem_cons_zero, Act.put, List.setIfInBounds_toArray, List.set_cons_zero, List.set_cons_succ]
      refine wpAnyL_take (i := 3) (oi := _) (v := ?_) rfl (by kernel_rfl) (by kernel_rfl) (by kernel_rfl) (by kernel_rfl) (by kernel_rfl) (by intro c a w hq; refine openQ _ _ ?_ ?_ c a w hq <;> decide) (Or.inl ⟨by rfl, ?_⟩) (by assumption) (fun hNew => ?_)
      rotate_left
      · intro w _
        go_simp
        try with_reducible rfl
      clear hHeld
      have hHeld := hNew
      clear hNew
      try simp only [List.getElem_toArray, List.getElem_cons_succ, List.getElem_cons_zero, Act.put, List.setIfInBounds_toArray, List.set_cons_zero, List.set_cons_succ]
      refine wpAnyL_load 1 (i := 4) (oi := _) (v := ?_) rfl rfl (by kernel_rfl) (by kernel_rfl) (by kernel_rfl) (by kernel_rfl) (by kernel_rfl) (by kernel_rfl) (by intro c a w hq; refine openQ _ _ ?_ ?_ c a w hq <;> decide) (Or.inl ⟨by rfl, ?_⟩) (by assumption) (fun hNew => ?_)
      rotate_left
      · intro w hSw
        (try dsimp only at hSw)
        go_simp
        try with_reducible rfl
      clear hHeld
      have hHeld := hNew
      clear hNew
      try simp only [List.getElem_toArray, List.getElem_cons_succ, List.getElem_cons_zero, Act.put, List.setIfInBounds_toArray, List.set_cons_zero, List.set_cons_succ]
      refine wpAnyL_take (i := 5) (oi := _) (v := ?_) rfl (by kernel_rfl) (by kernel_rfl) (by kernel_rfl) (by kernel_rfl) (by kernel_rfl) (by intro c a w hq; refine openQ _ _ ?_ ?_ c a w hq <;> decide) (Or.inl ⟨by rfl, ?_⟩) (by assumption) (fun hNew => ?_)
      rotate_left
      · intro w _
        go_simp
        try with_reducible rfl
      clear hHeld
      have hHeld := hNew
      clear hNew
      try simp only [List.getElem_toArray, List.getElem_cons_succ, List.getElem_cons_zero, Act.put, List.setIfInBounds_toArray, List.set_cons_zero, List.set_cons_succ]
      refine wpAnyL_ready (rs := [6]) (by kernel_rfl) (by simp) ?_
      refine AllReadyL.cons (o := _) rfl (fun K hK => ?_) AllReadyL.nil
      try simp only [List.getElem_toArray, List.getElem_cons_succ, List.getElem_cons_zero]
      go_simp
      refine CH.out.mono ?_
      rintro e w5 ⟨hc5, hh⟩
      have HO5 := Lib.hid (HO4.out.keep ((by exact (Chg.refl [] w4).drew : Chg [] w4 w4.drew).trans hc5 (by simp)))
      have hc5' : Chg [] w4 w5 := (by exact (Chg.refl [] w4).drew : Chg [] w4 w4.drew).trans hc5 (by simp)
      cases hhd : headOf b4 with
      | none =>
        rw [hhd] at hh
        obtain ⟨x, rfl, hx⟩ := hh
        have HZ : Hid (Z = (4, none)) := Lib.hid (by
          rw [HG.out, HROWS.out, show m - k = (m - (k + 1)) + 1 by omega]
          unfold rowsFrom
          rw [← HB4.out, hhd]
          rfl)
        have CP := Lib.hid (catchB_x w.heap.size (w.heap.size + 1) x hx _ _ [] w5 HO5.out.ca HO5.out.cb (by omega))
        unfold broke
        refine leaves_cons (f := 41) (args := #[.pointer (some ⟨w.heap.size, 0, none⟩), .pointer (some ⟨w.heap.size + 1, 0, none⟩)]) (by simp) (by simp [go_sem]) ?_
        refine CP.out.mono ?_
        rintro e u' w'' ⟨rfl, rfl, hc, ha, hb⟩
        refine ⟨.tuple #[.pointer none, .int .i64 4], by simp [results, Tryd.results14, go_sem, blk_cell ha 0 _ rfl, blk_cell hb 0 _ rfl], ?_⟩
        rw [HZ.out]
        exact ⟨HO5.out.chg.trans hc (fun x hx => .inr (by simp at hx; omega)), rfl⟩
      | some r =>
        rw [hhd] at hh
        obtain ⟨kv, rfl, hr5, ho5⟩ := hh
        have hxU : ∀ g, kv.ownBlock = some g → g < w5.heap.size ∧ w.heap.size ≤ g ∧ g ∉ blks (w.heap.size + 2) [rowD rv R] ∧ g ≠ w.heap.size ∧ g ≠ w.heap.size + 1 := fun g hg => by
          have e1 := ho5 g hg
          have e2 : w4.drew.heap.size = w4.heap.size := rfl
          have e3 := blk_lt HO4.out.cb
          have e4 := HO4.out.chg.size
          refine ⟨hr5.lt g hg, by omega, fun hm => ?_, by omega, by omega⟩
          have := HO4.out.obj.lim g hm
          omega
        have HXU := Lib.hid hxU
        have HBX := Lib.hid hr5.bytes
        obtain ⟨iw, zw, hiw, hzw1, hzw2, hzw3, hzw4⟩ := info_three facts_row
        have HIW := Lib.hid hiw
        have HZ1 := Lib.hid hzw1
        have HZ3 : Hid (iw.size = (rcell (r, kv)).toArray.size) := Lib.hid (by rw [hzw3]; rfl)
        have HWS : Hid ((rcell (r, kv)).toArray.size = 3) := Lib.hid rfl
        have HRC : Hid (rowsFrom d first m 0 = (rowsFrom d first (m - (k + 1)) (k + 1)).map ((R ++ [(r, kv)]).map (·.1) ++ ·)) := Lib.hid (by
          rw [HROWS.out, show m - k = (m - (k + 1)) + 1 by omega]
          conv => lhs; unfold rowsFrom
          rw [← HB4.out, hhd]
          dsimp only
          rw [Option.map_map]
          congr 1
          funext t
          simp)
        clear hhd hxU hr5 ho5 hc5 hc5' hiw hzw1 hzw2 hzw3 hzw4 CH HB4 HLEN
        have a5 := blk_cell HO5.out.ca 0 _ rfl
        have b5 := blk_cell HO5.out.obj.head 2 _ rfl
        try go_wp2_with fail
        clear hHeld
        refine hK.out _ _ ?_ (fun hHeld => ?_)
        · exact (HoldC.cons (a5) (HoldC.cons (b5) HoldC.nil))
        clear hK K
        try simp only [List.getElem_toArray, List.getElem_cons_succ, List.getElem_cons_zero, Act.put, List.setIfInBounds_toArray, List.set_cons_zero, List.set_cons_succ]
        refine wpAnyL_ready (rs := [7]) (by kernel_rfl) (by simp) ?_
        refine AllReadyL.cons (o := _) rfl (fun K hK => ?_) AllReadyL.nil
        try simp only [List.getElem_toArray, List.getElem_cons_succ, List.getElem_cons_zero]
        rw [if_pos (by rfl)]
        refine wp_slice1 84 89 (.tmp 57) (by rfl) (rcell (r, kv)).toArray (by rfl) iw zw Tryd.underlying84 HIW.out HZ1.out HZ3.out (by rw [HWS.out]; omega) (by rw [HWS.out]; omega) ?_
        clear hHeld
        refine hK.out _ _ ?_ (fun hHeld => ?_)
        · exact (HoldC.cons ((blk_cell (blk_alloc HO5.out.ca) 0 _ rfl)) (HoldC.cons ((blk_cell (blk_alloc HO5.out.obj.head) 2 _ rfl)) HoldC.nil))
        clear hK K
        try simp only [List.getElem_toArray, List.getElem_cons_succ, List.getElem_cons_zero, Act.put, List.setIfInBounds_toArray, List.set_cons_zero, List.set_cons_succ]
        refine wpAnyL_ready (rs := [8]) (by kernel_rfl) (by simp) ?_
        refine AllReadyL.cons (o := _) rfl (fun K hK => ?_) AllReadyL.nil
        try simp only [List.getElem_toArray, List.getElem_cons_succ, List.getElem_cons_zero]
        rw [if_pos (by rfl)]
        refine wp_app_row (.tmp 55) (.tmp 58) (by rfl) HO5.out (r, kv) HBX.out HXU.out (by omega) (by rfl) (by rfl) ?_
        intro g2 cap2 w6 ea eb ef el HO6
        clear hHeld
        refine hK.out _ _ ?_ (fun hHeld => ?_)
        · exact (HoldC.cons (ea) (HoldC.cons (eb) HoldC.nil))
        clear hK K
        try simp only [List.getElem_toArray, List.getElem_cons_succ, List.getElem_cons_zero, Act.put, List.setIfInBounds_toArray, List.set_cons_zero, List.set_cons_succ]
        refine wpAnyL_take (i := 9) (oi := _) (v := ?_) rfl (by kernel_rfl) (by kernel_rfl) (by kernel_rfl) (by kernel_rfl) (by kernel_rfl) (by intro c a w hq; refine openQ _ _ ?_ ?_ c a w hq <;> decide) (Or.inl ⟨by rfl, ?_⟩) (by assumption) (fun hNew => ?_)
        rotate_left
        · intro w _
          go_simp
          try with_reducible rfl
        clear hHeld
        have hHeld := hNew
        clear hNew
        try simp only [List.getElem_toArray, List.getElem_cons_succ, List.getElem_cons_zero, Act.put, List.setIfInBounds_toArray, List.set_cons_zero, List.set_cons_succ]
        refine wpAnyL_take (i := 10) (oi := _) (v := ?_) rfl (by kernel_rfl) (by kernel_rfl) (by kernel_rfl) (by kernel_rfl) (by kernel_rfl) (by intro c a w hq; refine openQ _ _ ?_ ?_ c a w hq <;> decide) (Or.inl ⟨by rfl, ?_⟩) (by assumption) (fun hNew => ?_)
        rotate_left
        · intro w _
          go_simp
          try with_reducible rfl
        clear hHeld
        have hHeld := hNew
        clear hNew
        try simp only [List.getElem_toArray, List.getElem_cons_succ, List.getElem_cons_zero, Act.put, List.setIfInBounds_toArray, List.set_cons_zero, List.set_cons_succ]
        refine wpAnyL_ready (rs := [11]) (by kernel_rfl) (by simp) ?_
        refine AllReadyL.cons (o := _) rfl (fun K hK => ?_) AllReadyL.nil
        try simp only [List.getElem_toArray, List.getElem_cons_succ, List.getElem_cons_zero]
        go_simp
        clear hHeld
        refine hK.out _ _ ?_ (fun hHeld => ?_)
        · exact (HoldC.past (by kernel_rfl) (HoldC.past (by kernel_rfl) HoldC.nil))
        clear hK K
        try simp only [List.getElem_toArray, List.getElem_cons_succ, List.getElem_cons_zero, Act.put, List.setIfInBounds_toArray, List.set_cons_zero, List.set_cons_succ]
        refine wpAnyL_done (by kernel_rfl) ?_ _
        clear hHeld
        rw [hRl] at HO6
        generalize w6.setCell ⟨w.heap.size + 2, 2, none⟩ (.slice (some ⟨g2, 0, none⟩) (k + 1) cap2) = w7 at *
        clear ea eb ef el a0 a1 a5 b5
        have hw8 : IntKind.i64.wrap ((first : Int) + 8 * (k : Int) + 8) = ((first + 8 * (k + 1) : Nat) : Int) := by rw [IntWalk.i64_in _ ⟨by omega, by omega⟩]; push_cast; omega
        have HW8 := Lib.hid hw8
        clear hw8
        go_wp2
        go_roundg (gk - 1)
        case measure => omega
        case rel => exact ⟨k + 1, _, R ++ [(r, kv)], by first | rfl | rw [HW8.out] | (push_cast; congr 1; omega), by omega, by omega, Lib.hid ⟨HO6.out, by simp [hRl], HRC.out⟩⟩
    · have hkm : k = m := by omega
      have hle : ¬ (first : Int) + 8 * (m : Int) + 8 ≤ (n : Int) := by omega
      obtain rfl := hkm.symm
      have HZ : Hid (Z = (0, some ⟨d, first, R.map (·.1)⟩)) := Lib.hid (by
        rw [HG.out, HROWS.out, Nat.sub_self]
        simp [rowsFrom])
      have HROK : Hid (rowsFrom d first m 0 = some (R.map (·.1))) := Lib.hid (by rw [HROWS.out, Nat.sub_self]; simp [rowsFrom])
      have a0 := blk_cell HO.out.ca 0 _ rfl
      have f0 := blk_frozen HO.out.ca 0
      have b0 := blk_cell HO.out.cb 0 _ rfl
      have g0 := blk_frozen HO.out.cb 0
      have l0 := blk_lt HO.out.ca
      have l1 := blk_lt HO.out.cb
      have l2 : ¬ (w.heap.size = w.heap.size + 1) := by omega
      have HD1 := Lib.hid (HO.out.done HDK.out ⟨by show first + 8 * (R.map (·.1)).length ≤ d.n; rw [List.length_map, hRl, ← HN.out]; omega, (rowsFrom_len _ _ _ HROK.out).2⟩)
      clear hkm hRl
      go_wp2_with (go_at_call 40; refine CSr.out.mono ?_; rintro e w' ⟨rfl, hq⟩; subst hq)
      refine leaves_cons (f := 41) (args := #[.pointer (some ⟨w.heap.size, 0, none⟩), .pointer (some ⟨w.heap.size + 1, 0, none⟩)]) (by simp) (by simp [go_sem]) ?_
      refine (catchB_idle _ _ _).mono ?_
      rintro e u' w'' ⟨rfl, rfl, rfl⟩
      obtain ⟨w9, hw9⟩ : ∃ w9, w9 = (wr.setCell ⟨w.heap.size, 0, none⟩ (.pointer (some ⟨w.heap.size + 2, 0, none⟩))).setCell ⟨w.heap.size + 1, 0, none⟩ (.int .i64 0) := ⟨_, rfl⟩
      have hc9 : Chg [w.heap.size, w.heap.size + 1] wr w9 := by rw [hw9]; exact ((Chg.refl _ wr).setCell (p := ⟨w.heap.size, 0, none⟩) (.inl (by simp)) _).setCell (p := ⟨w.heap.size + 1, 0, none⟩) (.inl (by simp)) _
      have ca9 : w9.heap[w.heap.size]? = some (.cells #[.pointer (some ⟨w.heap.size + 2, 0, none⟩)] 34 (0, 0)) := by rw [hw9]; exact blk_sets (set_blk HO.out.ca) (by omega)
      have cb9 : w9.heap[w.heap.size + 1]? = some (.cells #[.int .i64 0] 25 (0, 0)) := by rw [hw9]; exact set_blk (blk_sets HO.out.cb (by omega))
      rw [← hw9]
      obtain ⟨k1, k2, k3⟩ := HD1.out _ (hc9.alloc (.cells #[.int .i64 0] 82))
      refine ⟨.tuple #[.pointer (some ⟨w.heap.size + 2, 0, none⟩), .int .i64 0], by simp [results, Tryd.results14, go_sem, blk_cell (blk_alloc (o' := .cells #[.int .i64 0] 82) ca9) 0 _ rfl, blk_cell (blk_alloc (o' := .cells #[.int .i64 0] 82) cb9) 0 _ rfl], ?_⟩
      rw [HZ.out]
      exact ⟨k1, _, _, rfl, k2, k3⟩

/-- Open. -/
theorem sopen_any (p : Nat) (S : List Nat) (d : DS) (first : Int) (w : World) (h : DiskAt w p S d) : Calls Tryd.prog 14 #[.pointer (some ⟨p, 0, none⟩), .int .i64 first] w (OpenPost p S w (d.slots first)) := by
  by_cases hb : first < 0 ∨ (d.n : Int) < first
  · exact sopen_bad p S d first w h hb
  · by_cases hd : d.dead = true ∨ d.n = 0
    · exact sopen_dead p S d first w h hb hd
    · obtain ⟨f, rfl⟩ := Int.eq_ofNat_of_zero_le (show 0 ≤ first by omega)
      exact sopen_live p S d f w h (by omega) (by simpa using fun h => hd (.inl h)) (fun h => hd (.inr h))
end Go.Proofs.YtipfgghdoicdhaaDoor.W
