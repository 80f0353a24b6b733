/- Texts laid together. -/
import Derived.Test.YtipfgghdoicdhaaDoorPB4
import Derived.Test.YtipfgghdoicdhaaDoorPB5
import Derived.Test.YtipfgghdoicdhaaDoorPB3
import Derived.Deep.MidRow
import Derived.Test.YtipfgghdoicdhaaDoorPB2
/- The reference's OpenSlots. -/
namespace Go.Proofs.YtipfgghdoicdhaaDoor.W
open Go.RowKit
set_option linter.unusedVariables false
set_option linter.unusedSimpArgs false

/-- What OpenSlots answers. -/
def ROpenPost (m : Nat) (V F : List Nat) (w : World) (r : Int × Option SS) (e : Ending) (w' : World) : Prop := Chg [] w w' ∧ match r with
  | (c, none) => e = .returned (.tuple #[.pointer none, .int .i64 c])
  | (c, some s) => ∃ q W A, e = .returned (.tuple #[.pointer (some ⟨q, 0, none⟩), .int .i64 c]) ∧ RSlotsAt w' q m W A s ∧ (∀ x ∈ W, x ∈ V ∨ w.heap.size ≤ x) ∧ ∀ x ∈ A, x ∈ F ∨ w.heap.size ≤ x
/-- While OpenSlots is at work. -/
structure ROpenAt (w wr : World) (q m : Nat) (first : Nat) (rv : Value) (R : List (SRow × Value)) : Prop where
  chg : Chg [] w wr
  obj : ObjAt wr q 93 #[.pointer (some ⟨m, 0, none⟩), .int .i64 (first : Int), rv] [rowQ rv R]
  new : ∀ x ∈ blks q [rowQ rv R], w.heap.size ≤ x
  no8 : ∀ x ∈ blks q [rowQ rv R], NoU8 wr x
  keys : ∀ x ∈ R, BytesAt wr x.2 x.1.key ∧ ∀ g, x.2.ownBlock = some g → g < wr.heap.size ∧ w.heap.size ≤ g ∧ g ∉ blks q [rowQ rv R]
theorem ROpenAt.keep {w wr w' : World} {q m first : Nat} {rv : Value} {R : List (SRow × Value)} (h : ROpenAt w wr q m first rv R) (hc : Chg [] wr w') : ROpenAt w w' q m first rv R :=
  ⟨h.chg.trans hc (by simp), h.obj.keep hc (by simp), h.new, fun x hx => (h.no8 x hx).keep (hc.block x (h.obj.lim x hx) (by simp)), fun x hx => ⟨(h.keys x hx).1.chg hc (by simp), fun g hg => ⟨Nat.lt_of_lt_of_le ((h.keys x hx).2 g hg).1 hc.size, ((h.keys x hx).2 g hg).2⟩⟩⟩
theorem ROpenAt.row {w wr : World} {q m first : Nat} {rv : Value} {R : List (SRow × Value)} (h : ROpenAt w wr q m first rv R) : wr.ownsRow 0 95 3 rv R.length (qcells R) ∧ (∀ c ∈ qcells R, No8 c) ∧ ∀ x, rv.ownBlock = some x → NoU8 wr x :=
  ⟨h.obj.rows _ (List.mem_singleton.2 rfl), qcells_no8 R (fun x hx => (h.keys x hx).1), fun x hx => h.no8 x (blks_row (r := rowQ rv R) (List.mem_singleton.2 rfl) hx)⟩
theorem ROpenAt.more {w wr w2 : World} {q m first : Nat} {rv : Value} {R : List (SRow × Value)} (h : ROpenAt w wr q m first rv R) (x : SRow × Value) (g cap : Nat) (hg : wr.grownBy w2 rv.ownBlock) (hrow : w2.ownsRow 0 95 3 (.slice (some ⟨g, 0, none⟩) (R.length + 1) cap) (R.length + 1) (qcells R ++ qcell x))
    (hat : rv.ownBlock = some g ∨ g = wr.heap.size) (h8 : NoU8 w2 g) (hx : BytesAt wr x.2 x.1.key) (hxU : ∀ g, x.2.ownBlock = some g → g < wr.heap.size ∧ w.heap.size ≤ g ∧ g ∉ blks q [rowQ rv R]) :
    ROpenAt w (w2.setCell ⟨q, 2, none⟩ (.slice (some ⟨g, 0, none⟩) (R.length + 1) cap)) q m first (.slice (some ⟨g, 0, none⟩) (R.length + 1) cap) (R ++ [x]) := by
  have hloc : ∀ k, (Value.slice (some ⟨g, 0, none⟩) (R.length + 1) cap).ownBlock = some k → rv.ownBlock = some k ∨ wr.heap.size ≤ k := fun k hk => by
    obtain rfl : g = k := by simpa [Value.ownBlock] using hk
    rcases hat with h4 | h4
    · exact .inl h4
    · exact .inr (by omega)
  have hobj : ObjAt wr q 93 #[.pointer (some ⟨m, 0, none⟩), .int .i64 (first : Int), rv] ([] ++ rowQ rv R :: []) := h.obj
  obtain ⟨o1, o2, o3⟩ := hobj.field (r' := rowQ (.slice (some ⟨g, 0, none⟩) (R.length + 1) cap) (R ++ [x])) 2 hg (by
    show w2.ownsRow 0 95 3 (.slice (some ⟨g, 0, none⟩) (R.length + 1) cap) (R ++ [x]).length (qcells (R ++ [x]))
    rw [List.length_append, qcells_app]
    exact hrow) hloc
  have o8 := hobj.field8 h.no8 2 hg (r' := rowQ (.slice (some ⟨g, 0, none⟩) (R.length + 1) cap) (R ++ [x])) hloc (fun y hy => by
    obtain rfl : g = y := by simpa [rowQ, Value.ownBlock] using hy
    exact h8) no8_slice
  refine ⟨h.chg.trans o3 (fun x hx => .inr (h.new x hx)), o1, fun y hy => ?_, o8, fun y hy => ?_⟩
  · rcases o2 y hy with h1 | h1
    · exact h.new y h1
    · exact Nat.le_trans h.chg.size h1
  · have hout : ∀ k, k < wr.heap.size → k ∉ blks q [rowQ rv R] → k ∉ blks q [rowQ (.slice (some ⟨g, 0, none⟩) (R.length + 1) cap) (R ++ [x])] := fun k h1 h2 hm => by
      rcases o2 k hm with h3 | h3
      · exact h2 h3
      · omega
    rcases List.mem_append.1 hy with hy | hy
    · obtain ⟨k1, k2⟩ := h.keys y hy
      exact ⟨k1.chg o3 (fun k hk => (k2 k hk).2.2), fun k hk => ⟨Nat.lt_of_lt_of_le (k2 k hk).1 o3.size, (k2 k hk).2.1, hout k (k2 k hk).1 (k2 k hk).2.2⟩⟩
    · obtain rfl : y = x := by simpa using hy
      exact ⟨hx.chg o3 (fun k hk => (hxU k hk).2.2), fun k hk => ⟨Nat.lt_of_lt_of_le (hxU k hk).1 o3.size, (hxU k hk).2.1, hout k (hxU k hk).1 (hxU k hk).2.2⟩⟩
theorem ROpenAt.done {w wr : World} {q m first : Nat} {V F : List Nat} {d : DS} {rv : Value} {R : List (SRow × Value)} (h : ROpenAt w wr q m first rv R) (hd : RDiskAt w m V F d) (hok : SS.Ok ⟨d, first, R.map (·.1)⟩) :
    ∃ W A, RSlotsAt wr q m W A ⟨d, first, R.map (·.1)⟩ ∧ (∀ x ∈ W, x ∈ V ∨ w.heap.size ≤ x) ∧ ∀ x ∈ A, x ∈ F ∨ w.heap.size ≤ x := by
  obtain ⟨l1, l2, l3⟩ := hd.lim
  refine ⟨V ++ blks q [rowQ rv R], F ++ blks q [rowQ rv R] ++ R.flatMap (fun x => x.2.ownBlock.toList), ⟨V, F, rv, R, h.obj, hd.keep h.chg (by simp), rfl, fun x hx hm => ?_, fun x hx => ?_, rfl, h.no8, fun x hx => List.mem_append_left _ (List.mem_append_left _ hx), fun x hx => List.mem_append_left _ (List.mem_append_right _ hx), fun x hx => ?_, hok⟩, fun x hx => ?_, fun x hx => ?_⟩
  · have a1 := h.new x hx
    have a2 := l1 x hm
    omega
  · obtain ⟨k1, k2⟩ := h.keys x hx
    refine ⟨k1, fun g hg => ⟨List.mem_append_right _ (List.mem_flatMap.2 ⟨x, hx, by rw [hg]; simp⟩), fun hm => ?_⟩⟩
    obtain ⟨b1, b2, b3⟩ := k2 g hg
    rcases List.mem_append.1 hm with hm | hm
    · have := l1 g (l2 g hm); omega
    · exact b3 hm
  · rcases List.mem_append.1 hx with hx | hx
    · rcases List.mem_append.1 hx with hx | hx
      · exact Nat.lt_of_lt_of_le (l1 x hx) h.chg.size
      · exact h.obj.lim x hx
    · obtain ⟨c, hc, hx⟩ := List.mem_flatMap.1 hx
      exact ((h.keys c hc).2 x (by simpa using hx)).1
  · rcases List.mem_append.1 hx with hx | hx
    · exact .inl hx
    · exact .inr (h.new x hx)
  · rcases List.mem_append.1 hx with hx | hx
    · rcases List.mem_append.1 hx with hx | hx
      · exact .inl hx
      · exact .inr (h.new x hx)
    · obtain ⟨c, hc, hx⟩ := List.mem_flatMap.1 hx
      exact .inr ((h.keys c hc).2 x (by simpa using hx)).2.1
theorem ropen_at (m first : Nat) (w : World) : ROpenAt w (w.alloc (.cells #[.pointer (some ⟨m, 0, none⟩), .int .i64 (first : Int), .slice none 0 0] 93)) w.heap.size m first (.slice none 0 0) [] := by
  have hh := heap_alloc_new w (.cells #[.pointer (some ⟨m, 0, none⟩), .int .i64 (first : Int), .slice none 0 0] 93)
  have hb : blks w.heap.size [rowQ (.slice none 0 0) []] = [w.heap.size] := rfl
  refine ⟨(Chg.refl _ _).alloc _, ⟨hh, fun r hr => ?_, by rw [hb]; simp⟩, fun x hx => ?_, fun x hx => ?_, fun x hx => by cases hx⟩
  · obtain rfl : r = rowQ (.slice none 0 0) [] := by simpa using hr
    exact ⟨rfl, .inl ⟨rfl, rfl⟩⟩
  · rw [hb] at hx
    rw [List.mem_singleton.1 hx]
    exact Nat.le_refl _
  · rw [hb] at hx
    rw [List.mem_singleton.1 hx]
    refine NoU8.mk hh (no8_list (l := [_, _, _]) ?_)
    intro c hc
    simp only [List.mem_cons, List.mem_nil_iff, or_false] at hc
    rcases hc with rfl | rfl | rfl <;> (intro z; simp)
theorem facts_held : (Tryd.prog.info? 95).map (fun i => (i.zero, i.size, i.bytes)) = some (some (.agg #[.bool false, .slice none 0 0, .int .i64 0]), 3, 40) := by kernel_rfl

set_option maxHeartbeats 8000000 in
set_option maxRecDepth 100000 in
theorem ropen_any (m : Nat) (V F : List Nat) (d : DS) (first : Int) (w : World) (h : RDiskAt w m V F d) (hn0 : d.n ≠ 0) :
    Calls Tryd.prog 15 #[.pointer (some ⟨m, 0, none⟩), .int .i64 first] w (ROpenPost m V F w (d.slots first)) := by
  have HD := Lib.hid h
  obtain ⟨p6, hnd, a, cap, p0, -⟩ := h.read
  obtain ⟨n, hn⟩ : ∃ n, n = d.n := ⟨_, rfl⟩
  have HN := Lib.hid hn
  rw [← hn] at p0 hnd hn0
  by_cases hneg : first < 0
  · have hg : d.slots first = (1, none) := by unfold DS.slots; rw [if_pos (.inl hneg)]
    rw [hg]
    have q0 : decide (first < 0) = true := decide_eq_true hneg
    clear h hg p6
    go_enter Tryd.func15, Tryd.ntmps15
    go_wp2
    go_ret2
    exact ⟨Chg.refl _ _, rfl⟩
  · obtain ⟨f, rfl⟩ := Int.eq_ofNat_of_zero_le (show 0 ≤ first by omega)
    have q0 : decide ((f : Int) < 0) = false := decide_eq_false hneg
    by_cases hbig : n < f
    · have hg : d.slots (f : Int) = (1, none) := by unfold DS.slots; rw [if_pos (.inr (by omega))]
      rw [hg]
      have q1 : decide ((f : Int) > (n : Int)) = true := decide_eq_true (by omega)
      clear h hg p6
      go_enter Tryd.func15, Tryd.ntmps15
      go_wp2
      go_ret2
      exact ⟨Chg.refl _ _, rfl⟩
    · have q1 : decide ((f : Int) > (n : Int)) = false := decide_eq_false (by omega)
      by_cases hd : d.dead = true
      · have hg : d.slots (f : Int) = (14, none) := by unfold DS.slots; rw [if_neg (by omega), if_pos (.inl hd)]
        rw [hg]
        rw [hd] at p6
        clear h hg hd
        go_enter Tryd.func15, Tryd.ntmps15
        go_wp2
        go_ret2
        exact ⟨Chg.refl _ _, rfl⟩
      · have hg : d.slots (f : Int) = match rowsFrom d f ((d.n - f) / 8) 0 with
            | none => (4, none)
            | some rows => (0, some ⟨d, f, rows⟩) := by
          unfold DS.slots
          rw [if_neg (by omega), if_neg (by rw [← hn]; simp [hd, hn0])]
          rfl
        have hd' : d.dead = false := by simpa using hd
        rw [hd'] at p6
        obtain ⟨Z, hZ⟩ : ∃ Z, Z = d.slots f := ⟨_, rfl⟩
        rw [← hZ] at hg ⊢
        obtain ⟨M, hM⟩ : ∃ M, M = (d.n - f) / 8 := ⟨_, rfl⟩
        rw [← hM] at hg
        have HG := Lib.hid hg
        have hm8 : f + 8 * M ≤ n ∧ n < f + 8 * M + 8 := by omega
        have HSEC := Lib.hid (fun wr (hc : Chg [] w wr) => ((h.keep hc (by simp)).read).2.2)
        obtain ⟨w1, hw1⟩ : ∃ w1, w1 = w.alloc (.cells #[.pointer (some ⟨m, 0, none⟩), .int .i64 (f : Int), .slice none 0 0] 93) := ⟨_, rfl⟩
        have HO1 : Hid (ROpenAt w w1 w.heap.size m f (.slice none 0 0) []) := Lib.hid (by rw [hw1]; exact ropen_at m f w)
        obtain ⟨q, hq⟩ : ∃ q, q = w.heap.size := ⟨_, rfl⟩
        rw [← hq] at HO1
        have HQ := Lib.hid hq
        have HW1 := Lib.hid hw1
        have HP0 := Lib.hid p0
        clear h hg hd hd' hZ hM hw1 hq
        go_enter Tryd.func15, Tryd.ntmps15
        go_wp2_with fail
        rw [← HW1.out, ← HQ.out]
        go_loopg [7, 8, 9] M (fun g' s7 s8 s9 wr => ∃ (k : Nat) (rv : Value) (R : List (SRow × Value)), s7 = .int .i64 ((f + 8 * k : Nat) : Int) ∧ k ≤ M ∧ M ≤ k + g' ∧ Hid (ROpenAt w wr q m f rv R ∧ R.length = k ∧ rowsFrom d f M 0 = (rowsFrom d f (M - k) k).map (R.map (·.1) ++ ·)))
        case atStart => exact ⟨0, .slice none 0 0, [], by simp, by omega, by omega, Lib.hid ⟨HO1.out, rfl, by simp⟩⟩
        case round =>
          obtain ⟨k, rv, R, rfl, hk, hkg, HR⟩ := hrel
          obtain ⟨hO, hRl, hrows⟩ := HR.out
          have HO := Lib.hid hO
          have HROWS := Lib.hid hrows
          have e0 := hO.chg.cell HP0.out (by simp)
          clear hO hrows p0 p6 HR
          by_cases hlt : k < M
          · obtain ⟨a', c', e', hsec⟩ := HSEC.out wr HO.out.chg
            obtain ⟨rfl, hce, rfl⟩ : a = a' ∧ n = d.n ∧ cap = c' := by
              have := e0.symm.trans e'
              simpa using this
            obtain ⟨gn, ax, cx, rfl, e1, b1, l1⟩ := hsec (f + 8 * k) (by rw [← hce]; omega)
            have CH := Lib.hid (rhead_any _ _ wr b1 (by rw [l1]; omega))
            have hle : decide ((f : Int) + 8 * (k : Int) + 8 ≤ (n : Int)) = true := decide_eq_true (by omega)
            have hfk : ((f : Int) + 8 * (k : Int)).toNat = f + 8 * k := by omega
            have hfk0 : (0 : Int) ≤ (f : Int) + 8 * (k : Int) := by omega
            have hfk1 : (f : Int) + 8 * (k : Int) < (n : Int) := by omega
            clear e' hsec b1 l1 hce
            go_wp2_with fail
            refine CH.out.mono ?_
            rintro e w4 ⟨hc4, hh⟩
            have HO4 := Lib.hid (HO.out.keep hc4)
            cases hhd : headOf (d.now (f + 8 * k)) with
            | none =>
              rw [hhd] at hh
              obtain rfl := hh
              have HZ : Hid (Z = (4, none)) := Lib.hid (by
                rw [HG.out, HROWS.out, show M - k = (M - (k + 1)) + 1 by omega]
                unfold rowsFrom
                rw [hhd]
                rfl)
              have HCF := Lib.hid HO4.out.chg
              clear hhd hc4 CH
              go_wp2
              go_ret2
              rw [HZ.out]
              exact ⟨HCF.out.alloc _, rfl⟩
            | some r =>
              rw [hhd] at hh
              obtain ⟨kv, rfl, hr5, ho5⟩ := hh
              obtain ⟨ak, ck, hkv⟩ := hr5.bytes.slice
              have hxU : ∀ g, kv.ownBlock = some g → g < w4.heap.size ∧ w.heap.size ≤ g ∧ g ∉ blks q [rowQ rv R] := fun g hg => by
                have e1 := ho5 g hg
                have e4 := HO.out.chg.size
                refine ⟨hr5.lt g hg, by omega, fun hm => ?_⟩
                have := HO.out.obj.lim g hm
                omega
              obtain ⟨hb, hhb⟩ : ∃ hb, hb = w4.heap.size := ⟨_, rfl⟩
              obtain ⟨w5, hw5⟩ : ∃ w5, w5 = w4.alloc (.cells #[.bool r.used, .slice ak r.key.length ck, .int .i64 (r.n : Int)] 95) := ⟨_, rfl⟩
              have hc5 : Chg [] w4 w5 := by rw [hw5]; exact (Chg.refl _ _).alloc _
              have HO5 := Lib.hid (HO4.out.keep hc5)
              have hB5 : BytesAt w5 kv r.key := hr5.bytes.chg hc5 (by simp)
              have hR5 : w5.rangeAt hb 0 (qcell (r, kv)) := fun j u hj => by
                rw [hw5, hhb]
                have := blk_cell (heap_alloc_new w4 (.cells #[.bool r.used, .slice ak r.key.length ck, .int .i64 (r.n : Int)] 95)) j u (by rw [← hkv]; simpa [qcell] using hj)
                rwa [Nat.zero_add]
              have HB := Lib.hid hhb
              have HW5 := Lib.hid hw5
              have HRC : Hid (rowsFrom d f M 0 = (rowsFrom d f (M - (k + 1)) (k + 1)).map ((R ++ [(r, kv)]).map (·.1) ++ ·)) := Lib.hid (by
                rw [HROWS.out, show M - k = (M - (k + 1)) + 1 by omega]
                conv => lhs; unfold rowsFrom
                rw [hhd]
                dsimp only
                rw [Option.map_map]
                congr 1
                funext t
                simp)
              have hA6 : ∀ x : Array Value, Chg [] w5 (w5.drew.alloc (.cells x 95)) := fun x => (by exact (Chg.refl [] w5).drew : Chg [] w5 w5.drew).alloc _
              have HO6 := Lib.hid (HO5.out.keep (hA6 (qcell (r, kv)).toArray))
              have HB6 := Lib.hid (hB5.chg (hA6 (qcell (r, kv)).toArray) (by simp))
              have HX6 : Hid (∀ g, kv.ownBlock = some g → g < (w5.drew.alloc (.cells (qcell (r, kv)).toArray 95)).heap.size ∧ w.heap.size ≤ g ∧ g ∉ blks q [rowQ rv R]) := Lib.hid (fun g hg => ⟨Nat.lt_of_lt_of_le (hxU g hg).1 (Nat.le_trans hc5.size (hA6 _).size), (hxU g hg).2⟩)
              have HN6 : Hid (∀ j u, (qcell (r, kv))[j]? = some u → (w5.drew.alloc (.cells (qcell (r, kv)).toArray 95)).cell? ((⟨w5.heap.size, 0, none⟩ : Addr).add j) = some u) := Lib.hid (fun j u hj => by
                rw [add_none, Nat.zero_add]
                exact blk_cell (heap_alloc_new w5.drew _) j u (by simpa using hj))
              have c2 : w5.cell? ⟨q, 2, none⟩ = some rv := blk_cell HO5.out.obj.head 2 _ rfl
              have c6 : (w5.drew.alloc (.cells (qcell (r, kv)).toArray 95)).cell? ⟨q, 2, none⟩ = some rv := blk_cell HO6.out.obj.head 2 _ rfl
              have hzh : Hid ((Tryd.prog.info? 95).map (·.size) = some (qcell (r, kv)).length) := Lib.hid (by show _ = some 3; kernel_rfl)
              obtain ⟨i3, hi3, hz3, hs3, hy3⟩ := info_parts facts_held
              have I3 := Lib.hid (And.intro hi3 (And.intro hz3 (And.intro hs3 hy3)))
              have HKV := Lib.hid hkv
              have hkq : qcell (r, kv) = [.bool r.used, .slice ak r.key.length ck, .int .i64 (r.n : Int)] := by rw [hkv]; rfl
              have HKQ := Lib.hid hkq
              subst hkv
              clear hhd hxU hr5 ho5 hc4 hw5 hc5 hB5 hA6 hi3 hz3 hs3 hy3 CH hhb HO4 hkq
              go_wp2_with fail
              rw [← HW5.out, ← HB.out]
              refine wp_region_L [(10, fun w' => w'.cell? ⟨q, 2, none⟩ = some rv), (6, fun w' => w'.rangeAt hb 0 (qcell (r, .slice ak r.key.length ck)))] (by kernel_rfl) ?_ (fun hHeld => ?_)
              · exact (HoldC.cons (c2) (HoldC.cons (hR5) HoldC.nil))
              refine wpAnyL_take (i := 0) (oi := _) (v := ?_) rfl (by kernel_rfl) (by kernel_rfl) (by kernel_rfl) (by kernel_rfl) (by kernel_rfl) (fun _ _ _ h => h) (Or.inl ⟨by rfl, ?_⟩) (by assumption) (fun hNew => ?_)
              rotate_left
              · intro w _
                go_simp
                try with_reducible rfl
              clear hHeld
              have hHeld := hNew
              clear hNew
              try simp only [List.getElem_toArray, List.getElem_cons_succ, List.getElem_cons_zero, Act.put, List.setIfInBounds_toArray, List.set_cons_zero, List.set_cons_succ]
              refine wpAnyL_take (i := 1) (oi := _) (v := ?_) rfl (by kernel_rfl) (by kernel_rfl) (by kernel_rfl) (by kernel_rfl) (by kernel_rfl) (fun _ _ _ h => h) (Or.inl ⟨by rfl, ?_⟩) (by assumption) (fun hNew => ?_)
              rotate_left
              · intro w _
                go_simp
                try with_reducible rfl
              clear hHeld
              have hHeld := hNew
              clear hNew
              try simp only [List.getElem_toArray, List.getElem_cons_succ, List.getElem_cons_zero, Act.put, List.setIfInBounds_toArray, List.set_cons_zero, List.set_cons_succ]
              refine wpAnyL_take (i := 2) (oi := _) (v := ?_) rfl (by kernel_rfl) (by kernel_rfl) (by kernel_rfl) (by kernel_rfl) (by kernel_rfl) (fun _ _ _ h => h) (Or.inl ⟨by rfl, ?_⟩) (by assumption) (fun hNew => ?_)
              rotate_left
              · intro w _
                go_simp
                try with_reducible rfl
              clear hHeld
              have hHeld := hNew
              clear hNew
              try simp only [List.getElem_toArray, List.getElem_cons_succ, List.getElem_cons_zero, Act.put, List.setIfInBounds_toArray, List.set_cons_zero, List.set_cons_succ]
              refine wpAnyL_take (i := 3) (oi := _) (v := ?_) rfl (by kernel_rfl) (by kernel_rfl) (by kernel_rfl) (by kernel_rfl) (by kernel_rfl) (fun _ _ _ h => h) (Or.inl ⟨by rfl, ?_⟩) (by assumption) (fun hNew => ?_)
              rotate_left
              · intro w _
                go_simp
                try with_reducible rfl
              clear hHeld
              have hHeld := hNew
              clear hNew
              try simp only [List.getElem_toArray, List.getElem_cons_succ, List.getElem_cons_zero, Act.put, List.setIfInBounds_toArray, List.set_cons_zero, List.set_cons_succ]
              refine wpAnyL_load 0 (i := 4) (oi := _) (v := ?_) rfl rfl (by kernel_rfl) (by kernel_rfl) (by kernel_rfl) (by kernel_rfl) (by kernel_rfl) (by kernel_rfl) (fun _ _ _ h => h) (Or.inl ⟨by rfl, ?_⟩) (by assumption) (fun hNew => ?_)
              rotate_left
              · intro w hSw
                (try dsimp only at hSw)
                go_simp
                try with_reducible rfl
              clear hHeld
              have hHeld := hNew
              clear hNew
              try simp only [List.getElem_toArray, List.getElem_cons_succ, List.getElem_cons_zero, Act.put, List.setIfInBounds_toArray, List.set_cons_zero, List.set_cons_succ]
              refine wpAnyL_load 1 (i := 5) (oi := _) (v := .agg (qcell (r, .slice ak r.key.length ck)).toArray) rfl rfl (by kernel_rfl) (by kernel_rfl) (by kernel_rfl) (by kernel_rfl) (by kernel_rfl) (by kernel_rfl) (fun _ _ _ h => h) (yieldsIf_load_mid (by rfl) 95 (.tmp 8) (by rfl) (hb) (0) (by rfl) (qcell (r, .slice ak r.key.length ck)) _ (fun w hw => hw) Tryd.underlying95 rfl hzh.out) (by assumption) (fun hNew => ?_)
              clear hHeld
              have hHeld := hNew
              clear hNew
              try simp only [List.getElem_toArray, List.getElem_cons_succ, List.getElem_cons_zero, Act.put, List.setIfInBounds_toArray, List.set_cons_zero, List.set_cons_succ]
              refine wpAnyL_ready (rs := [6]) (by kernel_rfl) (by simp) ?_
              refine AllReadyL.cons (o := _) rfl (fun K hK => ?_) AllReadyL.nil
              try simp only [List.getElem_toArray, List.getElem_cons_succ, List.getElem_cons_zero]
              rw [if_pos (by rfl)]
              refine wp_slice1 91 95 (.tmp 62) (by rfl) (qcell (r, .slice ak r.key.length ck)).toArray (by rfl) i3 _ Tryd.underlying91 I3.out.1 I3.out.2.1 (by rw [I3.out.2.2.1]; rfl) (by show 0 < 3; omega) (by show 3 ≤ 1000; omega) ?_
              clear hHeld
              refine hK.out _ _ ?_ (fun hHeld => ?_)
              · exact (HoldC.cons (c6) (HoldC.past (by kernel_rfl) HoldC.nil))
              clear hK K
              try simp only [List.getElem_toArray, List.getElem_cons_succ, List.getElem_cons_zero, Act.put, List.setIfInBounds_toArray, List.set_cons_zero, List.set_cons_succ]
              refine wpAnyL_ready (rs := [7]) (by kernel_rfl) (by simp) ?_
              refine AllReadyL.cons (o := _) rfl (fun K hK => ?_) AllReadyL.nil
              try simp only [List.getElem_toArray, List.getElem_cons_succ, List.getElem_cons_zero]
              rw [if_pos (by rfl)]
              refine wp_append_no8 (.tmp 61) (.tmp 63) 91 (by rfl) 95 i3 _ 3 40 Tryd.underlying91 I3.out.1 I3.out.2.1 I3.out.2.2.1 I3.out.2.2.2 rfl (by omega) (fun j c hj => by
                have hm : c ∈ [Value.bool false, .slice none 0 0, .int .i64 0] := List.mem_of_getElem? (i := j) (by simpa [Value.cells] using hj)
                simp only [List.mem_cons, List.mem_nil_iff, or_false] at hm
                rcases hm with rfl | rfl | rfl <;> (intro z; simp)) rv R.length (qcells R) (by rfl) HO6.out.row.1 HO6.out.row.2.1 HO6.out.row.2.2 ⟨w5.heap.size, 0, none⟩ 1 (by rfl) (qcell (r, .slice ak r.key.length ck)) rfl HN6.out (fun u hu => by
                simp only [qcell, List.mem_cons, List.mem_nil_iff, or_false] at hu
                rcases hu with rfl | rfl | rfl <;> rfl) (fun u hu => by
                simp only [qcell, List.mem_cons, List.mem_nil_iff, or_false] at hu
                rcases hu with rfl | rfl | rfl <;> (intro z; simp)) (by unfold maxLen; omega) (by omega) ?_
              intro g7 cap7 w7 hrow hg hat hlt7 h8
              have hm7 : w7.heap[q]? = _ := (hg.block q (blk_lt HO6.out.obj.head) (fun e => HO6.out.obj.row_ne (r := rowQ rv R) (List.mem_singleton.2 rfl) e.symm rfl)).trans HO6.out.obj.head
              have p6 := blk_cell hm7 2 _ rfl
              have p7 := blk_frozen hm7 2
              have p8 := blk_lt hm7
              have HO7 := Lib.hid (HO6.out.more (r, .slice ak r.key.length ck) g7 cap7 hg hrow hat h8 HB6.out HX6.out)
              clear hrow hg hat hlt7 h8 hm7
              clear hHeld
              refine hK.out _ _ ?_ (fun hHeld => ?_)
              · exact (HoldC.cons (p6) (HoldC.past (by kernel_rfl) HoldC.nil))
              clear hK K
              try simp only [List.getElem_toArray, List.getElem_cons_succ, List.getElem_cons_zero, Act.put, List.setIfInBounds_toArray, List.set_cons_zero, List.set_cons_succ]
              refine wpAnyL_take (i := 8) (oi := _) (v := ?_) rfl (by kernel_rfl) (by kernel_rfl) (by kernel_rfl) (by kernel_rfl) (by kernel_rfl) (fun _ _ _ h => h) (Or.inl ⟨by rfl, ?_⟩) (by assumption) (fun hNew => ?_)
              rotate_left
              · intro w _
                go_simp
                try with_reducible rfl
              clear hHeld
              have hHeld := hNew
              clear hNew
              try simp only [List.getElem_toArray, List.getElem_cons_succ, List.getElem_cons_zero, Act.put, List.setIfInBounds_toArray, List.set_cons_zero, List.set_cons_succ]
              refine wpAnyL_take (i := 9) (oi := _) (v := ?_) rfl (by kernel_rfl) (by kernel_rfl) (by kernel_rfl) (by kernel_rfl) (by kernel_rfl) (fun _ _ _ h => h) (Or.inl ⟨by rfl, ?_⟩) (by assumption) (fun hNew => ?_)
              rotate_left
              · intro w _
                go_simp
                try with_reducible rfl
              clear hHeld
              have hHeld := hNew
              clear hNew
              try simp only [List.getElem_toArray, List.getElem_cons_succ, List.getElem_cons_zero, Act.put, List.setIfInBounds_toArray, List.set_cons_zero, List.set_cons_succ]
              refine wpAnyL_ready (rs := [10]) (by kernel_rfl) (by simp) ?_
              refine AllReadyL.cons (o := _) rfl (fun K hK => ?_) AllReadyL.nil
              try simp only [List.getElem_toArray, List.getElem_cons_succ, List.getElem_cons_zero]
              go_simp
              clear hHeld
              refine hK.out _ _ ?_ (fun hHeld => ?_)
              · exact (HoldC.past (by kernel_rfl) (HoldC.past (by kernel_rfl) HoldC.nil))
              clear hK K
              try simp only [List.getElem_toArray, List.getElem_cons_succ, List.getElem_cons_zero, Act.put, List.setIfInBounds_toArray, List.set_cons_zero, List.set_cons_succ]
              refine wpAnyL_done (by kernel_rfl) ?_ _
              clear hHeld
              rw [hRl] at HO7
              generalize w7.setCell ⟨q, 2, none⟩ (.slice (some ⟨g7, 0, none⟩) (k + 1) cap7) = w8 at *
              clear p6 p7 p8 c2 c6
              have hw8 : IntKind.i64.wrap ((f : Int) + 8 * (k : Int) + 8) = ((f + 8 * (k + 1) : Nat) : Int) := by rw [IntWalk.i64_in _ ⟨by omega, by omega⟩]; push_cast; omega
              have HW8 := Lib.hid hw8
              clear hw8
              go_wp2
              go_roundg (gk - 1)
              case measure => omega
              case rel => exact ⟨k + 1, _, R ++ [(r, .slice ak r.key.length ck)], by first | rfl | rw [HW8.out] | (push_cast; congr 1; omega), by omega, by omega, Lib.hid ⟨HO7.out, by simp [hRl], HRC.out⟩⟩
          · have hkm : k = M := by omega
            have hle : decide ((f : Int) + 8 * (M : Int) + 8 ≤ (n : Int)) = false := decide_eq_false (by omega)
            obtain rfl := hkm.symm
            have HZ : Hid (Z = (0, some ⟨d, f, R.map (·.1)⟩)) := Lib.hid (by
              rw [HG.out, HROWS.out, Nat.sub_self]
              simp [rowsFrom])
            have HROK : Hid (rowsFrom d f M 0 = some (R.map (·.1))) := Lib.hid (by rw [HROWS.out, Nat.sub_self]; simp [rowsFrom])
            have HD1 := Lib.hid (HO.out.done HD.out ⟨by show f + 8 * (R.map (·.1)).length ≤ d.n; rw [List.length_map, hRl, ← HN.out]; omega, (rowsFrom_len _ _ _ HROK.out).2⟩)
            clear hkm hRl
            go_wp2
            go_ret2
            obtain ⟨W, A, h1, h2, h3⟩ := HD1.out
            rw [HZ.out]
            exact ⟨HO.out.chg, q, W, A, rfl, h1, h2, h3⟩
end Go.Proofs.YtipfgghdoicdhaaDoor.W

/- The reference's NewDisk. -/
namespace Go.Proofs.YtipfgghdoicdhaaDoor.W
open Go.RowKit
set_option linter.unusedVariables false
set_option linter.unusedSimpArgs false

def ncs (nv lv : Value) : Array Value := #[nv, lv, .slice none 0 0, .slice none 0 0, .int .i64 0, .int .i64 (-1), .bool false]
def nrows (nv lv : Value) (NV LV : List Value) : List RowD := [⟨31, 1, nv, NV.length, NV⟩, ⟨31, 1, lv, LV.length, LV⟩, ⟨3, 1, .slice none 0 0, 0, []⟩, ⟨31, 1, .slice none 0 0, 0, []⟩]
/-- A disk that grows. -/
structure NewAt (w0 w : World) (m : Nat) (nv lv : Value) (NV LV : List Value) : Prop where
  obj : ObjAt w m 67 (ncs nv lv) (nrows nv lv NV LV)
  now : ∀ c ∈ NV, BytesAt w c (zeros 64) ∧ ∀ g, c.ownBlock = some g → w0.heap.size ≤ g
  lasts : ∀ c ∈ LV, No8 c
  no8 : ∀ x ∈ blks m (nrows nv lv NV LV), NoU8 w x
  new : ∀ x ∈ blks m (nrows nv lv NV LV), w0.heap.size ≤ x
  chg : Chg [] w0 w
theorem zeros_ne : zeros 64 ≠ [] := by simp [zeros]
theorem NewAt.row {w0 w : World} {m : Nat} {nv lv : Value} {NV LV : List Value} (h : NewAt w0 w m nv lv NV LV) : w.ownsRow 0 31 1 nv NV.length NV ∧ w.ownsRow 0 31 1 lv LV.length LV :=
  ⟨h.obj.rows ⟨31, 1, nv, NV.length, NV⟩ (by simp [nrows]), h.obj.rows ⟨31, 1, lv, LV.length, LV⟩ (by simp [nrows])⟩
theorem NewAt.row8 {w0 w : World} {m : Nat} {nv lv : Value} {NV LV : List Value} (h : NewAt w0 w m nv lv NV LV) : (∀ x, nv.ownBlock = some x → NoU8 w x) ∧ (∀ x, lv.ownBlock = some x → NoU8 w x) ∧ (∀ c ∈ NV, No8 c) :=
  ⟨fun x hx => h.no8 x (blks_row (r := ⟨31, 1, nv, NV.length, NV⟩) (by simp [nrows]) hx), fun x hx => h.no8 x (blks_row (r := ⟨31, 1, lv, LV.length, LV⟩) (by simp [nrows]) hx), fun c hc => (h.now c hc).1.no8⟩
theorem NewAt.keep {w0 w w' : World} {m : Nat} {nv lv : Value} {NV LV : List Value} (h : NewAt w0 w m nv lv NV LV) (hc : Chg [] w w') : NewAt w0 w' m nv lv NV LV :=
  ⟨h.obj.keep hc (by simp), fun c hm => ⟨(h.now c hm).1.chg hc (by simp), (h.now c hm).2⟩, h.lasts, fun x hx => (h.no8 x hx).keep (hc.block x (h.obj.lim x hx) (by simp)), h.new, h.chg.trans hc (by simp)⟩
theorem NewAt.put {w0 w w3 : World} {m : Nat} {nv lv nv' lv' : Value} {NV LV NV' LV' : List Value} (h : NewAt w0 w m nv lv NV LV) (ho : ObjAt w3 m 67 (ncs nv' lv') (nrows nv' lv' NV' LV'))
    (hb : ∀ x ∈ blks m (nrows nv' lv' NV' LV'), x ∈ blks m (nrows nv lv NV LV) ∨ w.heap.size ≤ x) (hc : Chg (blks m (nrows nv lv NV LV)) w w3) (h8 : ∀ x ∈ blks m (nrows nv' lv' NV' LV'), NoU8 w3 x)
    (hN : ∀ c ∈ NV', c ∈ NV ∨ (BytesAt w c (zeros 64) ∧ ∀ g, c.ownBlock = some g → w0.heap.size ≤ g)) (hL : ∀ c ∈ LV', No8 c) : NewAt w0 w3 m nv' lv' NV' LV' := by
  refine ⟨ho, fun c hm => ?_, hL, h8, fun x hx => ?_, h.chg.trans hc (fun x hx => .inr (h.new x hx))⟩
  · have h1 : BytesAt w c (zeros 64) ∧ ∀ g, c.ownBlock = some g → w0.heap.size ≤ g := by
      rcases hN c hm with h1 | h1
      · exact h.now c h1
      · exact h1
    exact ⟨h1.1.chg hc (fun g hg hgm => (h.no8 g hgm).not_bytes c _ h1.1 zeros_ne hg), h1.2⟩
  · rcases hb x hx with h1 | h1
    · exact h.new x h1
    · exact Nat.le_trans h.chg.size h1
theorem NewAt.put0 {w0 w w2 : World} {m : Nat} {nv lv : Value} {NV LV : List Value} (h : NewAt w0 w m nv lv NV LV) (u : Value) (g cap : Nat) (hg : w.grownBy w2 nv.ownBlock)
    (hrow : w2.ownsRow 0 31 1 (.slice (some ⟨g, 0, none⟩) (NV.length + 1) cap) (NV.length + 1) (NV ++ [u])) (hat : nv.ownBlock = some g ∨ g = w.heap.size) (h8 : NoU8 w2 g)
    (hu : BytesAt w u (zeros 64)) (hun : ∀ g, u.ownBlock = some g → w0.heap.size ≤ g) : NewAt w0 (w2.setCell ⟨m, 0, none⟩ (.slice (some ⟨g, 0, none⟩) (NV.length + 1) cap)) m (.slice (some ⟨g, 0, none⟩) (NV.length + 1) cap) lv (NV ++ [u]) LV := by
  have hloc : ∀ k, (Value.slice (some ⟨g, 0, none⟩) (NV.length + 1) cap).ownBlock = some k → nv.ownBlock = some k ∨ w.heap.size ≤ k := fun k hk => by
    obtain rfl : g = k := by simpa [Value.ownBlock] using hk
    rcases hat with h4 | h4
    · exact .inl h4
    · exact .inr (by omega)
  have hobj : ObjAt w m 67 (ncs nv lv) ([] ++ (⟨31, 1, nv, NV.length, NV⟩ : RowD) :: [⟨31, 1, lv, LV.length, LV⟩, ⟨3, 1, .slice none 0 0, 0, []⟩, ⟨31, 1, .slice none 0 0, 0, []⟩]) := h.obj
  obtain ⟨o1, o2, o3⟩ := hobj.field (r' := ⟨31, 1, .slice (some ⟨g, 0, none⟩) (NV.length + 1) cap, (NV ++ [u]).length, NV ++ [u]⟩) 0 hg (by
    show w2.ownsRow 0 31 1 (.slice (some ⟨g, 0, none⟩) (NV.length + 1) cap) (NV ++ [u]).length (NV ++ [u])
    rw [List.length_append]
    exact hrow) hloc
  have o8 := hobj.field8 h.no8 0 hg (r' := ⟨31, 1, .slice (some ⟨g, 0, none⟩) (NV.length + 1) cap, (NV ++ [u]).length, NV ++ [u]⟩) hloc (fun y hy => by
    obtain rfl : g = y := by simpa [Value.ownBlock] using hy
    exact h8) no8_slice
  exact h.put o1 o2 o3 o8 (fun c hc => by
    rcases List.mem_append.1 hc with hc | hc
    · exact .inl hc
    · rw [List.mem_singleton.1 hc]; exact .inr ⟨hu, hun⟩) h.lasts
theorem NewAt.put1 {w0 w w2 : World} {m : Nat} {nv lv : Value} {NV LV : List Value} (h : NewAt w0 w m nv lv NV LV) (u : Value) (g cap : Nat) (hg : w.grownBy w2 lv.ownBlock)
    (hrow : w2.ownsRow 0 31 1 (.slice (some ⟨g, 0, none⟩) (LV.length + 1) cap) (LV.length + 1) (LV ++ [u])) (hat : lv.ownBlock = some g ∨ g = w.heap.size) (h8 : NoU8 w2 g)
    (hu : No8 u) : NewAt w0 (w2.setCell ⟨m, 1, none⟩ (.slice (some ⟨g, 0, none⟩) (LV.length + 1) cap)) m nv (.slice (some ⟨g, 0, none⟩) (LV.length + 1) cap) NV (LV ++ [u]) := by
  have hloc : ∀ k, (Value.slice (some ⟨g, 0, none⟩) (LV.length + 1) cap).ownBlock = some k → lv.ownBlock = some k ∨ w.heap.size ≤ k := fun k hk => by
    obtain rfl : g = k := by simpa [Value.ownBlock] using hk
    rcases hat with h4 | h4
    · exact .inl h4
    · exact .inr (by omega)
  have hobj : ObjAt w m 67 (ncs nv lv) ([⟨31, 1, nv, NV.length, NV⟩] ++ (⟨31, 1, lv, LV.length, LV⟩ : RowD) :: [⟨3, 1, .slice none 0 0, 0, []⟩, ⟨31, 1, .slice none 0 0, 0, []⟩]) := h.obj
  obtain ⟨o1, o2, o3⟩ := hobj.field (r' := ⟨31, 1, .slice (some ⟨g, 0, none⟩) (LV.length + 1) cap, (LV ++ [u]).length, LV ++ [u]⟩) 1 hg (by
    show w2.ownsRow 0 31 1 (.slice (some ⟨g, 0, none⟩) (LV.length + 1) cap) (LV ++ [u]).length (LV ++ [u])
    rw [List.length_append]
    exact hrow) hloc
  have o8 := hobj.field8 h.no8 1 hg (r' := ⟨31, 1, .slice (some ⟨g, 0, none⟩) (LV.length + 1) cap, (LV ++ [u]).length, LV ++ [u]⟩) hloc (fun y hy => by
    obtain rfl : g = y := by simpa [Value.ownBlock] using hy
    exact h8) no8_slice
  exact h.put o1 o2 o3 o8 (fun c hc => .inl hc) (fun c hc => by
    rcases List.mem_append.1 hc with hc | hc
    · exact h.lasts c hc
    · rw [List.mem_singleton.1 hc]; exact hu)
/-- What NewDisk leaves. -/
def RNewly (w w' : World) (m : Nat) (V F : List Nat) (d : DS) : Prop := RDiskAt w' m V F d ∧ (∀ x ∈ F, w.heap.size ≤ x) ∧ Chg [] w w'
theorem NewAt.done {w0 w : World} {m n : Nat} {nv lv : Value} {NV LV : List Value} (h : NewAt w0 w m nv lv NV LV) (hN : NV.length = n) (hL : LV.length = n) (hn : n ≤ 4160) : ∃ V F, RNewly w0 w m V F (DS.new n) := by
  have hrows : nrows nv lv NV LV = rrows n nv lv (.slice none 0 0) (.slice none 0 0) NV LV [] [] := by unfold nrows rrows; rw [hN, hL]; rfl
  refine ⟨blks m (nrows nv lv NV LV), blks m (nrows nv lv NV LV) ++ NV.flatMap (fun c => c.ownBlock.toList), ⟨nv, lv, .slice none 0 0, .slice none 0 0, NV, LV, [], [], ?_⟩, fun x hx => ?_, h.chg⟩
  · refine ⟨?_, fun k hk => ?_, h.lasts, ⟨by simp, by simp⟩, ⟨by simp, by simp⟩, hn, ⟨by simp [DS.new], by simp [DS.new]⟩, by rw [hrows]; rfl, h.no8, fun x hx => List.mem_append_left _ hx, fun x hx => ?_⟩
    · have := h.obj
      rw [hrows] at this
      exact this
    · have hk : k < n := hk
      have hm : NV.getD k undef ∈ NV := by rw [List.getD_eq_getElem?_getD, List.getElem?_eq_getElem (by omega)]; exact List.getElem_mem _
      obtain ⟨b1, b2⟩ := h.now _ hm
      refine ⟨by simp [DS.new, zeros], b1, fun g hg => ⟨List.mem_append_right _ (List.mem_flatMap.2 ⟨_, hm, by rw [hg]; simp⟩), fun hgm => (h.no8 g hgm).not_bytes _ _ b1 zeros_ne hg⟩⟩
    · rcases List.mem_append.1 hx with hx | hx
      · exact h.obj.lim x hx
      · obtain ⟨c, hc, hx⟩ := List.mem_flatMap.1 hx
        exact (h.now c hc).1.lt zeros_ne x (by simpa using hx)
  · rcases List.mem_append.1 hx with hx | hx
    · exact h.new x hx
    · obtain ⟨c, hc, hx⟩ := List.mem_flatMap.1 hx
      exact (h.now c hc).2 x (by simpa using hx)
theorem new_at (w : World) : NewAt w (w.alloc (.cells (ncs (.slice none 0 0) (.slice none 0 0)) 67)) w.heap.size (.slice none 0 0) (.slice none 0 0) [] [] := by
  have hh := heap_alloc_new w (.cells (ncs (.slice none 0 0) (.slice none 0 0)) 67)
  have hb : blks w.heap.size (nrows (.slice none 0 0) (.slice none 0 0) [] []) = [w.heap.size] := rfl
  refine ⟨⟨hh, fun r hr => ?_, by rw [hb]; simp⟩, by simp, by simp, fun x hx => ?_, fun x hx => ?_, (Chg.refl _ _).alloc _⟩
  · simp only [nrows, List.mem_cons, List.mem_nil_iff, or_false] at hr
    rcases hr with rfl | rfl | rfl | rfl <;> exact World.ownsRow_nil _ _ _ _
  · rw [hb] at hx
    rw [List.mem_singleton.1 hx]
    refine NoU8.mk hh (no8_list (l := [_, _, _, _, _, _, _]) ?_)
    intro c hc
    simp only [List.mem_cons, List.mem_nil_iff, or_false] at hc
    rcases hc with rfl | rfl | rfl | rfl | rfl | rfl | rfl <;> (intro z; simp)
  · rw [hb] at hx
    rw [List.mem_singleton.1 hx]
    exact Nat.le_refl _
def NewPost (w : World) (n : Nat) (e : Ending) (w' : World) : Prop := ∃ m V F, e = .returned (.tuple #[.pointer (some ⟨m, 0, none⟩), .int .i64 0]) ∧ RNewly w w' m V F (DS.new n)

set_option maxHeartbeats 8000000 in
set_option maxRecDepth 100000 in
theorem rnewdisk_any (n : Nat) (wA : World) (h2 : 2 ≤ n) (hm : n ≤ 4160) : Calls Tryd.prog 11 #[.int .i64 (n : Int)] wA (NewPost wA n) := by
  have q1 : decide ((n : Int) < 2) = false := decide_eq_false (by omega)
  have q2 : decide ((n : Int) > 4160) = false := decide_eq_false (by omega)
  have hmk := make_64
  obtain ⟨i3, hi3, hz3, hs3, hy3⟩ := info_parts facts_bytes
  have I3 := Lib.hid (And.intro hi3 (And.intro hz3 (And.intro hs3 hy3)))
  obtain ⟨m, hmm⟩ : ∃ m, m = wA.heap.size := ⟨_, rfl⟩
  have HM := Lib.hid hmm
  have HN0 := Lib.hid (new_at wA)
  clear hi3 hz3 hs3 hy3 hmm
  go_enter Tryd.func11, Tryd.ntmps11
  go_wp2_with fail
  rw [← HM.out]
  go_loopg [5] n (fun g' s5 wr => ∃ (i : Nat), s5 = .int .i64 (i : Int) ∧ i ≤ n ∧ n ≤ i + g' ∧ Hid (∃ nv lv NV LV, NewAt wA wr m nv lv NV LV ∧ NV.length = i ∧ LV.length = i))
  case atStart => exact ⟨0, rfl, by omega, by omega, Lib.hid ⟨_, _, _, _, by rw [HM.out]; exact HN0.out, rfl, rfl⟩⟩
  case round =>
    obtain ⟨i, rfl, hi, hig, HR⟩ := hrel
    by_cases hlt : i < n
    · have hiz : (i : Int) < (n : Int) := by omega
      obtain ⟨nv, lv, NV, LV, H, hNl, hLl⟩ := HR.out
      have e0 : wr.cell? ⟨m, 0, none⟩ = some nv := blk_cell H.obj.head 0 _ rfl
      have HH := Lib.hid H
      have HL := Lib.hid (And.intro hNl hLl)
      clear H hNl hLl
      go_wp2_with fail
      refine wp_region_L [(10, fun w' => w'.cell? ⟨m, 0, none⟩ = some nv)] (by kernel_rfl) ?_ (fun hHeld => ?_)
      · exact (HoldC.cons (e0) HoldC.nil)
      refine wpAnyL_take (i := 0) (oi := _) (v := ?_) rfl (by kernel_rfl) (by kernel_rfl) (by kernel_rfl) (by kernel_rfl) (by kernel_rfl) (fun _ _ _ h => h) (Or.inl ⟨by rfl, ?_⟩) (by assumption) (fun hNew => ?_)
      rotate_left
      · intro w _
        go_simp
        try with_reducible rfl
      clear hHeld
      have hHeld := hNew
      clear hNew
      try simp only [List.getElem_toArray, List.getElem_cons_succ, List.getElem_cons_zero, Act.put, List.setIfInBounds_toArray, List.set_cons_zero, List.set_cons_succ]
      refine wpAnyL_take (i := 1) (oi := _) (v := ?_) rfl (by kernel_rfl) (by kernel_rfl) (by kernel_rfl) (by kernel_rfl) (by kernel_rfl) (fun _ _ _ h => h) (Or.inl ⟨by rfl, ?_⟩) (by assumption) (fun hNew => ?_)
      rotate_left
      · intro w _
        go_simp
        try with_reducible rfl
      clear hHeld
      have hHeld := hNew
      clear hNew
      try simp only [List.getElem_toArray, List.getElem_cons_succ, List.getElem_cons_zero, Act.put, List.setIfInBounds_toArray, List.set_cons_zero, List.set_cons_succ]
      refine wpAnyL_take (i := 2) (oi := _) (v := ?_) rfl (by kernel_rfl) (by kernel_rfl) (by kernel_rfl) (by kernel_rfl) (by kernel_rfl) (fun _ _ _ h => h) (Or.inl ⟨by rfl, ?_⟩) (by assumption) (fun hNew => ?_)
      rotate_left
      · intro w _
        go_simp
        try with_reducible rfl
      clear hHeld
      have hHeld := hNew
      clear hNew
      try simp only [List.getElem_toArray, List.getElem_cons_succ, List.getElem_cons_zero, Act.put, List.setIfInBounds_toArray, List.set_cons_zero, List.set_cons_succ]
      refine wpAnyL_take (i := 3) (oi := _) (v := ?_) rfl (by kernel_rfl) (by kernel_rfl) (by kernel_rfl) (by kernel_rfl) (by kernel_rfl) (fun _ _ _ h => h) (Or.inl ⟨by rfl, ?_⟩) (by assumption) (fun hNew => ?_)
      rotate_left
      · intro w _
        go_simp
        try with_reducible rfl
      clear hHeld
      have hHeld := hNew
      clear hNew
      try simp only [List.getElem_toArray, List.getElem_cons_succ, List.getElem_cons_zero, Act.put, List.setIfInBounds_toArray, List.set_cons_zero, List.set_cons_succ]
      refine wpAnyL_load 0 (i := 4) (oi := _) (v := ?_) rfl rfl (by kernel_rfl) (by kernel_rfl) (by kernel_rfl) (by kernel_rfl) (by kernel_rfl) (by kernel_rfl) (fun _ _ _ h => h) (Or.inl ⟨by rfl, ?_⟩) (by assumption) (fun hNew => ?_)
      rotate_left
      · intro w hSw
        (try dsimp only at hSw)
        go_simp
        try with_reducible rfl
      clear hHeld
      have hHeld := hNew
      clear hNew
      try simp only [List.getElem_toArray, List.getElem_cons_succ, List.getElem_cons_zero, Act.put, List.setIfInBounds_toArray, List.set_cons_zero, List.set_cons_succ]
      refine wpAnyL_ready (rs := [5]) (by kernel_rfl) (by simp) ?_
      refine AllReadyL.cons (o := _) rfl (fun K hK => ?_) AllReadyL.nil
      try simp only [List.getElem_toArray, List.getElem_cons_succ, List.getElem_cons_zero]
      go_simp
      obtain ⟨z, hz⟩ : ∃ z, z = wr.heap.size := ⟨_, rfl⟩
      have HZ := Lib.hid hz
      try rw [← hz]
      obtain ⟨w1, hw1⟩ : ∃ w1, w1 = (wr.alloc (.cells Z64 5)).drew := ⟨_, rfl⟩
      rw [← hw1]
      have hc1 : Chg [] wr w1 := by rw [hw1]; exact ((Chg.refl [] wr).alloc _).drew
      have hB1 : BytesAt w1 (.slice (some ⟨z, 0, none⟩) 64 64) (zeros 64) := (row_of_block (w := w1) (N := z) (l := zeros 64) (by rw [hw1, hz]; exact heap_alloc_new wr _) (by simp [zeros, maxLen])).bytes
      have HB1 := Lib.hid hB1
      have HC1 := Lib.hid hc1
      have e1 := hc1.cell e0 (by simp)
      have hcA : Chg [] w1 (w1.alloc (.cells #[.slice (some ⟨z, 0, none⟩) 64 64] 31)) := (Chg.refl _ _).alloc _
      have H2 := Lib.hid ((HH.out.keep hc1).keep hcA)
      have HB2 := Lib.hid (hB1.chg hcA (by simp))
      have e2 := hcA.cell e1 (by simp)
      have HNW := Lib.hid (news_one (w := w1) (e := 31) (u := .slice (some ⟨z, 0, none⟩) 64 64) rfl)
      have hil : NV.length + 1 ≤ 4161 := by have := HL.out.1; omega
      have hzz : (zeros 64).length = 64 := by simp [zeros]
      have HZ0 : Hid (wA.heap.size ≤ z) := Lib.hid (by rw [hz]; exact HH.out.chg.size)
      clear hB1 hc1 hcA hz hw1
      clear hHeld
      refine hK.out _ _ ?_ (fun hHeld => ?_)
      · exact (HoldC.cons (e1) HoldC.nil)
      clear hK K
      try simp only [List.getElem_toArray, List.getElem_cons_succ, List.getElem_cons_zero, Act.put, List.setIfInBounds_toArray, List.set_cons_zero, List.set_cons_succ]
      refine wpAnyL_ready (rs := [6]) (by kernel_rfl) (by simp) ?_
      refine AllReadyL.cons (o := _) rfl (fun K hK => ?_) AllReadyL.nil
      try simp only [List.getElem_toArray, List.getElem_cons_succ, List.getElem_cons_zero]
      go_simp
      clear hHeld
      refine hK.out _ _ ?_ (fun hHeld => ?_)
      · exact (HoldC.cons (e2) HoldC.nil)
      clear hK K
      try simp only [List.getElem_toArray, List.getElem_cons_succ, List.getElem_cons_zero, Act.put, List.setIfInBounds_toArray, List.set_cons_zero, List.set_cons_succ]
      refine wpAnyL_ready (rs := [7]) (by kernel_rfl) (by simp) ?_
      refine AllReadyL.cons (o := _) rfl (fun K hK => ?_) AllReadyL.nil
      try simp only [List.getElem_toArray, List.getElem_cons_succ, List.getElem_cons_zero]
      try rw [if_pos (by rfl)]
      refine wp_append_no8 (.tmp 23) (.tmp 25) 22 (by rfl) 31 i3 (.slice none 0 0) 1 24 Tryd.underlying22 I3.out.1 I3.out.2.1 I3.out.2.2.1 I3.out.2.2.2 rfl (by omega) (one_z8 rfl no8_slice) nv NV.length NV (by rfl) H2.out.row.1 H2.out.row8.2.2 H2.out.row8.1 ⟨w1.heap.size, 0, none⟩ 1 (by rfl) [.slice (some ⟨z, 0, none⟩) 64 64] rfl HNW.out (fun u hu => by rw [List.mem_singleton.1 hu]; rfl) (fun u hu => by rw [List.mem_singleton.1 hu]; exact no8_slice) (by unfold maxLen; omega) (by omega) ?_
      intro g5 cap5 w5 hrow hg hat hlt5 h8
      have hm5 : w5.heap[m]? = _ := (hg.block m (blk_lt H2.out.obj.head) (fun e => H2.out.obj.row_ne (r := ⟨31, 1, nv, NV.length, NV⟩) (by simp [nrows]) e.symm rfl)).trans H2.out.obj.head
      have p6 := blk_cell hm5 0 _ rfl
      have p7 := blk_frozen hm5 0
      have p8 := blk_lt hm5
      have H3 := Lib.hid (H2.out.put0 (.slice (some ⟨z, 0, none⟩) 64 64) g5 cap5 hg hrow hat h8 HB2.out (fun g hg => by
        obtain rfl : z = g := by simpa [Value.ownBlock] using hg
        exact HZ0.out))
      clear hrow hg hat hlt5 h8 hm5
      clear hHeld
      refine hK.out _ _ ?_ (fun hHeld => ?_)
      · exact (HoldC.cons (p6) HoldC.nil)
      clear hK K
      try simp only [List.getElem_toArray, List.getElem_cons_succ, List.getElem_cons_zero, Act.put, List.setIfInBounds_toArray, List.set_cons_zero, List.set_cons_succ]
      refine wpAnyL_take (i := 8) (oi := _) (v := ?_) rfl (by kernel_rfl) (by kernel_rfl) (by kernel_rfl) (by kernel_rfl) (by kernel_rfl) (fun _ _ _ h => h) (Or.inl ⟨by rfl, ?_⟩) (by assumption) (fun hNew => ?_)
      rotate_left
      · intro w _
        go_simp
        try with_reducible rfl
      clear hHeld
      have hHeld := hNew
      clear hNew
      try simp only [List.getElem_toArray, List.getElem_cons_succ, List.getElem_cons_zero, Act.put, List.setIfInBounds_toArray, List.set_cons_zero, List.set_cons_succ]
      refine wpAnyL_take (i := 9) (oi := _) (v := ?_) rfl (by kernel_rfl) (by kernel_rfl) (by kernel_rfl) (by kernel_rfl) (by kernel_rfl) (fun _ _ _ h => h) (Or.inl ⟨by rfl, ?_⟩) (by assumption) (fun hNew => ?_)
      rotate_left
      · intro w _
        go_simp
        try with_reducible rfl
      clear hHeld
      have hHeld := hNew
      clear hNew
      try simp only [List.getElem_toArray, List.getElem_cons_succ, List.getElem_cons_zero, Act.put, List.setIfInBounds_toArray, List.set_cons_zero, List.set_cons_succ]
      refine wpAnyL_ready (rs := [10]) (by kernel_rfl) (by simp) ?_
      refine AllReadyL.cons (o := _) rfl (fun K hK => ?_) AllReadyL.nil
      try simp only [List.getElem_toArray, List.getElem_cons_succ, List.getElem_cons_zero]
      go_simp
      clear hHeld
      refine hK.out _ _ ?_ (fun hHeld => ?_)
      · exact (HoldC.past (by kernel_rfl) HoldC.nil)
      clear hK K
      try simp only [List.getElem_toArray, List.getElem_cons_succ, List.getElem_cons_zero, Act.put, List.setIfInBounds_toArray, List.set_cons_zero, List.set_cons_succ]
      refine wpAnyL_done (by kernel_rfl) ?_ _
      clear hHeld
      generalize w5.setCell ⟨m, 0, none⟩ (.slice (some ⟨g5, 0, none⟩) (NV.length + 1) cap5) = w6 at *
      clear p6 p7 p8 e0 e1 e2
      have H4 : Hid (∃ nv2 NV2, NewAt wA w6 m nv2 lv NV2 LV ∧ NV2.length = i + 1) := Lib.hid ⟨_, _, H3.out, by have := HL.out.1; simp; exact this⟩
      have HL2 := Lib.hid HL.out.2
      clear HH H2 H3 HB1 HC1 HB2 HNW HZ0 hil
      obtain ⟨nv2, NV2, H5, hN2⟩ := H4.out
      have e0 : w6.cell? ⟨m, 1, none⟩ = some lv := blk_cell H5.obj.head 1 _ rfl
      have HN2 := Lib.hid hN2
      clear H4
      have H4 := Lib.hid H5
      clear H5 hN2
      go_wp2_with fail
      refine wp_region_L [(10, fun w' => w'.cell? ⟨m, 1, none⟩ = some lv)] (by kernel_rfl) ?_ (fun hHeld => ?_)
      · exact (HoldC.cons (e0) HoldC.nil)
      refine wpAnyL_take (i := 0) (oi := _) (v := ?_) rfl (by kernel_rfl) (by kernel_rfl) (by kernel_rfl) (by kernel_rfl) (by kernel_rfl) (fun _ _ _ h => h) (Or.inl ⟨by rfl, ?_⟩) (by assumption) (fun hNew => ?_)
      rotate_left
      · intro w _
        go_simp
        try with_reducible rfl
      clear hHeld
      have hHeld := hNew
      clear hNew
      try simp only [List.getElem_toArray, List.getElem_cons_succ, List.getElem_cons_zero, Act.put, List.setIfInBounds_toArray, List.set_cons_zero, List.set_cons_succ]
      refine wpAnyL_take (i := 1) (oi := _) (v := ?_) rfl (by kernel_rfl) (by kernel_rfl) (by kernel_rfl) (by kernel_rfl) (by kernel_rfl) (fun _ _ _ h => h) (Or.inl ⟨by rfl, ?_⟩) (by assumption) (fun hNew => ?_)
      rotate_left
      · intro w _
        go_simp
        try with_reducible rfl
      clear hHeld
      have hHeld := hNew
      clear hNew
      try simp only [List.getElem_toArray, List.getElem_cons_succ, List.getElem_cons_zero, Act.put, List.setIfInBounds_toArray, List.set_cons_zero, List.set_cons_succ]
      refine wpAnyL_take (i := 2) (oi := _) (v := ?_) rfl (by kernel_rfl) (by kernel_rfl) (by kernel_rfl) (by kernel_rfl) (by kernel_rfl) (fun _ _ _ h => h) (Or.inl ⟨by rfl, ?_⟩) (by assumption) (fun hNew => ?_)
      rotate_left
      · intro w _
        go_simp
        try with_reducible rfl
      clear hHeld
      have hHeld := hNew
      clear hNew
      try simp only [List.getElem_toArray, List.getElem_cons_succ, List.getElem_cons_zero, Act.put, List.setIfInBounds_toArray, List.set_cons_zero, List.set_cons_succ]
      refine wpAnyL_take (i := 3) (oi := _) (v := ?_) rfl (by kernel_rfl) (by kernel_rfl) (by kernel_rfl) (by kernel_rfl) (by kernel_rfl) (fun _ _ _ h => h) (Or.inl ⟨by rfl, ?_⟩) (by assumption) (fun hNew => ?_)
      rotate_left
      · intro w _
        go_simp
        try with_reducible rfl
      clear hHeld
      have hHeld := hNew
      clear hNew
      try simp only [List.getElem_toArray, List.getElem_cons_succ, List.getElem_cons_zero, Act.put, List.setIfInBounds_toArray, List.set_cons_zero, List.set_cons_succ]
      refine wpAnyL_load 0 (i := 4) (oi := _) (v := ?_) rfl rfl (by kernel_rfl) (by kernel_rfl) (by kernel_rfl) (by kernel_rfl) (by kernel_rfl) (by kernel_rfl) (fun _ _ _ h => h) (Or.inl ⟨by rfl, ?_⟩) (by assumption) (fun hNew => ?_)
      rotate_left
      · intro w hSw
        (try dsimp only at hSw)
        go_simp
        try with_reducible rfl
      clear hHeld
      have hHeld := hNew
      clear hNew
      try simp only [List.getElem_toArray, List.getElem_cons_succ, List.getElem_cons_zero, Act.put, List.setIfInBounds_toArray, List.set_cons_zero, List.set_cons_succ]
      refine wpAnyL_ready (rs := [5]) (by kernel_rfl) (by simp) ?_
      refine AllReadyL.cons (o := _) rfl (fun K hK => ?_) AllReadyL.nil
      try simp only [List.getElem_toArray, List.getElem_cons_succ, List.getElem_cons_zero]
      go_simp
      obtain ⟨zb, hz⟩ : ∃ zb, zb = w6.heap.size := ⟨_, rfl⟩
      have HZ := Lib.hid hz
      try rw [← hz]
      obtain ⟨w1b, hw1⟩ : ∃ w1b, w1b = (w6.alloc (.cells Z64 5)).drew := ⟨_, rfl⟩
      rw [← hw1]
      have hc1 : Chg [] w6 w1b := by rw [hw1]; exact ((Chg.refl [] w6).alloc _).drew
      have hB1 : BytesAt w1b (.slice (some ⟨zb, 0, none⟩) 64 64) (zeros 64) := (row_of_block (w := w1b) (N := zb) (l := zeros 64) (by rw [hw1, hz]; exact heap_alloc_new w6 _) (by simp [zeros, maxLen])).bytes
      have HB1 := Lib.hid hB1
      have HC1 := Lib.hid hc1
      have e1 := hc1.cell e0 (by simp)
      have hcA : Chg [] w1b (w1b.alloc (.cells #[.slice (some ⟨zb, 0, none⟩) 64 64] 31)) := (Chg.refl _ _).alloc _
      have H2 := Lib.hid ((H4.out.keep hc1).keep hcA)
      have HB2 := Lib.hid (hB1.chg hcA (by simp))
      have e2 := hcA.cell e1 (by simp)
      have HNW := Lib.hid (news_one (w := w1b) (e := 31) (u := .slice (some ⟨zb, 0, none⟩) 64 64) rfl)
      have hil : LV.length + 1 ≤ 4161 := by have := HL.out.2; omega
      have hzz : (zeros 64).length = 64 := by simp [zeros]
      have HZ0 : Hid (wA.heap.size ≤ zb) := Lib.hid (by rw [hz]; exact H4.out.chg.size)
      clear hB1 hc1 hcA hz hw1
      clear hHeld
      refine hK.out _ _ ?_ (fun hHeld => ?_)
      · exact (HoldC.cons (e1) HoldC.nil)
      clear hK K
      try simp only [List.getElem_toArray, List.getElem_cons_succ, List.getElem_cons_zero, Act.put, List.setIfInBounds_toArray, List.set_cons_zero, List.set_cons_succ]
      refine wpAnyL_ready (rs := [6]) (by kernel_rfl) (by simp) ?_
      refine AllReadyL.cons (o := _) rfl (fun K hK => ?_) AllReadyL.nil
      try simp only [List.getElem_toArray, List.getElem_cons_succ, List.getElem_cons_zero]
      go_simp
      clear hHeld
      refine hK.out _ _ ?_ (fun hHeld => ?_)
      · exact (HoldC.cons (e2) HoldC.nil)
      clear hK K
      try simp only [List.getElem_toArray, List.getElem_cons_succ, List.getElem_cons_zero, Act.put, List.setIfInBounds_toArray, List.set_cons_zero, List.set_cons_succ]
      refine wpAnyL_ready (rs := [7]) (by kernel_rfl) (by simp) ?_
      refine AllReadyL.cons (o := _) rfl (fun K hK => ?_) AllReadyL.nil
      try simp only [List.getElem_toArray, List.getElem_cons_succ, List.getElem_cons_zero]
      try rw [if_pos (by rfl)]
      refine wp_append_no8 (.tmp 33) (.tmp 35) 22 (by rfl) 31 i3 (.slice none 0 0) 1 24 Tryd.underlying22 I3.out.1 I3.out.2.1 I3.out.2.2.1 I3.out.2.2.2 rfl (by omega) (one_z8 rfl no8_slice) lv LV.length LV (by rfl) H2.out.row.2 H2.out.lasts H2.out.row8.2.1 ⟨w1b.heap.size, 0, none⟩ 1 (by rfl) [.slice (some ⟨zb, 0, none⟩) 64 64] rfl HNW.out (fun u hu => by rw [List.mem_singleton.1 hu]; rfl) (fun u hu => by rw [List.mem_singleton.1 hu]; exact no8_slice) (by unfold maxLen; omega) (by omega) ?_
      intro g5b cap5b w5b hrow hg hat hlt5 h8
      have hm5 : w5b.heap[m]? = _ := (hg.block m (blk_lt H2.out.obj.head) (fun e => H2.out.obj.row_ne (r := ⟨31, 1, lv, LV.length, LV⟩) (by simp [nrows]) e.symm rfl)).trans H2.out.obj.head
      have p6 := blk_cell hm5 1 _ rfl
      have p7 := blk_frozen hm5 1
      have p8 := blk_lt hm5
      have H3 := Lib.hid (H2.out.put1 (.slice (some ⟨zb, 0, none⟩) 64 64) g5b cap5b hg hrow hat h8 no8_slice)
      clear hrow hg hat hlt5 h8 hm5
      clear hHeld
      refine hK.out _ _ ?_ (fun hHeld => ?_)
      · exact (HoldC.cons (p6) HoldC.nil)
      clear hK K
      try simp only [List.getElem_toArray, List.getElem_cons_succ, List.getElem_cons_zero, Act.put, List.setIfInBounds_toArray, List.set_cons_zero, List.set_cons_succ]
      refine wpAnyL_take (i := 8) (oi := _) (v := ?_) rfl (by kernel_rfl) (by kernel_rfl) (by kernel_rfl) (by kernel_rfl) (by kernel_rfl) (fun _ _ _ h => h) (Or.inl ⟨by rfl, ?_⟩) (by assumption) (fun hNew => ?_)
      rotate_left
      · intro w _
        go_simp
        try with_reducible rfl
      clear hHeld
      have hHeld := hNew
      clear hNew
      try simp only [List.getElem_toArray, List.getElem_cons_succ, List.getElem_cons_zero, Act.put, List.setIfInBounds_toArray, List.set_cons_zero, List.set_cons_succ]
      refine wpAnyL_take (i := 9) (oi := _) (v := ?_) rfl (by kernel_rfl) (by kernel_rfl) (by kernel_rfl) (by kernel_rfl) (by kernel_rfl) (fun _ _ _ h => h) (Or.inl ⟨by rfl, ?_⟩) (by assumption) (fun hNew => ?_)
      rotate_left
      · intro w _
        go_simp
        try with_reducible rfl
      clear hHeld
      have hHeld := hNew
      clear hNew
      try simp only [List.getElem_toArray, List.getElem_cons_succ, List.getElem_cons_zero, Act.put, List.setIfInBounds_toArray, List.set_cons_zero, List.set_cons_succ]
      refine wpAnyL_ready (rs := [10]) (by kernel_rfl) (by simp) ?_
      refine AllReadyL.cons (o := _) rfl (fun K hK => ?_) AllReadyL.nil
      try simp only [List.getElem_toArray, List.getElem_cons_succ, List.getElem_cons_zero]
      go_simp
      clear hHeld
      refine hK.out _ _ ?_ (fun hHeld => ?_)
      · exact (HoldC.past (by kernel_rfl) HoldC.nil)
      clear hK K
      try simp only [List.getElem_toArray, List.getElem_cons_succ, List.getElem_cons_zero, Act.put, List.setIfInBounds_toArray, List.set_cons_zero, List.set_cons_succ]
      refine wpAnyL_done (by kernel_rfl) ?_ _
      clear hHeld
      generalize w5b.setCell ⟨m, 1, none⟩ (.slice (some ⟨g5b, 0, none⟩) (LV.length + 1) cap5b) = w6b at *
      clear p6 p7 p8 e0 e1 e2
      have HF : Hid (∃ nv lv NV LV, NewAt wA w6b m nv lv NV LV ∧ NV.length = i + 1 ∧ LV.length = i + 1) := Lib.hid ⟨_, _, _, _, H3.out, HN2.out, by have := HL2.out; simp; exact this⟩
      go_wp2
      go_roundg (gk - 1)
      case measure => omega
      case rel => exact ⟨i + 1, by go_num, by omega, by omega, HF⟩
    · have hiz : ¬ (i : Int) < (n : Int) := by omega
      go_wp2
      go_ret2
      obtain ⟨nv, lv, NV, LV, H, hNl, hLl⟩ := HR.out
      obtain ⟨V, F, hd⟩ := H.done (n := n) (by omega) (by omega) hm
      exact ⟨m, V, F, rfl, hd⟩
end Go.Proofs.YtipfgghdoicdhaaDoor.W

/- SlotPlays: ours and the reference's side by side. -/
namespace Go.Proofs.YtipfgghdoicdhaaDoor.W
open Go.RowKit
set_option linter.unusedVariables false
set_option linter.unusedSimpArgs false

/-- Ours and the reference's, each new since w. -/
structure Two (w wr : World) (q p q2 m : Nat) (U W A : List Nat) (s r : SS) : Prop where
  ours : SlotsAt wr q p U s
  refs : RSlotsAt wr q2 m W A r
  newU : ∀ x ∈ U, w.heap.size ≤ x
  newA : ∀ x ∈ A, w.heap.size ≤ x
  apart : ∀ x ∈ U, x ∉ A
  chg : Chg [] w wr
theorem Two.keep {w wr w' : World} {q p q2 m : Nat} {U W A : List Nat} {s r : SS} (h : Two w wr q p q2 m U W A s r) (hc : Chg [] wr w') : Two w w' q p q2 m U W A s r :=
  ⟨h.ours.keep0 hc, h.refs.keep hc (by simp), h.newU, h.newA, h.apart, h.chg.trans hc (by simp)⟩
theorem Two.our {w wr w' : World} {q p q2 m : Nat} {U W A : List Nat} {s r s' : SS} (h : Two w wr q p q2 m U W A s r) (hs : Sid wr w' q p U s') : ∃ U', Two w w' q p q2 m U' W A s' r := by
  obtain ⟨U', h1, h2, h3⟩ := hs
  have hl := h.refs.lim.1
  refine ⟨U', h1, h.refs.keep h3 (fun x hx hm => h.apart x hm hx), fun x hx => ?_, h.newA, fun x hx hm => ?_, h.chg.trans h3 (fun x hx => .inr (h.newU x hx))⟩
  · rcases h2 x hx with h4 | h4
    · exact h.newU x h4
    · exact Nat.le_trans h.chg.size h4
  · rcases h2 x hx with h4 | h4
    · exact h.apart x h4 hm
    · have := hl x hm; omega
theorem Two.ref {w wr w' : World} {q p q2 m : Nat} {U W A : List Nat} {s r r' : SS} (h : Two w wr q p q2 m U W A s r) (hs : RSid wr w' q2 m W A r') : ∃ W' A', Two w w' q p q2 m U W' A' s r' := by
  obtain ⟨W', A', h1, h2, h3, h4⟩ := hs
  obtain ⟨l1, l2, l3⟩ := h.refs.lim
  have hu := h.ours.own
  refine ⟨W', A', h.ours.keepT h4 (fun x hx hm => h.apart x hx (l2 x hm)) (fun x hx v l hb hl => (l3 x hx).not_bytes v l hb hl), h1, h.newU, fun x hx => ?_, fun x hx hm => ?_, h.chg.trans h4 (fun x hx => .inr (h.newA x (l2 x hx)))⟩
  · rcases h3 x hx with h5 | h5
    · exact h.newA x h5
    · exact Nat.le_trans h.chg.size h5
  · rcases h3 x hm with h5 | h5
    · exact h.apart x hx h5
    · have := hu x hx; omega
/-- How far a change goes. -/
structure Rise (s t : SS) : Prop where
  n : t.d.n = s.d.n
  ops : t.d.ops ≤ s.d.ops + 20
  since : t.d.since.length ≤ s.d.since.length + 20
  tidy : s.Tidy → t.Tidy
theorem Rise.same (s : SS) : Rise s s := ⟨rfl, by omega, by omega, id⟩
theorem rise_d {s : SS} {d : DS} (h1 : d.n = s.d.n) (h2 : d.ops ≤ s.d.ops + 20) (h3 : d.since.length ≤ s.d.since.length + 20) : Rise s { s with d := d } := ⟨h1, h2, h3, fun h => h⟩
theorem Tidy.set {s : SS} (h : s.Tidy) (d : DS) (i : Nat) (r : SRow) (hr : r.used = false → r.key = []) : ({ s with d := d, rows := s.rows.set i r } : SS).Tidy := fun x hx hu => by
  rcases List.mem_or_eq_of_mem_set hx with hx | rfl
  · exact h x hx hu
  · exact hr hu
theorem put_rise (s : SS) (i : Int) (key b : List UInt8) : Rise s (s.put i key b).2 := by
  unfold SS.put
  split
  · exact Rise.same s
  · split
    · exact Rise.same s
    · rename_i h1 h2
      have hb : nsec b.length ≤ 7 := by unfold nsec; omega
      have hh : nsec (headBytes b.length key).length ≤ 1 := by rw [headBytes_len _ _ (by omega) (by omega)]; unfold nsec; omega
      obtain ⟨a1, a2, a3⟩ := s.d.lays_ok (s.pos i + 1) b
      obtain ⟨b1, b2, b3⟩ := (s.d.lays (s.pos i + 1) b).2.lays_ok (s.pos i) (headBytes b.length key)
      split
      · exact Rise.same s
      · split
        · exact rise_d a1 (by omega) (by omega)
        · split
          · exact rise_d (b1.trans a1) (by omega) (by omega)
          · exact ⟨b1.trans a1, by show _ ≤ s.d.ops + 20; dsimp only; omega, by show _ ≤ s.d.since.length + 20; dsimp only; omega, fun h => Tidy.set h _ _ _ (by simp)⟩
theorem clear_rise (s : SS) (i : Int) : Rise s (s.clear i).2 := by
  unfold SS.clear
  obtain ⟨a1, a2, a3⟩ := s.d.lays_ok (s.pos i) (zeros 64)
  have hz : nsec (zeros 64).length = 1 := rfl
  split
  · exact Rise.same s
  · split
    · exact Rise.same s
    · split
      · exact rise_d a1 (by omega) (by omega)
      · exact ⟨a1, by show _ ≤ s.d.ops + 20; dsimp only; omega, by show _ ≤ s.d.since.length + 20; dsimp only; omega, fun h => Tidy.set h _ _ _ (by simp [noRow])⟩
theorem headOf_tidy {b : List UInt8} {r : SRow} (h : headOf b = some r) (hu : r.used = false) : r.key = [] := by
  unfold headOf at h
  split at h
  · obtain rfl := Option.some.inj h; rfl
  · split at h
    · cases h
    · obtain rfl := Option.some.inj h; cases hu
theorem rowsFrom_tidy {d : DS} {first : Nat} : ∀ (m k : Nat) (rows : List SRow), rowsFrom d first m k = some rows → ∀ r ∈ rows, r.used = false → r.key = [] := by
  intro m
  induction m with
  | zero => intro k rows h; obtain rfl := Option.some.inj h; simp
  | succ m ih =>
    intro k rows h
    unfold rowsFrom at h
    cases hh : headOf (d.now (first + 8 * k)) with
    | none => rw [hh] at h; cases h
    | some r =>
      rw [hh] at h
      dsimp only at h
      obtain ⟨t, h1, rfl⟩ := Option.map_eq_some_iff.1 h
      intro x hx hu
      rcases List.mem_cons.1 hx with rfl | hx
      · exact headOf_tidy hh hu
      · exact ih _ _ h1 x hx hu
theorem slots_cases (d : DS) (first : Int) : (∃ c, d.slots first = (c, none) ∧ c ≠ 0) ∨ ∃ s, d.slots first = (0, some s) ∧ s.d = d ∧ s.Tidy := by
  unfold DS.slots
  split
  · exact .inl ⟨1, rfl, by omega⟩
  · split
    · exact .inl ⟨14, rfl, by omega⟩
    · split
      · exact .inl ⟨4, rfl, by omega⟩
      · rename_i rows h
        exact .inr ⟨_, rfl, rfl, rowsFrom_tidy _ _ _ h⟩
theorem SlotsAt.fuse2 {w : World} {q p : Nat} {U : List Nat} {s : SS} (h : SlotsAt w q p U s) (n : Int) (hn : n ≤ 9223372036854775807) :
    Calls Tryd.prog 25 #[.pointer (some ⟨p, 0, none⟩), .int .i64 n] w fun e w' => e = .returned (.tuple #[]) ∧ Sid w w' q p U { s with d := s.d.setFuse n } := by
  obtain ⟨S, rv, R, H⟩ := h
  exact (dfuse_any p S s.d n w H.disk hn).mono fun e w' ⟨h1, h2⟩ => ⟨h1, SlotsAt.did H h2 rfl⟩
/-- The reference's fuse is a store. -/
theorem RSlotsAt.fuse {w : World} {q m : Nat} {W A : List Nat} {s : SS} (h : RSlotsAt w q m W A s) (n : Int) (hn : n ≤ 9223372036854775807) :
    (∃ u, w.cell? ⟨m, 5, none⟩ = some u) ∧ w.frozen? ⟨m, 5, none⟩ = false ∧ m < w.heap.size ∧ RSid w (w.setCell ⟨m, 5, none⟩ (.int .i64 (max n (-1)))) q m W A { s with d := s.d.setFuse n } := by
  obtain ⟨V, F, rv, R, H⟩ := h
  obtain ⟨nv, lv, av, wv, NV, LV, AV, WV, D⟩ := H.disk
  have hlt := blk_lt D.head
  have n0 : NoU8 w m := D.no8 m (by rw [D.mem]; exact blks_head)
  refine ⟨⟨_, blk_cell D.head 5 _ rfl⟩, blk_frozen D.head 5, hlt, H.did (D.put (d' := s.d.setFuse n) ((Chg.refl _ _).setCell (.inl (by simp)) _) (n0.set hlt no8_i64) (set_blk D.head) rfl rfl rfl (by show -1 ≤ max n (-1) ∧ max n (-1) ≤ 9223372036854775807; omega)) rfl⟩
theorem fuse_rise (s : SS) (n : Int) : Rise s { s with d := s.d.setFuse n } := ⟨rfl, by show s.d.ops ≤ _; omega, by show s.d.since.length ≤ _; omega, fun h => h⟩
theorem RSlotsAt.disk {w : World} {q m : Nat} {W A : List Nat} {s : SS} (h : RSlotsAt w q m W A s) : ∃ V F, RDiskAt w m V F s.d ∧ w.cell? ⟨m, 4, none⟩ = some (.int .i64 (s.d.ops : Int)) := by
  obtain ⟨V, F, rv, R, H⟩ := h
  have hd := H.disk
  obtain ⟨nv, lv, av, wv, NV, LV, AV, WV, D⟩ := H.disk
  exact ⟨V, F, hd, blk_cell D.head 4 _ rfl⟩
theorem SlotsAt.disk {w : World} {q p : Nat} {U : List Nat} {s : SS} (h : SlotsAt w q p U s) : ∃ S, DiskAt w p S s.d := by
  obtain ⟨S, rv, R, H⟩ := h
  exact ⟨S, H.disk⟩
end Go.Proofs.YtipfgghdoicdhaaDoor.W

/- SlotPlays: the walk. -/
namespace Go.Proofs.YtipfgghdoicdhaaDoor.W
open Go.RowKit
set_option linter.unusedVariables false
set_option linter.unusedSimpArgs false

set_option maxHeartbeats 16000000 in
set_option maxRecDepth 100000 in
theorem plays_any (sec first : Int) (a : Option Addr) (n cap : Nat) (f : Nat → Dd) (w : World) (h : DeedsAt w a n f) : Calls Tryd.prog 8 #[.int .i64 sec, .int .i64 first, .slice a n cap] w fun e w' => e = .returned (.bool true) ∧ Chg [] w w' := by
  have CA := Lib.hid (awake_any w)
  have HD := Lib.hid h
  clear h
  by_cases hsec : 2 ≤ sec ∧ sec ≤ 200
  rotate_left
  · have hcase : decide (sec < 2) = true ∨ (decide (sec < 2) = false ∧ decide (sec > 200) = true) := by
      by_cases h0 : sec < 2
      · exact .inl (decide_eq_true h0)
      · exact .inr ⟨decide_eq_false h0, decide_eq_true (by omega)⟩
    have HCS := Lib.hid hcase
    clear hcase hsec
    go_enter Tryd.func8, Tryd.ntmps8
    go_wp2_with fail
    refine CA.out.mono ?_
    rintro e w0 ⟨rfl, hc0⟩
    have HC0 := Lib.hid hc0
    have CR := Lib.hid (room_any a n cap 60 f w0 (HD.out.keep hc0) (by omega))
    clear hc0 CA
    go_wp2_with fail
    refine CR.out.mono ?_
    rintro e w0' ⟨hroom, hq⟩
    subst hq
    rcases hroom with ⟨rfl, hfew⟩ | rfl
    · rcases HCS.out with q0 | ⟨q0, q1⟩
      · go_wp2
        go_ret
        exact ⟨rfl, HC0.out⟩
      · go_wp2
        go_ret
        exact ⟨rfl, HC0.out⟩
    · go_wp2
      go_ret
      exact ⟨rfl, HC0.out⟩
  obtain ⟨sn, rfl⟩ := Int.eq_ofNat_of_zero_le (show 0 ≤ sec by omega)
  obtain ⟨hs2, hs200⟩ : 2 ≤ sn ∧ sn ≤ 200 := by omega
  have q0 : decide ((sn : Int) < 2) = false := decide_eq_false (by omega)
  have q1 : decide ((sn : Int) > 200) = false := decide_eq_false (by omega)
  clear hsec
  go_enter Tryd.func8, Tryd.ntmps8
  go_wp2_with fail
  refine CA.out.mono ?_
  rintro e w0 ⟨rfl, hc0⟩
  have HC0 := Lib.hid hc0
  have CR := Lib.hid (room_any a n cap 60 f w0 (HD.out.keep hc0) (by omega))
  clear hc0 CA
  go_wp2_with fail
  refine CR.out.mono ?_
  rintro e w0' ⟨hroom, hq⟩
  subst hq
  rcases hroom with ⟨rfl, hfew⟩ | rfl
  rotate_left
  · go_wp2
    go_ret
    exact ⟨rfl, HC0.out⟩
  have HF := Lib.hid hfew
  have CN := Lib.hid (dnew_any sn w0 hs2 (by omega))
  clear hfew CR
  go_wp2_with fail
  refine CN.out.mono ?_
  rintro e w1 ⟨p, S, rfl, hd1, hS1, hc1⟩
  have CN2 := Lib.hid (rnewdisk_any sn w1 hs2 (by omega))
  have HD1 := Lib.hid (And.intro hd1 (And.intro hS1 hc1))
  clear hd1 hS1 hc1 CN
  go_wp2_with fail
  refine CN2.out.mono ?_
  rintro e w2 ⟨m, V, F, rfl, hd2, hF2, hc2⟩
  have CO := Lib.hid (sopen_any p S _ first w2 (HD1.out.1.keep hc2 (by simp)))
  have HD2 := Lib.hid (And.intro hd2 (And.intro hF2 hc2))
  clear hd2 hF2 hc2 CN2
  go_wp2_with fail
  refine CO.out.mono ?_
  rintro e w3 ⟨hc3, hpost3⟩
  have HC3 := Lib.hid hc3
  have CO2 := Lib.hid (ropen_any m V F _ first w3 (HD2.out.1.keep hc3 (by simp)) (by show sn ≠ 0; omega))
  clear hc3 CO
  rcases slots_cases (DS.new sn) first with ⟨c, hsl, hc0⟩ | ⟨s0, hsl, hsd, hst⟩
  · rw [hsl] at hpost3 CO2
    obtain rfl := hpost3
    have qc : (c != 0) = true := by simp [hc0]
    go_wp2_with fail
    refine CO2.out.mono ?_
    rintro e w4 ⟨hc4, hpost4⟩
    obtain rfl := hpost4
    have HCF : Hid (Chg [] w w4) := Lib.hid ((((HC0.out.trans HD1.out.2.2 (by simp)).trans HD2.out.2.2 (by simp)).trans HC3.out (by simp)).trans hc4 (by simp))
    clear hc4 CO2
    go_wp2
    go_ret
    exact ⟨rfl, HCF.out⟩
  rw [hsl] at hpost3 CO2
  obtain ⟨q, U, rfl, hs3, hU3⟩ := hpost3
  have HS3 := Lib.hid (And.intro hs3 hU3)
  have HSD := Lib.hid hsd
  have HST := Lib.hid hst
  clear hs3 hU3 hsl hsd hst
  go_wp2_with fail
  refine CO2.out.mono ?_
  rintro e w4 ⟨hc4, q2, W, A, rfl, hr4, hW4, hA4⟩
  have H4 : Hid (Two w w4 q p q2 m U W A s0 s0) := Lib.hid (by
    have z0 := HC0.out.size
    have z1 := HD1.out.2.2.size
    have z2 := HD2.out.2.2.size
    have z3 := HC3.out.size
    have hlS : ∀ x ∈ S, x < w1.heap.size := by
      obtain ⟨gn, gl, cn, cl, v, hd⟩ := HD1.out.1
      exact hd.lim
    have hlF := HD2.out.1.lim.1
    have hUs := HS3.out.1.own
    refine ⟨HS3.out.1.keep0 hc4, hr4, fun x hx => ?_, fun x hx => ?_, fun x hx hm => ?_, (((HC0.out.trans HD1.out.2.2 (by simp)).trans HD2.out.2.2 (by simp)).trans HC3.out (by simp)).trans hc4 (by simp)⟩
    · rcases HS3.out.2 x hx with h | h
      · have := HD1.out.2.1 x h; omega
      · omega
    · rcases hA4 x hx with h | h
      · have := HD2.out.2.1 x h; omega
      · omega
    · have a1 := hUs x hx
      rcases hA4 x hm with h | h
      · have b1 := HD2.out.2.1 x h
        have b2 := hlF x h
        rcases HS3.out.2 x hx with h' | h'
        · have := hlS x h'; omega
        · omega
      · omega)
  have HS0 : Hid (s0.Tidy ∧ s0.d.n = sn ∧ s0.d.ops = 0 ∧ s0.d.since.length = 0) := Lib.hid ⟨HST.out, by rw [HSD.out]; rfl, by rw [HSD.out]; rfl, by rw [HSD.out]; rfl⟩
  clear hc4 hr4 hW4 hA4 CO2 HS3 HD2 HD1 HC3 HC0 HSD HST
  go_wp2_with fail
  go_loopg [15, 16, 17, 18, 19, 20, 21, 22, 23] n (fun g' s15 s16 s17 s18 s19 s20 s21 s22 s23 wr => ∃ (k : Nat) (U W A : List Nat) (s : SS), s15 = .int .i64 (k : Int) ∧ k ≤ n ∧ n ≤ k + g' ∧ Hid (Two w wr q p q2 m U W A s s ∧ s.Tidy ∧ s.d.n = sn ∧ s.d.ops ≤ 20 * k ∧ s.d.since.length ≤ 20 * k))
  case atStart => exact ⟨0, U, W, A, s0, rfl, by omega, by omega, Lib.hid ⟨H4.out, HS0.out.1, HS0.out.2.1, by have := HS0.out.2.2.1; omega, by have := HS0.out.2.2.2; omega⟩⟩
  case round =>
    obtain ⟨k, U, W, A, s, rfl, hk, hkg, HR⟩ := hrel
    clear H4 HS0
    by_cases hlt : k < n
    · have hkz : (k : Int) < (n : Int) := by omega
      have hkz1 : (k : Int).toNat = k := by omega
      obtain ⟨g, o, rfl, hdeed⟩ : ∃ g o, a = some ⟨g, o, none⟩ ∧ ∀ i, i < n → _ := HD.out.resolve_left (by omega)
      obtain ⟨d0, d1, d2, d3, d4, m3, m4, wf0, wf1, wf2⟩ := hdeed k hlt
      have hcr := HR.out.1.chg
      have e0 := hcr.cell d0 (by simp)
      have e1 := hcr.cell d1 (by simp)
      have e2 := hcr.cell d2 (by simp)
      have e3 := hcr.cell d3 (by simp)
      have e4 := hcr.cell d4 (by simp)
      -- round: printed
      obtain ⟨a3, q3, v3⟩ := m3.1.slice
      obtain ⟨a4, q4, v4⟩ := m4.1.slice
      have B3 := Lib.hid m3
      have B4 := Lib.hid m4
      rw [v3] at e3 B3
      rw [v4] at e4 B4
      have hfn : (f k).n ≤ 9223372036854775807 := by
        simp [Lit.wf, IntKind.min, IntKind.max, IntKind.signed, IntKind.bits] at wf2
        omega
      have hsm := HF.out.2 k hlt
      have hn60 := HF.out.1
      obtain ⟨hT, htd, hsn, hop, hsi⟩ := HR.out
      have HTD := Lib.hid htd
      have HSN := Lib.hid hsn
      obtain ⟨x, hx⟩ : ∃ x, x = wr.heap.size := ⟨_, rfl⟩
      obtain ⟨w1, hw1⟩ : ∃ w1, w1 = wr.alloc (.cells #[.int .i64 (f k).c, .int .i64 (f k).i, .int .i64 (f k).n, .slice a3 (f k).key.length q3, .slice a4 (f k).b.length q4] 51) := ⟨_, rfl⟩
      have hc1 : Chg [] wr w1 := by rw [hw1]; exact (Chg.refl _ _).alloc _
      have hX1 : w1.heap[x]? = some (.cells #[.int .i64 (f k).c, .int .i64 (f k).i, .int .i64 (f k).n, .slice a3 (f k).key.length q3, .slice a4 (f k).b.length q4] 51 (0, 0)) := by rw [hw1, hx]; exact heap_alloc_new wr _
      have T1 := Lib.hid (hT.keep hc1)
      have hxU : ∀ y ∈ U, y < x := fun y hy => by rw [hx]; exact hT.ours.own y hy
      have hxW : ∀ y ∈ A, y < x := fun y hy => by rw [hx]; exact hT.refs.lim.1 y hy
      have HXU := Lib.hid (And.intro hxU hxW)
      have HX := Lib.hid hx
      have HW1 := Lib.hid hw1
      have HX1 := Lib.hid hX1
      have hkl : (f k).key.length ≤ 100 := hsm.1
      have hbl : (f k).b.length ≤ 600 := hsm.2
      have K3 : Hid (Came w (.slice a3 (f k).key.length q3) (f k).key) := B3
      have K4 : Hid (Came w (.slice a4 (f k).b.length q4) (f k).b) := B4
      clear hdeed d0 d1 d2 d3 d4 m3 m4 wf0 wf1 wf2 hcr hT htd hsn hw1 hc1 hX1 hxU hxW v3 v4 HR hsm hx B3 B4
      generalize (f k).c = fc at *
      generalize (f k).i = fi at *
      generalize (f k).n = fn at *
      generalize (f k).key = key at *
      generalize (f k).b = bb at *
      clear HF
      by_cases hdo : fc ≤ 4
      · have hd4 : decide (fc ≤ 4) = true := decide_eq_true hdo
        have CP := Lib.hid (sput_any q p U s fi (.slice a3 key.length q3) (.slice a4 bb.length q4) key bb w1 T1.out.ours (K3.out.1.chg T1.out.chg (by simp)) (fun hl y hy hm => by
          have b1 := K3.out.2 hl y hy
          have b2 := T1.out.newU y hm
          omega) (K4.out.1.chg T1.out.chg (by simp)) (fun hl y hy hm => by
          have b1 := K4.out.2 hl y hy
          have b2 := T1.out.newU y hm
          omega) (by omega) (by omega) (by omega) (by omega))
        go_wp2_with fail
        rw [← HW1.out, ← HX.out]
        clear e0 e1 e2 e3 e4
        have x0 := blk_cell HX1.out 0 _ rfl
        have x1 := blk_cell HX1.out 1 _ rfl
        have x2 := blk_cell HX1.out 2 _ rfl
        have x3 := blk_cell HX1.out 3 _ rfl
        have x4 := blk_cell HX1.out 4 _ rfl
        refine CP.out.mono ?_
        rintro e w5 ⟨rfl, hs5⟩
        have hX5 := hs5.choose_spec.2.2.keep HX1.out (fun hm => by have := HXU.out.1 x hm; omega)
        obtain ⟨U5, hT5⟩ := T1.out.our hs5
        have T5 := Lib.hid hT5
        have HX5 := Lib.hid hX5
        have x1 := blk_cell hX5 1 _ rfl
        have x3 := blk_cell hX5 3 _ rfl
        have x4 := blk_cell hX5 4 _ rfl
        have CR := Lib.hid (rput_any q2 m W A s fi (.slice a3 key.length q3) (.slice a4 bb.length q4) key bb w5 hT5.refs (K3.out.1.chg hT5.chg (by simp)) (K4.out.1.chg hT5.chg (by simp)) (by omega) (by omega) (by omega) (by omega))
        have RI := Lib.hid (put_rise s fi key bb)
        obtain ⟨r5, hr5⟩ : ∃ r5, r5 = (s.put fi key bb).1 := ⟨_, rfl⟩
        unfold RSidPost at CR
        rw [← hr5] at CR ⊢
        clear hs5 hX5 hT5 CP hr5
        go_wp2_with fail
        refine CR.out.mono ?_
        rintro e w6 ⟨rfl, hr6⟩
        obtain ⟨W6, A6, hT6⟩ := T5.out.ref hr6
        have T6 := Lib.hid hT6
        clear hr6 hT6 CR
        have hRI := RI.out
        have hp4 : w6.cell? ⟨m, 4, none⟩ = some (.int .i64 (((s.put fi key bb).2).d.ops : Int)) := by
          obtain ⟨_, _, _, h9⟩ := T6.out.refs.disk
          exact h9
        have TD := Lib.hid (T6.out.keep (by exact (Chg.refl [] w6).drew))
        have CL := Lib.hid (looks_any _ _ _ _ _ _ _ _ _ TD.out.ours TD.out.refs (hRI.tidy HTD.out))
        have HRI := Lib.hid hRI
        clear hRI
        generalize ((s.put fi key bb).2) = sz at *
        go_wp2_with fail
        refine wp_region_L [(16, fun w' => w'.cell? ⟨m, 4, none⟩ = some (.int .i64 (sz.d.ops : Int)))] (by kernel_rfl) ?_ (fun hHeld => ?_)
        · exact (HoldC.cons (hp4) HoldC.nil)
        refine wpAnyL_take (i := 0) (oi := _) (v := ?_) rfl (by kernel_rfl) (by kernel_rfl) (by kernel_rfl) (by kernel_rfl) (by kernel_rfl) (fun _ _ _ h => h) (Or.inl ⟨by rfl, ?_⟩) (by assumption) (fun hNew => ?_)
        rotate_left
        · intro w _
          go_simp
          try with_reducible rfl
        clear hHeld
        have hHeld := hNew
        clear hNew
        try simp only [List.getElem_toArray, List.getElem_cons_succ, List.getElem_cons_zero, Act.put, List.setIfInBounds_toArray, List.set_cons_zero, List.set_cons_succ]
        refine wpAnyL_take (i := 1) (oi := _) (v := ?_) rfl (by kernel_rfl) (by kernel_rfl) (by kernel_rfl) (by kernel_rfl) (by kernel_rfl) (fun _ _ _ h => h) (Or.inl ⟨by rfl, ?_⟩) (by assumption) (fun hNew => ?_)
        rotate_left
        · intro w _
          go_simp
          try with_reducible rfl
        clear hHeld
        have hHeld := hNew
        clear hNew
        try simp only [List.getElem_toArray, List.getElem_cons_succ, List.getElem_cons_zero, Act.put, List.setIfInBounds_toArray, List.set_cons_zero, List.set_cons_succ]
        refine wpAnyL_take (i := 2) (oi := _) (v := ?_) rfl (by kernel_rfl) (by kernel_rfl) (by kernel_rfl) (by kernel_rfl) (by kernel_rfl) (fun _ _ _ h => h) (Or.inl ⟨by rfl, ?_⟩) (by assumption) (fun hNew => ?_)
        rotate_left
        · intro w _
          go_simp
          try with_reducible rfl
        clear hHeld
        have hHeld := hNew
        clear hNew
        try simp only [List.getElem_toArray, List.getElem_cons_succ, List.getElem_cons_zero, Act.put, List.setIfInBounds_toArray, List.set_cons_zero, List.set_cons_succ]
        refine wpAnyL_take (i := 3) (oi := _) (v := ?_) rfl (by kernel_rfl) (by kernel_rfl) (by kernel_rfl) (by kernel_rfl) (by kernel_rfl) (fun _ _ _ h => h) (Or.inl ⟨by rfl, ?_⟩) (by assumption) (fun hNew => ?_)
        rotate_left
        · intro w _
          go_simp
          try with_reducible rfl
        clear hHeld
        have hHeld := hNew
        clear hNew
        try simp only [List.getElem_toArray, List.getElem_cons_succ, List.getElem_cons_zero, Act.put, List.setIfInBounds_toArray, List.set_cons_zero, List.set_cons_succ]
        refine wpAnyL_take (i := 4) (oi := _) (v := ?_) rfl (by kernel_rfl) (by kernel_rfl) (by kernel_rfl) (by kernel_rfl) (by kernel_rfl) (fun _ _ _ h => h) (Or.inl ⟨by rfl, ?_⟩) (by assumption) (fun hNew => ?_)
        rotate_left
        · intro w _
          go_simp
          try with_reducible rfl
        clear hHeld
        have hHeld := hNew
        clear hNew
        try simp only [List.getElem_toArray, List.getElem_cons_succ, List.getElem_cons_zero, Act.put, List.setIfInBounds_toArray, List.set_cons_zero, List.set_cons_succ]
        refine wpAnyL_ready (rs := [5]) (by kernel_rfl) (by simp) ?_
        refine AllReadyL.cons (o := _) rfl (fun K hK => ?_) AllReadyL.nil
        try simp only [List.getElem_toArray, List.getElem_cons_succ, List.getElem_cons_zero]
        go_simp
        refine CL.out.mono ?_
        rintro e w8 ⟨rfl, hc8⟩
        have hc8' : Chg [] w6 w8 := (by exact (Chg.refl [] w6).drew : Chg [] w6 w6.drew).trans hc8 (by simp)
        have T8 := Lib.hid (T6.out.keep hc8')
        have hp8 := hc8'.cell hp4 (by simp)
        obtain ⟨S8, hd8⟩ := T8.out.ours.disk
        have CO8 := Lib.hid (dops_any p S8 sz.d w8 hd8)
        clear hc8 hc8' hp4 hd8 CL
        try go_wp2_with fail
        clear hHeld
        refine hK.out _ _ ?_ (fun hHeld => ?_)
        · exact (HoldC.cons (hp8) HoldC.nil)
        clear hK K
        try simp only [List.getElem_toArray, List.getElem_cons_succ, List.getElem_cons_zero, Act.put, List.setIfInBounds_toArray, List.set_cons_zero, List.set_cons_succ]
        refine wpAnyL_take (i := 6) (oi := _) (v := ?_) rfl (by kernel_rfl) (by kernel_rfl) (by kernel_rfl) (by kernel_rfl) (by kernel_rfl) (fun _ _ _ h => h) (Or.inl ⟨by rfl, ?_⟩) (by assumption) (fun hNew => ?_)
        rotate_left
        · intro w _
          go_simp
          try with_reducible rfl
        clear hHeld
        have hHeld := hNew
        clear hNew
        try simp only [List.getElem_toArray, List.getElem_cons_succ, List.getElem_cons_zero, Act.put, List.setIfInBounds_toArray, List.set_cons_zero, List.set_cons_succ]
        refine wpAnyL_take (i := 7) (oi := _) (v := ?_) rfl (by kernel_rfl) (by kernel_rfl) (by kernel_rfl) (by kernel_rfl) (by kernel_rfl) (fun _ _ _ h => h) (Or.inl ⟨by rfl, ?_⟩) (by assumption) (fun hNew => ?_)
        rotate_left
        · intro w _
          go_simp
          try with_reducible rfl
        clear hHeld
        have hHeld := hNew
        clear hNew
        try simp only [List.getElem_toArray, List.getElem_cons_succ, List.getElem_cons_zero, Act.put, List.setIfInBounds_toArray, List.set_cons_zero, List.set_cons_succ]
        refine wpAnyL_take (i := 8) (oi := _) (v := ?_) rfl (by kernel_rfl) (by kernel_rfl) (by kernel_rfl) (by kernel_rfl) (by kernel_rfl) (fun _ _ _ h => h) (Or.inl ⟨by rfl, ?_⟩) (by assumption) (fun hNew => ?_)
        rotate_left
        · intro w _
          go_simp
          try with_reducible rfl
        clear hHeld
        have hHeld := hNew
        clear hNew
        try simp only [List.getElem_toArray, List.getElem_cons_succ, List.getElem_cons_zero, Act.put, List.setIfInBounds_toArray, List.set_cons_zero, List.set_cons_succ]
        refine wpAnyL_take (i := 9) (oi := _) (v := ?_) rfl (by kernel_rfl) (by kernel_rfl) (by kernel_rfl) (by kernel_rfl) (by kernel_rfl) (fun _ _ _ h => h) (Or.inl ⟨by rfl, ?_⟩) (by assumption) (fun hNew => ?_)
        rotate_left
        · intro w _
          go_simp
          try with_reducible rfl
        clear hHeld
        have hHeld := hNew
        clear hNew
        try simp only [List.getElem_toArray, List.getElem_cons_succ, List.getElem_cons_zero, Act.put, List.setIfInBounds_toArray, List.set_cons_zero, List.set_cons_succ]
        refine wpAnyL_take (i := 11) (oi := _) (v := ?_) rfl (by kernel_rfl) (by kernel_rfl) (by kernel_rfl) (by kernel_rfl) (by kernel_rfl) (fun _ _ _ h => h) (Or.inl ⟨by rfl, ?_⟩) (by assumption) (fun hNew => ?_)
        rotate_left
        · intro w _
          go_simp
          try with_reducible rfl
        clear hHeld
        have hHeld := hNew
        clear hNew
        try simp only [List.getElem_toArray, List.getElem_cons_succ, List.getElem_cons_zero, Act.put, List.setIfInBounds_toArray, List.set_cons_zero, List.set_cons_succ]
        refine wpAnyL_take (i := 12) (oi := _) (v := ?_) rfl (by kernel_rfl) (by kernel_rfl) (by kernel_rfl) (by kernel_rfl) (by kernel_rfl) (fun _ _ _ h => h) (Or.inl ⟨by rfl, ?_⟩) (by assumption) (fun hNew => ?_)
        rotate_left
        · intro w _
          go_simp
          try with_reducible rfl
        clear hHeld
        have hHeld := hNew
        clear hNew
        try simp only [List.getElem_toArray, List.getElem_cons_succ, List.getElem_cons_zero, Act.put, List.setIfInBounds_toArray, List.set_cons_zero, List.set_cons_succ]
        refine wpAnyL_take (i := 13) (oi := _) (v := ?_) rfl (by kernel_rfl) (by kernel_rfl) (by kernel_rfl) (by kernel_rfl) (by kernel_rfl) (fun _ _ _ h => h) (Or.inl ⟨by rfl, ?_⟩) (by assumption) (fun hNew => ?_)
        rotate_left
        · intro w _
          go_simp
          try with_reducible rfl
        clear hHeld
        have hHeld := hNew
        clear hNew
        try simp only [List.getElem_toArray, List.getElem_cons_succ, List.getElem_cons_zero, Act.put, List.setIfInBounds_toArray, List.set_cons_zero, List.set_cons_succ]
        refine wpAnyL_loadP 0 [15] (i := 14) (oi := _) (v := ?_) rfl rfl (by kernel_rfl) (by kernel_rfl) (by kernel_rfl) (by kernel_rfl) (by kernel_rfl) (by kernel_rfl) (fun _ _ _ h => h) (Or.inl ⟨by rfl, ?_⟩) (by assumption) (fun hNew => ?_)
        rotate_left
        · intro w hSw
          (try dsimp only at hSw)
          go_simp
          try with_reducible rfl
        clear hHeld
        have hHeld := hNew
        clear hNew
        try simp only [List.getElem_toArray, List.getElem_cons_succ, List.getElem_cons_zero, Act.put, List.setIfInBounds_toArray, List.set_cons_zero, List.set_cons_succ]
        refine wpAnyL_ready (rs := [10]) (by kernel_rfl) (by simp) ?_
        refine AllReadyL.cons (o := _) rfl (fun K hK => ?_) AllReadyL.nil
        try simp only [List.getElem_toArray, List.getElem_cons_succ, List.getElem_cons_zero]
        go_simp
        refine CO8.out.mono ?_
        rintro e w' ⟨rfl, hq⟩
        subst hq
        try go_wp2_with fail
        clear hHeld
        refine hK.out _ _ ?_ (fun hHeld => ?_)
        · exact (HoldC.cons (hp8) HoldC.nil)
        clear hK K
        try simp only [List.getElem_toArray, List.getElem_cons_succ, List.getElem_cons_zero, Act.put, List.setIfInBounds_toArray, List.set_cons_zero, List.set_cons_succ]
        refine wpAnyL_take (i := 15) (oi := _) (v := ?_) rfl (by kernel_rfl) (by kernel_rfl) (by kernel_rfl) (by kernel_rfl) (by kernel_rfl) (fun _ _ _ h => h) (Or.inl ⟨by rfl, ?_⟩) (by assumption) (fun hNew => ?_)
        rotate_left
        · intro w _
          go_simp
          try with_reducible rfl
        clear hHeld
        have hHeld := hNew
        clear hNew
        try simp only [List.getElem_toArray, List.getElem_cons_succ, List.getElem_cons_zero, Act.put, List.setIfInBounds_toArray, List.set_cons_zero, List.set_cons_succ]
        refine wpAnyL_ready (rs := [16]) (by kernel_rfl) (by simp) ?_
        refine AllReadyL.cons (o := _) rfl (fun K hK => ?_) AllReadyL.nil
        try simp only [List.getElem_toArray, List.getElem_cons_succ, List.getElem_cons_zero]
        go_simp
        clear hHeld
        refine hK.out _ _ ?_ (fun hHeld => ?_)
        · exact (HoldC.past (by kernel_rfl) HoldC.nil)
        clear hK K
        try simp only [List.getElem_toArray, List.getElem_cons_succ, List.getElem_cons_zero, Act.put, List.setIfInBounds_toArray, List.set_cons_zero, List.set_cons_succ]
        refine wpAnyL_done (by kernel_rfl) ?_ _
        clear hHeld
        clear hp8 CO8
        have HEND : Hid (Two w w8 q p q2 m _ _ _ sz sz ∧ sz.Tidy ∧ sz.d.n = sn ∧ sz.d.ops ≤ 20 * (k + 1) ∧ sz.d.since.length ≤ 20 * (k + 1)) := Lib.hid ⟨T8.out, HRI.out.tidy HTD.out, by rw [HRI.out.n]; exact HSN.out, by have := HRI.out.ops; omega, by have := HRI.out.since; omega⟩
        go_wp2
        go_roundg (gk - 1)
        case measure => omega
        case rel => exact ⟨k + 1, _, _, _, sz, by go_num, by omega, by omega, HEND⟩
      · have hd4 : decide (fc ≤ 4) = false := decide_eq_false hdo
        by_cases hd5 : fc = 5
        · have hq5 : (fc == 5) = true := by simp [hd5]
          clear hd5 hdo
          have CG := Lib.hid (sget_any q p U s fi w1 T1.out.ours)
          have CRG := Lib.hid (fun w2 (hc : Chg [] w1 w2) => rget_any q2 m W A s fi w2 ((T1.out.keep hc).refs))
          have hgl := SS.get_len T1.out.ours.okk fi
          obtain ⟨rg, hrg⟩ : ∃ rg, rg = s.get fi := ⟨_, rfl⟩
          rw [← hrg] at CG CRG hgl
          obtain ⟨gb, ge⟩ := rg
          dsimp only at hgl
          clear hrg
          go_wp2_with fail
          rw [← HW1.out, ← HX.out]
          clear e0 e1 e2 e3 e4
          have x0 := blk_cell HX1.out 0 _ rfl
          have x1 := blk_cell HX1.out 1 _ rfl
          have x2 := blk_cell HX1.out 2 _ rfl
          have x3 := blk_cell HX1.out 3 _ rfl
          have x4 := blk_cell HX1.out 4 _ rfl
          refine CG.out.mono ?_
          rintro e w5 ⟨⟨v1, rfl, hb1, ho1⟩, hc5⟩
          have HB1 := Lib.hid hb1
          have HC5 := Lib.hid hc5
          have x1 := hc5.cell x1 (by simp)
          clear hb1 ho1 hc5 CG
          go_wp2_with fail
          refine (CRG.out w5 HC5.out).mono ?_
          rintro e w7 ⟨⟨v2, rfl, hb2, ho2⟩, hc7⟩
          have HC7 := Lib.hid (HC5.out.trans hc7 (by simp))
          have CSM := Lib.hid (same_any v1 v2 gb gb w7 (HB1.out.chg hc7 (by simp)) hb2 (by omega) (by omega))
          rw [decide_eq_true rfl] at CSM
          clear hb2 ho2 hc7 CRG
          go_wp2_with fail
          refine CSM.out.mono ?_
          rintro e w6 ⟨rfl, nn, hq⟩
          have hc6 : Chg [] w1 w6 := by rw [hq]; exact HC7.out.drewN nn
          have T6 := Lib.hid (T1.out.keep hc6)
          have RI := Lib.hid (Rise.same s)
          clear hq hc6 CSM
          have hRI := RI.out
          have hp4 : w6.cell? ⟨m, 4, none⟩ = some (.int .i64 ((s).d.ops : Int)) := by
            obtain ⟨_, _, _, h9⟩ := T6.out.refs.disk
            exact h9
          have TD := Lib.hid (T6.out.keep (by exact (Chg.refl [] w6).drew))
          have CL := Lib.hid (looks_any _ _ _ _ _ _ _ _ _ TD.out.ours TD.out.refs (hRI.tidy HTD.out))
          have HRI := Lib.hid hRI
          clear hRI
          generalize (s) = sz at *
          go_wp2_with fail
          refine wp_region_L [(16, fun w' => w'.cell? ⟨m, 4, none⟩ = some (.int .i64 (sz.d.ops : Int)))] (by kernel_rfl) ?_ (fun hHeld => ?_)
          · exact (HoldC.cons (hp4) HoldC.nil)
          refine wpAnyL_take (i := 0) (oi := _) (v := ?_) rfl (by kernel_rfl) (by kernel_rfl) (by kernel_rfl) (by kernel_rfl) (by kernel_rfl) (fun _ _ _ h => h) (Or.inl ⟨by rfl, ?_⟩) (by assumption) (fun hNew => ?_)
          rotate_left
          · intro w _
            go_simp
            try with_reducible rfl
          clear hHeld
          have hHeld := hNew
          clear hNew
          try simp only [List.getElem_toArray, List.getElem_cons_succ, List.getElem_cons_zero, Act.put, List.setIfInBounds_toArray, List.set_cons_zero, List.set_cons_succ]
          refine wpAnyL_take (i := 1) (oi := _) (v := ?_) rfl (by kernel_rfl) (by kernel_rfl) (by kernel_rfl) (by kernel_rfl) (by kernel_rfl) (fun _ _ _ h => h) (Or.inl ⟨by rfl, ?_⟩) (by assumption) (fun hNew => ?_)
          rotate_left
          · intro w _
            go_simp
            try with_reducible rfl
          clear hHeld
          have hHeld := hNew
          clear hNew
          try simp only [List.getElem_toArray, List.getElem_cons_succ, List.getElem_cons_zero, Act.put, List.setIfInBounds_toArray, List.set_cons_zero, List.set_cons_succ]
          refine wpAnyL_take (i := 2) (oi := _) (v := ?_) rfl (by kernel_rfl) (by kernel_rfl) (by kernel_rfl) (by kernel_rfl) (by kernel_rfl) (fun _ _ _ h => h) (Or.inl ⟨by rfl, ?_⟩) (by assumption) (fun hNew => ?_)
          rotate_left
          · intro w _
            go_simp
            try with_reducible rfl
          clear hHeld
          have hHeld := hNew
          clear hNew
          try simp only [List.getElem_toArray, List.getElem_cons_succ, List.getElem_cons_zero, Act.put, List.setIfInBounds_toArray, List.set_cons_zero, List.set_cons_succ]
          refine wpAnyL_take (i := 3) (oi := _) (v := ?_) rfl (by kernel_rfl) (by kernel_rfl) (by kernel_rfl) (by kernel_rfl) (by kernel_rfl) (fun _ _ _ h => h) (Or.inl ⟨by rfl, ?_⟩) (by assumption) (fun hNew => ?_)
          rotate_left
          · intro w _
            go_simp
            try with_reducible rfl
          clear hHeld
          have hHeld := hNew
          clear hNew
          try simp only [List.getElem_toArray, List.getElem_cons_succ, List.getElem_cons_zero, Act.put, List.setIfInBounds_toArray, List.set_cons_zero, List.set_cons_succ]
          refine wpAnyL_take (i := 4) (oi := _) (v := ?_) rfl (by kernel_rfl) (by kernel_rfl) (by kernel_rfl) (by kernel_rfl) (by kernel_rfl) (fun _ _ _ h => h) (Or.inl ⟨by rfl, ?_⟩) (by assumption) (fun hNew => ?_)
          rotate_left
          · intro w _
            go_simp
            try with_reducible rfl
          clear hHeld
          have hHeld := hNew
          clear hNew
          try simp only [List.getElem_toArray, List.getElem_cons_succ, List.getElem_cons_zero, Act.put, List.setIfInBounds_toArray, List.set_cons_zero, List.set_cons_succ]
          refine wpAnyL_ready (rs := [5]) (by kernel_rfl) (by simp) ?_
          refine AllReadyL.cons (o := _) rfl (fun K hK => ?_) AllReadyL.nil
          try simp only [List.getElem_toArray, List.getElem_cons_succ, List.getElem_cons_zero]
          go_simp
          refine CL.out.mono ?_
          rintro e w8 ⟨rfl, hc8⟩
          have hc8' : Chg [] w6 w8 := (by exact (Chg.refl [] w6).drew : Chg [] w6 w6.drew).trans hc8 (by simp)
          have T8 := Lib.hid (T6.out.keep hc8')
          have hp8 := hc8'.cell hp4 (by simp)
          obtain ⟨S8, hd8⟩ := T8.out.ours.disk
          have CO8 := Lib.hid (dops_any p S8 sz.d w8 hd8)
          clear hc8 hc8' hp4 hd8 CL
          try go_wp2_with fail
          clear hHeld
          refine hK.out _ _ ?_ (fun hHeld => ?_)
          · exact (HoldC.cons (hp8) HoldC.nil)
          clear hK K
          try simp only [List.getElem_toArray, List.getElem_cons_succ, List.getElem_cons_zero, Act.put, List.setIfInBounds_toArray, List.set_cons_zero, List.set_cons_succ]
          refine wpAnyL_take (i := 6) (oi := _) (v := ?_) rfl (by kernel_rfl) (by kernel_rfl) (by kernel_rfl) (by kernel_rfl) (by kernel_rfl) (fun _ _ _ h => h) (Or.inl ⟨by rfl, ?_⟩) (by assumption) (fun hNew => ?_)
          rotate_left
          · intro w _
            go_simp
            try with_reducible rfl
          clear hHeld
          have hHeld := hNew
          clear hNew
          try simp only [List.getElem_toArray, List.getElem_cons_succ, List.getElem_cons_zero, Act.put, List.setIfInBounds_toArray, List.set_cons_zero, List.set_cons_succ]
          refine wpAnyL_take (i := 7) (oi := _) (v := ?_) rfl (by kernel_rfl) (by kernel_rfl) (by kernel_rfl) (by kernel_rfl) (by kernel_rfl) (fun _ _ _ h => h) (Or.inl ⟨by rfl, ?_⟩) (by assumption) (fun hNew => ?_)
          rotate_left
          · intro w _
            go_simp
            try with_reducible rfl
          clear hHeld
          have hHeld := hNew
          clear hNew
          try simp only [List.getElem_toArray, List.getElem_cons_succ, List.getElem_cons_zero, Act.put, List.setIfInBounds_toArray, List.set_cons_zero, List.set_cons_succ]
          refine wpAnyL_take (i := 8) (oi := _) (v := ?_) rfl (by kernel_rfl) (by kernel_rfl) (by kernel_rfl) (by kernel_rfl) (by kernel_rfl) (fun _ _ _ h => h) (Or.inl ⟨by rfl, ?_⟩) (by assumption) (fun hNew => ?_)
          rotate_left
          · intro w _
            go_simp
            try with_reducible rfl
          clear hHeld
          have hHeld := hNew
          clear hNew
          try simp only [List.getElem_toArray, List.getElem_cons_succ, List.getElem_cons_zero, Act.put, List.setIfInBounds_toArray, List.set_cons_zero, List.set_cons_succ]
          refine wpAnyL_take (i := 9) (oi := _) (v := ?_) rfl (by kernel_rfl) (by kernel_rfl) (by kernel_rfl) (by kernel_rfl) (by kernel_rfl) (fun _ _ _ h => h) (Or.inl ⟨by rfl, ?_⟩) (by assumption) (fun hNew => ?_)
          rotate_left
          · intro w _
            go_simp
            try with_reducible rfl
          clear hHeld
          have hHeld := hNew
          clear hNew
          try simp only [List.getElem_toArray, List.getElem_cons_succ, List.getElem_cons_zero, Act.put, List.setIfInBounds_toArray, List.set_cons_zero, List.set_cons_succ]
          refine wpAnyL_take (i := 11) (oi := _) (v := ?_) rfl (by kernel_rfl) (by kernel_rfl) (by kernel_rfl) (by kernel_rfl) (by kernel_rfl) (fun _ _ _ h => h) (Or.inl ⟨by rfl, ?_⟩) (by assumption) (fun hNew => ?_)
          rotate_left
          · intro w _
            go_simp
            try with_reducible rfl
          clear hHeld
          have hHeld := hNew
          clear hNew
          try simp only [List.getElem_toArray, List.getElem_cons_succ, List.getElem_cons_zero, Act.put, List.setIfInBounds_toArray, List.set_cons_zero, List.set_cons_succ]
          refine wpAnyL_take (i := 12) (oi := _) (v := ?_) rfl (by kernel_rfl) (by kernel_rfl) (by kernel_rfl) (by kernel_rfl) (by kernel_rfl) (fun _ _ _ h => h) (Or.inl ⟨by rfl, ?_⟩) (by assumption) (fun hNew => ?_)
          rotate_left
          · intro w _
            go_simp
            try with_reducible rfl
          clear hHeld
          have hHeld := hNew
          clear hNew
          try simp only [List.getElem_toArray, List.getElem_cons_succ, List.getElem_cons_zero, Act.put, List.setIfInBounds_toArray, List.set_cons_zero, List.set_cons_succ]
          refine wpAnyL_take (i := 13) (oi := _) (v := ?_) rfl (by kernel_rfl) (by kernel_rfl) (by kernel_rfl) (by kernel_rfl) (by kernel_rfl) (fun _ _ _ h => h) (Or.inl ⟨by rfl, ?_⟩) (by assumption) (fun hNew => ?_)
          rotate_left
          · intro w _
            go_simp
            try with_reducible rfl
          clear hHeld
          have hHeld := hNew
          clear hNew
          try simp only [List.getElem_toArray, List.getElem_cons_succ, List.getElem_cons_zero, Act.put, List.setIfInBounds_toArray, List.set_cons_zero, List.set_cons_succ]
          refine wpAnyL_loadP 0 [15] (i := 14) (oi := _) (v := ?_) rfl rfl (by kernel_rfl) (by kernel_rfl) (by kernel_rfl) (by kernel_rfl) (by kernel_rfl) (by kernel_rfl) (fun _ _ _ h => h) (Or.inl ⟨by rfl, ?_⟩) (by assumption) (fun hNew => ?_)
          rotate_left
          · intro w hSw
            (try dsimp only at hSw)
            go_simp
            try with_reducible rfl
          clear hHeld
          have hHeld := hNew
          clear hNew
          try simp only [List.getElem_toArray, List.getElem_cons_succ, List.getElem_cons_zero, Act.put, List.setIfInBounds_toArray, List.set_cons_zero, List.set_cons_succ]
          refine wpAnyL_ready (rs := [10]) (by kernel_rfl) (by simp) ?_
          refine AllReadyL.cons (o := _) rfl (fun K hK => ?_) AllReadyL.nil
          try simp only [List.getElem_toArray, List.getElem_cons_succ, List.getElem_cons_zero]
          go_simp
          refine CO8.out.mono ?_
          rintro e w' ⟨rfl, hq⟩
          subst hq
          try go_wp2_with fail
          clear hHeld
          refine hK.out _ _ ?_ (fun hHeld => ?_)
          · exact (HoldC.cons (hp8) HoldC.nil)
          clear hK K
          try simp only [List.getElem_toArray, List.getElem_cons_succ, List.getElem_cons_zero, Act.put, List.setIfInBounds_toArray, List.set_cons_zero, List.set_cons_succ]
          refine wpAnyL_take (i := 15) (oi := _) (v := ?_) rfl (by kernel_rfl) (by kernel_rfl) (by kernel_rfl) (by kernel_rfl) (by kernel_rfl) (fun _ _ _ h => h) (Or.inl ⟨by rfl, ?_⟩) (by assumption) (fun hNew => ?_)
          rotate_left
          · intro w _
            go_simp
            try with_reducible rfl
          clear hHeld
          have hHeld := hNew
          clear hNew
          try simp only [List.getElem_toArray, List.getElem_cons_succ, List.getElem_cons_zero, Act.put, List.setIfInBounds_toArray, List.set_cons_zero, List.set_cons_succ]
          refine wpAnyL_ready (rs := [16]) (by kernel_rfl) (by simp) ?_
          refine AllReadyL.cons (o := _) rfl (fun K hK => ?_) AllReadyL.nil
          try simp only [List.getElem_toArray, List.getElem_cons_succ, List.getElem_cons_zero]
          go_simp
          clear hHeld
          refine hK.out _ _ ?_ (fun hHeld => ?_)
          · exact (HoldC.past (by kernel_rfl) HoldC.nil)
          clear hK K
          try simp only [List.getElem_toArray, List.getElem_cons_succ, List.getElem_cons_zero, Act.put, List.setIfInBounds_toArray, List.set_cons_zero, List.set_cons_succ]
          refine wpAnyL_done (by kernel_rfl) ?_ _
          clear hHeld
          clear hp8 CO8
          have HEND : Hid (Two w w8 q p q2 m _ _ _ sz sz ∧ sz.Tidy ∧ sz.d.n = sn ∧ sz.d.ops ≤ 20 * (k + 1) ∧ sz.d.since.length ≤ 20 * (k + 1)) := Lib.hid ⟨T8.out, HRI.out.tidy HTD.out, by rw [HRI.out.n]; exact HSN.out, by have := HRI.out.ops; omega, by have := HRI.out.since; omega⟩
          go_wp2
          go_roundg (gk - 1)
          case measure => omega
          case rel => exact ⟨k + 1, _, _, _, sz, by go_num, by omega, by omega, HEND⟩
        · have hq5 : (fc == 5) = false := by simp [hd5]
          by_cases hd6 : fc = 6
          · have hq6 : (fc == 6) = true := by simp [hd6]
            clear hd6 hdo hd5
            have CP := Lib.hid (sclear_any q p U s fi w1 T1.out.ours (by omega) (by omega))
            go_wp2_with fail
            rw [← HW1.out, ← HX.out]
            clear e0 e1 e2 e3 e4
            have x0 := blk_cell HX1.out 0 _ rfl
            have x1 := blk_cell HX1.out 1 _ rfl
            have x2 := blk_cell HX1.out 2 _ rfl
            have x3 := blk_cell HX1.out 3 _ rfl
            have x4 := blk_cell HX1.out 4 _ rfl
            refine CP.out.mono ?_
            rintro e w5 ⟨rfl, hs5⟩
            have hX5 := hs5.choose_spec.2.2.keep HX1.out (fun hm => by have := HXU.out.1 x hm; omega)
            obtain ⟨U5, hT5⟩ := T1.out.our hs5
            have T5 := Lib.hid hT5
            have HX5 := Lib.hid hX5
            have x1 := blk_cell hX5 1 _ rfl
            have CR := Lib.hid (rclear_any q2 m W A s fi w5 hT5.refs (by omega) (by omega))
            have RI := Lib.hid (clear_rise s fi)
            obtain ⟨r5, hr5⟩ : ∃ r5, r5 = (s.clear fi).1 := ⟨_, rfl⟩
            unfold RSidPost at CR
            rw [← hr5] at CR ⊢
            clear hs5 hX5 hT5 CP hr5
            go_wp2_with fail
            refine CR.out.mono ?_
            rintro e w6 ⟨rfl, hr6⟩
            obtain ⟨W6, A6, hT6⟩ := T5.out.ref hr6
            have T6 := Lib.hid hT6
            clear hr6 hT6 CR
            have hRI := RI.out
            have hp4 : w6.cell? ⟨m, 4, none⟩ = some (.int .i64 (((s.clear fi).2).d.ops : Int)) := by
              obtain ⟨_, _, _, h9⟩ := T6.out.refs.disk
              exact h9
            have TD := Lib.hid (T6.out.keep (by exact (Chg.refl [] w6).drew))
            have CL := Lib.hid (looks_any _ _ _ _ _ _ _ _ _ TD.out.ours TD.out.refs (hRI.tidy HTD.out))
            have HRI := Lib.hid hRI
            clear hRI
            generalize ((s.clear fi).2) = sz at *
            go_wp2_with fail
            refine wp_region_L [(16, fun w' => w'.cell? ⟨m, 4, none⟩ = some (.int .i64 (sz.d.ops : Int)))] (by kernel_rfl) ?_ (fun hHeld => ?_)
            · exact (HoldC.cons (hp4) HoldC.nil)
            refine wpAnyL_take (i := 0) (oi := _) (v := ?_) rfl (by kernel_rfl) (by kernel_rfl) (by kernel_rfl) (by kernel_rfl) (by kernel_rfl) (fun _ _ _ h => h) (Or.inl ⟨by rfl, ?_⟩) (by assumption) (fun hNew => ?_)
            rotate_left
            · intro w _
              go_simp
              try with_reducible rfl
            clear hHeld
            have hHeld := hNew
            clear hNew
            try simp only [List.getElem_toArray, List.getElem_cons_succ, List.getElem_cons_zero, Act.put, List.setIfInBounds_toArray, List.set_cons_zero, List.set_cons_succ]
            refine wpAnyL_take (i := 1) (oi := _) (v := ?_) rfl (by kernel_rfl) (by kernel_rfl) (by kernel_rfl) (by kernel_rfl) (by kernel_rfl) (fun _ _ _ h => h) (Or.inl ⟨by rfl, ?_⟩) (by assumption) (fun hNew => ?_)
            rotate_left
            · intro w _
              go_simp
              try with_reducible rfl
            clear hHeld
            have hHeld := hNew
            clear hNew
            try simp only [List.getElem_toArray, List.getElem_cons_succ, List.getElem_cons_zero, Act.put, List.setIfInBounds_toArray, List.set_cons_zero, List.set_cons_succ]
            refine wpAnyL_take (i := 2) (oi := _) (v := ?_) rfl (by kernel_rfl) (by kernel_rfl) (by kernel_rfl) (by kernel_rfl) (by kernel_rfl) (fun _ _ _ h => h) (Or.inl ⟨by rfl, ?_⟩) (by assumption) (fun hNew => ?_)
            rotate_left
            · intro w _
              go_simp
              try with_reducible rfl
            clear hHeld
            have hHeld := hNew
            clear hNew
            try simp only [List.getElem_toArray, List.getElem_cons_succ, List.getElem_cons_zero, Act.put, List.setIfInBounds_toArray, List.set_cons_zero, List.set_cons_succ]
            refine wpAnyL_take (i := 3) (oi := _) (v := ?_) rfl (by kernel_rfl) (by kernel_rfl) (by kernel_rfl) (by kernel_rfl) (by kernel_rfl) (fun _ _ _ h => h) (Or.inl ⟨by rfl, ?_⟩) (by assumption) (fun hNew => ?_)
            rotate_left
            · intro w _
              go_simp
              try with_reducible rfl
            clear hHeld
            have hHeld := hNew
            clear hNew
            try simp only [List.getElem_toArray, List.getElem_cons_succ, List.getElem_cons_zero, Act.put, List.setIfInBounds_toArray, List.set_cons_zero, List.set_cons_succ]
            refine wpAnyL_take (i := 4) (oi := _) (v := ?_) rfl (by kernel_rfl) (by kernel_rfl) (by kernel_rfl) (by kernel_rfl) (by kernel_rfl) (fun _ _ _ h => h) (Or.inl ⟨by rfl, ?_⟩) (by assumption) (fun hNew => ?_)
            rotate_left
            · intro w _
              go_simp
              try with_reducible rfl
            clear hHeld
            have hHeld := hNew
            clear hNew
            try simp only [List.getElem_toArray, List.getElem_cons_succ, List.getElem_cons_zero, Act.put, List.setIfInBounds_toArray, List.set_cons_zero, List.set_cons_succ]
            refine wpAnyL_ready (rs := [5]) (by kernel_rfl) (by simp) ?_
            refine AllReadyL.cons (o := _) rfl (fun K hK => ?_) AllReadyL.nil
            try simp only [List.getElem_toArray, List.getElem_cons_succ, List.getElem_cons_zero]
            go_simp
            refine CL.out.mono ?_
            rintro e w8 ⟨rfl, hc8⟩
            have hc8' : Chg [] w6 w8 := (by exact (Chg.refl [] w6).drew : Chg [] w6 w6.drew).trans hc8 (by simp)
            have T8 := Lib.hid (T6.out.keep hc8')
            have hp8 := hc8'.cell hp4 (by simp)
            obtain ⟨S8, hd8⟩ := T8.out.ours.disk
            have CO8 := Lib.hid (dops_any p S8 sz.d w8 hd8)
            clear hc8 hc8' hp4 hd8 CL
            try go_wp2_with fail
            clear hHeld
            refine hK.out _ _ ?_ (fun hHeld => ?_)
            · exact (HoldC.cons (hp8) HoldC.nil)
            clear hK K
            try simp only [List.getElem_toArray, List.getElem_cons_succ, List.getElem_cons_zero, Act.put, List.setIfInBounds_toArray, List.set_cons_zero, List.set_cons_succ]
            refine wpAnyL_take (i := 6) (oi := _) (v := ?_) rfl (by kernel_rfl) (by kernel_rfl) (by kernel_rfl) (by kernel_rfl) (by kernel_rfl) (fun _ _ _ h => h) (Or.inl ⟨by rfl, ?_⟩) (by assumption) (fun hNew => ?_)
            rotate_left
            · intro w _
              go_simp
              try with_reducible rfl
            clear hHeld
            have hHeld := hNew
            clear hNew
            try simp only [List.getElem_toArray, List.getElem_cons_succ, List.getElem_cons_zero, Act.put, List.setIfInBounds_toArray, List.set_cons_zero, List.set_cons_succ]
            refine wpAnyL_take (i := 7) (oi := _) (v := ?_) rfl (by kernel_rfl) (by kernel_rfl) (by kernel_rfl) (by kernel_rfl) (by kernel_rfl) (fun _ _ _ h => h) (Or.inl ⟨by rfl, ?_⟩) (by assumption) (fun hNew => ?_)
            rotate_left
            · intro w _
              go_simp
              try with_reducible rfl
            clear hHeld
            have hHeld := hNew
            clear hNew
            try simp only [List.getElem_toArray, List.getElem_cons_succ, List.getElem_cons_zero, Act.put, List.setIfInBounds_toArray, List.set_cons_zero, List.set_cons_succ]
            refine wpAnyL_take (i := 8) (oi := _) (v := ?_) rfl (by kernel_rfl) (by kernel_rfl) (by kernel_rfl) (by kernel_rfl) (by kernel_rfl) (fun _ _ _ h => h) (Or.inl ⟨by rfl, ?_⟩) (by assumption) (fun hNew => ?_)
            rotate_left
            · intro w _
              go_simp
              try with_reducible rfl
            clear hHeld
            have hHeld := hNew
            clear hNew
            try simp only [List.getElem_toArray, List.getElem_cons_succ, List.getElem_cons_zero, Act.put, List.setIfInBounds_toArray, List.set_cons_zero, List.set_cons_succ]
            refine wpAnyL_take (i := 9) (oi := _) (v := ?_) rfl (by kernel_rfl) (by kernel_rfl) (by kernel_rfl) (by kernel_rfl) (by kernel_rfl) (fun _ _ _ h => h) (Or.inl ⟨by rfl, ?_⟩) (by assumption) (fun hNew => ?_)
            rotate_left
            · intro w _
              go_simp
              try with_reducible rfl
            clear hHeld
            have hHeld := hNew
            clear hNew
            try simp only [List.getElem_toArray, List.getElem_cons_succ, List.getElem_cons_zero, Act.put, List.setIfInBounds_toArray, List.set_cons_zero, List.set_cons_succ]
            refine wpAnyL_take (i := 11) (oi := _) (v := ?_) rfl (by kernel_rfl) (by kernel_rfl) (by kernel_rfl) (by kernel_rfl) (by kernel_rfl) (fun _ _ _ h => h) (Or.inl ⟨by rfl, ?_⟩) (by assumption) (fun hNew => ?_)
            rotate_left
            · intro w _
              go_simp
              try with_reducible rfl
            clear hHeld
            have hHeld := hNew
            clear hNew
            try simp only [List.getElem_toArray, List.getElem_cons_succ, List.getElem_cons_zero, Act.put, List.setIfInBounds_toArray, List.set_cons_zero, List.set_cons_succ]
            refine wpAnyL_take (i := 12) (oi := _) (v := ?_) rfl (by kernel_rfl) (by kernel_rfl) (by kernel_rfl) (by kernel_rfl) (by kernel_rfl) (fun _ _ _ h => h) (Or.inl ⟨by rfl, ?_⟩) (by assumption) (fun hNew => ?_)
            rotate_left
            · intro w _
              go_simp
              try with_reducible rfl
            clear hHeld
            have hHeld := hNew
            clear hNew
            try simp only [List.getElem_toArray, List.getElem_cons_succ, List.getElem_cons_zero, Act.put, List.setIfInBounds_toArray, List.set_cons_zero, List.set_cons_succ]
            refine wpAnyL_take (i := 13) (oi := _) (v := ?_) rfl (by kernel_rfl) (by kernel_rfl) (by kernel_rfl) (by kernel_rfl) (by kernel_rfl) (fun _ _ _ h => h) (Or.inl ⟨by rfl, ?_⟩) (by assumption) (fun hNew => ?_)
            rotate_left
            · intro w _
              go_simp
              try with_reducible rfl
            clear hHeld
            have hHeld := hNew
            clear hNew
            try simp only [List.getElem_toArray, List.getElem_cons_succ, List.getElem_cons_zero, Act.put, List.setIfInBounds_toArray, List.set_cons_zero, List.set_cons_succ]
            refine wpAnyL_loadP 0 [15] (i := 14) (oi := _) (v := ?_) rfl rfl (by kernel_rfl) (by kernel_rfl) (by kernel_rfl) (by kernel_rfl) (by kernel_rfl) (by kernel_rfl) (fun _ _ _ h => h) (Or.inl ⟨by rfl, ?_⟩) (by assumption) (fun hNew => ?_)
            rotate_left
            · intro w hSw
              (try dsimp only at hSw)
              go_simp
              try with_reducible rfl
            clear hHeld
            have hHeld := hNew
            clear hNew
            try simp only [List.getElem_toArray, List.getElem_cons_succ, List.getElem_cons_zero, Act.put, List.setIfInBounds_toArray, List.set_cons_zero, List.set_cons_succ]
            refine wpAnyL_ready (rs := [10]) (by kernel_rfl) (by simp) ?_
            refine AllReadyL.cons (o := _) rfl (fun K hK => ?_) AllReadyL.nil
            try simp only [List.getElem_toArray, List.getElem_cons_succ, List.getElem_cons_zero]
            go_simp
            refine CO8.out.mono ?_
            rintro e w' ⟨rfl, hq⟩
            subst hq
            try go_wp2_with fail
            clear hHeld
            refine hK.out _ _ ?_ (fun hHeld => ?_)
            · exact (HoldC.cons (hp8) HoldC.nil)
            clear hK K
            try simp only [List.getElem_toArray, List.getElem_cons_succ, List.getElem_cons_zero, Act.put, List.setIfInBounds_toArray, List.set_cons_zero, List.set_cons_succ]
            refine wpAnyL_take (i := 15) (oi := _) (v := ?_) rfl (by kernel_rfl) (by kernel_rfl) (by kernel_rfl) (by kernel_rfl) (by kernel_rfl) (fun _ _ _ h => h) (Or.inl ⟨by rfl, ?_⟩) (by assumption) (fun hNew => ?_)
            rotate_left
            · intro w _
              go_simp
              try with_reducible rfl
            clear hHeld
            have hHeld := hNew
            clear hNew
            try simp only [List.getElem_toArray, List.getElem_cons_succ, List.getElem_cons_zero, Act.put, List.setIfInBounds_toArray, List.set_cons_zero, List.set_cons_succ]
            refine wpAnyL_ready (rs := [16]) (by kernel_rfl) (by simp) ?_
            refine AllReadyL.cons (o := _) rfl (fun K hK => ?_) AllReadyL.nil
            try simp only [List.getElem_toArray, List.getElem_cons_succ, List.getElem_cons_zero]
            go_simp
            clear hHeld
            refine hK.out _ _ ?_ (fun hHeld => ?_)
            · exact (HoldC.past (by kernel_rfl) HoldC.nil)
            clear hK K
            try simp only [List.getElem_toArray, List.getElem_cons_succ, List.getElem_cons_zero, Act.put, List.setIfInBounds_toArray, List.set_cons_zero, List.set_cons_succ]
            refine wpAnyL_done (by kernel_rfl) ?_ _
            clear hHeld
            clear hp8 CO8
            have HEND : Hid (Two w w8 q p q2 m _ _ _ sz sz ∧ sz.Tidy ∧ sz.d.n = sn ∧ sz.d.ops ≤ 20 * (k + 1) ∧ sz.d.since.length ≤ 20 * (k + 1)) := Lib.hid ⟨T8.out, HRI.out.tidy HTD.out, by rw [HRI.out.n]; exact HSN.out, by have := HRI.out.ops; omega, by have := HRI.out.since; omega⟩
            go_wp2
            go_roundg (gk - 1)
            case measure => omega
            case rel => exact ⟨k + 1, _, _, _, sz, by go_num, by omega, by omega, HEND⟩
          · have hq6 : (fc == 6) = false := by simp [hd6]
            have CP := Lib.hid (T1.out.ours.fuse2 fn hfn)
            go_wp2_with fail
            rw [← HW1.out, ← HX.out]
            clear e0 e1 e2 e3 e4
            have x0 := blk_cell HX1.out 0 _ rfl
            have x1 := blk_cell HX1.out 1 _ rfl
            have x2 := blk_cell HX1.out 2 _ rfl
            have x3 := blk_cell HX1.out 3 _ rfl
            have x4 := blk_cell HX1.out 4 _ rfl
            refine CP.out.mono ?_
            rintro e w5 ⟨rfl, hs5⟩
            have hX5 := hs5.choose_spec.2.2.keep HX1.out (fun hm => by have := HXU.out.1 x hm; omega)
            obtain ⟨U5, hT5⟩ := T1.out.our hs5
            have T5 := Lib.hid hT5
            have x2 := blk_cell hX5 2 _ rfl
            obtain ⟨⟨u6, hu6⟩, hf6, hl6, hr6⟩ := hT5.refs.fuse fn hfn
            obtain ⟨W6, A6, hT6⟩ := hT5.ref hr6
            have T6 := Lib.hid hT6
            have RI := Lib.hid (fuse_rise s fn)
            clear hs5 hX5 hT5 hr6 hT6 CP
            go_wp2_with fail
            generalize w5.setCell ⟨m, 5, none⟩ (.int .i64 (max fn (-1))) = w6 at *
            clear hu6 hf6 hl6
            have hRI := RI.out
            have hp4 : w6.cell? ⟨m, 4, none⟩ = some (.int .i64 (({ s with d := s.d.setFuse fn }).d.ops : Int)) := by
              obtain ⟨_, _, _, h9⟩ := T6.out.refs.disk
              exact h9
            have TD := Lib.hid (T6.out.keep (by exact (Chg.refl [] w6).drew))
            have CL := Lib.hid (looks_any _ _ _ _ _ _ _ _ _ TD.out.ours TD.out.refs (hRI.tidy HTD.out))
            have HRI := Lib.hid hRI
            clear hRI
            generalize ({ s with d := s.d.setFuse fn }) = sz at *
            go_wp2_with fail
            refine wp_region_L [(16, fun w' => w'.cell? ⟨m, 4, none⟩ = some (.int .i64 (sz.d.ops : Int)))] (by kernel_rfl) ?_ (fun hHeld => ?_)
            · exact (HoldC.cons (hp4) HoldC.nil)
            refine wpAnyL_take (i := 0) (oi := _) (v := ?_) rfl (by kernel_rfl) (by kernel_rfl) (by kernel_rfl) (by kernel_rfl) (by kernel_rfl) (fun _ _ _ h => h) (Or.inl ⟨by rfl, ?_⟩) (by assumption) (fun hNew => ?_)
            rotate_left
            · intro w _
              go_simp
              try with_reducible rfl
            clear hHeld
            have hHeld := hNew
            clear hNew
            try simp only [List.getElem_toArray, List.getElem_cons_succ, List.getElem_cons_zero, Act.put, List.setIfInBounds_toArray, List.set_cons_zero, List.set_cons_succ]
            refine wpAnyL_take (i := 1) (oi := _) (v := ?_) rfl (by kernel_rfl) (by kernel_rfl) (by kernel_rfl) (by kernel_rfl) (by kernel_rfl) (fun _ _ _ h => h) (Or.inl ⟨by rfl, ?_⟩) (by assumption) (fun hNew => ?_)
            rotate_left
            · intro w _
              go_simp
              try with_reducible rfl
            clear hHeld
            have hHeld := hNew
            clear hNew
            try simp only [List.getElem_toArray, List.getElem_cons_succ, List.getElem_cons_zero, Act.put, List.setIfInBounds_toArray, List.set_cons_zero, List.set_cons_succ]
            refine wpAnyL_take (i := 2) (oi := _) (v := ?_) rfl (by kernel_rfl) (by kernel_rfl) (by kernel_rfl) (by kernel_rfl) (by kernel_rfl) (fun _ _ _ h => h) (Or.inl ⟨by rfl, ?_⟩) (by assumption) (fun hNew => ?_)
            rotate_left
            · intro w _
              go_simp
              try with_reducible rfl
            clear hHeld
            have hHeld := hNew
            clear hNew
            try simp only [List.getElem_toArray, List.getElem_cons_succ, List.getElem_cons_zero, Act.put, List.setIfInBounds_toArray, List.set_cons_zero, List.set_cons_succ]
            refine wpAnyL_take (i := 3) (oi := _) (v := ?_) rfl (by kernel_rfl) (by kernel_rfl) (by kernel_rfl) (by kernel_rfl) (by kernel_rfl) (fun _ _ _ h => h) (Or.inl ⟨by rfl, ?_⟩) (by assumption) (fun hNew => ?_)
            rotate_left
            · intro w _
              go_simp
              try with_reducible rfl
            clear hHeld
            have hHeld := hNew
            clear hNew
            try simp only [List.getElem_toArray, List.getElem_cons_succ, List.getElem_cons_zero, Act.put, List.setIfInBounds_toArray, List.set_cons_zero, List.set_cons_succ]
            refine wpAnyL_take (i := 4) (oi := _) (v := ?_) rfl (by kernel_rfl) (by kernel_rfl) (by kernel_rfl) (by kernel_rfl) (by kernel_rfl) (fun _ _ _ h => h) (Or.inl ⟨by rfl, ?_⟩) (by assumption) (fun hNew => ?_)
            rotate_left
            · intro w _
              go_simp
              try with_reducible rfl
            clear hHeld
            have hHeld := hNew
            clear hNew
            try simp only [List.getElem_toArray, List.getElem_cons_succ, List.getElem_cons_zero, Act.put, List.setIfInBounds_toArray, List.set_cons_zero, List.set_cons_succ]
            refine wpAnyL_ready (rs := [5]) (by kernel_rfl) (by simp) ?_
            refine AllReadyL.cons (o := _) rfl (fun K hK => ?_) AllReadyL.nil
            try simp only [List.getElem_toArray, List.getElem_cons_succ, List.getElem_cons_zero]
            go_simp
            refine CL.out.mono ?_
            rintro e w8 ⟨rfl, hc8⟩
            have hc8' : Chg [] w6 w8 := (by exact (Chg.refl [] w6).drew : Chg [] w6 w6.drew).trans hc8 (by simp)
            have T8 := Lib.hid (T6.out.keep hc8')
            have hp8 := hc8'.cell hp4 (by simp)
            obtain ⟨S8, hd8⟩ := T8.out.ours.disk
            have CO8 := Lib.hid (dops_any p S8 sz.d w8 hd8)
            clear hc8 hc8' hp4 hd8 CL
            try go_wp2_with fail
            clear hHeld
            refine hK.out _ _ ?_ (fun hHeld => ?_)
            · exact (HoldC.cons (hp8) HoldC.nil)
            clear hK K
            try simp only [List.getElem_toArray, List.getElem_cons_succ, List.getElem_cons_zero, Act.put, List.setIfInBounds_toArray, List.set_cons_zero, List.set_cons_succ]
            refine wpAnyL_take (i := 6) (oi := _) (v := ?_) rfl (by kernel_rfl) (by kernel_rfl) (by kernel_rfl) (by kernel_rfl) (by kernel_rfl) (fun _ _ _ h => h) (Or.inl ⟨by rfl, ?_⟩) (by assumption) (fun hNew => ?_)
            rotate_left
            · intro w _
              go_simp
              try with_reducible rfl
            clear hHeld
            have hHeld := hNew
            clear hNew
            try simp only [List.getElem_toArray, List.getElem_cons_succ, List.getElem_cons_zero, Act.put, List.setIfInBounds_toArray, List.set_cons_zero, List.set_cons_succ]
            refine wpAnyL_take (i := 7) (oi := _) (v := ?_) rfl (by kernel_rfl) (by kernel_rfl) (by kernel_rfl) (by kernel_rfl) (by kernel_rfl) (fun _ _ _ h => h) (Or.inl ⟨by rfl, ?_⟩) (by assumption) (fun hNew => ?_)
            rotate_left
            · intro w _
              go_simp
              try with_reducible rfl
            clear hHeld
            have hHeld := hNew
            clear hNew
            try simp only [List.getElem_toArray, List.getElem_cons_succ, List.getElem_cons_zero, Act.put, List.setIfInBounds_toArray, List.set_cons_zero, List.set_cons_succ]
            refine wpAnyL_take (i := 8) (oi := _) (v := ?_) rfl (by kernel_rfl) (by kernel_rfl) (by kernel_rfl) (by kernel_rfl) (by kernel_rfl) (fun _ _ _ h => h) (Or.inl ⟨by rfl, ?_⟩) (by assumption) (fun hNew => ?_)
            rotate_left
            · intro w _
              go_simp
              try with_reducible rfl
            clear hHeld
            have hHeld := hNew
            clear hNew
            try simp only [List.getElem_toArray, List.getElem_cons_succ, List.getElem_cons_zero, Act.put, List.setIfInBounds_toArray, List.set_cons_zero, List.set_cons_succ]
            refine wpAnyL_take (i := 9) (oi := _) (v := ?_) rfl (by kernel_rfl) (by kernel_rfl) (by kernel_rfl) (by kernel_rfl) (by kernel_rfl) (fun _ _ _ h => h) (Or.inl ⟨by rfl, ?_⟩) (by assumption) (fun hNew => ?_)
            rotate_left
            · intro w _
              go_simp
              try with_reducible rfl
            clear hHeld
            have hHeld := hNew
            clear hNew
            try simp only [List.getElem_toArray, List.getElem_cons_succ, List.getElem_cons_zero, Act.put, List.setIfInBounds_toArray, List.set_cons_zero, List.set_cons_succ]
            refine wpAnyL_take (i := 11) (oi := _) (v := ?_) rfl (by kernel_rfl) (by kernel_rfl) (by kernel_rfl) (by kernel_rfl) (by kernel_rfl) (fun _ _ _ h => h) (Or.inl ⟨by rfl, ?_⟩) (by assumption) (fun hNew => ?_)
            rotate_left
            · intro w _
              go_simp
              try with_reducible rfl
            clear hHeld
            have hHeld := hNew
            clear hNew
            try simp only [List.getElem_toArray, List.getElem_cons_succ, List.getElem_cons_zero, Act.put, List.setIfInBounds_toArray, List.set_cons_zero, List.set_cons_succ]
            refine wpAnyL_take (i := 12) (oi := _) (v := ?_) rfl (by kernel_rfl) (by kernel_rfl) (by kernel_rfl) (by kernel_rfl) (by kernel_rfl) (fun _ _ _ h => h) (Or.inl ⟨by rfl, ?_⟩) (by assumption) (fun hNew => ?_)
            rotate_left
            · intro w _
              go_simp
              try with_reducible rfl
            clear hHeld
            have hHeld := hNew
            clear hNew
            try simp only [List.getElem_toArray, List.getElem_cons_succ, List.getElem_cons_zero, Act.put, List.setIfInBounds_toArray, List.set_cons_zero, List.set_cons_succ]
            refine wpAnyL_take (i := 13) (oi := _) (v := ?_) rfl (by kernel_rfl) (by kernel_rfl) (by kernel_rfl) (by kernel_rfl) (by kernel_rfl) (fun _ _ _ h => h) (Or.inl ⟨by rfl, ?_⟩) (by assumption) (fun hNew => ?_)
            rotate_left
            · intro w _
              go_simp
              try with_reducible rfl
            clear hHeld
            have hHeld := hNew
            clear hNew
            try simp only [List.getElem_toArray, List.getElem_cons_succ, List.getElem_cons_zero, Act.put, List.setIfInBounds_toArray, List.set_cons_zero, List.set_cons_succ]
            refine wpAnyL_loadP 0 [15] (i := 14) (oi := _) (v := ?_) rfl rfl (by kernel_rfl) (by kernel_rfl) (by kernel_rfl) (by kernel_rfl) (by kernel_rfl) (by kernel_rfl) (fun _ _ _ h => h) (Or.inl ⟨by rfl, ?_⟩) (by assumption) (fun hNew => ?_)
            rotate_left
            · intro w hSw
              (try dsimp only at hSw)
              go_simp
              try with_reducible rfl
            clear hHeld
            have hHeld := hNew
            clear hNew
            try simp only [List.getElem_toArray, List.getElem_cons_succ, List.getElem_cons_zero, Act.put, List.setIfInBounds_toArray, List.set_cons_zero, List.set_cons_succ]
            refine wpAnyL_ready (rs := [10]) (by kernel_rfl) (by simp) ?_
            refine AllReadyL.cons (o := _) rfl (fun K hK => ?_) AllReadyL.nil
            try simp only [List.getElem_toArray, List.getElem_cons_succ, List.getElem_cons_zero]
            go_simp
            refine CO8.out.mono ?_
            rintro e w' ⟨rfl, hq⟩
            subst hq
            try go_wp2_with fail
            clear hHeld
            refine hK.out _ _ ?_ (fun hHeld => ?_)
            · exact (HoldC.cons (hp8) HoldC.nil)
            clear hK K
            try simp only [List.getElem_toArray, List.getElem_cons_succ, List.getElem_cons_zero, Act.put, List.setIfInBounds_toArray, List.set_cons_zero, List.set_cons_succ]
            refine wpAnyL_take (i := 15) (oi := _) (v := ?_) rfl (by kernel_rfl) (by kernel_rfl) (by kernel_rfl) (by kernel_rfl) (by kernel_rfl) (fun _ _ _ h => h) (Or.inl ⟨by rfl, ?_⟩) (by assumption) (fun hNew => ?_)
            rotate_left
            · intro w _
              go_simp
              try with_reducible rfl
            clear hHeld
            have hHeld := hNew
            clear hNew
            try simp only [List.getElem_toArray, List.getElem_cons_succ, List.getElem_cons_zero, Act.put, List.setIfInBounds_toArray, List.set_cons_zero, List.set_cons_succ]
            refine wpAnyL_ready (rs := [16]) (by kernel_rfl) (by simp) ?_
            refine AllReadyL.cons (o := _) rfl (fun K hK => ?_) AllReadyL.nil
            try simp only [List.getElem_toArray, List.getElem_cons_succ, List.getElem_cons_zero]
            go_simp
            clear hHeld
            refine hK.out _ _ ?_ (fun hHeld => ?_)
            · exact (HoldC.past (by kernel_rfl) HoldC.nil)
            clear hK K
            try simp only [List.getElem_toArray, List.getElem_cons_succ, List.getElem_cons_zero, Act.put, List.setIfInBounds_toArray, List.set_cons_zero, List.set_cons_succ]
            refine wpAnyL_done (by kernel_rfl) ?_ _
            clear hHeld
            clear hp8 CO8
            have HEND : Hid (Two w w8 q p q2 m _ _ _ sz sz ∧ sz.Tidy ∧ sz.d.n = sn ∧ sz.d.ops ≤ 20 * (k + 1) ∧ sz.d.since.length ≤ 20 * (k + 1)) := Lib.hid ⟨T8.out, HRI.out.tidy HTD.out, by rw [HRI.out.n]; exact HSN.out, by have := HRI.out.ops; omega, by have := HRI.out.since; omega⟩
            go_wp2
            go_roundg (gk - 1)
            case measure => omega
            case rel => exact ⟨k + 1, _, _, _, sz, by go_num, by omega, by omega, HEND⟩
      -- round: end
    · have hkn : k = n := by omega
      have hkz : ¬ (k : Int) < (n : Int) := by omega
      obtain ⟨S9, hd9⟩ := HR.out.1.ours.disk
      have CI := Lib.hid (dimage_any p S9 s.d wr hd9)
      obtain ⟨V9, F9, hr9, -⟩ := HR.out.1.refs.disk
      have CRI := Lib.hid (fun w1 (hc : Chg [] wr w1) => rimage_any m V9 F9 s.d w1 (hr9.keep hc (by simp)))
      have hfl : (flat s.d.n s.d.now).length ≤ 1000000 := by
        obtain ⟨gn, gl, cn, cl, v, hd⟩ := hd9
        have h1 := hd.few
        rw [flat_len _ _ (fun i hi => hd.now.len i hi)]
        omega
      have HFL := Lib.hid hfl
      clear hd9 hr9 hfl hkn
      go_wp2_with fail
      refine CI.out.mono ?_
      rintro e w5 ⟨v5, rfl, hb5, ho5, hc5⟩
      have HC5 := Lib.hid hc5
      have HB5 := Lib.hid hb5.bytes
      clear hb5 ho5 hc5 CI
      go_wp2_with fail
      refine (CRI.out w5 HC5.out).mono ?_
      rintro e w6 ⟨v6, rfl, hb6, ho6, hc6⟩
      have CSM := Lib.hid (same_any v5 v6 _ _ w6 (HB5.out.chg hc6 (by simp)) hb6.bytes (by have := HFL.out; omega) (by have := HFL.out; omega))
      rw [decide_eq_true rfl] at CSM
      have HC6 := Lib.hid (HC5.out.trans hc6 (by simp))
      clear hb6 ho6 hc6 CRI
      go_wp2_with fail
      refine CSM.out.mono ?_
      rintro e w7 ⟨rfl, nn, hq⟩
      have HC7 : Hid (Chg [] w w7) := Lib.hid (by rw [hq]; exact (HR.out.1.chg.trans HC6.out (by simp)).drewN nn)
      clear hq CSM
      go_wp2
      go_ret
      exact ⟨rfl, HC7.out⟩
end Go.Proofs.YtipfgghdoicdhaaDoor.W

/- SlotPlays: what the row asks. -/
namespace Go.Proofs.YtipfgghdoicdhaaDoor.slotPlays
set_option linter.unusedVariables false
open Go.RowKit
theorem walk (sec first : Int) (a : Option Addr) (n cap : Nat) (f : Nat → Go.Proofs.YtipfgghdoicdhaaDoor.W.Dd) (X : World) (h0 : (Lit.int .i64 sec).wf = true) (h1 : (Lit.int .i64 first).wf = true) (h : n ≤ maxLen ∧ Go.Proofs.YtipfgghdoicdhaaDoor.W.DeedsAt X a n f) : Calls Tryd.prog 8 #[.int .i64 sec, .int .i64 first, .slice a n cap] X fun e w' => e = .returned (.bool true) ∧ Below X.heap.size X w' :=
  (Go.Proofs.YtipfgghdoicdhaaDoor.W.plays_any sec first a n cap f X h.2).mono fun e w' ⟨h1, h2⟩ => ⟨h1, h2.below (by simp)⟩
end Go.Proofs.YtipfgghdoicdhaaDoor.slotPlays
