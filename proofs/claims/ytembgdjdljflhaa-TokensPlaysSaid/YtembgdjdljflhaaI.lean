/- slices.Insert of one struct; copy at elements of several cells. -/
import Derived.Test.YtembgdjdljflhaaT
import Derived.Laws.CopyOwn
import Derived.Lib.AppendZerosOnto
import Derived.Lib.Overlaps
import Derived.Laws.Externs
import Derived.Shelf.Spec.SlicesInsert
namespace Go.Proofs.Ytembgdjdljflhaa
open Go.RowKit
set_option linter.unusedVariables false
set_option linter.unusedSimpArgs false

theorem run_copy_n {P : Program} (w : World) (dT sT ty elem : TypeId) (size g o dLen dCap : Nat) (a : Addr) (sLen sCap : Nat) (cur : Array Value) (t : TypeId) (cs : List Value) (m : Nat)
    (hu : P.underlying dT = some (.slice elem)) (hs : (P.info? elem).map (·.size) = some size)
    (hg : w.heap[g]? = some (.cells cur t (0, 0))) (hm : m = Nat.min sLen dLen) (hn : cs.length = m * size)
    (hsrc : ∀ j v, cs[j]? = some v → w.cell? (a.add j) = some v) (hfit : o + cs.length ≤ cur.size) (h1 : ∀ v ∈ cs, v.oneCell' = true) :
    (Builtin.copy_ #[dT, sT] ty #[.slice (some ⟨g, o, none⟩) dLen dCap, .slice (some a) sLen sCap]).run P w =
      .ok (goInt m) (w.setRow g (cur.toList.take o ++ cs ++ cur.toList.drop (o + cs.length)).toArray) := by
  have hl := run_loadCells_list (P := P) w a cs hsrc
  have hst := run_storeCells_at P g o t cs 0 cur w hg (by simpa using hfit) h1
  cases hq : P.info? elem with
  | none => simp [hq] at hs
  | some i =>
    have hi : i.size = size := by simpa [hq] using hs
    simp [Builtin.copy_, run_underlying hu, Builtin.lenOf, Builtin.firstCells, sizeOf, typeInfo, hq, hi, ← hm, ← hn, hl, hst]

/-- Nothing goes over. -/
theorem run_copy_0 {P : Program} (w : World) (dT sT ty elem : TypeId) (size : Nat) (dp sp : Option Addr) (dLen dCap sLen sCap : Nat)
    (hu : P.underlying dT = some (.slice elem)) (hs : (P.info? elem).map (·.size) = some size) (hm : Nat.min sLen dLen = 0) :
    (Builtin.copy_ #[dT, sT] ty #[.slice dp dLen dCap, .slice sp sLen sCap]).run P w = .ok (goInt 0) w := by
  cases hq : P.info? elem with
  | none => simp [hq] at hs
  | some i =>
    cases sp <;> cases dp <;> simp [Builtin.copy_, run_underlying hu, Builtin.lenOf, Builtin.firstCells, sizeOf, typeInfo, hq, hm, loadCells, loadCellsFrom, storeCells]

theorem info35 : (Try.prog.info? 35).map (fun i => (i.zero, i.size, i.bytes)) = some (some (.agg #[.int .i64 0, .int .i64 0, .int .i64 0, .bool false]), 4, 32) := by kernel_rfl
theorem size35 : (Try.prog.info? 35).map (·.size) = some 4 := by
  obtain ⟨i, hi, _, h, _⟩ := info_parts info35; rw [hi]; simp [h]

theorem one_enc (r : TRow) : ∀ u ∈ enc r, u.oneCell' = true := by
  intro u hu; simp [enc] at hu; rcases hu with rfl | rfl | rfl | rfl <;> rfl
theorem one_encs (l : List TRow) : ∀ u ∈ encs l, u.oneCell' = true := by
  intro u hu
  obtain ⟨r, _, hr⟩ := List.mem_flatMap.1 hu
  exact one_enc r u hr

/-- What Insert gives of cells. -/
def insCells (xs news : List Value) (k : Nat) : List Value := xs.take k ++ (news ++ xs.drop k)
theorem ins_len (xs news : List Value) (k : Nat) : (insCells xs news k).length = xs.length + news.length := by
  simp only [insCells, List.length_append, List.length_take, List.length_drop, Nat.min_def]; split <;> omega
/-- In place: shift, then lay over. -/
theorem ins_shift (L xs news C1 : List Value) (p : Nat) (hp : p ≤ xs.length) (hx : L.take xs.length = xs) (hL : xs.length + news.length ≤ L.length)
    (h1 : L.take (p + news.length) ++ xs.drop p ++ L.drop (p + news.length + (xs.drop p).length) = C1) :
    C1.take p ++ news ++ C1.drop (p + news.length) = insCells xs news p ++ L.drop (xs.length + news.length) := by
  have hd : (xs.drop p).length = xs.length - p := List.length_drop
  have e0 : L.take p = xs.take p := by rw [← hx, List.take_take, Nat.min_eq_left hp]
  have ht : (L.take (p + news.length)).length = p + news.length := by rw [List.length_take]; omega
  have e1 : C1.take p = xs.take p := by
    rw [← h1, List.append_assoc, List.take_append_of_le_length (by omega), List.take_take, Nat.min_eq_left (by omega), e0]
  have e2 : C1.drop (p + news.length) = xs.drop p ++ L.drop (xs.length + news.length) := by
    rw [← h1, List.append_assoc, List.drop_append_of_le_length (by omega), List.drop_of_length_le (by omega), List.nil_append, hd]
    congr 2; omega
  rw [e1, e2]; simp [insCells, List.append_assoc]
/-- In a new row: lay the new ones, then the rest. -/
theorem ins_grow (R xs news C1 : List Value) (p : Nat) (hp : p ≤ xs.length) (hx : R.take p = xs.take p) (hR : xs.length + news.length ≤ R.length)
    (h1 : R.take p ++ news ++ R.drop (p + news.length) = C1) :
    C1.take (p + news.length) ++ xs.drop p ++ C1.drop (p + news.length + (xs.drop p).length) = insCells xs news p ++ R.drop (xs.length + news.length) := by
  have hd : (xs.drop p).length = xs.length - p := List.length_drop
  have ht : (R.take p ++ news).length = p + news.length := by rw [List.length_append, List.length_take]; omega
  have e1 : C1.take (p + news.length) = xs.take p ++ news := by
    rw [← h1, List.take_append_of_le_length (by omega), List.take_of_length_le (by omega), hx]
  have e2 : C1.drop (p + news.length + (xs.drop p).length) = R.drop (xs.length + news.length) := by
    have e3 : C1.drop (p + news.length) = R.drop (p + news.length) := by
      rw [← h1, List.drop_append_of_le_length (by omega)]
      rw [show (R.take p ++ news).drop (p + news.length) = [] from List.drop_of_length_le (by omega)]
      rfl
    rw [← List.drop_drop, e3, List.drop_drop, hd]
    congr 1; omega
  rw [e1, e2]; simp [insCells, List.append_assoc]

set_option maxHeartbeats 4000000 in
set_option maxRecDepth 100000 in
theorem insert_any (v : Value) (base n i k : Nat) (xs news : List Value) (w : World) (hown : w.ownsRow base 35 4 v n xs) (hk : w.heap[k]? = some (.cells news.toArray 35 (0, 0))) (hne : v.ownBlock ≠ some k)
    (hi : i ≤ n) (hn : n ≤ 100000) (hb : base ≤ w.heap.size) (h1 : ∀ u ∈ xs, u.oneCell' = true) (hnl : news.length = 4) (h2 : ∀ u ∈ news, u.oneCell' = true) :
    Calls Try.prog 33 #[v, .int .i64 i, .slice (some ⟨k, 0, none⟩) 1 1] w fun e w' => ∃ v', e = .returned v' ∧ w'.ownsRow base 35 4 v' (n + 1) (insCells xs news (i * 4)) ∧ w.grownBy w' v.ownBlock := by
  obtain ⟨i0, hi0, hz0, hz1, hz2⟩ := info_parts info35
  have hxl := hown.1
  rcases Nat.lt_or_ge i n with hin | hin
  · rcases hown.2 with ⟨rfl, h0⟩ | ⟨g, cap, cur, rfl, hbg, hg, hnc, hcm, hcs, htake⟩
    · omega
    have hgk : g ≠ k := by
      intro e; apply hne; simp [Value.ownBlock, e]
    have hgl := lt_of_block hg
    have hkl := lt_of_block hk
    have hcm' := hcm
    unfold maxLen at hcm'
    by_cases hroom : n + 1 ≤ cap
    · have hne2 : ¬ ((k : Nat) = g) := fun e => hgk e.symm
      have hov : ∀ lb cb, (callFunc 54 #[.slice (some ⟨k, 0, none⟩) 1 1, .slice (some ⟨g, (i + 1) * 4, none⟩) lb cb]).run Try.prog w = .ok (.value (.bool false)) w := fun lb cb => by
        rw [run_callFunc_extern Try.func54 (by kernel_rfl) (by kernel_rfl) (by kernel_rfl) (e := Extern.SlicesOverlaps.overlaps #[32, 32] #[4]) (by kernel_rfl),
          Lib.run_overlaps_apart w 32 4 35 Try.underlying32 4 (fun w => by simp [sizeOf, typeInfo, hi0, hz1]) ⟨k, 0, none⟩ ⟨g, (i + 1) * 4, none⟩ 1 1 lb cb hne2 35 35 4 (cap * 4)
            (by simp [World.shape?, hk, hnl]) (by simp [World.shape?, hg, hcs]) (by omega) (blk_frozen hk 0) (blk_frozen hk 4)]
        rfl
      have hdl : (xs.drop (i * 4)).length = (n - i) * 4 := by rw [List.length_drop, hxl, Nat.sub_mul]
      obtain ⟨W1, hW1⟩ : ∃ W1, W1 = w.drew.setRow g (cur.toList.take ((i + 1) * 4) ++ xs.drop (i * 4) ++ cur.toList.drop ((i + 1) * 4 + (xs.drop (i * 4)).length)).toArray := ⟨_, rfl⟩
      have hr1 : ∀ ty dc sc, (Builtin.copy_ #[32, 32] ty #[.slice (some ⟨g, (i + 1) * 4, none⟩) (n - i) dc, .slice (some ⟨g, i * 4, none⟩) (n + 1 - i) sc]).run Try.prog w.drew = .ok (goInt (n - i : Nat)) W1 := fun ty dc sc => by
        rw [hW1]
        refine run_copy_n w.drew _ _ ty 35 4 g ((i + 1) * 4) _ _ ⟨g, i * 4, none⟩ _ _ cur 35 (xs.drop (i * 4)) (n - i) Try.underlying32 size35 hg (by simp only [Nat.min_def]; split <;> omega) hdl ?_ ?_ ?_
        · intro j u hj
          rw [add_none]
          rw [List.getElem?_drop, ← htake, List.getElem?_take] at hj
          split at hj
          · have : w.drew.heap[g]? = some (.cells cur 35 (0, 0)) := hg
            simpa [World.cell?, this] using hj
          · cases hj
        · rw [hdl, hcs, ← Nat.add_mul]; exact Nat.mul_le_mul_right _ (by omega)
        · exact fun u hu => h1 u (List.mem_of_mem_drop hu)
      have hg1 : W1.heap[g]? = some (.cells (cur.toList.take ((i + 1) * 4) ++ xs.drop (i * 4) ++ cur.toList.drop ((i + 1) * 4 + (xs.drop (i * 4)).length)).toArray 35 (0, 0)) := by
        rw [hW1]; exact setRow_heap w.drew g cur _ 35 _ hg
      have hk1 : W1.heap[k]? = some (.cells news.toArray 35 (0, 0)) := by
        rw [hW1]; exact (setRow_other w.drew g k _ hne2).trans hk
      generalize hC1 : cur.toList.take ((i + 1) * 4) ++ xs.drop (i * 4) ++ cur.toList.drop ((i + 1) * 4 + (xs.drop (i * 4)).length) = C1 at hg1 hW1
      have hC1l : C1.length = cap * 4 := by
        rw [← hC1]
        simp only [List.length_append, List.length_take, List.length_drop, Array.length_toList, hdl, hcs, hxl]
        have := Nat.mul_le_mul_right 4 hroom
        simp only [Nat.min_def]; split <;> omega
      obtain ⟨W2, hW2⟩ : ∃ W2, W2 = W1.setRow g (C1.take (i * 4) ++ news ++ C1.drop (i * 4 + news.length)).toArray := ⟨_, rfl⟩
      have hr2 : ∀ ty dc, (Builtin.copy_ #[32, 32] ty #[.slice (some ⟨g, i * 4, none⟩) (n + 1 - i) dc, .slice (some ⟨k, 0, none⟩) 1 1]).run Try.prog W1 = .ok (goInt (1 : Nat)) W2 := fun ty dc => by
        have := run_copy_n (P := Try.prog) W1 32 32 ty 35 4 g (i * 4) (n + 1 - i) dc ⟨k, 0, none⟩ 1 1 C1.toArray 35 news 1 Try.underlying32 size35 hg1 (by simp only [Nat.min_def]; split <;> omega) (by omega) ?_ ?_ h2
        · rw [hW2]; simpa using this
        · intro j u hj
          rw [add_none]
          simp [World.cell?, hk1, hj]
        · simp only [List.size_toArray, hC1l]; rw [hnl]; omega
      have HC1 := Lib.hid hC1
      have HW1 := Lib.hid hW1
      have HW2 := Lib.hid hW2
      have HG1 := Lib.hid hg1
      have HX := Lib.hid (And.intro hown (And.intro hg htake))
      clear hC1 hW1 hW2 hg1 hk1 hown hg htake hk hdl hxl hC1l hcs hne
      have hw1 : IntKind.i64.wrap ((i : Int) + 1) = (i : Int) + 1 := by rw [IntKind.wrap_i64]; omega
      have hb1 : (0 : Int) ≤ (i : Int) + 1 := by omega
      have htn : ((i : Int) + 1).toNat = i + 1 := by omega
      have hb2 : ¬ (cap = i + 1) := by omega
      have hb3 : (i : Int) ≤ (n : Int) + 1 := by omega
      have hb4 : ¬ (cap = i) := by omega
      go_enter Try.func33, Try.ntmps33
      go_wp2_with (simp only [hov])
      go_region_law (refine step_copy_runI rfl _ _ 32 32 rfl _ _ (by simp [Act.eval, Act.put]) (by simp [Act.eval, Act.put]) (hr1 _ _ _) ?_)
      go_wp2_with (at_builtin; refine wpList_copy_runI _ rfl _ _ 32 32 rfl _ _ rfl rfl (hr2 _ _) ?_)
      go_ret
      obtain ⟨ho, hg0, htk⟩ := HX.out
      have hxl := ho.1
      have hLl : cur.toList.length = cap * 4 := by
        obtain ⟨_, h | ⟨g', cap', cur', h, _, hg', _, _, hs, _⟩⟩ := ho
        · cases h.1
        · obtain ⟨rfl, rfl⟩ : g = g' ∧ cap = cap' := by simpa using h
          rw [hg0] at hg'
          obtain rfl : cur = cur' := by simpa using hg'
          simpa using hs
      have hx4 : cur.toList.take xs.length = xs := by rw [hxl]; exact htk
      have hr4 := Nat.mul_le_mul_right 4 hroom
      have e := ins_shift cur.toList xs news C1 (i * 4) (by omega) hx4 (by omega) (by rw [hnl]; have := HC1.out; rw [Nat.add_mul] at this; simpa using this)
      refine ⟨_, rfl, ⟨by rw [ins_len]; omega, .inr ⟨g, cap, (insCells xs news (i * 4) ++ cur.toList.drop (xs.length + news.length)).toArray, rfl, hbg, ?_, hroom, hcm, ?_, ?_⟩⟩, ?_⟩
      · rw [HW2.out, e]; exact setRow_heap W1 g C1.toArray _ 35 _ HG1.out
      · have : (insCells xs news (i * 4) ++ cur.toList.drop (xs.length + news.length)).length = cap * 4 := by
          rw [List.length_append, ins_len, List.length_drop, hLl]; omega
        simpa using this
      · simp only []
        rw [List.take_append_of_le_length (by rw [ins_len]; omega), List.take_of_length_le (by rw [ins_len]; omega)]
      · refine ⟨?_, ?_, ?_, ?_, fun q hq hne => ?_⟩
        · rw [HW2.out, HW1.out]; rfl
        · rw [HW2.out, HW1.out]; rfl
        · rw [HW2.out, HW1.out]; rfl
        · rw [HW2.out, HW1.out]; simp [World.setRow]
        · have hq' : q ≠ g := fun h => hne (by rw [h]; rfl)
          rw [HW2.out, setRow_other _ _ _ _ hq', HW1.out, setRow_other _ _ _ _ hq']; rfl
    · have hold : (Builtin.firstCells i0.size i (.slice (some ⟨g, 0, none⟩) i cap)).run Try.prog w.drew = .ok (xs.take (i * 4)).toArray w.drew := by
        rw [hz1]
        refine run_firstCells_some w.drew 4 i ⟨g, 0, none⟩ i cap (xs.take (i * 4)) (by rw [List.length_take]; omega) (fun j u hj => ?_)
        rw [add_none]
        rw [List.getElem?_take, ← htake, List.getElem?_take] at hj
        have hgd : w.drew.heap[g]? = some (.cells cur 35 (0, 0)) := hg
        split at hj
        · split at hj
          · simpa [World.cell?, hgd] using hj
          · cases hj
        · cases hj
      have hkk : (n : Int) + 1 - (i : Int) = ((n + 1 - i : Nat) : Int) := by omega
      have hik : i + (n + 1 - i) = n + 1 := by omega
      obtain ⟨G, hG⟩ : ∃ G, G = grownCap w (n + 1) cap 35 := ⟨_, rfl⟩
      have hGn : n + 1 ≤ G := by rw [hG]; exact grownCap_ge w _ _ _
      have hG63 : G ≤ maxLen := by rw [hG]; exact grownCap_le_maxLen w (n + 1) cap 35 (by unfold maxLen; omega)
      obtain ⟨R, hR⟩ : ∃ R : Array Value, R = (xs.take (i * 4)).toArray ++ Builtin.zeroCells (Value.agg #[.int .i64 0, .int .i64 0, .int .i64 0, .bool false]).cells (n + 1 - i) ++ Builtin.zeroCells (Value.agg #[.int .i64 0, .int .i64 0, .int .i64 0, .bool false]).cells (G - (n + 1)) := ⟨_, rfl⟩
      obtain ⟨W1, hW1⟩ : ∃ W1, W1 = w.drew.alloc (.cells R 35) := ⟨_, rfl⟩
      have hra : ∀ ty, (Builtin.append_ #[32, 3] ty #[.slice (some ⟨g, 0, none⟩) i cap, .int .i64 ((n : Int) + 1 - (i : Int))]).run Try.prog w = .ok (.slice (some ⟨w.heap.size, 0, none⟩) (n + 1) G) W1 := fun ty => by
        have h := Lib.run_append_grow_zeros w 32 3 ty 35 i0 _ .i64 .i64 Try.underlying32 Try.underlying3 hi0 hz0 (some ⟨g, 0, none⟩) i cap (xs.take (i * 4)) hold (n + 1 - i) (by omega) (by omega) (by omega) (by omega) (by rw [hz2]; omega) (by rw [hz2, hik]; exact growslice_fits (by omega) (by omega))
        rw [hik, ← hG, ← hR, ← hW1] at h
        rw [hkk]
        exact h
      have hNk : ¬ (k = w.heap.size) := by omega
      have hNg : ¬ (g = w.heap.size) := by omega
      have hRl : R.toList.length = G * 4 := by
        rw [hR]
        simp [Builtin.zeroCells, Value.cells, hxl]
        omega
      have hgN : W1.heap[w.heap.size]? = some (.cells R 35 (0, 0)) := by rw [hW1]; exact heap_alloc_new w.drew _
      have hk1 : W1.heap[k]? = some (.cells news.toArray 35 (0, 0)) := by rw [hW1]; exact (Below.heap_alloc w.drew _ k hkl).trans hk
      have hg1 : W1.heap[g]? = some (.cells cur 35 (0, 0)) := by rw [hW1]; exact (Below.heap_alloc w.drew _ g hgl).trans hg
      obtain ⟨C1, hC1⟩ : ∃ C1, R.toList.take (i * 4) ++ news ++ R.toList.drop (i * 4 + news.length) = C1 := ⟨_, rfl⟩
      obtain ⟨W2, hW2⟩ : ∃ W2, W2 = W1.setRow w.heap.size C1.toArray := ⟨_, rfl⟩
      have hr1 : ∀ ty dc, (Builtin.copy_ #[32, 32] ty #[.slice (some ⟨w.heap.size, i * 4, none⟩) (n + 1 - i) dc, .slice (some ⟨k, 0, none⟩) 1 1]).run Try.prog W1 = .ok (goInt (1 : Nat)) W2 := fun ty dc => by
        have := run_copy_n (P := Try.prog) W1 32 32 ty 35 4 w.heap.size (i * 4) (n + 1 - i) dc ⟨k, 0, none⟩ 1 1 R 35 news 1 Try.underlying32 size35 hgN (by simp only [Nat.min_def]; split <;> omega) (by omega) ?_ ?_ h2
        · rw [hW2, ← hC1]; exact this
        · intro j u hj
          rw [add_none]
          simp [World.cell?, hk1, hj]
        · rw [← Array.length_toList, hRl, hnl]; omega
      have hC1l : C1.length = G * 4 := by
        rw [← hC1]
        simp only [List.length_append, List.length_take, List.length_drop, hRl, hnl, Nat.min_def]
        split <;> omega
      have hgN2 : W2.heap[w.heap.size]? = some (.cells C1.toArray 35 (0, 0)) := by rw [hW2]; exact setRow_heap W1 _ R _ 35 _ hgN
      have hg2 : W2.heap[g]? = some (.cells cur 35 (0, 0)) := by rw [hW2]; exact (setRow_other W1 _ g _ hNg).trans hg1
      have hdl : (xs.drop (i * 4)).length = (n - i) * 4 := by rw [List.length_drop, hxl, Nat.sub_mul]
      obtain ⟨W3, hW3⟩ : ∃ W3, W3 = W2.drew.setRow w.heap.size (C1.take ((i + 1) * 4) ++ xs.drop (i * 4) ++ C1.drop ((i + 1) * 4 + (xs.drop (i * 4)).length)).toArray := ⟨_, rfl⟩
      have hr2 : ∀ ty dc sc, (Builtin.copy_ #[32, 32] ty #[.slice (some ⟨w.heap.size, (i + 1) * 4, none⟩) (n - i) dc, .slice (some ⟨g, i * 4, none⟩) (n - i) sc]).run Try.prog W2.drew = .ok (goInt (n - i : Nat)) W3 := fun ty dc sc => by
        have := run_copy_n (P := Try.prog) W2.drew 32 32 ty 35 4 w.heap.size ((i + 1) * 4) (n - i) dc ⟨g, i * 4, none⟩ (n - i) sc C1.toArray 35 (xs.drop (i * 4)) (n - i) Try.underlying32 size35 hgN2 (by simp only [Nat.min_def]; split <;> omega) hdl ?_ ?_ (fun u hu => h1 u (List.mem_of_mem_drop hu))
        · rw [hW3]; simpa using this
        · intro j u hj
          rw [add_none]
          rw [List.getElem?_drop, ← htake, List.getElem?_take] at hj
          have hgd : W2.drew.heap[g]? = some (.cells cur 35 (0, 0)) := hg2
          split at hj
          · simpa [World.cell?, hgd] using hj
          · cases hj
        · simp only [List.size_toArray, hC1l]; rw [hdl]; omega
      have hRt : R.toList.take (i * 4) = xs.take (i * 4) := by
        have : (xs.take (i * 4)).length = i * 4 := by rw [List.length_take]; omega
        rw [hR]
        simp only [Array.toList_append, List.append_assoc]
        rw [List.take_append_of_le_length (by simp; omega)]
        exact List.take_of_length_le (by simp; omega)
      have e := ins_grow R.toList xs news C1 (i * 4) (by omega) hRt (by omega) hC1
      have HE := Lib.hid e
      have HW1 := Lib.hid hW1
      have HW2 := Lib.hid hW2
      have HW3 := Lib.hid hW3
      have HG2 := Lib.hid hgN2
      have HRL := Lib.hid hRl
      have HXL := Lib.hid hxl
      clear e hW1 hW2 hW3 hgN2 hRl hxl hgN hk1 hg1 hC1 hC1l hg2 hdl hRt hR hold hG htake hown hg hk hcs hne hkk hik
      have hw1 : IntKind.i64.wrap ((i : Int) + 1) = (i : Int) + 1 := by rw [IntKind.wrap_i64]; omega
      have hb1 : (0 : Int) ≤ (i : Int) + 1 := by omega
      have htn : ((i : Int) + 1).toNat = i + 1 := by omega
      have hb3 : (i : Int) ≤ (n : Int) + 1 := by omega
      have hb4 : ¬ (cap = i) := by omega
      have hb5 : ¬ (G = i) := by omega
      have hb6 : ¬ (G = i + 1) := by omega
      have hG' := hG63
      unfold maxLen at hG'
      go_enter Try.func33, Try.ntmps33
      go_wp2_with (first
        | (at_builtin; refine Lib.wpList_append_run _ rfl _ _ _ _ rfl _ _ rfl rfl _ _ (hra _) ?_)
        | (at_builtin; refine wpList_copy_runI _ rfl _ _ 32 32 rfl _ _ rfl rfl (hr1 _ _) ?_))
      go_region_law (refine step_copy_runI rfl _ _ 32 32 rfl _ _ (by simp [Act.eval, Act.put]) (by simp [Act.eval, Act.put]) (hr2 _ _ _) ?_)
      go_wp2
      go_ret
      refine ⟨_, rfl, ⟨by rw [ins_len, HXL.out]; omega, .inr ⟨w.heap.size, G, (insCells xs news (i * 4) ++ R.toList.drop (xs.length + news.length)).toArray, rfl, hb, ?_, hGn, hG63, ?_, ?_⟩⟩, ?_⟩
      · rw [HW3.out]
        have := HE.out
        rw [hnl] at this
        rw [Nat.add_mul, Nat.one_mul, this, ← hnl]
        exact setRow_heap W2.drew _ C1.toArray _ 35 _ HG2.out
      · have : (insCells xs news (i * 4) ++ R.toList.drop (xs.length + news.length)).length = G * 4 := by
          rw [List.length_append, ins_len, List.length_drop, HRL.out, HXL.out]; omega
        simpa using this
      · simp only []
        rw [List.take_append_of_le_length (by rw [ins_len, HXL.out, hnl]; omega), List.take_of_length_le (by rw [ins_len, HXL.out, hnl]; omega)]
      · refine ⟨?_, ?_, ?_, ?_, fun q hq hne => ?_⟩
        · rw [HW3.out, HW2.out, HW1.out]; rfl
        · rw [HW3.out, HW2.out, HW1.out]; rfl
        · rw [HW3.out, HW2.out, HW1.out]; rfl
        · rw [HW3.out, HW2.out, HW1.out]; simp [World.setRow]
        · have hq' : q ≠ w.heap.size := Nat.ne_of_lt hq
          rw [HW3.out, setRow_other _ _ _ _ hq']
          show W2.heap[q]? = _
          rw [HW2.out, setRow_other _ _ _ _ hq', HW1.out]
          exact Below.heap_alloc w.drew _ q hq
  · obtain rfl : i = n := by omega
    have e1 : insCells xs news (i * 4) = xs ++ news := by
      unfold insCells
      rw [List.take_of_length_le (by omega), List.drop_of_length_le (by omega), List.append_nil]
    rw [e1]
    have HOWN := Lib.hid hown
    have hw0 : ∃ a c, v = .slice a i c ∧ i ≤ c ∧ c ≤ maxLen := by
      rcases hown.2 with ⟨rfl, h0⟩ | ⟨g, cap, cur, rfl, hbg, hg, hnc, hcm, hcs, htake⟩
      · exact ⟨none, 0, by rw [h0], by omega, by unfold maxLen; omega⟩
      · exact ⟨_, cap, rfl, hnc, hcm⟩
    obtain ⟨a, c, rfl, hic, hcm⟩ := hw0
    unfold maxLen at hcm
    have HK := Lib.hid hk
    clear hown hk
    go_enter Try.func33, Try.ntmps33
    go_wp2_with (at_builtin; refine wpList_append_own _ rfl _ _ 32 rfl base 35 i0 _ 4 32 Try.underlying32 hi0 hz0 hz1 hz2 rfl (by decide) (.slice a i c) i xs rfl HOWN.out ⟨k, 0, none⟩ 1 1 news rfl (by omega) (by intro j u hj; rw [add_none]; simp [World.cell?, HK.out, hj]) h2 (by unfold maxLen; omega) (by omega) hb ?_; intro v1 w1 ho1 hg1 _)
    all_goals
      go_ret
      refine ⟨_, rfl, ho1, ?_⟩
      cases a <;> exact hg1
end Go.Proofs.Ytembgdjdljflhaa
