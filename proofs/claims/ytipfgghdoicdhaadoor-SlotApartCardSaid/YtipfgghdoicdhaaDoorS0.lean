/- Slots in memory; package slot: has, Count, Used, Key, at, sectors. -/
import Derived.Test.YtipfgghdoicdhaaDoorSPl
import Derived.Test.YtipfgghdoicdhaaDoorObj
namespace Go.Proofs.YtipfgghdoicdhaaDoor.W
open Go.RowKit
set_option linter.unusedVariables false
set_option linter.unusedSimpArgs false

def rcell (x : SRow × Value) : List Value := [.bool x.1.used, .int .i64 (x.1.n : Int), x.2]
def rcells (R : List (SRow × Value)) : List Value := R.flatMap rcell
theorem rcells_len (R : List (SRow × Value)) : (rcells R).length = R.length * 3 := by
  induction R with
  | nil => rfl
  | cons x R ih => simp [rcells, List.flatMap_cons] at *; rw [ih]; simp [rcell]; omega
theorem rcells_at : ∀ (R : List (SRow × Value)) (i j : Nat) (x : SRow × Value), R[i]? = some x → j < 3 → (rcells R)[i * 3 + j]? = (rcell x)[j]?
  | [], i, j, x, h, _ => by simp at h
  | y :: R, i, j, x, h, hj => by
    have e : rcells (y :: R) = rcell y ++ rcells R := rfl
    have hy : (rcell y).length = 3 := rfl
    rw [e]
    cases i with
    | zero =>
      simp at h; subst h
      rw [Nat.zero_mul, Nat.zero_add, List.getElem?_append_left (by omega)]
    | succ i =>
      rw [List.getElem?_append_right (by omega), hy, show (i + 1) * 3 + j - 3 = i * 3 + j by omega]
      exact rcells_at R i j x (by simpa using h) hj
theorem rcells_app (R : List (SRow × Value)) (x : SRow × Value) : rcells (R ++ [x]) = rcells R ++ rcell x := by simp [rcells]
theorem rcells_set : ∀ (R : List (SRow × Value)) (i : Nat) (x : SRow × Value), i < R.length → rcells (R.set i x) = (((rcells R).set (i * 3) (.bool x.1.used)).set (i * 3 + 1) (.int .i64 (x.1.n : Int))).set (i * 3 + 2) x.2
  | [], i, x, h => by simp at h
  | y :: R, i, x, h => by
    have e : ∀ z, rcells (z :: R) = rcell z ++ rcells R := fun _ => rfl
    cases i with
    | zero => rw [List.set_cons_zero, e, e]; rfl
    | succ i =>
      have ih := rcells_set R i x (by simpa using h)
      have e2 : rcells (y :: R.set i x) = rcell y ++ rcells (R.set i x) := rfl
      rw [List.set_cons_succ, e2, ih, e]
      have h3 : (rcell y).length = 3 := rfl
      rw [List.set_append_right _ _ (by omega), List.set_append_right _ _ (by omega), List.set_append_right _ _ (by omega), h3, show (i + 1) * 3 - 3 = i * 3 by omega, show (i + 1) * 3 + 1 - 3 = i * 3 + 1 by omega, show (i + 1) * 3 + 2 - 3 = i * 3 + 2 by omega]
def rowD (rv : Value) (R : List (SRow × Value)) : RowD := ⟨89, 3, rv, R.length, rcells R⟩

/-- Slots in block q over a disk in block p; U: the blocks that may be written. -/
structure SlotsOk (w : World) (q p : Nat) (S U : List Nat) (s : SS) (rv : Value) (R : List (SRow × Value)) : Prop where
  obj : ObjAt w q 86 #[.pointer (some ⟨p, 0, none⟩), .int .i64 (s.first : Int), rv] [rowD rv R]
  disk : DiskAt w p S s.d
  rows : R.map (·.1) = s.rows
  sep : ∀ x ∈ blks q [rowD rv R], x ∉ S
  keys : ∀ x ∈ R, BytesAt w x.2 x.1.key ∧ ∀ g, x.2.ownBlock = some g → g < w.heap.size ∧ g ∉ U
  uS : ∀ x ∈ S, x ∈ U
  uB : ∀ x ∈ blks q [rowD rv R], x ∈ U
  uL : ∀ x ∈ U, x < w.heap.size
  ok : s.Ok
def SlotsAt (w : World) (q p : Nat) (U : List Nat) (s : SS) : Prop := ∃ S rv R, SlotsOk w q p S U s rv R
theorem SlotsAt.keep {w w' : World} {q p : Nat} {U T : List Nat} {s : SS} (h : SlotsAt w q p U s) (hc : Chg T w w') (ha : ∀ x ∈ U, x ∉ T) (hk : T = [] ∨ True) (hT : ∀ x ∈ T, x ∈ U ∨ w.heap.size ≤ x ∨ ∀ S rv R, SlotsOk w q p S U s rv R → ∀ y ∈ R, y.2.ownBlock ≠ some x) : SlotsAt w' q p U s := by
  obtain ⟨S, rv, R, h⟩ := h
  refine ⟨S, rv, R, h.obj.keep hc (fun x hx => ha x (h.uB x hx)), h.disk.keep hc (fun x hx => ha x (h.uS x hx)), h.rows, h.sep, fun x hx => ?_, h.uS, h.uB, fun x hx => Nat.lt_of_lt_of_le (h.uL x hx) hc.size, h.ok⟩
  obtain ⟨h1, h2⟩ := h.keys x hx
  refine ⟨h1.chg hc (fun k hk hm => ?_), fun g hg => ⟨Nat.lt_of_lt_of_le (h2 g hg).1 hc.size, (h2 g hg).2⟩⟩
  rcases hT k hm with h3 | h3 | h3
  · exact (h2 k hk).2 h3
  · have := (h2 k hk).1; omega
  · exact h3 S rv R h x hx hk
theorem SlotsAt.keep0 {w w' : World} {q p : Nat} {U : List Nat} {s : SS} (h : SlotsAt w q p U s) (hc : Chg [] w w') : SlotsAt w' q p U s := h.keep hc (by simp) (.inl rfl) (by simp)
/-- What doing with slots leaves. -/
def Sid (w w' : World) (q p : Nat) (U : List Nat) (s : SS) : Prop := ∃ U', SlotsAt w' q p U' s ∧ (∀ x ∈ U', x ∈ U ∨ w.heap.size ≤ x) ∧ Chg U w w'
theorem Sid.same {w : World} {q p : Nat} {U : List Nat} {s : SS} (h : SlotsAt w q p U s) : Sid w w q p U s := ⟨U, h, fun x hx => .inl hx, Chg.refl _ _⟩

theorem SlotsOk.len {w : World} {q p : Nat} {S U : List Nat} {s : SS} {rv : Value} {R : List (SRow × Value)} (h : SlotsOk w q p S U s rv R) : R.length = s.rows.length := by rw [← h.rows, List.length_map]
theorem SlotsOk.few {w : World} {q p : Nat} {S U : List Nat} {s : SS} {rv : Value} {R : List (SRow × Value)} (h : SlotsOk w q p S U s rv R) : s.first + 8 * s.rows.length ≤ 4160 := by
  obtain ⟨gn, gl, cn, cl, v, hd⟩ := h.disk
  exact Nat.le_trans h.ok.room hd.few
/-- The form of the rows' value. -/
theorem SlotsOk.form {w : World} {q p : Nat} {S U : List Nat} {s : SS} {rv : Value} {R : List (SRow × Value)} (h : SlotsOk w q p S U s rv R) : ∃ a cap, rv = .slice a s.rows.length cap ∧ s.rows.length ≤ cap := by
  rw [← h.len]
  have hr : w.ownsRow 0 89 3 rv R.length (rcells R) := h.obj.rows _ (List.mem_singleton.2 rfl)
  rcases hr.2 with ⟨h1, h2⟩ | ⟨g, cap, cur, h1, _, _, h3, h4, _⟩
  · exact ⟨none, 0, by rw [h1, h2], by omega⟩
  · exact ⟨_, cap, h1, h3⟩
/-- A row that is there. -/
theorem SlotsOk.at {w : World} {q p : Nat} {S U : List Nat} {s : SS} {rv : Value} {R : List (SRow × Value)} (h : SlotsOk w q p S U s rv R) (i : Nat) (hi : i < s.rows.length) :
    ∃ g cap kv, rv = .slice (some ⟨g, 0, none⟩) s.rows.length cap ∧ s.rows.length ≤ cap ∧ cap ≤ maxLen ∧ R[i]? = some (s.rows.getD i noRow, kv) ∧ w.cell? ⟨g, i * 3, none⟩ = some (.bool (s.rows.getD i noRow).used) ∧
      w.cell? ⟨g, i * 3 + 1, none⟩ = some (.int .i64 ((s.rows.getD i noRow).n : Int)) ∧ w.cell? ⟨g, i * 3 + 2, none⟩ = some kv ∧ BytesAt w kv (s.rows.getD i noRow).key ∧ ∀ k, kv.ownBlock = some k → k < w.heap.size ∧ k ∉ U := by
  have hl := h.len
  have hr : w.ownsRow 0 89 3 rv R.length (rcells R) := h.obj.rows _ (List.mem_singleton.2 rfl)
  have hiR : i < R.length := by omega
  have hri : s.rows.getD i noRow = (R[i]).1 := by
    rw [← h.rows, List.getD_eq_getElem?_getD, List.getElem?_map, List.getElem?_eq_getElem hiR]; rfl
  rcases hr.2 with ⟨h1, h2⟩ | ⟨g, cap, cur, h1, _, _, h3, h4, _⟩
  · omega
  · subst h1
    have hcell : ∀ j, j < 3 → ∀ u, (rcell R[i])[j]? = some u → w.cell? ⟨g, i * 3 + j, none⟩ = some u := fun j hj u hu => by
      have := hr.cells (g := g) rfl (i * 3 + j) u (by rw [rcells_at R i j R[i] (List.getElem?_eq_getElem hiR) hj]; exact hu)
      rwa [add_none, Nat.zero_add] at this
    refine ⟨g, cap, (R[i]).2, by rw [hl], by omega, h4, by rw [hri]; exact List.getElem?_eq_getElem hiR, ?_, ?_, ?_, ?_⟩
    · rw [hri]; exact hcell 0 (by omega) _ rfl
    · rw [hri]; exact hcell 1 (by omega) _ rfl
    · exact hcell 2 (by omega) _ rfl
    · rw [hri]; exact h.keys _ (List.getElem_mem hiR)

set_option maxHeartbeats 2000000 in
set_option maxRecDepth 100000 in
theorem shas_any (q p : Nat) (U : List Nat) (s : SS) (i : Int) (w : World) (h : SlotsAt w q p U s) : Calls Tryd.prog 49 #[.pointer (some ⟨q, 0, none⟩), .int .i64 i] w fun e w' => e = .returned (.bool (decide (s.has i))) ∧ w = w' := by
  obtain ⟨S, rv, R, H⟩ := h
  obtain ⟨a, cap, hrv, hcap⟩ := H.form
  have c2 := blk_cell H.obj.head 2 _ rfl
  subst hrv
  have hd : decide (s.has i) = (decide (0 ≤ i) && decide (i < (s.rows.length : Int))) := by
    rw [Bool.eq_iff_iff]
    simp only [decide_eq_true_eq, Bool.and_eq_true]
    exact Iff.rfl
  have HD := Lib.hid hd
  clear H hd
  generalize s.rows.length = n at *
  by_cases h1 : 0 ≤ i
  · have d1 : decide (i ≥ 0) = true := decide_eq_true h1
    have HX : Hid (decide (s.has i) = decide (i < (n : Int))) := Lib.hid (by rw [HD.out, decide_eq_true h1, Bool.true_and])
    go_enter Tryd.func49, Tryd.ntmps49
    go_wp2
    go_ret
    exact ⟨by rw [HX.out]; rfl, rfl⟩
  · have d1 : decide (i ≥ 0) = false := decide_eq_false h1
    have HX : Hid (decide (s.has i) = false) := Lib.hid (by rw [HD.out, decide_eq_false h1, Bool.false_and])
    go_enter Tryd.func49, Tryd.ntmps49
    go_wp2
    go_ret
    exact ⟨by rw [HX.out]; rfl, rfl⟩

set_option maxHeartbeats 2000000 in
set_option maxRecDepth 100000 in
theorem scount_any (q p : Nat) (U : List Nat) (s : SS) (w : World) (h : SlotsAt w q p U s) : Calls Tryd.prog 22 #[.pointer (some ⟨q, 0, none⟩)] w fun e w' => e = .returned (.int .i64 (s.rows.length : Int)) ∧ w = w' := by
  obtain ⟨S, rv, R, H⟩ := h
  obtain ⟨a, cap, hrv, hcap⟩ := H.form
  have c2 := blk_cell H.obj.head 2 _ rfl
  subst hrv
  clear H
  go_enter Tryd.func22, Tryd.ntmps22
  go_wp2
  go_ret
  exact ⟨rfl, rfl⟩

set_option maxHeartbeats 2000000 in
set_option maxRecDepth 100000 in
theorem sat_any (q p : Nat) (U : List Nat) (s : SS) (i : Nat) (w : World) (h : SlotsAt w q p U s) (hi : i ≤ 1000) : Calls Tryd.prog 51 #[.pointer (some ⟨q, 0, none⟩), .int .i64 (i : Int)] w fun e w' => e = .returned (.int .i64 ((s.pos i : Nat) : Int)) ∧ w = w' := by
  obtain ⟨S, rv, R, H⟩ := h
  have c1 := blk_cell H.obj.head 1 _ rfl
  have hfew := H.few
  have HX : Hid ((s.first : Int) + 8 * (i : Int) = ((s.pos i : Nat) : Int)) := Lib.hid (by unfold SS.pos; simp)
  have hf : s.first ≤ 4160 := by omega
  clear H hfew
  generalize s.first = f at *
  go_enter Tryd.func51, Tryd.ntmps51
  go_wp2
  go_ret
  exact ⟨by rw [← HX.out]; rfl, rfl⟩

set_option maxHeartbeats 2000000 in
set_option maxRecDepth 100000 in
theorem ssec_any (n : Nat) (w : World) (hn : n ≤ 1000000000) : Calls Tryd.prog 56 #[.int .i64 (n : Int)] w fun e w' => e = .returned (.int .i64 ((nsec n : Nat) : Int)) ∧ w = w' := by
  have HX : Hid (((n : Int) + 64 - 1) / 64 = ((nsec n : Nat) : Int)) := Lib.hid (by unfold nsec; omega)
  go_enter Tryd.func56, Tryd.ntmps56
  go_wp2
  go_ret
  exact ⟨by rw [← HX.out]; rfl, rfl⟩
end Go.Proofs.YtipfgghdoicdhaaDoor.W
