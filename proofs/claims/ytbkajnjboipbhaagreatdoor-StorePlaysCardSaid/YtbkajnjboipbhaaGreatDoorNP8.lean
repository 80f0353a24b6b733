/- Texts laid together. -/
import Derived.Test.YtbkajnjboipbhaaGreatDoorNP7
import Derived.Test.YtbkajnjboipbhaaGreatDoorNP5
import Derived.Test.YtbkajnjboipbhaaGreatDoorNP6
import Derived.Test.YtbkajnjboipbhaaGreatDoorNP3
import Derived.Deep.MidRow
import Derived.Test.YtbkajnjboipbhaaGreatDoorNP4
import Derived.Deep.Slices
import Derived.ChangeSlices
/- The reference's List, plainly. -/
namespace Go.Proofs.YtbkajnjboipbhaaGreatDoor.W
open Go.RowKit
set_option linter.unusedVariables false
set_option linter.unusedSimpArgs false

def firstsTo (rows : List SRow) (i : Nat) : List Id := ((List.range i).filter (isFirst rows)).map (fun j => unId (rows.getD j noRow).key)
theorem firstsTo_succ (rows : List SRow) (i : Nat) : firstsTo rows (i + 1) = firstsTo rows i ++ if isFirst rows i then [unId (rows.getD i noRow).key] else [] := by
  unfold firstsTo
  rw [List.range_succ, List.filter_append, List.map_append]
  congr 1
  by_cases h : isFirst rows i = true
  · rw [if_pos h]; simp [h]
  · rw [if_neg h]; simp [h]
theorem find_first {s : SS} {i : Nat} (hi : i < s.rows.length) (hu : (s.rows.getD i noRow).used = true) : (s.find (s.rows.getD i noRow).key = (i : Int)) ↔ isFirst s.rows i = true := by
  have hr : rowIs s.rows (s.rows.getD i noRow).key i = true := by unfold rowIs; rw [hu]; simp
  rw [find_upto, mem_isFirst]
  constructor
  · intro h
    refine ⟨hu, fun k hk hh => ?_⟩
    cases hl : upto s.rows s.rows.length (s.rows.getD i noRow).key with
    | nil => rw [hl] at h; simp [headI] at h
    | cons j r =>
      rw [hl] at h
      have hji : j = i := by have h' : (j : Int) = (i : Int) := h; omega
      subst hji
      have hk2 : k ∈ upto s.rows s.rows.length (s.rows.getD j noRow).key := upto_mem.2 ⟨by omega, hh.1, hh.2⟩
      have hpw : (upto s.rows s.rows.length (s.rows.getD j noRow).key).Pairwise (· < ·) := List.pairwise_lt_range.filter _
      rw [hl] at hpw hk2
      rcases List.mem_cons.1 hk2 with h3 | h3
      · omega
      · have := (List.pairwise_cons.1 hpw).1 k h3
        omega
  · rintro ⟨_, h⟩
    obtain ⟨r, hr2⟩ := upto_first hr (fun j hj => by
      have := h j hj
      unfold rowIs
      rw [Bool.eq_false_iff]
      intro hc
      simp only [Bool.and_eq_true, decide_eq_true_eq] at hc
      exact this hc) _ hi
    rw [hr2]; rfl
/-- What is known of the list so far. -/
structure Sorted (rows : List SRow) (i : Nat) (L : List Id) : Prop where
  rise : L.Pairwise idLt
  mem : ∀ x, x ∈ L ↔ x ∈ firstsTo rows i
  len : L.length ≤ i
theorem Sorted.zero (rows : List SRow) : Sorted rows 0 [] := ⟨List.Pairwise.nil, fun x => by simp [firstsTo], Nat.le_refl _⟩
theorem Sorted.skip {rows : List SRow} {i : Nat} {L : List Id} (h : Sorted rows i L) (hf : isFirst rows i = false) : Sorted rows (i + 1) L :=
  ⟨h.rise, fun x => by rw [firstsTo_succ, hf, h.mem]; simp, by have := h.len; omega⟩
theorem Sorted.fresh {rows : List SRow} (hk : keysOk rows) {i : Nat} (hi : i < rows.length) {L : List Id} (h : Sorted rows i L) (hf : isFirst rows i = true) : unId (rows.getD i noRow).key ∉ L := by
  intro hm
  have := (h.mem _).1 hm
  unfold firstsTo at this
  obtain ⟨j, hj, he⟩ := List.mem_map.1 this
  obtain ⟨h1, h2⟩ := List.mem_filter.1 hj
  have hji := List.mem_range.1 h1
  obtain ⟨hju, _⟩ := mem_isFirst.1 h2
  obtain ⟨hiu, hi3⟩ := mem_isFirst.1 hf
  have e1 := (un_back (hk _ (row_mem (show j < rows.length by omega)) hju)).2
  have e2 := (un_back (hk _ (row_mem hi) hiu)).2
  exact hi3 j hji ⟨hju, by rw [e1, e2, he]⟩
theorem Sorted.put {rows : List SRow} (hk : keysOk rows) {i : Nat} (hi : i < rows.length) {L : List Id} (h : Sorted rows i L) (hf : isFirst rows i = true) {k : Nat} (hkL : k ≤ L.length) (hgt : ∀ x ∈ L.drop k, idLt (unId (rows.getD i noRow).key) x)
    (hlt : ∀ x, 0 < k → L[k - 1]? = some x → ¬ idLt (unId (rows.getD i noRow).key) x) : Sorted rows (i + 1) (L.take k ++ unId (rows.getD i noRow).key :: L.drop k) := by
  have hfr := h.fresh hk hi hf
  obtain ⟨y, hy⟩ : ∃ y, y = unId (rows.getD i noRow).key := ⟨_, rfl⟩
  rw [← hy] at hgt hlt hfr ⊢
  have hsplit : L = L.take k ++ L.drop k := (List.take_append_drop k L).symm
  have hpw := h.rise
  have hlow : ∀ x ∈ L.take k, idLt x y := fun x hx => by
    have hxL : x ∈ L := List.mem_of_mem_take hx
    have hk0 : 0 < k := by
      rcases Nat.eq_zero_or_pos k with h0 | h0
      · rw [h0] at hx; simp at hx
      · exact h0
    obtain ⟨z, hz⟩ : ∃ z, L[k - 1]? = some z := ⟨_, List.getElem?_eq_getElem (by omega)⟩
    have h1 := hlt z hk0 hz
    have hzL : z ∈ L := List.mem_of_getElem? hz
    have hzy : idLt z y := by
      rcases idLt_or y z with h2 | h2 | h2
      · exact absurd h2 h1
      · rw [h2] at hfr; exact absurd hzL hfr
      · exact h2
    obtain ⟨j, hj, rfl⟩ := List.mem_iff_getElem.1 hx
    rw [List.length_take] at hj
    rw [List.getElem_take]
    by_cases hjk : j = k - 1
    · subst hjk
      have : L[k - 1] = z := by rw [List.getElem?_eq_getElem (by omega)] at hz; exact Option.some.inj hz
      rw [this]; exact hzy
    · have hlt2 := (List.pairwise_iff_getElem.1 hpw) j (k - 1) (by omega) (by omega) (by omega)
      have : L[k - 1] = z := by rw [List.getElem?_eq_getElem (by omega)] at hz; exact Option.some.inj hz
      rw [this] at hlt2
      exact idLt_trans hlt2 hzy
  refine ⟨?_, fun x => ?_, ?_⟩
  · rw [List.pairwise_append]
    rw [hsplit, List.pairwise_append] at hpw
    refine ⟨hpw.1, List.pairwise_cons.2 ⟨hgt, hpw.2.1⟩, fun a ha b hb => ?_⟩
    rcases List.mem_cons.1 hb with rfl | hb
    · exact hlow a ha
    · exact hpw.2.2 a ha b hb
  · rw [firstsTo_succ, if_pos hf, ← hy, List.mem_append, List.mem_append, ← h.mem]
    constructor
    · rintro (hx | hx)
      · exact .inl (List.mem_of_mem_take hx)
      · rcases List.mem_cons.1 hx with rfl | hx
        · exact .inr (by simp)
        · exact .inl (List.mem_of_mem_drop hx)
    · rintro (hx | hx)
      · rw [hsplit] at hx
        rcases List.mem_append.1 hx with hx | hx
        · exact .inl hx
        · exact .inr (List.mem_cons_of_mem _ hx)
      · rw [List.mem_singleton.1 hx]
        exact .inr (by simp)
  · have := h.len
    simp only [List.length_append, List.length_take, List.length_cons, List.length_drop]
    omega
theorem Sorted.done {t : Sto} (hk : keysOk t.s.rows) {L : List Id} (h : Sorted t.s.rows t.s.rows.length L) : L = t.ids := by
  have hn : L.Nodup := h.rise.imp (fun hab e => by rw [e] at hab; exact idLt_irrefl _ hab)
  have h1 : L.mergeSort leI = L := List.mergeSort_of_pairwise (h.rise.imp (fun hab => (leI_iff _ _).2 (.inl hab)))
  rw [← h1]
  exact sortedI_eq hn (firsts_nodup hk) (fun x => h.mem x)
/-! ### A row of ids that is set -/
theorem ids_set : ∀ (R : List Id) (i : Nat) (x : Id), i < R.length → (R.set i x).flatMap idE = ((((R.flatMap idE).set (i * 4) (.int .i64 x.c)).set (i * 4 + 1) (.int .i64 x.l)).set (i * 4 + 2) (.int .i64 x.n)).set (i * 4 + 3) (.int .i64 x.i)
  | [], i, x, h => by simp at h
  | r :: R, 0, x, h => by simp [idE]
  | r :: R, i + 1, x, h => by
    rw [List.set_cons_succ, List.flatMap_cons, List.flatMap_cons, ids_set R i x (by simpa using h)]
    have e : ∀ (a b c d : Value) (M : List Value) (k : Nat) (v : Value), (a :: b :: c :: d :: M).set (k + 4) v = a :: b :: c :: d :: M.set k v := fun a b c d M k v => rfl
    simp only [idE, List.cons_append, List.nil_append]
    rw [show (i + 1) * 4 = i * 4 + 4 by omega, show i * 4 + 4 + 1 = i * 4 + 1 + 4 by omega, show i * 4 + 4 + 2 = i * 4 + 2 + 4 by omega, show i * 4 + 4 + 3 = i * 4 + 3 + 4 by omega, e, e, e, e]
theorem row_setId {w : World} {base g cap : Nat} {l : List Id} (h : w.ownsRow base 25 4 (.slice (some ⟨g, 0, none⟩) l.length cap) l.length (l.flatMap idE)) (k : Nat) (hk : k < l.length) (x : Id) :
    (w.setCells g (k * 4) [.int .i64 x.c, .int .i64 x.l, .int .i64 x.n, .int .i64 x.i]).ownsRow base 25 4 (.slice (some ⟨g, 0, none⟩) (l.set k x).length cap) (l.set k x).length ((l.set k x).flatMap idE) := by
  rw [List.length_set, ids_set l k x hk]
  exact row_set (row_set (row_set (row_set h (k * 4) _ (by omega)) (k * 4 + 1) _ (by omega)) (k * 4 + 2) _ (by omega)) (k * 4 + 3) _ (by omega)
theorem row_thereId {w : World} {base g cap n : Nat} {xs : List Value} (h : w.ownsRow base 25 4 (.slice (some ⟨g, 0, none⟩) n cap) n xs) (k : Nat) (hk : k < n) : w.there g (k * 4) 4 := by
  rcases h.2 with ⟨h1, h2⟩ | ⟨g', cap', cur, h1, _, hb, h3, h4, h5, _⟩
  · omega
  · obtain ⟨rfl, -, rfl⟩ : g = g' ∧ True ∧ cap = cap' := by simpa using h1
    intro j hj
    have hlt : k * 4 + j < cur.size := by
      have : (k + 1) * 4 ≤ cap * 4 := Nat.mul_le_mul_right _ (by omega)
      omega
    exact ⟨by rw [blk_cell hb _ _ (Array.getElem?_eq_getElem hlt)]; rfl, blk_frozen hb _⟩
/-- The hole moves down. -/
theorem hole_down (L : List Id) (k : Nat) (g y : Id) (hy : L[k]? = some y) : (L.take (k + 1) ++ g :: L.drop (k + 1)).set (k + 1) y = L.take k ++ y :: L.drop k ∧ (L.take (k + 1) ++ g :: L.drop (k + 1))[k]? = some y := by
  have hk : k < L.length := (List.getElem?_eq_some_iff.1 hy).1
  have hlen : (L.take (k + 1)).length = k + 1 := by rw [List.length_take]; omega
  have hyk : L[k] = y := by rw [List.getElem?_eq_getElem hk] at hy; exact Option.some.inj hy
  constructor
  · rw [List.set_append_right _ _ (by omega), hlen, Nat.sub_self, List.set_cons_zero, List.take_succ_eq_append_getElem hk, hyk, List.append_assoc]
    congr 1
    rw [List.drop_eq_getElem_cons hk, hyk]
    simp
  · rw [List.getElem?_append_left (by omega), List.getElem?_take_of_lt (by omega)]
    exact hy
theorem hole_at (L : List Id) (k : Nat) (g : Id) (hk : k ≤ L.length) : (L.take k ++ g :: L.drop k)[k]? = some g := by
  have hlen : (L.take k).length = k := by rw [List.length_take]; omega
  rw [List.getElem?_append_right (by omega), hlen, Nat.sub_self]
  rfl
theorem hole_put (L : List Id) (k : Nat) (g y : Id) (hk : k ≤ L.length) : (L.take k ++ g :: L.drop k).set k y = L.take k ++ y :: L.drop k := by
  have hlen : (L.take k).length = k := by rw [List.length_take]; omega
  rw [List.set_append_right _ _ (by omega), hlen, Nat.sub_self, List.set_cons_zero]
end Go.Proofs.YtbkajnjboipbhaaGreatDoor.W

/- StoreOrder: ids that came in; Less; plainly. -/
namespace Go.Proofs.YtbkajnjboipbhaaGreatDoor.W
open Go.RowKit Go.ChangeShapes Go.WideShapes
set_option linter.unusedVariables false
set_option linter.unusedSimpArgs false

/-- Ids that came in. -/
def IdsIn (w : World) (a : Option Addr) (n : Nat) (f : Nat → Id) : Prop :=
  n = 0 ∨ ∃ g o, a = some ⟨g, o, none⟩ ∧ ∀ i, i < n → okD (f i) ∧ w.cell? ⟨g, o + i * 4, none⟩ = some (.int .i64 (f i).c) ∧ w.cell? ⟨g, o + i * 4 + 1, none⟩ = some (.int .i64 (f i).l) ∧ w.cell? ⟨g, o + i * 4 + 2, none⟩ = some (.int .i64 (f i).n) ∧ w.cell? ⟨g, o + i * 4 + 3, none⟩ = some (.int .i64 (f i).i)
theorem IdsIn.keep {w w' : World} {a : Option Addr} {n : Nat} {f : Nat → Id} (h : IdsIn w a n f) (hc : Chg [] w w') : IdsIn w' a n f := by
  rcases h with h | ⟨g, o, rfl, h⟩
  · exact .inl h
  · refine .inr ⟨g, o, rfl, fun i hi => ?_⟩
    obtain ⟨h1, h2, h3, h4, h5⟩ := h i hi
    exact ⟨h1, hc.cell h2 (by simp), hc.cell h3 (by simp), hc.cell h4 (by simp), hc.cell h5 (by simp)⟩
section
variable {H : Type} {enc : TypeId × Value → H} {w : World} {base : Nat} {held : Bool}
end
theorem lt_cases (a b : Id) : decide (idLt a b) = if a.c ≠ b.c then decide (a.c < b.c) else if a.l ≠ b.l then decide (a.l < b.l) else if a.n ≠ b.n then decide (a.n < b.n) else decide (a.i < b.i) := by
  by_cases h1 : a.c = b.c
  · rw [if_neg (by simpa using h1)]
    by_cases h2 : a.l = b.l
    · rw [if_neg (by simpa using h2)]
      by_cases h3 : a.n = b.n
      · rw [if_neg (by simpa using h3)]
        rw [Bool.eq_iff_iff, decide_eq_true_eq, decide_eq_true_eq]; unfold idLt; exact ⟨fun h => by omega, fun h => by omega⟩
      · rw [if_pos h3, Bool.eq_iff_iff, decide_eq_true_eq, decide_eq_true_eq]; unfold idLt; exact ⟨fun h => by omega, fun h => by omega⟩
    · rw [if_pos h2, Bool.eq_iff_iff, decide_eq_true_eq, decide_eq_true_eq]; unfold idLt; exact ⟨fun h => by omega, fun h => by omega⟩
  · rw [if_pos h1, Bool.eq_iff_iff, decide_eq_true_eq, decide_eq_true_eq]; unfold idLt; exact ⟨fun h => by omega, fun h => by omega⟩
set_option maxHeartbeats 4000000 in
set_option maxRecDepth 100000 in
theorem rless_any (a b : Id) (w : World) : Calls Tryz.prog 21 #[idV a, idV b] w fun e w' => e = .returned (.bool (decide (idLt a b))) ∧ Chg [] w w' := by
  rw [lt_cases]
  obtain ⟨ac, al, an, ai⟩ := a
  obtain ⟨bc, bl, bn, bi⟩ := b
  dsimp only
  by_cases h1 : ac = bc
  · subst h1
    rw [if_neg (by simp)]
    by_cases h2 : al = bl
    · subst h2
      rw [if_neg (by simp)]
      by_cases h3 : an = bn
      · subst h3
        rw [if_neg (by simp)]
        go_enter Tryz.func21, Tryz.ntmps21
        go_wp2
        go_ret
        exact ⟨rfl, ((Chg.refl [] w).alloc _).alloc _⟩
      · rw [if_pos h3]
        have q : (an != bn) = true := by simp [h3]
        go_enter Tryz.func21, Tryz.ntmps21
        go_wp2
        go_ret
        exact ⟨rfl, ((Chg.refl [] w).alloc _).alloc _⟩
    · rw [if_pos h2]
      have q : (al != bl) = true := by simp [h2]
      go_enter Tryz.func21, Tryz.ntmps21
      go_wp2
      go_ret
      exact ⟨rfl, ((Chg.refl [] w).alloc _).alloc _⟩
  · rw [if_pos h1]
    have q : (ac != bc) = true := by simp [h1]
    go_enter Tryz.func21, Tryz.ntmps21
    go_wp2
    go_ret
    exact ⟨rfl, ((Chg.refl [] w).alloc _).alloc _⟩

/-! ### Plainly -/
structure Ord (t : Sto) (F : Frag) (f : Nat → Id) (j : Nat) : Prop where
  kept : Kept t F
  one : ∀ x b, F x = some b → b = [1]
  has : ∀ i, i < j → mayId (f i) = true → F (f i) = some [1]
  room : 12 ≤ t.room + j
  small : t.s.d.ops ≤ 97 + 20 * j ∧ t.s.d.since.length = 0
theorem Ord.step {t : Sto} {F : Frag} {f : Nat → Id} {j : Nat} (h : Ord t F f j) (hj : j < 12) : ∃ F', Ord (t.put (f j) [1]).2 F' f (j + 1) := by
  obtain ⟨o1, o2, _⟩ := t.put_ok (f j) [1]
  have hsm := h.small
  cases hm : mayId (f j) with
  | false =>
    obtain ⟨_, h2⟩ := h.kept.put_bad (b := [1]) (.inl hm)
    refine ⟨F, ?_⟩
    rw [h2]
    refine ⟨h.kept, h.one, fun i hi hmi => ?_, by have := h.room; omega, by omega, hsm.2⟩
    rcases Nat.lt_or_ge i j with h3 | h3
    · exact h.has i h3 hmi
    · obtain rfl : i = j := by omega
      rw [hm] at hmi; cases hmi
  | true =>
    cases hF : F (f j) with
    | some b =>
      have hb := h.one _ _ hF
      have h2 := h.kept.put_there hF [1] (by simp)
      refine ⟨F, ?_⟩
      rw [h2]
      refine ⟨h.kept, h.one, fun i hi hmi => ?_, by have := h.room; show 12 ≤ t.room + (j + 1); omega, by show t.s.d.ops ≤ _; omega, hsm.2⟩
      rcases Nat.lt_or_ge i j with h3 | h3
      · exact h.has i h3 hmi
      · obtain rfl : i = j := by omega
        rw [hF, hb]
    | none =>
      have hr := h.room
      obtain ⟨p1, p2, p3⟩ := h.kept.put_new hm hF (b := [1]) (by simp) (by omega)
      refine ⟨_, p2, fun x b hx => ?_, fun i hi hmi => ?_, by omega, by omega, by rw [p2.since]; rfl⟩
      · unfold setF at hx
        split at hx
        · exact (Option.some.inj hx).symm
        · exact h.one _ _ hx
      · by_cases e : f i = f j
        · rw [e, setF_self]
        · rw [setF_other _ _ e]
          rcases Nat.lt_or_ge i j with h3 | h3
          · exact h.has i h3 hmi
          · obtain rfl : i = j := by omega
            exact absurd rfl e
theorem Ord.new : ∃ t d, (DS.new 97).format = ((0, some t), d) ∧ ∀ f, Ord t (fun _ => none) f 0 := by
  obtain ⟨t, d, h1, h2, h3, h4, h5, h6, _⟩ := Kept.new 97 (by omega)
  refine ⟨t, d, h1, fun f => ⟨h2, fun x b h => (by cases h), fun i hi => (by omega), ?_, by rw [h3]; omega, by rw [h2.since]; rfl⟩⟩
  unfold Sto.room
  rw [h4]
  decide
end Go.Proofs.YtbkajnjboipbhaaGreatDoor.W

/- The reference's List. -/
namespace Go.Proofs.YtbkajnjboipbhaaGreatDoor.W
open Go.RowKit Go.Sort
set_option linter.unusedVariables false
set_option linter.unusedSimpArgs false

theorem wpList_app1L {P : Program} {w : World} {ops : Array Oper} {rest : List Oper} {o : Oper} {a : Act} {Q : Exit → Act → World → Prop} (hgd : o.guard = none) (s x : Operand) (t : TypeId)
    (ho : o.op = .call { callee := .builtin .append, args := #[s, x], argTypes := #[t, t] })
    (base : Nat) {e : TypeId} {z : Value} {size bytes : Nat} (hE : El P t e z size bytes)
    (v : Value) (n : Nat) (xs : List Value) (hs : a.eval s = v) (hown : w.ownsRow base e size v n xs)
    (c : Nat) (news : Array Value) (hx : a.eval x = .slice (some ⟨w.heap.size, 0, none⟩) 1 c) (hl : news.size = size) (h1 : ∀ u ∈ news.toList, u.oneCell' = true)
    (h63 : n + 1 ≤ maxLen) (hbytes : (n + 1) * bytes ≤ 140737488355328) (hbase : base ≤ w.heap.size)
    (h : ∀ g cap w', w'.ownsRow base e size (.slice (some ⟨g, 0, none⟩) (n + 1) cap) (n + 1) (xs ++ news.toList) → w.grownBy w' v.ownBlock → (v.ownBlock = some g ∨ g = w.heap.size + 1) → wpList P ops Q rest (a.put o.dst (.slice (some ⟨g, 0, none⟩) (n + 1) cap)) w') : wpList P ops Q (o :: rest) a (w.alloc (.cells news e)) := by
  obtain ⟨ht, ⟨i, hi, hz, hsize, hby⟩, hzs, hsz⟩ := hE
  refine wpList_append_lies _ hgd s x t ho base e i z size bytes ht hi hz hsize hby hzs hsz v n xs hs (hown.alloc _) ⟨w.heap.size, 0, none⟩ 1 c news.toList hx (by simpa using hl) (World.news_of_block (heap_alloc_new w _)) h1 (by omega) h63 hbytes (by simp; omega) (w.heap.size + 1) (by simp) ?_
  intro g cap w' h2 h3 h4 _
  exact h g cap w' h2 (grownBy_trans (World.grownBy_alloc w _ _) h3) h4

set_option maxHeartbeats 16000000 in
set_option maxRecDepth 100000 in
theorem rstlist_any (q m : Nat) (U B : List Nat) (t : Sto) (w : World) (h : RStAt w q m U B t) : Calls Tryz.prog 78 #[.pointer (some ⟨q, 0, none⟩)] w (ListPost w t.ids) := by
  obtain ⟨sp, W, A, h, rfl, rfl⟩ := h
  obtain ⟨a, cap, hlk⟩ := h.slots.look
  have hfew := hlk.few
  have hbig := hlk.big
  have HOK := Lib.hid h
  have HLK := Lib.hid hlk
  have HKO := Lib.hid h.ok
  have HID : Hid (∀ L, Sorted t.s.rows t.s.rows.length L → L = t.ids) := Lib.hid (fun L hL => hL.done h.ok)
  generalize t.ids = LL at *
  obtain ⟨M, hM⟩ : ∃ M, M = t.s.rows.length := ⟨_, rfl⟩
  rw [← hM] at hfew hbig
  have HM := Lib.hid hM
  clear h hlk hM
  go_enter Tryz.func78, Tryz.ntmps78
  go_wp2
  go_loopg [3, 4] M (fun g' s3 s4 wr => ∃ (i : Nat) (L : List Id) (v : Value), v = s3 ∧ s4 = .int .i64 (i : Int) ∧ i ≤ M ∧ M ≤ i + g' ∧ L.length ≤ i ∧ Hid (wr.ownsRow w.heap.size 25 4 v L.length (L.flatMap idE) ∧ Chg [] w wr ∧ Sorted t.s.rows i L))
  case atStart => exact ⟨0, [], _, rfl, rfl, by omega, by omega, by simp, Lib.hid ⟨World.ownsRow_nil _ _ _ _, Chg.refl _ _, Sorted.zero _⟩⟩
  case round =>
    obtain ⟨i, L, v3, rfl, rfl, hi, hig, hLi, HJ⟩ := hrel
    have HOr := Lib.hid (HOK.out.keep HJ.out.2.1 (by simp))
    have HLr := Lib.hid (HLK.out.keep (m := m) (W := W) (A := A) HJ.out.2.1)
    obtain ⟨_, c1, _⟩ := HOr.out.cells
    have c2 := HLr.out.c2
    rw [← HM.out] at c2
    by_cases hlt : i < M
    · have hl2 : i < t.s.rows.length := by rw [← HM.out]; exact hlt
      obtain ⟨g, kv, rfl, r0, r1, hkb, hkl⟩ := HLr.out.row i hl2
      have hiz : (i : Int) < (M : Int) := by omega
      have hiz1 : (i : Int).toNat = i := by omega
      obtain ⟨u, hu⟩ : ∃ u, u = (t.s.rows.getD i noRow).used := ⟨_, rfl⟩
      rw [← hu] at r0
      have HU := Lib.hid hu
      cases u with
      | false =>
        have HF : Hid (isFirst t.s.rows i = false) := Lib.hid (by unfold isFirst; rw [← HU.out, Bool.false_and])
        clear hkb hkl r1 hu
        go_wp2_with fail
        go_quiet (fail)
        have HN := Lib.hid (And.intro (row_keep HJ.out.1 (w' := wr.drewN nq) (fun gq hq => rfl)) (And.intro (HJ.out.2.1.drewN nq) (HJ.out.2.2.skip HF.out)))
        go_wp2
        go_roundg (gk - 1)
        case measure => omega
        case rel => exact ⟨i + 1, L, _, rfl, by go_num, by omega, by omega, by omega, HN⟩
      | true =>
        have HFF := Lib.hid (find_first (s := t.s) hl2 hu.symm)
        have CF := Lib.hid (rfind_any sp m W A t.s kv _ wr.drew (HOr.out.slots.keep ((Chg.refl [] wr).drew) (by simp)) (hkb.chg ((Chg.refl [] wr).drew) (by simp)) (by omega))
        obtain ⟨key, hkey⟩ : ∃ key, key = (t.s.rows.getD i noRow).key := ⟨_, rfl⟩
        rw [← hkey] at CF hkb hkl HFF
        have HKEY := Lib.hid hkey
        obtain ⟨fd, hfd⟩ : ∃ fd, fd = t.s.find key := ⟨_, rfl⟩
        rw [← hfd] at CF HFF
        have HKB := Lib.hid (And.intro hkb hkl)
        clear hu hkb hkl hkey hfd
        go_wp2_with fail
        refine wp_region_L [(28, fun w' => w'.cell? ⟨q, 1, none⟩ = some (.pointer (some ⟨sp, 0, none⟩))), (28, fun w' => w'.cell? ⟨sp, 2, none⟩ = some (.slice (some ⟨g, 0, none⟩) M cap)), (28, fun w' => w'.cell? ⟨g, i * 3, none⟩ = some (.bool true)), (28, fun w' => w'.cell? ⟨g, i * 3 + 1, none⟩ = some kv)] (by kernel_rfl) ?_ (fun hHeld => ?_)
        · exact (HoldC.cons (c1) (HoldC.cons (c2) (HoldC.cons (r0) (HoldC.cons (r1) HoldC.nil))))
        refine wpAnyL_take (i := 0) (oi := _) (v := ?_) rfl (by kernel_rfl) (by kernel_rfl) (by kernel_rfl) (by kernel_rfl) (by kernel_rfl) (fun _ _ _ h => h) (Or.inl ⟨by rfl, ?_⟩) (by assumption) (fun hNew => ?_)
        rotate_left
        · intro w _
          go_simp
          try with_reducible rfl
        clear hHeld
        have hHeld := hNew
        clear hNew
        try simp only [List.getElem_toArray, List.getElem_cons_succ, List.getElem_cons_zero, Act.put, List.setIfInBounds_toArray, List.set_cons_zero, List.set_cons_succ]
        refine wpAnyL_take (i := 1) (oi := _) (v := ?_) rfl (by kernel_rfl) (by kernel_rfl) (by kernel_rfl) (by kernel_rfl) (by kernel_rfl) (fun _ _ _ h => h) (Or.inl ⟨by rfl, ?_⟩) (by assumption) (fun hNew => ?_)
        rotate_left
        · intro w _
          go_simp
          try with_reducible rfl
        clear hHeld
        have hHeld := hNew
        clear hNew
        try simp only [List.getElem_toArray, List.getElem_cons_succ, List.getElem_cons_zero, Act.put, List.setIfInBounds_toArray, List.set_cons_zero, List.set_cons_succ]
        refine wpAnyL_take (i := 2) (oi := _) (v := ?_) rfl (by kernel_rfl) (by kernel_rfl) (by kernel_rfl) (by kernel_rfl) (by kernel_rfl) (fun _ _ _ h => h) (Or.inl ⟨by rfl, ?_⟩) (by assumption) (fun hNew => ?_)
        rotate_left
        · intro w _
          go_simp
          try with_reducible rfl
        clear hHeld
        have hHeld := hNew
        clear hNew
        try simp only [List.getElem_toArray, List.getElem_cons_succ, List.getElem_cons_zero, Act.put, List.setIfInBounds_toArray, List.set_cons_zero, List.set_cons_succ]
        refine wpAnyL_loadP 0 [12, 11, 10, 9, 8, 6, 5, 4] (i := 3) (oi := _) (v := ?_) rfl rfl (by kernel_rfl) (by kernel_rfl) (by kernel_rfl) (by kernel_rfl) (by kernel_rfl) (by kernel_rfl) (fun _ _ _ h => h) (Or.inl ⟨by rfl, ?_⟩) (by assumption) (fun hNew => ?_)
        rotate_left
        · intro w hSw
          (try dsimp only at hSw)
          go_simp
          try with_reducible rfl
        clear hHeld
        have hHeld := hNew
        clear hNew
        try simp only [List.getElem_toArray, List.getElem_cons_succ, List.getElem_cons_zero, Act.put, List.setIfInBounds_toArray, List.set_cons_zero, List.set_cons_succ]
        refine wpAnyL_take (i := 4) (oi := _) (v := ?_) rfl (by kernel_rfl) (by kernel_rfl) (by kernel_rfl) (by kernel_rfl) (by kernel_rfl) (fun _ _ _ h => h) (Or.inl ⟨by rfl, ?_⟩) (by assumption) (fun hNew => ?_)
        rotate_left
        · intro w _
          go_simp
          try with_reducible rfl
        clear hHeld
        have hHeld := hNew
        clear hNew
        try simp only [List.getElem_toArray, List.getElem_cons_succ, List.getElem_cons_zero, Act.put, List.setIfInBounds_toArray, List.set_cons_zero, List.set_cons_succ]
        refine wpAnyL_take (i := 5) (oi := _) (v := ?_) rfl (by kernel_rfl) (by kernel_rfl) (by kernel_rfl) (by kernel_rfl) (by kernel_rfl) (fun _ _ _ h => h) (Or.inl ⟨by rfl, ?_⟩) (by assumption) (fun hNew => ?_)
        rotate_left
        · intro w _
          go_simp
          try with_reducible rfl
        clear hHeld
        have hHeld := hNew
        clear hNew
        try simp only [List.getElem_toArray, List.getElem_cons_succ, List.getElem_cons_zero, Act.put, List.setIfInBounds_toArray, List.set_cons_zero, List.set_cons_succ]
        refine wpAnyL_loadP 1 [12, 11, 10, 9, 8] (i := 6) (oi := _) (v := ?_) rfl rfl (by kernel_rfl) (by kernel_rfl) (by kernel_rfl) (by kernel_rfl) (by kernel_rfl) (by kernel_rfl) (fun _ _ _ h => h) (Or.inl ⟨by rfl, ?_⟩) (by assumption) (fun hNew => ?_)
        rotate_left
        · intro w hSw
          (try dsimp only at hSw)
          go_simp
          try with_reducible rfl
        clear hHeld
        have hHeld := hNew
        clear hNew
        try simp only [List.getElem_toArray, List.getElem_cons_succ, List.getElem_cons_zero, Act.put, List.setIfInBounds_toArray, List.set_cons_zero, List.set_cons_succ]
        refine wpAnyL_take (i := 7) (oi := _) (v := ?_) rfl (by kernel_rfl) (by kernel_rfl) (by kernel_rfl) (by kernel_rfl) (by kernel_rfl) (fun _ _ _ h => h) (Or.inl ⟨by rfl, ?_⟩) (by assumption) (fun hNew => ?_)
        rotate_left
        · intro w _
          go_simp
          try with_reducible rfl
        clear hHeld
        have hHeld := hNew
        clear hNew
        try simp only [List.getElem_toArray, List.getElem_cons_succ, List.getElem_cons_zero, Act.put, List.setIfInBounds_toArray, List.set_cons_zero, List.set_cons_succ]
        refine wpAnyL_take (i := 8) (oi := _) (v := ?_) rfl (by kernel_rfl) (by kernel_rfl) (by kernel_rfl) (by kernel_rfl) (by kernel_rfl) (fun _ _ _ h => h) (Or.inl ⟨by rfl, ?_⟩) (by assumption) (fun hNew => ?_)
        rotate_left
        · intro w _
          go_simp
          try with_reducible rfl
        clear hHeld
        have hHeld := hNew
        clear hNew
        try simp only [List.getElem_toArray, List.getElem_cons_succ, List.getElem_cons_zero, Act.put, List.setIfInBounds_toArray, List.set_cons_zero, List.set_cons_succ]
        refine wpAnyL_take (i := 9) (oi := _) (v := ?_) rfl (by kernel_rfl) (by kernel_rfl) (by kernel_rfl) (by kernel_rfl) (by kernel_rfl) (fun _ _ _ h => h) (Or.inl ⟨by rfl, ?_⟩) (by assumption) (fun hNew => ?_)
        rotate_left
        · intro w _
          go_simp
          try with_reducible rfl
        clear hHeld
        have hHeld := hNew
        clear hNew
        try simp only [List.getElem_toArray, List.getElem_cons_succ, List.getElem_cons_zero, Act.put, List.setIfInBounds_toArray, List.set_cons_zero, List.set_cons_succ]
        refine wpAnyL_loadP 2 [12, 11] (i := 10) (oi := _) (v := ?_) rfl rfl (by kernel_rfl) (by kernel_rfl) (by kernel_rfl) (by kernel_rfl) (by kernel_rfl) (by kernel_rfl) (fun _ _ _ h => h) (Or.inl ⟨by rfl, ?_⟩) (by assumption) (fun hNew => ?_)
        rotate_left
        · intro w hSw
          (try dsimp only at hSw)
          go_simp
          try with_reducible rfl
        clear hHeld
        have hHeld := hNew
        clear hNew
        try simp only [List.getElem_toArray, List.getElem_cons_succ, List.getElem_cons_zero, Act.put, List.setIfInBounds_toArray, List.set_cons_zero, List.set_cons_succ]
        refine wpAnyL_take (i := 11) (oi := _) (v := ?_) rfl (by kernel_rfl) (by kernel_rfl) (by kernel_rfl) (by kernel_rfl) (by kernel_rfl) (fun _ _ _ h => h) (Or.inl ⟨by rfl, ?_⟩) (by assumption) (fun hNew => ?_)
        rotate_left
        · intro w _
          go_simp
          try with_reducible rfl
        clear hHeld
        have hHeld := hNew
        clear hNew
        try simp only [List.getElem_toArray, List.getElem_cons_succ, List.getElem_cons_zero, Act.put, List.setIfInBounds_toArray, List.set_cons_zero, List.set_cons_succ]
        refine wpAnyL_take (i := 12) (oi := _) (v := ?_) rfl (by kernel_rfl) (by kernel_rfl) (by kernel_rfl) (by kernel_rfl) (by kernel_rfl) (fun _ _ _ h => h) (Or.inl ⟨by rfl, ?_⟩) (by assumption) (fun hNew => ?_)
        rotate_left
        · intro w _
          go_simp
          try with_reducible rfl
        clear hHeld
        have hHeld := hNew
        clear hNew
        try simp only [List.getElem_toArray, List.getElem_cons_succ, List.getElem_cons_zero, Act.put, List.setIfInBounds_toArray, List.set_cons_zero, List.set_cons_succ]
        refine wpAnyL_take (i := 13) (oi := _) (v := ?_) rfl (by kernel_rfl) (by kernel_rfl) (by kernel_rfl) (by kernel_rfl) (by kernel_rfl) (fun _ _ _ h => h) (Or.inl ⟨by rfl, ?_⟩) (by assumption) (fun hNew => ?_)
        rotate_left
        · intro w _
          go_simp
          try with_reducible rfl
        clear hHeld
        have hHeld := hNew
        clear hNew
        try simp only [List.getElem_toArray, List.getElem_cons_succ, List.getElem_cons_zero, Act.put, List.setIfInBounds_toArray, List.set_cons_zero, List.set_cons_succ]
        refine wpAnyL_take (i := 14) (oi := _) (v := ?_) rfl (by kernel_rfl) (by kernel_rfl) (by kernel_rfl) (by kernel_rfl) (by kernel_rfl) (fun _ _ _ h => h) (Or.inl ⟨by rfl, ?_⟩) (by assumption) (fun hNew => ?_)
        rotate_left
        · intro w _
          go_simp
          try with_reducible rfl
        clear hHeld
        have hHeld := hNew
        clear hNew
        try simp only [List.getElem_toArray, List.getElem_cons_succ, List.getElem_cons_zero, Act.put, List.setIfInBounds_toArray, List.set_cons_zero, List.set_cons_succ]
        refine wpAnyL_take (i := 15) (oi := _) (v := ?_) rfl (by kernel_rfl) (by kernel_rfl) (by kernel_rfl) (by kernel_rfl) (by kernel_rfl) (fun _ _ _ h => h) (Or.inl ⟨by rfl, ?_⟩) (by assumption) (fun hNew => ?_)
        rotate_left
        · intro w _
          go_simp
          try with_reducible rfl
        clear hHeld
        have hHeld := hNew
        clear hNew
        try simp only [List.getElem_toArray, List.getElem_cons_succ, List.getElem_cons_zero, Act.put, List.setIfInBounds_toArray, List.set_cons_zero, List.set_cons_succ]
        refine wpAnyL_load 0 (i := 16) (oi := _) (v := ?_) rfl rfl (by kernel_rfl) (by kernel_rfl) (by kernel_rfl) (by kernel_rfl) (by kernel_rfl) (by kernel_rfl) (fun _ _ _ h => h) (Or.inl ⟨by rfl, ?_⟩) (by assumption) (fun hNew => ?_)
        rotate_left
        · intro w hSw
          (try dsimp only at hSw)
          go_simp
          try with_reducible rfl
        clear hHeld
        have hHeld := hNew
        clear hNew
        try simp only [List.getElem_toArray, List.getElem_cons_succ, List.getElem_cons_zero, Act.put, List.setIfInBounds_toArray, List.set_cons_zero, List.set_cons_succ]
        refine wpAnyL_take (i := 17) (oi := _) (v := ?_) rfl (by kernel_rfl) (by kernel_rfl) (by kernel_rfl) (by kernel_rfl) (by kernel_rfl) (fun _ _ _ h => h) (Or.inl ⟨by rfl, ?_⟩) (by assumption) (fun hNew => ?_)
        rotate_left
        · intro w _
          go_simp
          try with_reducible rfl
        clear hHeld
        have hHeld := hNew
        clear hNew
        try simp only [List.getElem_toArray, List.getElem_cons_succ, List.getElem_cons_zero, Act.put, List.setIfInBounds_toArray, List.set_cons_zero, List.set_cons_succ]
        refine wpAnyL_take (i := 18) (oi := _) (v := ?_) rfl (by kernel_rfl) (by kernel_rfl) (by kernel_rfl) (by kernel_rfl) (by kernel_rfl) (fun _ _ _ h => h) (Or.inl ⟨by rfl, ?_⟩) (by assumption) (fun hNew => ?_)
        rotate_left
        · intro w _
          go_simp
          try with_reducible rfl
        clear hHeld
        have hHeld := hNew
        clear hNew
        try simp only [List.getElem_toArray, List.getElem_cons_succ, List.getElem_cons_zero, Act.put, List.setIfInBounds_toArray, List.set_cons_zero, List.set_cons_succ]
        refine wpAnyL_take (i := 19) (oi := _) (v := ?_) rfl (by kernel_rfl) (by kernel_rfl) (by kernel_rfl) (by kernel_rfl) (by kernel_rfl) (fun _ _ _ h => h) (Or.inl ⟨by rfl, ?_⟩) (by assumption) (fun hNew => ?_)
        rotate_left
        · intro w _
          go_simp
          try with_reducible rfl
        clear hHeld
        have hHeld := hNew
        clear hNew
        try simp only [List.getElem_toArray, List.getElem_cons_succ, List.getElem_cons_zero, Act.put, List.setIfInBounds_toArray, List.set_cons_zero, List.set_cons_succ]
        refine wpAnyL_loadP 0 [27, 26, 25, 23, 22, 21] (i := 20) (oi := _) (v := ?_) rfl rfl (by kernel_rfl) (by kernel_rfl) (by kernel_rfl) (by kernel_rfl) (by kernel_rfl) (by kernel_rfl) (fun _ _ _ h => h) (Or.inl ⟨by rfl, ?_⟩) (by assumption) (fun hNew => ?_)
        rotate_left
        · intro w hSw
          (try dsimp only at hSw)
          go_simp
          try with_reducible rfl
        clear hHeld
        have hHeld := hNew
        clear hNew
        try simp only [List.getElem_toArray, List.getElem_cons_succ, List.getElem_cons_zero, Act.put, List.setIfInBounds_toArray, List.set_cons_zero, List.set_cons_succ]
        refine wpAnyL_take (i := 21) (oi := _) (v := ?_) rfl (by kernel_rfl) (by kernel_rfl) (by kernel_rfl) (by kernel_rfl) (by kernel_rfl) (fun _ _ _ h => h) (Or.inl ⟨by rfl, ?_⟩) (by assumption) (fun hNew => ?_)
        rotate_left
        · intro w _
          go_simp
          try with_reducible rfl
        clear hHeld
        have hHeld := hNew
        clear hNew
        try simp only [List.getElem_toArray, List.getElem_cons_succ, List.getElem_cons_zero, Act.put, List.setIfInBounds_toArray, List.set_cons_zero, List.set_cons_succ]
        refine wpAnyL_take (i := 22) (oi := _) (v := ?_) rfl (by kernel_rfl) (by kernel_rfl) (by kernel_rfl) (by kernel_rfl) (by kernel_rfl) (fun _ _ _ h => h) (Or.inl ⟨by rfl, ?_⟩) (by assumption) (fun hNew => ?_)
        rotate_left
        · intro w _
          go_simp
          try with_reducible rfl
        clear hHeld
        have hHeld := hNew
        clear hNew
        try simp only [List.getElem_toArray, List.getElem_cons_succ, List.getElem_cons_zero, Act.put, List.setIfInBounds_toArray, List.set_cons_zero, List.set_cons_succ]
        refine wpAnyL_loadP 1 [27, 26, 25] (i := 23) (oi := _) (v := ?_) rfl rfl (by kernel_rfl) (by kernel_rfl) (by kernel_rfl) (by kernel_rfl) (by kernel_rfl) (by kernel_rfl) (fun _ _ _ h => h) (Or.inl ⟨by rfl, ?_⟩) (by assumption) (fun hNew => ?_)
        rotate_left
        · intro w hSw
          (try dsimp only at hSw)
          go_simp
          try with_reducible rfl
        clear hHeld
        have hHeld := hNew
        clear hNew
        try simp only [List.getElem_toArray, List.getElem_cons_succ, List.getElem_cons_zero, Act.put, List.setIfInBounds_toArray, List.set_cons_zero, List.set_cons_succ]
        refine wpAnyL_take (i := 24) (oi := _) (v := ?_) rfl (by kernel_rfl) (by kernel_rfl) (by kernel_rfl) (by kernel_rfl) (by kernel_rfl) (fun _ _ _ h => h) (Or.inl ⟨by rfl, ?_⟩) (by assumption) (fun hNew => ?_)
        rotate_left
        · intro w _
          go_simp
          try with_reducible rfl
        clear hHeld
        have hHeld := hNew
        clear hNew
        try simp only [List.getElem_toArray, List.getElem_cons_succ, List.getElem_cons_zero, Act.put, List.setIfInBounds_toArray, List.set_cons_zero, List.set_cons_succ]
        refine wpAnyL_take (i := 25) (oi := _) (v := ?_) rfl (by kernel_rfl) (by kernel_rfl) (by kernel_rfl) (by kernel_rfl) (by kernel_rfl) (fun _ _ _ h => h) (Or.inl ⟨by rfl, ?_⟩) (by assumption) (fun hNew => ?_)
        rotate_left
        · intro w _
          go_simp
          try with_reducible rfl
        clear hHeld
        have hHeld := hNew
        clear hNew
        try simp only [List.getElem_toArray, List.getElem_cons_succ, List.getElem_cons_zero, Act.put, List.setIfInBounds_toArray, List.set_cons_zero, List.set_cons_succ]
        refine wpAnyL_take (i := 26) (oi := _) (v := ?_) rfl (by kernel_rfl) (by kernel_rfl) (by kernel_rfl) (by kernel_rfl) (by kernel_rfl) (fun _ _ _ h => h) (Or.inl ⟨by rfl, ?_⟩) (by assumption) (fun hNew => ?_)
        rotate_left
        · intro w _
          go_simp
          try with_reducible rfl
        clear hHeld
        have hHeld := hNew
        clear hNew
        try simp only [List.getElem_toArray, List.getElem_cons_succ, List.getElem_cons_zero, Act.put, List.setIfInBounds_toArray, List.set_cons_zero, List.set_cons_succ]
        refine wpAnyL_load 3 (i := 27) (oi := _) (v := ?_) rfl rfl (by kernel_rfl) (by kernel_rfl) (by kernel_rfl) (by kernel_rfl) (by kernel_rfl) (by kernel_rfl) (fun _ _ _ h => h) (Or.inl ⟨by rfl, ?_⟩) (by assumption) (fun hNew => ?_)
        rotate_left
        · intro w hSw
          (try dsimp only at hSw)
          go_simp
          try with_reducible rfl
        clear hHeld
        have hHeld := hNew
        clear hNew
        try simp only [List.getElem_toArray, List.getElem_cons_succ, List.getElem_cons_zero, Act.put, List.setIfInBounds_toArray, List.set_cons_zero, List.set_cons_succ]
        refine wpAnyL_take (i := 29) (oi := _) (v := ?_) rfl (by kernel_rfl) (by kernel_rfl) (by kernel_rfl) (by kernel_rfl) (by kernel_rfl) (fun _ _ _ h => h) (Or.inl ⟨by rfl, ?_⟩) (by assumption) (fun hNew => ?_)
        rotate_left
        · intro w _
          go_simp
          try with_reducible rfl
        clear hHeld
        have hHeld := hNew
        clear hNew
        try simp only [List.getElem_toArray, List.getElem_cons_succ, List.getElem_cons_zero, Act.put, List.setIfInBounds_toArray, List.set_cons_zero, List.set_cons_succ]
        refine wpAnyL_ready (rs := [28]) (by kernel_rfl) (by simp) ?_
        refine AllReadyL.cons (o := _) rfl (fun K hK => ?_) AllReadyL.nil
        try simp only [List.getElem_toArray, List.getElem_cons_succ, List.getElem_cons_zero]
        go_simp
        refine CF.out.mono ?_
        rintro e w2 ⟨rfl, hc2⟩
        have HC2 := Lib.hid (((Chg.refl [] wr).drew).trans hc2 (by simp))
        clear hc2 CF c1 c2 r0 r1
        clear hHeld
        refine hK.out _ _ ?_ (fun hHeld => ?_)
        · exact (HoldC.past (by kernel_rfl) (HoldC.past (by kernel_rfl) (HoldC.past (by kernel_rfl) (HoldC.past (by kernel_rfl) HoldC.nil))))
        clear hK K
        try simp only [List.getElem_toArray, List.getElem_cons_succ, List.getElem_cons_zero, Act.put, List.setIfInBounds_toArray, List.set_cons_zero, List.set_cons_succ]
        refine wpAnyL_take (i := 30) (oi := _) (v := ?_) rfl (by kernel_rfl) (by kernel_rfl) (by kernel_rfl) (by kernel_rfl) (by kernel_rfl) (fun _ _ _ h => h) (Or.inl ⟨by rfl, ?_⟩) (by assumption) (fun hNew => ?_)
        rotate_left
        · intro w _
          go_simp
          try with_reducible rfl
        clear hHeld
        have hHeld := hNew
        clear hNew
        try simp only [List.getElem_toArray, List.getElem_cons_succ, List.getElem_cons_zero, Act.put, List.setIfInBounds_toArray, List.set_cons_zero, List.set_cons_succ]
        refine wpAnyL_take (i := 31) (oi := _) (v := ?_) rfl (by kernel_rfl) (by kernel_rfl) (by kernel_rfl) (by kernel_rfl) (by kernel_rfl) (fun _ _ _ h => h) (Or.inl ⟨by rfl, ?_⟩) (by assumption) (fun hNew => ?_)
        rotate_left
        · intro w _
          go_simp
          try with_reducible rfl
        clear hHeld
        have hHeld := hNew
        clear hNew
        try simp only [List.getElem_toArray, List.getElem_cons_succ, List.getElem_cons_zero, Act.put, List.setIfInBounds_toArray, List.set_cons_zero, List.set_cons_succ]
        refine wpAnyL_done (by kernel_rfl) ?_ _
        clear hHeld
        by_cases hfi : fd = (i : Int)
        · have HF : Hid (isFirst t.s.rows i = true) := Lib.hid (HFF.out.1 hfi)
          have q0 : (fd != (i : Int)) = false := by simp [hfi]
          have HO2 := Lib.hid (HOr.out.keep HC2.out (by simp))
          have HL2 := Lib.hid (HLr.out.keep (m := m) (W := W) (A := A) HC2.out)
          obtain ⟨_, c1, _⟩ := HO2.out.cells
          have c2 := HL2.out.c2
          rw [← HM.out] at c2
          obtain ⟨g', kv2, hg', r0, r1, hkb2, hkl2⟩ := HL2.out.row i hl2
          obtain rfl : g = g' := by simpa using hg'
          rw [← HKEY.out] at hkb2 hkl2
          have CU := Lib.hid (runkey_any kv2 _ w2 hkb2 (by omega))
          have HY : Hid (unId key = unId (t.s.rows.getD i noRow).key) := Lib.hid (by rw [HKEY.out])
          generalize unId key = y at *
          obtain ⟨yc, yl, yn, yi⟩ := y
          generalize unOk key = ok at *
          clear hg' r0 hkb2 hkl2 hfi HFF HKB
          go_wp2_with fail
          refine CU.out.mono ?_
          rintro e w3 ⟨rfl, hc3⟩
          have HC3 := Lib.hid (HC2.out.trans hc3 (by simp))
          obtain ⟨w4, hw4⟩ : ∃ w4, w4 = w3.alloc (.cells #[.int .i64 yc, .int .i64 yl, .int .i64 yn, .int .i64 yi] 25) := ⟨_, rfl⟩
          have hb4 : w4.heap[w3.heap.size]? = some (.cells (idC ⟨yc, yl, yn, yi⟩) 25 (0, 0)) := by rw [hw4]; exact heap_alloc_new w3 _
          have hc4 : Chg [] wr w4 := by rw [hw4]; exact HC3.out.alloc _
          have hs4 : w4.heap.size = w3.heap.size + 1 := by rw [hw4]; simp
          have m4 := id_cells hb4
          rw [hw4] at m4
          obtain ⟨m0, m1, m2, m3⟩ := m4
          obtain ⟨av, capv, rfl⟩ : ∃ a c, v3 = .slice a L.length c := by
            rcases HJ.out.1.2 with ⟨h1, h2⟩ | ⟨g, cap, cur, h1, _⟩
            · exact ⟨none, 0, by rw [h1, h2]⟩
            · exact ⟨_, cap, h1⟩
          have hown4 := row_keep HJ.out.1 (w' := w4) (fun gq hq => hc4.block gq (World.ownsRow.lt HJ.out.1 gq hq).2 (by simp))
          have hbase : w.heap.size ≤ w3.heap.size := Nat.le_trans HJ.out.2.1.size HC3.out.size
          have HW4 := Lib.hid hw4
          have HB4 := Lib.hid (And.intro hb4 (And.intro hc4 hs4))
          have HOWN4 := Lib.hid hown4
          rw [hw4] at hown4
          clear hw4 hb4 hc4 hs4 hc3 CU c1 c2 r1
          go_wp2_with (at_builtin; refine wpList_app1L rfl _ _ _ rfl w.heap.size elIds _ _ _ rfl hown4 1 #[.int .i64 yc, .int .i64 yl, .int .i64 yn, .int .i64 yi] (by rw [show (w3.alloc (.cells #[.int .i64 yc, .int .i64 yl, .int .i64 yn, .int .i64 yi] 25)).heap.size = w3.heap.size + 1 by simp]; rfl) rfl (by intro u hu; simp at hu; rcases hu with rfl | rfl | rfl | rfl <;> rfl) (by unfold maxLen; omega) (by omega) (by simp; omega) ?_; intro g5 cap5 w5 hown6 hg6 hat6)
          have hat : g5 ≠ w3.heap.size ∧ w.heap.size ≤ g5 := by
            refine ⟨?_, (World.ownsRow.lt hown6 g5 rfl).1⟩
            rcases hat6 with h4 | h4
            · have := (World.ownsRow.lt HJ.out.1 g5 h4).2
              have := HC3.out.size
              omega
            · simp at h4
              omega
          have HC5 : Hid (Chg [] w w5 ∧ w5.heap[w3.heap.size]? = some (.cells (idC ⟨yc, yl, yn, yi⟩) 25 (0, 0))) := Lib.hid (by
            have hc45 : ∀ T, (∀ k, (Value.slice av L.length capv).ownBlock = some k → k ∈ T) → Chg T w4 w5 := fun T hT => by
              rw [HW4.out]
              exact (Chg.refl T _).grown hg6 (fun k hk => .inl (hT k hk))
            cases hv : (Value.slice av L.length capv).ownBlock with
            | none => exact ⟨(HJ.out.2.1.trans HB4.out.2.1 (by simp)).trans (hc45 [] (by rw [hv]; simp)) (by simp), (hc45 [] (by rw [hv]; simp)).keep HB4.out.1 (by simp)⟩
            | some k =>
              have h5 := World.ownsRow.lt HJ.out.1 k hv
              have h6 := HC3.out.size
              have h7 := hc45 [k] (by rw [hv]; simp)
              exact ⟨(HJ.out.2.1.trans HB4.out.2.1 (by simp)).trans h7 (by simp; omega), h7.keep HB4.out.1 (by simp; omega)⟩)
          have HOWN5 := Lib.hid hown6
          obtain ⟨n1, hn1⟩ : ∃ n1, n1 = L.length + 1 := ⟨_, rfl⟩
          rw [← hn1]
          have HN1 := Lib.hid hn1
          have hnl : L.length < n1 := by omega
          have hnu : n1 ≤ L.length + 1 := by omega
          have HLEN : Hid (∀ k gid, (L.take k ++ gid :: L.drop k).length = n1) := Lib.hid (fun k gid => by
            rw [HN1.out, List.length_append, List.length_cons, List.length_take, List.length_drop]
            omega)
          have HPUT : Hid (∀ k, k ≤ L.length → (∀ x ∈ L.drop k, idLt ⟨yc, yl, yn, yi⟩ x) → (∀ x, 0 < k → L[k - 1]? = some x → ¬ idLt ⟨yc, yl, yn, yi⟩ x) → Sorted t.s.rows (i + 1) (L.take k ++ ⟨yc, yl, yn, yi⟩ :: L.drop k)) := Lib.hid (fun k h1 h2 h3 => by
            rw [HY.out] at h2 h3 ⊢
            exact HJ.out.2.2.put HKO.out hl2 HF.out h1 h2 h3)
          obtain ⟨gko, hgko⟩ : ∃ x, x = gk := ⟨_, rfl⟩
          clear hg6 hat6 hown6 hn1 m0 m1 m2 m3
          go_wp2_with fail
          go_loopg [7] L.length (fun g'' s7 wi => ∃ (k : Nat) (gid : Id), s7 = .int .i64 (k : Int) ∧ k ≤ L.length ∧ k ≤ g'' ∧ Hid (wi.ownsRow w.heap.size 25 4 (.slice (some ⟨g5, 0, none⟩) (L.take k ++ gid :: L.drop k).length cap5) (L.take k ++ gid :: L.drop k).length ((L.take k ++ gid :: L.drop k).flatMap idE) ∧ Chg [g5] w5 wi ∧ ∀ x ∈ L.drop k, idLt ⟨yc, yl, yn, yi⟩ x))
          case atStart => exact ⟨L.length, ⟨yc, yl, yn, yi⟩, rfl, Nat.le_refl _, Nat.le_refl _, Lib.hid ⟨by
            rw [HLEN.out, HN1.out, List.take_length, List.drop_length, List.flatMap_append]
            exact HOWN5.out, Chg.refl _ _, fun x hx => by rw [List.drop_length] at hx; cases hx⟩⟩
          case round =>
            obtain ⟨k, gid, rfl, hkL, hkg, HI⟩ := hrel
            have hbi := HI.out.2.1.keep HC5.out.2 (by simp; exact Ne.symm hat.1)
            have hg5w : g5 < wr.heap.size := (World.ownsRow.lt HI.out.1 g5 rfl).2
            by_cases hk0 : k = 0
            · obtain ⟨m0, m1, m2, m3⟩ := id_cells hbi
              have hkz : ¬ (0 : Int) < (k : Int) := by omega
              have hk00 : k ≤ 0 := by omega
              have hk01 : ¬ 0 < k := by omega
              clear hk0
              go_wp2_with fail
              go_quiet (fail)
              clear m0 m1 m2 m3
              have HT : Hid (∀ x, 0 < k → L[k - 1]? = some x → ¬ idLt ⟨yc, yl, yn, yi⟩ x) := Lib.hid (fun x h0 => by omega)
              have HS := Lib.hid (HPUT.out k hkL HI.out.2.2 HT.out)
              have hcW : Chg [] wr (wr.drewN nq) := (Chg.refl [] wr).drewN nq
              have hrow := row_keep HI.out.1 (w' := (wr.drewN nq)) (fun gq hq => hcW.block gq (World.ownsRow.lt HI.out.1 gq hq).2 (by simp))
              obtain ⟨p0, p1, p2, p3⟩ := id_row hrow k (by rw [HLEN.out]; omega) gid (hole_at L k gid hkL)
              have hth := row_thereId hrow k (by rw [HLEN.out]; omega)
              have hset := row_setId hrow k (by rw [HLEN.out]; omega) ⟨yc, yl, yn, yi⟩
              rw [hole_put L k gid _ hkL] at hset
              have f0 : ((wr.drewN nq)).frozen? ⟨g5, k * 4, none⟩ = false := (hth 0 (by omega)).2
              have f1 : ((wr.drewN nq)).frozen? ⟨g5, k * 4 + 1, none⟩ = false := (hth 1 (by omega)).2
              have f2 : ((wr.drewN nq)).frozen? ⟨g5, k * 4 + 2, none⟩ = false := (hth 2 (by omega)).2
              have f3 : ((wr.drewN nq)).frozen? ⟨g5, k * 4 + 3, none⟩ = false := (hth 3 (by omega)).2
              obtain ⟨m0, m1, m2, m3⟩ := id_cells (hcW.keep hbi (by simp))
              have HCW : Hid (Chg [] w (((wr.drewN nq)).setCells g5 (k * 4) [.int .i64 yc, .int .i64 yl, .int .i64 yn, .int .i64 yi])) := Lib.hid (((HC5.out.1.trans HI.out.2.1 (by simp; exact hat.2)).trans hcW (by simp)).setCells (.inr hat.2) _)
              have HROW := Lib.hid hset
              have hkn : (k : Int) < (n1 : Int) := by have := HN1.out; omega
              have hkk : (k : Int).toNat = k := by omega
              have hl1 : n1 ≤ i + 1 := by have := HN1.out; omega
              clear hrow hth hset hbi
              generalize wr.drewN nq = wz at *
              go_wp2_with fail
              go_roundg (gko - 1)
              case measure => omega
              case rel => exact ⟨i + 1, _, _, rfl, by go_num, by omega, by omega, by rw [HLEN.out]; exact hl1, Lib.hid ⟨by rw [HLEN.out]; rw [HLEN.out] at HROW; exact HROW.out, HCW.out, HS.out⟩⟩
            · obtain ⟨mm, hmm⟩ : ∃ mm, k = mm + 1 := ⟨k - 1, by omega⟩
              obtain ⟨z, hz⟩ : ∃ z, L[mm]? = some z := ⟨_, List.getElem?_eq_getElem (by omega)⟩
              have hdn := hole_down L mm gid z hz
              rw [← hmm] at hdn
              obtain ⟨zc, zl, zn, zi⟩ := z
              have hzc := id_row HI.out.1 mm (by rw [HLEN.out]; omega) _ hdn.2
              have hmb := id_cells hbi
              have hm1 : (k : Int) - 1 = (mm : Int) := by omega
              have hmp : (0 : Int) < (k : Int) := by omega
              have hwm : IntKind.i64.wrap (mm : Int) = (mm : Int) := IntWalk.i64_in _ (by omega)
              have hml : (mm : Int) < (n1 : Int) := by have := HN1.out; omega
              have h0m : (0 : Int) ≤ (mm : Int) := by omega
              have hmt : (mm : Int).toNat = mm := by omega
              have CLS := Lib.hid (rless_any ⟨yc, yl, yn, yi⟩ ⟨zc, zl, zn, zi⟩ wr.drew)
              have HDN := Lib.hid hdn.1
              have HMM := Lib.hid hmm
              have hkp : 0 < k := by omega
              have hk1 : k ≤ mm + 1 := by omega
              have hk2 : mm + 1 ≤ k := by omega
              clear hdn hmm
              go_wp2_with fail
              refine wp_region_L [(9, fun w' => (w'.cell? ⟨w3.heap.size, 0, none⟩ = some (.int .i64 yc) ∧ w'.cell? ⟨w3.heap.size, 1, none⟩ = some (.int .i64 yl) ∧ w'.cell? ⟨w3.heap.size, 2, none⟩ = some (.int .i64 yn) ∧ w'.cell? ⟨w3.heap.size, 3, none⟩ = some (.int .i64 yi))), (9, fun w' => (w'.cell? ⟨g5, mm * 4, none⟩ = some (.int .i64 zc) ∧ w'.cell? ⟨g5, mm * 4 + 1, none⟩ = some (.int .i64 zl) ∧ w'.cell? ⟨g5, mm * 4 + 2, none⟩ = some (.int .i64 zn) ∧ w'.cell? ⟨g5, mm * 4 + 3, none⟩ = some (.int .i64 zi)))] (by kernel_rfl) ?_ (fun hHeld => ?_)
              · exact (HoldC.cons (hmb) (HoldC.cons (hzc) HoldC.nil))
              refine wpAnyL_take (i := 0) (oi := _) (v := ?_) rfl (by kernel_rfl) (by kernel_rfl) (by kernel_rfl) (by kernel_rfl) (by kernel_rfl) (fun _ _ _ h => h) (Or.inl ⟨by rfl, ?_⟩) (by assumption) (fun hNew => ?_)
              rotate_left
              · intro w _
                go_simp
                try with_reducible rfl
              clear hHeld
              have hHeld := hNew
              clear hNew
              try simp only [List.getElem_toArray, List.getElem_cons_succ, List.getElem_cons_zero, Act.put, List.setIfInBounds_toArray, List.set_cons_zero, List.set_cons_succ]
              refine wpAnyL_take (i := 1) (oi := _) (v := ?_) rfl (by kernel_rfl) (by kernel_rfl) (by kernel_rfl) (by kernel_rfl) (by kernel_rfl) (fun _ _ _ h => h) (Or.inl ⟨by rfl, ?_⟩) (by assumption) (fun hNew => ?_)
              rotate_left
              · intro w _
                go_simp
                try with_reducible rfl
              clear hHeld
              have hHeld := hNew
              clear hNew
              try simp only [List.getElem_toArray, List.getElem_cons_succ, List.getElem_cons_zero, Act.put, List.setIfInBounds_toArray, List.set_cons_zero, List.set_cons_succ]
              refine wpAnyL_take (i := 2) (oi := _) (v := ?_) rfl (by kernel_rfl) (by kernel_rfl) (by kernel_rfl) (by kernel_rfl) (by kernel_rfl) (fun _ _ _ h => h) (Or.inl ⟨by rfl, ?_⟩) (by assumption) (fun hNew => ?_)
              rotate_left
              · intro w _
                go_simp
                try with_reducible rfl
              clear hHeld
              have hHeld := hNew
              clear hNew
              try simp only [List.getElem_toArray, List.getElem_cons_succ, List.getElem_cons_zero, Act.put, List.setIfInBounds_toArray, List.set_cons_zero, List.set_cons_succ]
              refine wpAnyL_load 0 (i := 3) (oi := _) (v := ?_) rfl rfl (by kernel_rfl) (by kernel_rfl) (by kernel_rfl) (by kernel_rfl) (by kernel_rfl) (by kernel_rfl) (fun _ _ _ h => h) (Or.inl ⟨by rfl, ?_⟩) (by assumption) (fun hNew => ?_)
              rotate_left
              · intro w hSw
                (try dsimp only at hSw)
                go_simp
                try with_reducible rfl
              clear hHeld
              have hHeld := hNew
              clear hNew
              try simp only [List.getElem_toArray, List.getElem_cons_succ, List.getElem_cons_zero, Act.put, List.setIfInBounds_toArray, List.set_cons_zero, List.set_cons_succ]
              refine wpAnyL_take (i := 4) (oi := _) (v := ?_) rfl (by kernel_rfl) (by kernel_rfl) (by kernel_rfl) (by kernel_rfl) (by kernel_rfl) (fun _ _ _ h => h) (Or.inl ⟨by rfl, ?_⟩) (by assumption) (fun hNew => ?_)
              rotate_left
              · intro w _
                go_simp
                try with_reducible rfl
              clear hHeld
              have hHeld := hNew
              clear hNew
              try simp only [List.getElem_toArray, List.getElem_cons_succ, List.getElem_cons_zero, Act.put, List.setIfInBounds_toArray, List.set_cons_zero, List.set_cons_succ]
              refine wpAnyL_take (i := 5) (oi := _) (v := ?_) rfl (by kernel_rfl) (by kernel_rfl) (by kernel_rfl) (by kernel_rfl) (by kernel_rfl) (fun _ _ _ h => h) (Or.inl ⟨by rfl, ?_⟩) (by assumption) (fun hNew => ?_)
              rotate_left
              · intro w _
                go_simp
                try with_reducible rfl
              clear hHeld
              have hHeld := hNew
              clear hNew
              try simp only [List.getElem_toArray, List.getElem_cons_succ, List.getElem_cons_zero, Act.put, List.setIfInBounds_toArray, List.set_cons_zero, List.set_cons_succ]
              refine wpAnyL_take (i := 6) (oi := _) (v := ?_) rfl (by kernel_rfl) (by kernel_rfl) (by kernel_rfl) (by kernel_rfl) (by kernel_rfl) (fun _ _ _ h => h) (Or.inl ⟨by rfl, ?_⟩) (by assumption) (fun hNew => ?_)
              rotate_left
              · intro w _
                go_simp
                try with_reducible rfl
              clear hHeld
              have hHeld := hNew
              clear hNew
              try simp only [List.getElem_toArray, List.getElem_cons_succ, List.getElem_cons_zero, Act.put, List.setIfInBounds_toArray, List.set_cons_zero, List.set_cons_succ]
              refine wpAnyL_take (i := 7) (oi := _) (v := ?_) rfl (by kernel_rfl) (by kernel_rfl) (by kernel_rfl) (by kernel_rfl) (by kernel_rfl) (fun _ _ _ h => h) (Or.inl ⟨by rfl, ?_⟩) (by assumption) (fun hNew => ?_)
              rotate_left
              · intro w _
                go_simp
                try with_reducible rfl
              clear hHeld
              have hHeld := hNew
              clear hNew
              try simp only [List.getElem_toArray, List.getElem_cons_succ, List.getElem_cons_zero, Act.put, List.setIfInBounds_toArray, List.set_cons_zero, List.set_cons_succ]
              refine wpAnyL_load 1 (i := 8) (oi := _) (v := ?_) rfl rfl (by kernel_rfl) (by kernel_rfl) (by kernel_rfl) (by kernel_rfl) (by kernel_rfl) (by kernel_rfl) (fun _ _ _ h => h) (Or.inl ⟨by rfl, ?_⟩) (by assumption) (fun hNew => ?_)
              rotate_left
              · intro w hSw
                (try dsimp only at hSw)
                go_simp
                try with_reducible rfl
              clear hHeld
              have hHeld := hNew
              clear hNew
              try simp only [List.getElem_toArray, List.getElem_cons_succ, List.getElem_cons_zero, Act.put, List.setIfInBounds_toArray, List.set_cons_zero, List.set_cons_succ]
              refine wpAnyL_ready (rs := [9]) (by kernel_rfl) (by simp) ?_
              refine AllReadyL.cons (o := _) rfl (fun K hK => ?_) AllReadyL.nil
              try simp only [List.getElem_toArray, List.getElem_cons_succ, List.getElem_cons_zero]
              go_simp
              refine CLS.out.mono ?_
              rintro e wj ⟨rfl, hcj⟩
              have HCj := Lib.hid (((Chg.refl [] wr).drew).trans hcj (by simp))
              clear hcj CLS
              clear hHeld
              refine hK.out _ _ ?_ (fun hHeld => ?_)
              · exact (HoldC.past (by kernel_rfl) (HoldC.past (by kernel_rfl) HoldC.nil))
              clear hK K
              try simp only [List.getElem_toArray, List.getElem_cons_succ, List.getElem_cons_zero, Act.put, List.setIfInBounds_toArray, List.set_cons_zero, List.set_cons_succ]
              refine wpAnyL_take (i := 10) (oi := _) (v := ?_) rfl (by kernel_rfl) (by kernel_rfl) (by kernel_rfl) (by kernel_rfl) (by kernel_rfl) (fun _ _ _ h => h) (Or.inl ⟨by rfl, ?_⟩) (by assumption) (fun hNew => ?_)
              rotate_left
              · intro w _
                go_simp
                try with_reducible rfl
              clear hHeld
              have hHeld := hNew
              clear hNew
              try simp only [List.getElem_toArray, List.getElem_cons_succ, List.getElem_cons_zero, Act.put, List.setIfInBounds_toArray, List.set_cons_zero, List.set_cons_succ]
              refine wpAnyL_done (by kernel_rfl) ?_ _
              clear hHeld
              by_cases hid : idLt ⟨yc, yl, yn, yi⟩ ⟨zc, zl, zn, zi⟩
              · rw [decide_eq_true hid]
                have HLT : Hid (∀ x ∈ L.drop mm, idLt ⟨yc, yl, yn, yi⟩ x) := Lib.hid (fun x hx => by
                  have hml2 := (List.getElem?_eq_some_iff.1 hz).1
                  have hgz : L[mm] = ⟨zc, zl, zn, zi⟩ := by rw [List.getElem?_eq_getElem hml2] at hz; exact Option.some.inj hz
                  rw [List.drop_eq_getElem_cons hml2, hgz, ← HMM.out] at hx
                  rcases List.mem_cons.1 hx with rfl | hx
                  · exact hid
                  · exact HI.out.2.2 x hx)
                have hrow := row_keep HI.out.1 (w' := wj) (fun gq hq => HCj.out.block gq (World.ownsRow.lt HI.out.1 gq hq).2 (by simp))
                obtain ⟨p0, p1, p2, p3⟩ := id_row hrow k (by rw [HLEN.out]; omega) gid (hole_at L k gid hkL)
                obtain ⟨m0, m1, m2, m3⟩ := hzc
                have m0 := HCj.out.cell m0 (by simp)
                have m1 := HCj.out.cell m1 (by simp)
                have m2 := HCj.out.cell m2 (by simp)
                have m3 := HCj.out.cell m3 (by simp)
                have hth := row_thereId hrow k (by rw [HLEN.out]; omega)
                have hset := row_setId hrow k (by rw [HLEN.out]; omega) ⟨zc, zl, zn, zi⟩
                rw [HDN.out] at hset
                have f0 : wj.frozen? ⟨g5, k * 4, none⟩ = false := (hth 0 (by omega)).2
                have f1 : wj.frozen? ⟨g5, k * 4 + 1, none⟩ = false := (hth 1 (by omega)).2
                have f2 : wj.frozen? ⟨g5, k * 4 + 2, none⟩ = false := (hth 2 (by omega)).2
                have f3 : wj.frozen? ⟨g5, k * 4 + 3, none⟩ = false := (hth 3 (by omega)).2
                have HCW : Hid (Chg [g5] w5 (wj.setCells g5 (k * 4) [.int .i64 zc, .int .i64 zl, .int .i64 zn, .int .i64 zi])) := Lib.hid ((HI.out.2.1.trans HCj.out (by simp)).setCells (.inl (by simp)) _)
                have HROW := Lib.hid hset
                have hkn : (k : Int) < (n1 : Int) := by have := HN1.out; omega
                have hkk : (k : Int).toNat = k := by omega
                clear hrow hth hset hbi hmb hid HDN
                go_wp2_with fail
                go_roundg (gk - 1)
                case measure => omega
                case rel => exact ⟨mm, _, by go_num, by omega, by omega, Lib.hid ⟨HROW.out, HCW.out, HLT.out⟩⟩
              · rw [decide_eq_false hid]
                clear hmb hzc
                have HT : Hid (∀ x, 0 < k → L[k - 1]? = some x → ¬ idLt ⟨yc, yl, yn, yi⟩ x) := Lib.hid (fun x h0 hx => by
                  rw [show k - 1 = mm by omega, hz] at hx
                  obtain rfl := Option.some.inj hx
                  exact hid)
                have HS := Lib.hid (HPUT.out k hkL HI.out.2.2 HT.out)
                have hcW : Chg [] wr wj := HCj.out
                have hrow := row_keep HI.out.1 (w' := wj) (fun gq hq => hcW.block gq (World.ownsRow.lt HI.out.1 gq hq).2 (by simp))
                obtain ⟨p0, p1, p2, p3⟩ := id_row hrow k (by rw [HLEN.out]; omega) gid (hole_at L k gid hkL)
                have hth := row_thereId hrow k (by rw [HLEN.out]; omega)
                have hset := row_setId hrow k (by rw [HLEN.out]; omega) ⟨yc, yl, yn, yi⟩
                rw [hole_put L k gid _ hkL] at hset
                have f0 : (wj).frozen? ⟨g5, k * 4, none⟩ = false := (hth 0 (by omega)).2
                have f1 : (wj).frozen? ⟨g5, k * 4 + 1, none⟩ = false := (hth 1 (by omega)).2
                have f2 : (wj).frozen? ⟨g5, k * 4 + 2, none⟩ = false := (hth 2 (by omega)).2
                have f3 : (wj).frozen? ⟨g5, k * 4 + 3, none⟩ = false := (hth 3 (by omega)).2
                obtain ⟨m0, m1, m2, m3⟩ := id_cells (hcW.keep hbi (by simp))
                have HCW : Hid (Chg [] w ((wj).setCells g5 (k * 4) [.int .i64 yc, .int .i64 yl, .int .i64 yn, .int .i64 yi])) := Lib.hid (((HC5.out.1.trans HI.out.2.1 (by simp; exact hat.2)).trans hcW (by simp)).setCells (.inr hat.2) _)
                have HROW := Lib.hid hset
                have hkn : (k : Int) < (n1 : Int) := by have := HN1.out; omega
                have hkk : (k : Int).toNat = k := by omega
                have hl1 : n1 ≤ i + 1 := by have := HN1.out; omega
                clear hrow hth hset hbi
                go_wp2_with fail
                go_roundg (gko - 1)
                case measure => omega
                case rel => exact ⟨i + 1, _, _, rfl, by go_num, by omega, by omega, by rw [HLEN.out]; exact hl1, Lib.hid ⟨by rw [HLEN.out]; rw [HLEN.out] at HROW; exact HROW.out, HCW.out, HS.out⟩⟩
        · have HF : Hid (isFirst t.s.rows i = false) := Lib.hid (by
            rw [Bool.eq_false_iff]
            exact fun hh => hfi (HFF.out.2 hh))
          have q0 : (fd != (i : Int)) = true := by simp [hfi]
          have HN := Lib.hid (And.intro (row_keep HJ.out.1 (w' := w2) (fun gq hq => HC2.out.block gq (World.ownsRow.lt HJ.out.1 gq hq).2 (by simp))) (And.intro (HJ.out.2.1.trans HC2.out (by simp)) (HJ.out.2.2.skip HF.out)))
          clear hfi HFF HKB
          go_wp2
          go_roundg (gk - 1)
          case measure => omega
          case rel => exact ⟨i + 1, L, _, rfl, by go_num, by omega, by omega, by omega, HN⟩
    · have him : i = M := by omega
      have hiz : ¬ (i : Int) < (M : Int) := by omega
      have HE := Lib.hid (HID.out L (by rw [← HM.out, ← him]; exact HJ.out.2.2))
      go_wp2
      go_ret
      rw [← HE.out]
      exact ⟨_, rfl, HJ.out.1, HJ.out.2.1⟩
end Go.Proofs.YtbkajnjboipbhaaGreatDoor.W

/- SameIds; the law's looks. -/
namespace Go.Proofs.YtbkajnjboipbhaaGreatDoor.W
open Go.RowKit
set_option linter.unusedVariables false
set_option linter.unusedSimpArgs false
variable {G : List Nat}

/-- A slice of ids, to be read. -/
def IdRow (w : World) (v : Value) (l : List Id) : Prop := ∃ a cap, v = .slice a l.length cap ∧ ∀ j, j < l.length → ∃ g x, a = some ⟨g, 0, none⟩ ∧ l[j]? = some x ∧ w.cell? ⟨g, j * 4, none⟩ = some (.int .i64 x.c) ∧ w.cell? ⟨g, j * 4 + 1, none⟩ = some (.int .i64 x.l) ∧ w.cell? ⟨g, j * 4 + 2, none⟩ = some (.int .i64 x.n) ∧ w.cell? ⟨g, j * 4 + 3, none⟩ = some (.int .i64 x.i)
theorem IdRow.of {w : World} {base : Nat} {v : Value} {l : List Id} (h : w.ownsRow base 25 4 v l.length (l.flatMap idE)) : IdRow w v l := by
  rcases h.2 with ⟨h1, h2⟩ | ⟨g, cap, cur, h1, _⟩
  · exact ⟨none, 0, by rw [h1, h2], fun j hj => by omega⟩
  · refine ⟨_, cap, h1, fun j hj => ⟨g, l[j], rfl, List.getElem?_eq_getElem hj, ?_⟩⟩
    rw [h1] at h
    exact id_row h j hj _ (List.getElem?_eq_getElem hj)
theorem IdRow.keep {w w' : World} {v : Value} {l : List Id} (h : IdRow w v l) (hc : Chg [] w w') : IdRow w' v l := by
  obtain ⟨a, cap, h1, h2⟩ := h
  refine ⟨a, cap, h1, fun j hj => ?_⟩
  obtain ⟨g, x, k1, k2, m0, m1, m2, m3⟩ := h2 j hj
  exact ⟨g, x, k1, k2, hc.cell m0 (by simp), hc.cell m1 (by simp), hc.cell m2 (by simp), hc.cell m3 (by simp)⟩

set_option maxHeartbeats 4000000 in
set_option maxRecDepth 100000 in
theorem rsameids_any (u v : Value) (l : List Id) (w : World) (hu : IdRow w u l) (hv : IdRow w v l) (hl : l.length ≤ 1000000) : Calls Tryz.prog 77 #[u, v] w fun e w' => e = .returned (.bool true) ∧ Chg [] w w' := by
  obtain ⟨a, ca, rfl, hA⟩ := hu
  obtain ⟨b, cb, rfl, hB⟩ := hv
  have HA := Lib.hid hA
  have HB := Lib.hid hB
  obtain ⟨n, hn⟩ : ∃ n, n = l.length := ⟨_, rfl⟩
  rw [← hn] at hl ⊢
  have HN := Lib.hid hn
  clear hA hB hn
  go_enter Tryz.func77, Tryz.ntmps77
  go_wp2
  go_loopg [5] n (fun g' s5 wr => ∃ (i : Nat), s5 = .int .i64 (i : Int) ∧ i ≤ n ∧ n ≤ i + g' ∧ Hid (Chg [] w wr))
  case atStart => exact ⟨0, rfl, by omega, by omega, Lib.hid (Chg.refl _ _)⟩
  case round =>
    obtain ⟨i, rfl, hi, hig, HC⟩ := hrel
    by_cases hlt : i < n
    · obtain ⟨g, ⟨xc, xl, xn, xi⟩, rfl, k1, m0, m1, m2, m3⟩ := HA.out i (by rw [← HN.out]; exact hlt)
      obtain ⟨g2, y, rfl, k2, n0, n1, n2, n3⟩ := HB.out i (by rw [← HN.out]; exact hlt)
      rw [k1] at k2
      obtain rfl := Option.some.inj k2
      have m0 := HC.out.cell m0 (by simp)
      have m1 := HC.out.cell m1 (by simp)
      have m2 := HC.out.cell m2 (by simp)
      have m3 := HC.out.cell m3 (by simp)
      have n0 := HC.out.cell n0 (by simp)
      have n1 := HC.out.cell n1 (by simp)
      have n2 := HC.out.cell n2 (by simp)
      have n3 := HC.out.cell n3 (by simp)
      have hiz : (i : Int) < (n : Int) := by omega
      have hiz1 : (i : Int).toNat = i := by omega
      clear k1 k2
      dsimp only at n0 n1 n2 n3 m0 m1 m2 m3
      go_wp2_with fail
      go_quiet (fail)
      have HCn := Lib.hid (HC.out.drewN nq)
      clear m0 m1 m2 m3 n0 n1 n2 n3
      go_wp2_with fail
      go_roundg (gk - 1)
      case measure => omega
      case rel => exact ⟨i + 1, by go_num, by omega, by omega, HCn⟩
    · have hiz : ¬ (i : Int) < (n : Int) := by omega
      go_wp2
      go_ret
      exact ⟨rfl, HC.out⟩

set_option maxHeartbeats 16000000 in
set_option maxRecDepth 100000 in
theorem looks6_any (q p q2 m : Nat) (U U2 B2 : List Nat) (t : Sto) (x : Id) (w : World) (hS : StAt G w q p U t) (hR : RStAt w q2 m U2 B2 t) (hx : okD x) (hl : t.ids.length ≤ 1000) :
    Calls Tryz.prog 30 #[.pointer (some ⟨q, 0, none⟩), .pointer (some ⟨q2, 0, none⟩), idV x] w fun e w' => e = .returned (.bool true) ∧ Chg [] w w' := by
  obtain ⟨w1, hw1⟩ : ∃ w1, w1 = w.alloc (.cells (idC x) 25) := ⟨_, rfl⟩
  have hc1 : Chg [] w w1 := by rw [hw1]; exact (Chg.refl [] w).alloc _
  have hb1 : w1.heap[w.heap.size]? = some (.cells (idC x) 25 (0, 0)) := by rw [hw1]; exact heap_alloc_new w _
  have HS := Lib.hid (hS.keep0 hc1)
  have HR := Lib.hid (hR.keep hc1 (by simp))
  have CG := Lib.hid (stget_any q p U t x w1 HS.out hx)
  have HX := Lib.hid hx
  have HB := Lib.hid hb1
  have HC1 := Lib.hid hc1
  have HW1 := Lib.hid hw1
  have mm := id_cells hb1
  rw [hw1] at mm
  have hgl : (t.get x).1.length ≤ 1000 := by
    obtain ⟨sp, W, A, hok, rfl, rfl⟩ := hR
    unfold Sto.get
    split
    · simp
    · split
      · simp
      · rename_i i r _
        have hk := hok.slots.okk
        unfold SS.get
        split
        · simp
        · split
          · simp
          · split
            · simp
            · unfold SS.data
              rw [List.length_take]
              have : (t.s.row (i : Int)).n ≤ 448 := by
                unfold SS.row
                rw [List.getD_eq_getElem?_getD]
                cases hr : t.s.rows[(i : Int).toNat]? with
                | none => exact (show (0 : Nat) ≤ 448 by omega)
                | some rr => exact (hk.rows _ (List.mem_of_getElem? hr)).1
              omega
  have HGX : Hid (∀ w', RStAt w' q2 m U2 B2 t → Calls Tryz.prog 76 #[.pointer (some ⟨q2, 0, none⟩), idV x] w' (GetPost (t.get x) w')) := Lib.hid (fun w' h => rstget_any q2 m U2 B2 t x w' h hx)
  generalize t.get x = r at *
  obtain ⟨rb, re⟩ := r
  dsimp only at hgl
  unfold GetPost at CG HGX
  dsimp only at CG HGX
  obtain ⟨xc, xl, xn, xi⟩ := x
  obtain ⟨m0, m1, m2, m3⟩ := mm
  clear hw1 hb1 hc1 hS hR
  go_enter Tryz.func30, Tryz.ntmps30
  go_wp2_with fail
  rw [← HW1.out]
  refine CG.out.mono ?_
  rintro e w2 ⟨⟨v1, rfl, hv1, _⟩, hc2⟩
  have HC2 := Lib.hid hc2
  have HV1 := Lib.hid hv1
  obtain ⟨m0, m1, m2, m3⟩ := id_cells (hc2.keep HB.out (by simp))
  have CG2 := Lib.hid (HGX.out w2 (HR.out.keep hc2 (by simp)))
  obtain ⟨a1, k1, he1⟩ := hv1.slice
  subst he1
  clear hc2 hv1 CG
  go_wp2_with fail
  refine CG2.out.mono ?_
  rintro e w3 ⟨⟨v2, rfl, hv2, _⟩, hc3⟩
  have HC3 := Lib.hid (HC2.out.trans hc3 (by simp))
  have HV2 := Lib.hid (And.intro (HV1.out.chg hc3 (by simp)) hv2)
  obtain ⟨a2, k2, he2⟩ := hv2.slice
  subst he2
  clear hc3 hv2 CG2 m0 m1 m2 m3 HV1
  have CL := Lib.hid (fun w' (h : Chg [] w3 w') => stlist_any q p U t w' (HS.out.keep0 (HC3.out.trans h (by simp))))
  have CRL := Lib.hid (fun w' (h : Chg [] w3 w') => rstlist_any q2 m U2 B2 t w' (HR.out.keep (HC3.out.trans h (by simp)) (by simp)))
  have CRM := Lib.hid (fun w' (h : Chg [] w3 w') => stroom_any q p U t w' (HS.out.keep0 (HC3.out.trans h (by simp))))
  have CRRM := Lib.hid (fun w' (h : Chg [] w3 w') => rstroom_any q2 m U2 B2 t w' (HR.out.keep (HC3.out.trans h (by simp)) (by simp)))
  have CWH := Lib.hid (fun w' (h : Chg [] w3 w') => stwhole_any q p U t w' (HS.out.keep0 (HC3.out.trans h (by simp))))
  have cw : w3.cell? ⟨q2, 2, none⟩ = some (.bool t.whole) := by
    obtain ⟨sp, W, A, hok, _, _⟩ := HR.out.keep HC3.out (by simp)
    exact hok.cells.2.2
  have HCW := Lib.hid cw
  unfold ListPost at CL CRL
  generalize t.ids = L at *
  generalize t.room = rm at *
  generalize t.whole = wh at *
  go_wp2_with fail
  refine wp_region_L [(29, fun w' => w'.cell? ⟨q2, 2, none⟩ = some (.bool wh))] (by kernel_rfl) ?_ (fun hHeld => ?_)
  · exact (HoldC.cons (cw) HoldC.nil)
  refine wpAnyL_take (i := 0) (oi := _) (v := ?_) rfl (by kernel_rfl) (by kernel_rfl) (by kernel_rfl) (by kernel_rfl) (by kernel_rfl) (fun _ _ _ h => h) (Or.inl ⟨by rfl, ?_⟩) (by assumption) (fun hNew => ?_)
  rotate_left
  · intro w _
    go_simp
    try with_reducible rfl
  clear hHeld
  have hHeld := hNew
  clear hNew
  try simp only [List.getElem_toArray, List.getElem_cons_succ, List.getElem_cons_zero, Act.put, List.setIfInBounds_toArray, List.set_cons_zero, List.set_cons_succ]
  refine wpAnyL_take (i := 2) (oi := _) (v := ?_) rfl (by kernel_rfl) (by kernel_rfl) (by kernel_rfl) (by kernel_rfl) (by kernel_rfl) (fun _ _ _ h => h) (Or.inl ⟨by rfl, ?_⟩) (by assumption) (fun hNew => ?_)
  rotate_left
  · intro w _
    go_simp
    try with_reducible rfl
  clear hHeld
  have hHeld := hNew
  clear hNew
  try simp only [List.getElem_toArray, List.getElem_cons_succ, List.getElem_cons_zero, Act.put, List.setIfInBounds_toArray, List.set_cons_zero, List.set_cons_succ]
  refine wpAnyL_ready (rs := [1]) (by kernel_rfl) (by simp) ?_
  refine AllReadyL.cons (o := _) rfl (fun K hK => ?_) AllReadyL.nil
  try simp only [List.getElem_toArray, List.getElem_cons_succ, List.getElem_cons_zero]
  go_simp
  refine (CL.out _ ((Chg.refl [] w3).drew)).mono ?_
  rintro e w4 ⟨l1, rfl, hr1, hc4⟩
  have HC4 := Lib.hid (((Chg.refl [] w3).drew).trans hc4 (by simp))
  have HI4 := Lib.hid (IdRow.of hr1)
  have cw := HC4.out.cell HCW.out (by simp)
  clear hr1 hc4 CL
  clear hHeld
  refine hK.out _ _ ?_ (fun hHeld => ?_)
  · exact (HoldC.cons (cw) HoldC.nil)
  clear hK K
  try simp only [List.getElem_toArray, List.getElem_cons_succ, List.getElem_cons_zero, Act.put, List.setIfInBounds_toArray, List.set_cons_zero, List.set_cons_succ]
  refine wpAnyL_ready (rs := [3]) (by kernel_rfl) (by simp) ?_
  refine AllReadyL.cons (o := _) rfl (fun K hK => ?_) AllReadyL.nil
  try simp only [List.getElem_toArray, List.getElem_cons_succ, List.getElem_cons_zero]
  go_simp
  refine (CRL.out _ HC4.out).mono ?_
  rintro e w5 ⟨l2, rfl, hr2, hc5⟩
  have hc45 := hc5
  have HC5 := Lib.hid (HC4.out.trans hc45 (by simp))
  have HI5 := Lib.hid (And.intro (HI4.out.keep hc45) (IdRow.of hr2))
  have cw := HC5.out.cell HCW.out (by simp)
  clear hr2 hc5 CRL HI4 hc45
  clear hHeld
  refine hK.out _ _ ?_ (fun hHeld => ?_)
  · exact (HoldC.cons (cw) HoldC.nil)
  clear hK K
  try simp only [List.getElem_toArray, List.getElem_cons_succ, List.getElem_cons_zero, Act.put, List.setIfInBounds_toArray, List.set_cons_zero, List.set_cons_succ]
  refine wpAnyL_ready (rs := [4]) (by kernel_rfl) (by simp) ?_
  refine AllReadyL.cons (o := _) rfl (fun K hK => ?_) AllReadyL.nil
  try simp only [List.getElem_toArray, List.getElem_cons_succ, List.getElem_cons_zero]
  go_simp
  refine (rsameids_any l1 l2 L w5 HI5.out.1 HI5.out.2 (by omega)).mono ?_
  rintro e w6 ⟨rfl, hc6⟩
  have HC6 := Lib.hid (HC5.out.trans hc6 (by simp))
  have cw := HC6.out.cell HCW.out (by simp)
  clear hc6 HI5
  clear hHeld
  refine hK.out _ _ ?_ (fun hHeld => ?_)
  · exact (HoldC.cons (cw) HoldC.nil)
  clear hK K
  try simp only [List.getElem_toArray, List.getElem_cons_succ, List.getElem_cons_zero, Act.put, List.setIfInBounds_toArray, List.set_cons_zero, List.set_cons_succ]
  refine wpAnyL_take (i := 5) (oi := _) (v := ?_) rfl (by kernel_rfl) (by kernel_rfl) (by kernel_rfl) (by kernel_rfl) (by kernel_rfl) (fun _ _ _ h => h) (Or.inl ⟨by rfl, ?_⟩) (by assumption) (fun hNew => ?_)
  rotate_left
  · intro w _
    go_simp
    try with_reducible rfl
  clear hHeld
  have hHeld := hNew
  clear hNew
  try simp only [List.getElem_toArray, List.getElem_cons_succ, List.getElem_cons_zero, Act.put, List.setIfInBounds_toArray, List.set_cons_zero, List.set_cons_succ]
  refine wpAnyL_take (i := 6) (oi := _) (v := ?_) rfl (by kernel_rfl) (by kernel_rfl) (by kernel_rfl) (by kernel_rfl) (by kernel_rfl) (fun _ _ _ h => h) (Or.inl ⟨by rfl, ?_⟩) (by assumption) (fun hNew => ?_)
  rotate_left
  · intro w _
    go_simp
    try with_reducible rfl
  clear hHeld
  have hHeld := hNew
  clear hNew
  try simp only [List.getElem_toArray, List.getElem_cons_succ, List.getElem_cons_zero, Act.put, List.setIfInBounds_toArray, List.set_cons_zero, List.set_cons_succ]
  refine wpAnyL_take (i := 8) (oi := _) (v := ?_) rfl (by kernel_rfl) (by kernel_rfl) (by kernel_rfl) (by kernel_rfl) (by kernel_rfl) (fun _ _ _ h => h) (Or.inl ⟨by rfl, ?_⟩) (by assumption) (fun hNew => ?_)
  rotate_left
  · intro w _
    go_simp
    try with_reducible rfl
  clear hHeld
  have hHeld := hNew
  clear hNew
  try simp only [List.getElem_toArray, List.getElem_cons_succ, List.getElem_cons_zero, Act.put, List.setIfInBounds_toArray, List.set_cons_zero, List.set_cons_succ]
  refine wpAnyL_ready (rs := [7]) (by kernel_rfl) (by simp) ?_
  refine AllReadyL.cons (o := _) rfl (fun K hK => ?_) AllReadyL.nil
  try simp only [List.getElem_toArray, List.getElem_cons_succ, List.getElem_cons_zero]
  go_simp
  refine (CRM.out _ HC6.out).mono ?_
  rintro e w' ⟨rfl, hq⟩
  subst hq
  clear hHeld
  refine hK.out _ _ ?_ (fun hHeld => ?_)
  · exact (HoldC.cons (cw) HoldC.nil)
  clear hK K
  try simp only [List.getElem_toArray, List.getElem_cons_succ, List.getElem_cons_zero, Act.put, List.setIfInBounds_toArray, List.set_cons_zero, List.set_cons_succ]
  refine wpAnyL_ready (rs := [9]) (by kernel_rfl) (by simp) ?_
  refine AllReadyL.cons (o := _) rfl (fun K hK => ?_) AllReadyL.nil
  try simp only [List.getElem_toArray, List.getElem_cons_succ, List.getElem_cons_zero]
  go_simp
  refine (CRRM.out _ HC6.out).mono ?_
  rintro e w' ⟨rfl, hq⟩
  subst hq
  clear hHeld
  refine hK.out _ _ ?_ (fun hHeld => ?_)
  · exact (HoldC.cons (cw) HoldC.nil)
  clear hK K
  try simp only [List.getElem_toArray, List.getElem_cons_succ, List.getElem_cons_zero, Act.put, List.setIfInBounds_toArray, List.set_cons_zero, List.set_cons_succ]
  refine wpAnyL_take (i := 10) (oi := _) (v := ?_) rfl (by kernel_rfl) (by kernel_rfl) (by kernel_rfl) (by kernel_rfl) (by kernel_rfl) (fun _ _ _ h => h) (Or.inl ⟨by rfl, ?_⟩) (by assumption) (fun hNew => ?_)
  rotate_left
  · intro w _
    go_simp
    try with_reducible rfl
  clear hHeld
  have hHeld := hNew
  clear hNew
  try simp only [List.getElem_toArray, List.getElem_cons_succ, List.getElem_cons_zero, Act.put, List.setIfInBounds_toArray, List.set_cons_zero, List.set_cons_succ]
  refine wpAnyL_take (i := 11) (oi := _) (v := ?_) rfl (by kernel_rfl) (by kernel_rfl) (by kernel_rfl) (by kernel_rfl) (by kernel_rfl) (fun _ _ _ h => h) (Or.inl ⟨by rfl, ?_⟩) (by assumption) (fun hNew => ?_)
  rotate_left
  · intro w _
    go_simp
    try with_reducible rfl
  clear hHeld
  have hHeld := hNew
  clear hNew
  try simp only [List.getElem_toArray, List.getElem_cons_succ, List.getElem_cons_zero, Act.put, List.setIfInBounds_toArray, List.set_cons_zero, List.set_cons_succ]
  refine wpAnyL_take (i := 12) (oi := _) (v := ?_) rfl (by kernel_rfl) (by kernel_rfl) (by kernel_rfl) (by kernel_rfl) (by kernel_rfl) (fun _ _ _ h => h) (Or.inl ⟨by rfl, ?_⟩) (by assumption) (fun hNew => ?_)
  rotate_left
  · intro w _
    go_simp
    try with_reducible rfl
  clear hHeld
  have hHeld := hNew
  clear hNew
  try simp only [List.getElem_toArray, List.getElem_cons_succ, List.getElem_cons_zero, Act.put, List.setIfInBounds_toArray, List.set_cons_zero, List.set_cons_succ]
  refine wpAnyL_take (i := 13) (oi := _) (v := ?_) rfl (by kernel_rfl) (by kernel_rfl) (by kernel_rfl) (by kernel_rfl) (by kernel_rfl) (fun _ _ _ h => h) (Or.inl ⟨by rfl, ?_⟩) (by assumption) (fun hNew => ?_)
  rotate_left
  · intro w _
    go_simp
    try with_reducible rfl
  clear hHeld
  have hHeld := hNew
  clear hNew
  try simp only [List.getElem_toArray, List.getElem_cons_succ, List.getElem_cons_zero, Act.put, List.setIfInBounds_toArray, List.set_cons_zero, List.set_cons_succ]
  refine wpAnyL_take (i := 15) (oi := _) (v := ?_) rfl (by kernel_rfl) (by kernel_rfl) (by kernel_rfl) (by kernel_rfl) (by kernel_rfl) (fun _ _ _ h => h) (Or.inl ⟨by rfl, ?_⟩) (by assumption) (fun hNew => ?_)
  rotate_left
  · intro w _
    go_simp
    try with_reducible rfl
  clear hHeld
  have hHeld := hNew
  clear hNew
  try simp only [List.getElem_toArray, List.getElem_cons_succ, List.getElem_cons_zero, Act.put, List.setIfInBounds_toArray, List.set_cons_zero, List.set_cons_succ]
  refine wpAnyL_take (i := 16) (oi := _) (v := ?_) rfl (by kernel_rfl) (by kernel_rfl) (by kernel_rfl) (by kernel_rfl) (by kernel_rfl) (fun _ _ _ h => h) (Or.inl ⟨by rfl, ?_⟩) (by assumption) (fun hNew => ?_)
  rotate_left
  · intro w _
    go_simp
    try with_reducible rfl
  clear hHeld
  have hHeld := hNew
  clear hNew
  try simp only [List.getElem_toArray, List.getElem_cons_succ, List.getElem_cons_zero, Act.put, List.setIfInBounds_toArray, List.set_cons_zero, List.set_cons_succ]
  refine wpAnyL_take (i := 17) (oi := _) (v := ?_) rfl (by kernel_rfl) (by kernel_rfl) (by kernel_rfl) (by kernel_rfl) (by kernel_rfl) (fun _ _ _ h => h) (Or.inl ⟨by rfl, ?_⟩) (by assumption) (fun hNew => ?_)
  rotate_left
  · intro w _
    go_simp
    try with_reducible rfl
  clear hHeld
  have hHeld := hNew
  clear hNew
  try simp only [List.getElem_toArray, List.getElem_cons_succ, List.getElem_cons_zero, Act.put, List.setIfInBounds_toArray, List.set_cons_zero, List.set_cons_succ]
  refine wpAnyL_loadP 0 [26, 25, 21, 20, 19] (i := 18) (oi := _) (v := ?_) rfl rfl (by kernel_rfl) (by kernel_rfl) (by kernel_rfl) (by kernel_rfl) (by kernel_rfl) (by kernel_rfl) (fun _ _ _ h => h) (Or.inl ⟨by rfl, ?_⟩) (by assumption) (fun hNew => ?_)
  rotate_left
  · intro w hSw
    (try dsimp only at hSw)
    go_simp
    try with_reducible rfl
  clear hHeld
  have hHeld := hNew
  clear hNew
  try simp only [List.getElem_toArray, List.getElem_cons_succ, List.getElem_cons_zero, Act.put, List.setIfInBounds_toArray, List.set_cons_zero, List.set_cons_succ]
  refine wpAnyL_ready (rs := [14]) (by kernel_rfl) (by simp) ?_
  refine AllReadyL.cons (o := _) rfl (fun K hK => ?_) AllReadyL.nil
  try simp only [List.getElem_toArray, List.getElem_cons_succ, List.getElem_cons_zero]
  go_simp
  refine (CWH.out _ HC6.out).mono ?_
  rintro e w' ⟨rfl, hq⟩
  subst hq
  clear hHeld
  refine hK.out _ _ ?_ (fun hHeld => ?_)
  · exact (HoldC.cons (cw) HoldC.nil)
  clear hK K
  try simp only [List.getElem_toArray, List.getElem_cons_succ, List.getElem_cons_zero, Act.put, List.setIfInBounds_toArray, List.set_cons_zero, List.set_cons_succ]
  refine wpAnyL_take (i := 19) (oi := _) (v := ?_) rfl (by kernel_rfl) (by kernel_rfl) (by kernel_rfl) (by kernel_rfl) (by kernel_rfl) (fun _ _ _ h => h) (Or.inl ⟨by rfl, ?_⟩) (by assumption) (fun hNew => ?_)
  rotate_left
  · intro w _
    go_simp
    try with_reducible rfl
  clear hHeld
  have hHeld := hNew
  clear hNew
  try simp only [List.getElem_toArray, List.getElem_cons_succ, List.getElem_cons_zero, Act.put, List.setIfInBounds_toArray, List.set_cons_zero, List.set_cons_succ]
  refine wpAnyL_take (i := 20) (oi := _) (v := ?_) rfl (by kernel_rfl) (by kernel_rfl) (by kernel_rfl) (by kernel_rfl) (by kernel_rfl) (fun _ _ _ h => h) (Or.inl ⟨by rfl, ?_⟩) (by assumption) (fun hNew => ?_)
  rotate_left
  · intro w _
    go_simp
    try with_reducible rfl
  clear hHeld
  have hHeld := hNew
  clear hNew
  try simp only [List.getElem_toArray, List.getElem_cons_succ, List.getElem_cons_zero, Act.put, List.setIfInBounds_toArray, List.set_cons_zero, List.set_cons_succ]
  refine wpAnyL_take (i := 21) (oi := _) (v := ?_) rfl (by kernel_rfl) (by kernel_rfl) (by kernel_rfl) (by kernel_rfl) (by kernel_rfl) (fun _ _ _ h => h) (Or.inl ⟨by rfl, ?_⟩) (by assumption) (fun hNew => ?_)
  rotate_left
  · intro w _
    go_simp
    try with_reducible rfl
  clear hHeld
  have hHeld := hNew
  clear hNew
  try simp only [List.getElem_toArray, List.getElem_cons_succ, List.getElem_cons_zero, Act.put, List.setIfInBounds_toArray, List.set_cons_zero, List.set_cons_succ]
  refine wpAnyL_take (i := 22) (oi := _) (v := ?_) rfl (by kernel_rfl) (by kernel_rfl) (by kernel_rfl) (by kernel_rfl) (by kernel_rfl) (fun _ _ _ h => h) (Or.inl ⟨by rfl, ?_⟩) (by assumption) (fun hNew => ?_)
  rotate_left
  · intro w _
    go_simp
    try with_reducible rfl
  clear hHeld
  have hHeld := hNew
  clear hNew
  try simp only [List.getElem_toArray, List.getElem_cons_succ, List.getElem_cons_zero, Act.put, List.setIfInBounds_toArray, List.set_cons_zero, List.set_cons_succ]
  refine wpAnyL_take (i := 23) (oi := _) (v := ?_) rfl (by kernel_rfl) (by kernel_rfl) (by kernel_rfl) (by kernel_rfl) (by kernel_rfl) (fun _ _ _ h => h) (Or.inl ⟨by rfl, ?_⟩) (by assumption) (fun hNew => ?_)
  rotate_left
  · intro w _
    go_simp
    try with_reducible rfl
  clear hHeld
  have hHeld := hNew
  clear hNew
  try simp only [List.getElem_toArray, List.getElem_cons_succ, List.getElem_cons_zero, Act.put, List.setIfInBounds_toArray, List.set_cons_zero, List.set_cons_succ]
  refine wpAnyL_take (i := 24) (oi := _) (v := ?_) rfl (by kernel_rfl) (by kernel_rfl) (by kernel_rfl) (by kernel_rfl) (by kernel_rfl) (fun _ _ _ h => h) (Or.inl ⟨by rfl, ?_⟩) (by assumption) (fun hNew => ?_)
  rotate_left
  · intro w _
    go_simp
    try with_reducible rfl
  clear hHeld
  have hHeld := hNew
  clear hNew
  try simp only [List.getElem_toArray, List.getElem_cons_succ, List.getElem_cons_zero, Act.put, List.setIfInBounds_toArray, List.set_cons_zero, List.set_cons_succ]
  refine wpAnyL_take (i := 25) (oi := _) (v := ?_) rfl (by kernel_rfl) (by kernel_rfl) (by kernel_rfl) (by kernel_rfl) (by kernel_rfl) (fun _ _ _ h => h) (Or.inl ⟨by rfl, ?_⟩) (by assumption) (fun hNew => ?_)
  rotate_left
  · intro w _
    go_simp
    try with_reducible rfl
  clear hHeld
  have hHeld := hNew
  clear hNew
  try simp only [List.getElem_toArray, List.getElem_cons_succ, List.getElem_cons_zero, Act.put, List.setIfInBounds_toArray, List.set_cons_zero, List.set_cons_succ]
  refine wpAnyL_take (i := 26) (oi := _) (v := ?_) rfl (by kernel_rfl) (by kernel_rfl) (by kernel_rfl) (by kernel_rfl) (by kernel_rfl) (fun _ _ _ h => h) (Or.inl ⟨by rfl, ?_⟩) (by assumption) (fun hNew => ?_)
  rotate_left
  · intro w _
    go_simp
    try with_reducible rfl
  clear hHeld
  have hHeld := hNew
  clear hNew
  try simp only [List.getElem_toArray, List.getElem_cons_succ, List.getElem_cons_zero, Act.put, List.setIfInBounds_toArray, List.set_cons_zero, List.set_cons_succ]
  refine wpAnyL_take (i := 27) (oi := _) (v := ?_) rfl (by kernel_rfl) (by kernel_rfl) (by kernel_rfl) (by kernel_rfl) (by kernel_rfl) (fun _ _ _ h => h) (Or.inl ⟨by rfl, ?_⟩) (by assumption) (fun hNew => ?_)
  rotate_left
  · intro w _
    go_simp
    try with_reducible rfl
  clear hHeld
  have hHeld := hNew
  clear hNew
  try simp only [List.getElem_toArray, List.getElem_cons_succ, List.getElem_cons_zero, Act.put, List.setIfInBounds_toArray, List.set_cons_zero, List.set_cons_succ]
  refine wpAnyL_take (i := 28) (oi := _) (v := ?_) rfl (by kernel_rfl) (by kernel_rfl) (by kernel_rfl) (by kernel_rfl) (by kernel_rfl) (fun _ _ _ h => h) (Or.inl ⟨by rfl, ?_⟩) (by assumption) (fun hNew => ?_)
  rotate_left
  · intro w _
    go_simp
    try with_reducible rfl
  clear hHeld
  have hHeld := hNew
  clear hNew
  try simp only [List.getElem_toArray, List.getElem_cons_succ, List.getElem_cons_zero, Act.put, List.setIfInBounds_toArray, List.set_cons_zero, List.set_cons_succ]
  have hc36 : Chg [] w3 w6 := HC6.out
  have CSM := Lib.hid (same_any _ _ rb rb w6 (HV2.out.1.chg hc36 (by simp)) (HV2.out.2.chg hc36 (by simp)) (by omega) (by omega))
  rw [decide_eq_true rfl] at CSM
  clear hc36
  refine wpAnyL_ready (rs := [29]) (by kernel_rfl) (by simp) ?_
  refine AllReadyL.cons (o := _) rfl (fun K hK => ?_) AllReadyL.nil
  try simp only [List.getElem_toArray, List.getElem_cons_succ, List.getElem_cons_zero]
  go_simp
  refine CSM.out.mono ?_
  rintro e w7 ⟨rfl, nn, hq⟩
  have HF : Hid (Chg [] w w7) := Lib.hid (by rw [hq]; exact ((HC1.out.trans HC3.out (by simp)).trans HC6.out (by simp)).drewN nn)
  clear hq CSM cw
  clear hHeld
  refine hK.out _ _ ?_ (fun hHeld => ?_)
  · exact (HoldC.past (by kernel_rfl) HoldC.nil)
  clear hK K
  try simp only [List.getElem_toArray, List.getElem_cons_succ, List.getElem_cons_zero, Act.put, List.setIfInBounds_toArray, List.set_cons_zero, List.set_cons_succ]
  refine wpAnyL_take (i := 30) (oi := _) (v := ?_) rfl (by kernel_rfl) (by kernel_rfl) (by kernel_rfl) (by kernel_rfl) (by kernel_rfl) (fun _ _ _ h => h) (Or.inl ⟨by rfl, ?_⟩) (by assumption) (fun hNew => ?_)
  rotate_left
  · intro w _
    go_simp
    try with_reducible rfl
  clear hHeld
  have hHeld := hNew
  clear hNew
  try simp only [List.getElem_toArray, List.getElem_cons_succ, List.getElem_cons_zero, Act.put, List.setIfInBounds_toArray, List.set_cons_zero, List.set_cons_succ]
  refine wpAnyL_take (i := 31) (oi := _) (v := ?_) rfl (by kernel_rfl) (by kernel_rfl) (by kernel_rfl) (by kernel_rfl) (by kernel_rfl) (fun _ _ _ h => h) (Or.inl ⟨by rfl, ?_⟩) (by assumption) (fun hNew => ?_)
  rotate_left
  · intro w _
    go_simp
    try with_reducible rfl
  clear hHeld
  have hHeld := hNew
  clear hNew
  try simp only [List.getElem_toArray, List.getElem_cons_succ, List.getElem_cons_zero, Act.put, List.setIfInBounds_toArray, List.set_cons_zero, List.set_cons_succ]
  refine wpAnyL_done (by kernel_rfl) ?_ _
  clear hHeld
  go_wp2_with fail
  go_ret
  exact ⟨rfl, HF.out⟩
end Go.Proofs.YtbkajnjboipbhaaGreatDoor.W

/- The law's latest. -/
namespace Go.Proofs.YtbkajnjboipbhaaGreatDoor.W
open Go.RowKit
set_option linter.unusedVariables false
set_option linter.unusedSimpArgs false
variable {G : List Nat}

set_option maxHeartbeats 16000000 in
set_option maxRecDepth 100000 in
theorem latest6_any (q p q2 m : Nat) (U U2 B2 : List Nat) (t : Sto) (c : Int) (w : World) (hS : StAt G w q p U t) (hR : RStAt w q2 m U2 B2 t) (hl : t.ids.length ≤ 1000) :
    Calls Tryz.prog 45 #[.pointer (some ⟨q, 0, none⟩), .pointer (some ⟨q2, 0, none⟩), .int .i64 c] w fun e w' => e = .returned (.bool true) ∧ Chg [] w w' := by
  have CT := Lib.hid (stlatest_any q p U t c w hS hl)
  have HR := Lib.hid hR
  have HLL : Hid (t.latest c = lastOf c t.ids) := Lib.hid rfl
  have CL := Lib.hid (fun w' (h : Chg [] w w') => rstlist_any q2 m U2 B2 t w' (hR.keep h (by simp)))
  unfold ListPost at CL
  generalize t.latest c = r at *
  generalize t.ids = L at *
  obtain ⟨⟨zc, zl, zn, zi⟩, zb⟩ := r
  dsimp only at CT
  clear hS hR
  go_enter Tryz.func45, Tryz.ntmps45
  go_wp2_with fail
  refine CT.out.mono ?_
  rintro e w1 ⟨rfl, hc1⟩
  have HC1 := Lib.hid (hc1.alloc (.cells (idC ⟨zc, zl, zn, zi⟩) 25))
  have HB1 := Lib.hid (show (w1.alloc (.cells (idC ⟨zc, zl, zn, zi⟩) 25)).heap[w1.heap.size]? = some (.cells (idC ⟨zc, zl, zn, zi⟩) 25 (0, 0)) from heap_alloc_new w1 _)
  have CL1 := Lib.hid (CL.out _ HC1.out)
  clear hc1 CT CL
  go_wp2_with fail
  refine CL1.out.mono ?_
  rintro e w2 ⟨v, rfl, hown, hc2⟩
  obtain ⟨a, cap, rfl, hA⟩ := IdRow.of hown
  have HA := Lib.hid hA
  have HC2 := Lib.hid (HC1.out.trans hc2 (by simp))
  have HB2 := Lib.hid (hc2.keep HB1.out (by simp))
  obtain ⟨g1, hg1⟩ : ∃ g1, g1 = w1.heap.size := ⟨_, rfl⟩
  rw [← hg1] at HB2
  have hg12 : g1 < w2.heap.size := blk_lt HB2.out
  have HG1 := Lib.hid hg1
  clear hA hown hc2 CL1 HB1 HC1 hg1
  obtain ⟨n, hn⟩ : ∃ n, n = L.length := ⟨_, rfl⟩
  rw [← hn] at hl
  have HN := Lib.hid hn
  rw [← hn]
  rw [← HG1.out]
  obtain ⟨w3, hw3⟩ : ∃ w3, w3 = w2.alloc (.cells (idC ⟨0, 0, 0, 0⟩) 25) := ⟨_, rfl⟩
  have hc3 : Chg [] w2 w3 := by rw [hw3]; exact (Chg.refl [] w2).alloc _
  have HB3 := Lib.hid (show w3.heap[w2.heap.size]? = some (.cells (idC ⟨0, 0, 0, 0⟩) 25 (0, 0)) by rw [hw3]; exact heap_alloc_new w2 _)
  have HC3 := Lib.hid hc3
  have HW3 := Lib.hid hw3
  clear hn hw3 hc3
  go_wp2_with fail
  go_loopg [11, 12] n (fun g' s11 s12 wr => ∃ (i : Nat), s12 = .int .i64 (i : Int) ∧ s11 = .bool (lastOf c (L.take i)).2 ∧ i ≤ n ∧ n ≤ i + g' ∧ Hid (Chg [w2.heap.size] w2 wr ∧ wr.heap[w2.heap.size]? = some (.cells (idC (lastOf c (L.take i)).1) 25 (0, 0))))
  case atStart => exact ⟨0, rfl, rfl, by omega, by omega, Lib.hid ⟨by
    have := HC3.out.mono (T := [w2.heap.size]) (by simp)
    rw [HW3.out] at this
    exact this, by
    have := HB3.out
    rw [HW3.out] at this
    exact this⟩⟩
  case round =>
    obtain ⟨i, rfl, rfl, hi, hig, HJ⟩ := hrel
    by_cases hlt : i < n
    · obtain ⟨g, ⟨xc, xl, xn, xi⟩, rfl, hx, m0, m1, m2, m3⟩ := HA.out i (by rw [← HN.out]; exact hlt)
      dsimp only at m0 m1 m2 m3
      have hg2 : g < w2.heap.size := World.block_lt_of_cell? w2 _ m0
      have hgn : g ∉ [w2.heap.size] := by simp; omega
      have m0 := HJ.out.1.cell m0 hgn
      have m1 := HJ.out.1.cell m1 hgn
      have m2 := HJ.out.1.cell m2 hgn
      have m3 := HJ.out.1.cell m3 hgn
      have HN2 : Hid (lastOf c (L.take (i + 1)) = if xc = c then (⟨xc, xl, xn, xi⟩, true) else lastOf c (L.take i)) := Lib.hid (by
        have hil := (List.getElem?_eq_some_iff.1 hx).1
        rw [List.take_succ_eq_append_getElem hil, lastOf_snoc]
        have : L[i] = ⟨xc, xl, xn, xi⟩ := by
          rw [List.getElem?_eq_getElem hil] at hx
          exact Option.some.inj hx
        rw [this])
      have hiz : (i : Int) < (n : Int) := by omega
      have hiz1 : (i : Int).toNat = i := by omega
      have hbA := HJ.out.2
      have hcA := HJ.out.1
      clear hx hgn
      generalize lastOf c (L.take i) = z at *
      obtain ⟨⟨yc, yl, yn, yi⟩, yb⟩ := z
      dsimp only at HJ HN2 hbA
      by_cases hxc : xc = c
      · subst hxc
        have HN3 : Hid (lastOf xc (L.take (i + 1)) = (⟨xc, xl, xn, xi⟩, true)) := Lib.hid (by rw [HN2.out, if_pos rfl])
        obtain ⟨n0, n1, n2, n3⟩ := id_cells hbA
        have f0 := blk_frozen hbA 0
        have f1 := blk_frozen hbA 1
        have f2 := blk_frozen hbA 2
        have f3 := blk_frozen hbA 3
        have HF : Hid (Chg [w2.heap.size] w2 ((((wr.setCell ⟨w2.heap.size, 0, none⟩ (.int .i64 xc)).setCell ⟨w2.heap.size, 1, none⟩ (.int .i64 xl)).setCell ⟨w2.heap.size, 2, none⟩ (.int .i64 xn)).setCell ⟨w2.heap.size, 3, none⟩ (.int .i64 xi)) ∧
            ((((wr.setCell ⟨w2.heap.size, 0, none⟩ (.int .i64 xc)).setCell ⟨w2.heap.size, 1, none⟩ (.int .i64 xl)).setCell ⟨w2.heap.size, 2, none⟩ (.int .i64 xn)).setCell ⟨w2.heap.size, 3, none⟩ (.int .i64 xi)).heap[w2.heap.size]? = some (.cells (idC ⟨xc, xl, xn, xi⟩) 25 (0, 0))) := Lib.hid
          ⟨(((hcA.setCell (.inl (by simp)) _).setCell (.inl (by simp)) _).setCell (.inl (by simp)) _).setCell (.inl (by simp)) _, id_written hbA ⟨xc, xl, xn, xi⟩⟩
        clear HJ HN2 hcA hbA
        go_wp2_with fail
        go_roundg (gk - 1)
        case measure => omega
        case rel => exact ⟨i + 1, by go_num, by rw [HN3.out], by omega, by omega, by rw [HN3.out]; exact HF⟩
      · have HN3 : Hid (lastOf c (L.take (i + 1)) = (⟨yc, yl, yn, yi⟩, yb)) := Lib.hid (by rw [HN2.out, if_neg hxc])
        have q0 : (xc == c) = false := by simp [hxc]
        have HF : Hid (Chg [w2.heap.size] w2 wr ∧ wr.heap[w2.heap.size]? = some (.cells (idC ⟨yc, yl, yn, yi⟩) 25 (0, 0))) := Lib.hid ⟨hcA, hbA⟩
        clear HJ HN2 hxc hcA hbA
        go_wp2_with fail
        go_roundg (gk - 1)
        case measure => omega
        case rel => exact ⟨i + 1, by go_num, by rw [HN3.out], by omega, by omega, by rw [HN3.out]; exact HF⟩
    · have him : i = n := by omega
      have hiz : ¬ (i : Int) < (n : Int) := by omega
      rw [him, HN.out, List.take_length, ← HLL.out] at HJ
      rw [him, HN.out, List.take_length, ← HLL.out]
      dsimp only at HJ
      dsimp only
      obtain ⟨n0, n1, n2, n3⟩ := id_cells HJ.out.2
      obtain ⟨v0, v1, v2, v3⟩ := id_cells (HJ.out.1.keep HB2.out (by simp; omega))
      rw [him] at hiz
      have hiz2 : ¬ ((L.length : Nat) : Int) < (n : Int) := by rw [← HN.out]; exact hiz
      have HF : Hid (Chg [] w wr) := Lib.hid (HC2.out.trans HJ.out.1 (fun y hy => .inr (by simp at hy; have := HC2.out.size; omega)))
      clear HJ
      cases zb with
      | true =>
        go_wp2
        go_ret
        exact ⟨rfl, HF.out⟩
      | false =>
        go_wp2
        go_ret
        exact ⟨rfl, HF.out⟩
end Go.Proofs.YtbkajnjboipbhaaGreatDoor.W

/- The reference's OpenSlots. -/
namespace Go.Proofs.YtbkajnjboipbhaaGreatDoor.W
open Go.RowKit
set_option linter.unusedVariables false
set_option linter.unusedSimpArgs false

/-- What OpenSlots answers. -/
def ROpenPost (m : Nat) (V F : List Nat) (w : World) (r : Int × Option SS) (e : Ending) (w' : World) : Prop := Chg [] w w' ∧ match r with
  | (c, none) => e = .returned (.tuple #[.pointer none, .int .i64 c])
  | (c, some s) => ∃ q W A, e = .returned (.tuple #[.pointer (some ⟨q, 0, none⟩), .int .i64 c]) ∧ RSlotsAt w' q m W A s ∧ (∀ x ∈ W, x ∈ V ∨ w.heap.size ≤ x) ∧ ∀ x ∈ A, x ∈ F ∨ w.heap.size ≤ x
/-- While OpenSlots is at work. -/
structure ROpenAt (w wr : World) (q m : Nat) (first : Nat) (rv : Value) (R : List (SRow × Value)) : Prop where
  chg : Chg [] w wr
  obj : ObjAt wr q 123 #[.pointer (some ⟨m, 0, none⟩), .int .i64 (first : Int), rv] [rowQ rv R]
  new : ∀ x ∈ blks q [rowQ rv R], w.heap.size ≤ x
  no8 : ∀ x ∈ blks q [rowQ rv R], NoU8 wr x
  keys : ∀ x ∈ R, BytesAt wr x.2 x.1.key ∧ ∀ g, x.2.ownBlock = some g → g < wr.heap.size ∧ w.heap.size ≤ g ∧ g ∉ blks q [rowQ rv R]
theorem ROpenAt.keep {w wr w' : World} {q m first : Nat} {rv : Value} {R : List (SRow × Value)} (h : ROpenAt w wr q m first rv R) (hc : Chg [] wr w') : ROpenAt w w' q m first rv R :=
  ⟨h.chg.trans hc (by simp), h.obj.keep hc (by simp), h.new, fun x hx => (h.no8 x hx).keep (hc.block x (h.obj.lim x hx) (by simp)), fun x hx => ⟨(h.keys x hx).1.chg hc (by simp), fun g hg => ⟨Nat.lt_of_lt_of_le ((h.keys x hx).2 g hg).1 hc.size, ((h.keys x hx).2 g hg).2⟩⟩⟩
theorem ROpenAt.row {w wr : World} {q m first : Nat} {rv : Value} {R : List (SRow × Value)} (h : ROpenAt w wr q m first rv R) : wr.ownsRow 0 125 3 rv R.length (qcells R) ∧ (∀ c ∈ qcells R, No8 c) ∧ ∀ x, rv.ownBlock = some x → NoU8 wr x :=
  ⟨h.obj.rows _ (List.mem_singleton.2 rfl), qcells_no8 R (fun x hx => (h.keys x hx).1), fun x hx => h.no8 x (blks_row (r := rowQ rv R) (List.mem_singleton.2 rfl) hx)⟩
theorem ROpenAt.more {w wr w2 : World} {q m first : Nat} {rv : Value} {R : List (SRow × Value)} (h : ROpenAt w wr q m first rv R) (x : SRow × Value) (g cap : Nat) (hg : wr.grownBy w2 rv.ownBlock) (hrow : w2.ownsRow 0 125 3 (.slice (some ⟨g, 0, none⟩) (R.length + 1) cap) (R.length + 1) (qcells R ++ qcell x))
    (hat : rv.ownBlock = some g ∨ g = wr.heap.size) (h8 : NoU8 w2 g) (hx : BytesAt wr x.2 x.1.key) (hxU : ∀ g, x.2.ownBlock = some g → g < wr.heap.size ∧ w.heap.size ≤ g ∧ g ∉ blks q [rowQ rv R]) :
    ROpenAt w (w2.setCell ⟨q, 2, none⟩ (.slice (some ⟨g, 0, none⟩) (R.length + 1) cap)) q m first (.slice (some ⟨g, 0, none⟩) (R.length + 1) cap) (R ++ [x]) := by
  have hloc : ∀ k, (Value.slice (some ⟨g, 0, none⟩) (R.length + 1) cap).ownBlock = some k → rv.ownBlock = some k ∨ wr.heap.size ≤ k := fun k hk => by
    obtain rfl : g = k := by simpa [Value.ownBlock] using hk
    rcases hat with h4 | h4
    · exact .inl h4
    · exact .inr (by omega)
  have hobj : ObjAt wr q 123 #[.pointer (some ⟨m, 0, none⟩), .int .i64 (first : Int), rv] ([] ++ rowQ rv R :: []) := h.obj
  obtain ⟨o1, o2, o3⟩ := hobj.field (r' := rowQ (.slice (some ⟨g, 0, none⟩) (R.length + 1) cap) (R ++ [x])) 2 hg (by
    show w2.ownsRow 0 125 3 (.slice (some ⟨g, 0, none⟩) (R.length + 1) cap) (R ++ [x]).length (qcells (R ++ [x]))
    rw [List.length_append, qcells_app]
    exact hrow) hloc
  have o8 := hobj.field8 h.no8 2 hg (r' := rowQ (.slice (some ⟨g, 0, none⟩) (R.length + 1) cap) (R ++ [x])) hloc (fun y hy => by
    obtain rfl : g = y := by simpa [rowQ, Value.ownBlock] using hy
    exact h8) no8_slice
  refine ⟨h.chg.trans o3 (fun x hx => .inr (h.new x hx)), o1, fun y hy => ?_, o8, fun y hy => ?_⟩
  · rcases o2 y hy with h1 | h1
    · exact h.new y h1
    · exact Nat.le_trans h.chg.size h1
  · have hout : ∀ k, k < wr.heap.size → k ∉ blks q [rowQ rv R] → k ∉ blks q [rowQ (.slice (some ⟨g, 0, none⟩) (R.length + 1) cap) (R ++ [x])] := fun k h1 h2 hm => by
      rcases o2 k hm with h3 | h3
      · exact h2 h3
      · omega
    rcases List.mem_append.1 hy with hy | hy
    · obtain ⟨k1, k2⟩ := h.keys y hy
      exact ⟨k1.chg o3 (fun k hk => (k2 k hk).2.2), fun k hk => ⟨Nat.lt_of_lt_of_le (k2 k hk).1 o3.size, (k2 k hk).2.1, hout k (k2 k hk).1 (k2 k hk).2.2⟩⟩
    · obtain rfl : y = x := by simpa using hy
      exact ⟨hx.chg o3 (fun k hk => (hxU k hk).2.2), fun k hk => ⟨Nat.lt_of_lt_of_le (hxU k hk).1 o3.size, (hxU k hk).2.1, hout k (hxU k hk).1 (hxU k hk).2.2⟩⟩
theorem ROpenAt.done {w wr : World} {q m first : Nat} {V F : List Nat} {d : DS} {rv : Value} {R : List (SRow × Value)} (h : ROpenAt w wr q m first rv R) (hd : RDiskAt w m V F d) (hok : SS.Ok ⟨d, first, R.map (·.1)⟩) :
    ∃ W A, RSlotsAt wr q m W A ⟨d, first, R.map (·.1)⟩ ∧ (∀ x ∈ W, x ∈ V ∨ w.heap.size ≤ x) ∧ ∀ x ∈ A, x ∈ F ∨ w.heap.size ≤ x := by
  obtain ⟨l1, l2, l3⟩ := hd.lim
  refine ⟨V ++ blks q [rowQ rv R], F ++ blks q [rowQ rv R] ++ R.flatMap (fun x => x.2.ownBlock.toList), ⟨V, F, rv, R, h.obj, hd.keep h.chg (by simp), rfl, fun x hx hm => ?_, fun x hx => ?_, rfl, h.no8, fun x hx => List.mem_append_left _ (List.mem_append_left _ hx), fun x hx => List.mem_append_left _ (List.mem_append_right _ hx), fun x hx => ?_, hok⟩, fun x hx => ?_, fun x hx => ?_⟩
  · have a1 := h.new x hx
    have a2 := l1 x hm
    omega
  · obtain ⟨k1, k2⟩ := h.keys x hx
    refine ⟨k1, fun g hg => ⟨List.mem_append_right _ (List.mem_flatMap.2 ⟨x, hx, by rw [hg]; simp⟩), fun hm => ?_⟩⟩
    obtain ⟨b1, b2, b3⟩ := k2 g hg
    rcases List.mem_append.1 hm with hm | hm
    · have := l1 g (l2 g hm); omega
    · exact b3 hm
  · rcases List.mem_append.1 hx with hx | hx
    · rcases List.mem_append.1 hx with hx | hx
      · exact Nat.lt_of_lt_of_le (l1 x hx) h.chg.size
      · exact h.obj.lim x hx
    · obtain ⟨c, hc, hx⟩ := List.mem_flatMap.1 hx
      exact ((h.keys c hc).2 x (by simpa using hx)).1
  · rcases List.mem_append.1 hx with hx | hx
    · exact .inl hx
    · exact .inr (h.new x hx)
  · rcases List.mem_append.1 hx with hx | hx
    · rcases List.mem_append.1 hx with hx | hx
      · exact .inl hx
      · exact .inr (h.new x hx)
    · obtain ⟨c, hc, hx⟩ := List.mem_flatMap.1 hx
      exact .inr ((h.keys c hc).2 x (by simpa using hx)).2.1
theorem ropen_at (m first : Nat) (w : World) : ROpenAt w (w.alloc (.cells #[.pointer (some ⟨m, 0, none⟩), .int .i64 (first : Int), .slice none 0 0] 123)) w.heap.size m first (.slice none 0 0) [] := by
  have hh := heap_alloc_new w (.cells #[.pointer (some ⟨m, 0, none⟩), .int .i64 (first : Int), .slice none 0 0] 123)
  have hb : blks w.heap.size [rowQ (.slice none 0 0) []] = [w.heap.size] := rfl
  refine ⟨(Chg.refl _ _).alloc _, ⟨hh, fun r hr => ?_, by rw [hb]; simp⟩, fun x hx => ?_, fun x hx => ?_, fun x hx => by cases hx⟩
  · obtain rfl : r = rowQ (.slice none 0 0) [] := by simpa using hr
    exact ⟨rfl, .inl ⟨rfl, rfl⟩⟩
  · rw [hb] at hx
    rw [List.mem_singleton.1 hx]
    exact Nat.le_refl _
  · rw [hb] at hx
    rw [List.mem_singleton.1 hx]
    refine NoU8.mk hh (no8_list (l := [_, _, _]) ?_)
    intro c hc
    simp only [List.mem_cons, List.mem_nil_iff, or_false] at hc
    rcases hc with rfl | rfl | rfl <;> (intro z; simp)
theorem facts_held : (Tryz.prog.info? 125).map (fun i => (i.zero, i.size, i.bytes)) = some (some (.agg #[.bool false, .slice none 0 0, .int .i64 0]), 3, 40) := by kernel_rfl

set_option maxHeartbeats 8000000 in
set_option maxRecDepth 100000 in
theorem ropen_any (m : Nat) (V F : List Nat) (d : DS) (first : Int) (w : World) (h : RDiskAt w m V F d) (hn0 : d.n ≠ 0) :
    Calls Tryz.prog 74 #[.pointer (some ⟨m, 0, none⟩), .int .i64 first] w (ROpenPost m V F w (d.slots first)) := by
  have HD := Lib.hid h
  obtain ⟨p6, hnd, a, cap, p0, -⟩ := h.read
  obtain ⟨n, hn⟩ : ∃ n, n = d.n := ⟨_, rfl⟩
  have HN := Lib.hid hn
  rw [← hn] at p0 hnd hn0
  by_cases hneg : first < 0
  · have hg : d.slots first = (1, none) := by unfold DS.slots; rw [if_pos (.inl hneg)]
    rw [hg]
    have q0 : decide (first < 0) = true := decide_eq_true hneg
    clear h hg p6
    go_enter Tryz.func74, Tryz.ntmps74
    go_wp2
    go_ret2
    exact ⟨Chg.refl _ _, rfl⟩
  · obtain ⟨f, rfl⟩ := Int.eq_ofNat_of_zero_le (show 0 ≤ first by omega)
    have q0 : decide ((f : Int) < 0) = false := decide_eq_false hneg
    by_cases hbig : n < f
    · have hg : d.slots (f : Int) = (1, none) := by unfold DS.slots; rw [if_pos (.inr (by omega))]
      rw [hg]
      have q1 : decide ((f : Int) > (n : Int)) = true := decide_eq_true (by omega)
      clear h hg p6
      go_enter Tryz.func74, Tryz.ntmps74
      go_wp2
      go_ret2
      exact ⟨Chg.refl _ _, rfl⟩
    · have q1 : decide ((f : Int) > (n : Int)) = false := decide_eq_false (by omega)
      by_cases hd : d.dead = true
      · have hg : d.slots (f : Int) = (14, none) := by unfold DS.slots; rw [if_neg (by omega), if_pos (.inl hd)]
        rw [hg]
        rw [hd] at p6
        clear h hg hd
        go_enter Tryz.func74, Tryz.ntmps74
        go_wp2
        go_ret2
        exact ⟨Chg.refl _ _, rfl⟩
      · have hg : d.slots (f : Int) = match rowsFrom d f ((d.n - f) / 8) 0 with
            | none => (4, none)
            | some rows => (0, some ⟨d, f, rows⟩) := by
          unfold DS.slots
          rw [if_neg (by omega), if_neg (by rw [← hn]; simp [hd, hn0])]
          rfl
        have hd' : d.dead = false := by simpa using hd
        rw [hd'] at p6
        obtain ⟨Z, hZ⟩ : ∃ Z, Z = d.slots f := ⟨_, rfl⟩
        rw [← hZ] at hg ⊢
        obtain ⟨M, hM⟩ : ∃ M, M = (d.n - f) / 8 := ⟨_, rfl⟩
        rw [← hM] at hg
        have HG := Lib.hid hg
        have hm8 : f + 8 * M ≤ n ∧ n < f + 8 * M + 8 := by omega
        have HSEC := Lib.hid (fun wr (hc : Chg [] w wr) => ((h.keep hc (by simp)).read).2.2)
        obtain ⟨w1, hw1⟩ : ∃ w1, w1 = w.alloc (.cells #[.pointer (some ⟨m, 0, none⟩), .int .i64 (f : Int), .slice none 0 0] 123) := ⟨_, rfl⟩
        have HO1 : Hid (ROpenAt w w1 w.heap.size m f (.slice none 0 0) []) := Lib.hid (by rw [hw1]; exact ropen_at m f w)
        obtain ⟨q, hq⟩ : ∃ q, q = w.heap.size := ⟨_, rfl⟩
        rw [← hq] at HO1
        have HQ := Lib.hid hq
        have HW1 := Lib.hid hw1
        have HP0 := Lib.hid p0
        clear h hg hd hd' hZ hM hw1 hq
        go_enter Tryz.func74, Tryz.ntmps74
        go_wp2_with fail
        rw [← HW1.out, ← HQ.out]
        go_loopg [7, 8, 9] M (fun g' s7 s8 s9 wr => ∃ (k : Nat) (rv : Value) (R : List (SRow × Value)), s7 = .int .i64 ((f + 8 * k : Nat) : Int) ∧ k ≤ M ∧ M ≤ k + g' ∧ Hid (ROpenAt w wr q m f rv R ∧ R.length = k ∧ rowsFrom d f M 0 = (rowsFrom d f (M - k) k).map (R.map (·.1) ++ ·)))
        case atStart => exact ⟨0, .slice none 0 0, [], by simp, by omega, by omega, Lib.hid ⟨HO1.out, rfl, by simp⟩⟩
        case round =>
          obtain ⟨k, rv, R, rfl, hk, hkg, HR⟩ := hrel
          obtain ⟨hO, hRl, hrows⟩ := HR.out
          have HO := Lib.hid hO
          have HROWS := Lib.hid hrows
          have e0 := hO.chg.cell HP0.out (by simp)
          clear hO hrows p0 p6 HR
          by_cases hlt : k < M
          · obtain ⟨a', c', e', hsec⟩ := HSEC.out wr HO.out.chg
            obtain ⟨rfl, hce, rfl⟩ : a = a' ∧ n = d.n ∧ cap = c' := by
              have := e0.symm.trans e'
              simpa using this
            obtain ⟨gn, ax, cx, rfl, e1, b1, l1⟩ := hsec (f + 8 * k) (by rw [← hce]; omega)
            have CH := Lib.hid (rhead_any _ _ wr b1 (by rw [l1]; omega))
            have hle : decide ((f : Int) + 8 * (k : Int) + 8 ≤ (n : Int)) = true := decide_eq_true (by omega)
            have hfk : ((f : Int) + 8 * (k : Int)).toNat = f + 8 * k := by omega
            have hfk0 : (0 : Int) ≤ (f : Int) + 8 * (k : Int) := by omega
            have hfk1 : (f : Int) + 8 * (k : Int) < (n : Int) := by omega
            clear e' hsec b1 l1 hce
            go_wp2_with fail
            refine CH.out.mono ?_
            rintro e w4 ⟨hc4, hh⟩
            have HO4 := Lib.hid (HO.out.keep hc4)
            cases hhd : headOf (d.now (f + 8 * k)) with
            | none =>
              rw [hhd] at hh
              obtain rfl := hh
              have HZ : Hid (Z = (4, none)) := Lib.hid (by
                rw [HG.out, HROWS.out, show M - k = (M - (k + 1)) + 1 by omega]
                unfold rowsFrom
                rw [hhd]
                rfl)
              have HCF := Lib.hid HO4.out.chg
              clear hhd hc4 CH
              go_wp2
              go_ret2
              rw [HZ.out]
              exact ⟨HCF.out.alloc _, rfl⟩
            | some r =>
              rw [hhd] at hh
              obtain ⟨kv, rfl, hr5, ho5⟩ := hh
              obtain ⟨ak, ck, hkv⟩ := hr5.bytes.slice
              have hxU : ∀ g, kv.ownBlock = some g → g < w4.heap.size ∧ w.heap.size ≤ g ∧ g ∉ blks q [rowQ rv R] := fun g hg => by
                have e1 := ho5 g hg
                have e4 := HO.out.chg.size
                refine ⟨hr5.lt g hg, by omega, fun hm => ?_⟩
                have := HO.out.obj.lim g hm
                omega
              obtain ⟨hb, hhb⟩ : ∃ hb, hb = w4.heap.size := ⟨_, rfl⟩
              obtain ⟨w5, hw5⟩ : ∃ w5, w5 = w4.alloc (.cells #[.bool r.used, .slice ak r.key.length ck, .int .i64 (r.n : Int)] 125) := ⟨_, rfl⟩
              have hc5 : Chg [] w4 w5 := by rw [hw5]; exact (Chg.refl _ _).alloc _
              have HO5 := Lib.hid (HO4.out.keep hc5)
              have hB5 : BytesAt w5 kv r.key := hr5.bytes.chg hc5 (by simp)
              have hR5 : w5.rangeAt hb 0 (qcell (r, kv)) := fun j u hj => by
                rw [hw5, hhb]
                have := blk_cell (heap_alloc_new w4 (.cells #[.bool r.used, .slice ak r.key.length ck, .int .i64 (r.n : Int)] 125)) j u (by rw [← hkv]; simpa [qcell] using hj)
                rwa [Nat.zero_add]
              have HB := Lib.hid hhb
              have HW5 := Lib.hid hw5
              have HRC : Hid (rowsFrom d f M 0 = (rowsFrom d f (M - (k + 1)) (k + 1)).map ((R ++ [(r, kv)]).map (·.1) ++ ·)) := Lib.hid (by
                rw [HROWS.out, show M - k = (M - (k + 1)) + 1 by omega]
                conv => lhs; unfold rowsFrom
                rw [hhd]
                dsimp only
                rw [Option.map_map]
                congr 1
                funext t
                simp)
              have hA6 : ∀ x : Array Value, Chg [] w5 (w5.drew.alloc (.cells x 125)) := fun x => (by exact (Chg.refl [] w5).drew : Chg [] w5 w5.drew).alloc _
              have HO6 := Lib.hid (HO5.out.keep (hA6 (qcell (r, kv)).toArray))
              have HB6 := Lib.hid (hB5.chg (hA6 (qcell (r, kv)).toArray) (by simp))
              have HX6 : Hid (∀ g, kv.ownBlock = some g → g < (w5.drew.alloc (.cells (qcell (r, kv)).toArray 125)).heap.size ∧ w.heap.size ≤ g ∧ g ∉ blks q [rowQ rv R]) := Lib.hid (fun g hg => ⟨Nat.lt_of_lt_of_le (hxU g hg).1 (Nat.le_trans hc5.size (hA6 _).size), (hxU g hg).2⟩)
              have HN6 : Hid (∀ j u, (qcell (r, kv))[j]? = some u → (w5.drew.alloc (.cells (qcell (r, kv)).toArray 125)).cell? ((⟨w5.heap.size, 0, none⟩ : Addr).add j) = some u) := Lib.hid (fun j u hj => by
                rw [add_none, Nat.zero_add]
                exact blk_cell (heap_alloc_new w5.drew _) j u (by simpa using hj))
              have c2 : w5.cell? ⟨q, 2, none⟩ = some rv := blk_cell HO5.out.obj.head 2 _ rfl
              have c6 : (w5.drew.alloc (.cells (qcell (r, kv)).toArray 125)).cell? ⟨q, 2, none⟩ = some rv := blk_cell HO6.out.obj.head 2 _ rfl
              have hzh : Hid ((Tryz.prog.info? 125).map (·.size) = some (qcell (r, kv)).length) := Lib.hid (by show _ = some 3; kernel_rfl)
              obtain ⟨i3, hi3, hz3, hs3, hy3⟩ := info_parts facts_held
              have I3 := Lib.hid (And.intro hi3 (And.intro hz3 (And.intro hs3 hy3)))
              have HKV := Lib.hid hkv
              have hkq : qcell (r, kv) = [.bool r.used, .slice ak r.key.length ck, .int .i64 (r.n : Int)] := by rw [hkv]; rfl
              have HKQ := Lib.hid hkq
              subst hkv
              clear hhd hxU hr5 ho5 hc4 hw5 hc5 hB5 hA6 hi3 hz3 hs3 hy3 CH hhb HO4 hkq
              go_wp2_with fail
              rw [← HW5.out, ← HB.out]
              refine wp_region_L [(10, fun w' => w'.cell? ⟨q, 2, none⟩ = some rv), (6, fun w' => w'.rangeAt hb 0 (qcell (r, .slice ak r.key.length ck)))] (by kernel_rfl) ?_ (fun hHeld => ?_)
              · exact (HoldC.cons (c2) (HoldC.cons (hR5) HoldC.nil))
              refine wpAnyL_take (i := 0) (oi := _) (v := ?_) rfl (by kernel_rfl) (by kernel_rfl) (by kernel_rfl) (by kernel_rfl) (by kernel_rfl) (fun _ _ _ h => h) (Or.inl ⟨by rfl, ?_⟩) (by assumption) (fun hNew => ?_)
              rotate_left
              · intro w _
                go_simp
                try with_reducible rfl
              clear hHeld
              have hHeld := hNew
              clear hNew
              try simp only [List.getElem_toArray, List.getElem_cons_succ, List.getElem_cons_zero, Act.put, List.setIfInBounds_toArray, List.set_cons_zero, List.set_cons_succ]
              refine wpAnyL_take (i := 1) (oi := _) (v := ?_) rfl (by kernel_rfl) (by kernel_rfl) (by kernel_rfl) (by kernel_rfl) (by kernel_rfl) (fun _ _ _ h => h) (Or.inl ⟨by rfl, ?_⟩) (by assumption) (fun hNew => ?_)
              rotate_left
              · intro w _
                go_simp
                try with_reducible rfl
              clear hHeld
              have hHeld := hNew
              clear hNew
              try simp only [List.getElem_toArray, List.getElem_cons_succ, List.getElem_cons_zero, Act.put, List.setIfInBounds_toArray, List.set_cons_zero, List.set_cons_succ]
              refine wpAnyL_take (i := 2) (oi := _) (v := ?_) rfl (by kernel_rfl) (by kernel_rfl) (by kernel_rfl) (by kernel_rfl) (by kernel_rfl) (fun _ _ _ h => h) (Or.inl ⟨by rfl, ?_⟩) (by assumption) (fun hNew => ?_)
              rotate_left
              · intro w _
                go_simp
                try with_reducible rfl
              clear hHeld
              have hHeld := hNew
              clear hNew
              try simp only [List.getElem_toArray, List.getElem_cons_succ, List.getElem_cons_zero, Act.put, List.setIfInBounds_toArray, List.set_cons_zero, List.set_cons_succ]
              refine wpAnyL_take (i := 3) (oi := _) (v := ?_) rfl (by kernel_rfl) (by kernel_rfl) (by kernel_rfl) (by kernel_rfl) (by kernel_rfl) (fun _ _ _ h => h) (Or.inl ⟨by rfl, ?_⟩) (by assumption) (fun hNew => ?_)
              rotate_left
              · intro w _
                go_simp
                try with_reducible rfl
              clear hHeld
              have hHeld := hNew
              clear hNew
              try simp only [List.getElem_toArray, List.getElem_cons_succ, List.getElem_cons_zero, Act.put, List.setIfInBounds_toArray, List.set_cons_zero, List.set_cons_succ]
              refine wpAnyL_load 0 (i := 4) (oi := _) (v := ?_) rfl rfl (by kernel_rfl) (by kernel_rfl) (by kernel_rfl) (by kernel_rfl) (by kernel_rfl) (by kernel_rfl) (fun _ _ _ h => h) (Or.inl ⟨by rfl, ?_⟩) (by assumption) (fun hNew => ?_)
              rotate_left
              · intro w hSw
                (try dsimp only at hSw)
                go_simp
                try with_reducible rfl
              clear hHeld
              have hHeld := hNew
              clear hNew
              try simp only [List.getElem_toArray, List.getElem_cons_succ, List.getElem_cons_zero, Act.put, List.setIfInBounds_toArray, List.set_cons_zero, List.set_cons_succ]
              refine wpAnyL_load 1 (i := 5) (oi := _) (v := .agg (qcell (r, .slice ak r.key.length ck)).toArray) rfl rfl (by kernel_rfl) (by kernel_rfl) (by kernel_rfl) (by kernel_rfl) (by kernel_rfl) (by kernel_rfl) (fun _ _ _ h => h) (yieldsIf_load_mid (by rfl) 125 (.tmp 8) (by rfl) (hb) (0) (by rfl) (qcell (r, .slice ak r.key.length ck)) _ (fun w hw => hw) Tryz.underlying125 rfl hzh.out) (by assumption) (fun hNew => ?_)
              clear hHeld
              have hHeld := hNew
              clear hNew
              try simp only [List.getElem_toArray, List.getElem_cons_succ, List.getElem_cons_zero, Act.put, List.setIfInBounds_toArray, List.set_cons_zero, List.set_cons_succ]
              refine wpAnyL_ready (rs := [6]) (by kernel_rfl) (by simp) ?_
              refine AllReadyL.cons (o := _) rfl (fun K hK => ?_) AllReadyL.nil
              try simp only [List.getElem_toArray, List.getElem_cons_succ, List.getElem_cons_zero]
              rw [if_pos (by rfl)]
              refine wp_slice1 121 125 (.tmp 62) (by rfl) (qcell (r, .slice ak r.key.length ck)).toArray (by rfl) i3 _ Tryz.underlying121 I3.out.1 I3.out.2.1 (by rw [I3.out.2.2.1]; rfl) (by show 0 < 3; omega) (by show 3 ≤ 1000; omega) ?_
              clear hHeld
              refine hK.out _ _ ?_ (fun hHeld => ?_)
              · exact (HoldC.cons (c6) (HoldC.past (by kernel_rfl) HoldC.nil))
              clear hK K
              try simp only [List.getElem_toArray, List.getElem_cons_succ, List.getElem_cons_zero, Act.put, List.setIfInBounds_toArray, List.set_cons_zero, List.set_cons_succ]
              refine wpAnyL_ready (rs := [7]) (by kernel_rfl) (by simp) ?_
              refine AllReadyL.cons (o := _) rfl (fun K hK => ?_) AllReadyL.nil
              try simp only [List.getElem_toArray, List.getElem_cons_succ, List.getElem_cons_zero]
              rw [if_pos (by rfl)]
              refine wp_append_no8 (.tmp 61) (.tmp 63) 121 (by rfl) 125 i3 _ 3 40 Tryz.underlying121 I3.out.1 I3.out.2.1 I3.out.2.2.1 I3.out.2.2.2 rfl (by omega) (fun j c hj => by
                have hm : c ∈ [Value.bool false, .slice none 0 0, .int .i64 0] := List.mem_of_getElem? (i := j) (by simpa [Value.cells] using hj)
                simp only [List.mem_cons, List.mem_nil_iff, or_false] at hm
                rcases hm with rfl | rfl | rfl <;> (intro z; simp)) rv R.length (qcells R) (by rfl) HO6.out.row.1 HO6.out.row.2.1 HO6.out.row.2.2 ⟨w5.heap.size, 0, none⟩ 1 (by rfl) (qcell (r, .slice ak r.key.length ck)) rfl HN6.out (fun u hu => by
                simp only [qcell, List.mem_cons, List.mem_nil_iff, or_false] at hu
                rcases hu with rfl | rfl | rfl <;> rfl) (fun u hu => by
                simp only [qcell, List.mem_cons, List.mem_nil_iff, or_false] at hu
                rcases hu with rfl | rfl | rfl <;> (intro z; simp)) (by unfold maxLen; omega) (by omega) ?_
              intro g7 cap7 w7 hrow hg hat hlt7 h8
              have hm7 : w7.heap[q]? = _ := (hg.block q (blk_lt HO6.out.obj.head) (fun e => HO6.out.obj.row_ne (r := rowQ rv R) (List.mem_singleton.2 rfl) e.symm rfl)).trans HO6.out.obj.head
              have p6 := blk_cell hm7 2 _ rfl
              have p7 := blk_frozen hm7 2
              have p8 := blk_lt hm7
              have HO7 := Lib.hid (HO6.out.more (r, .slice ak r.key.length ck) g7 cap7 hg hrow hat h8 HB6.out HX6.out)
              clear hrow hg hat hlt7 h8 hm7
              clear hHeld
              refine hK.out _ _ ?_ (fun hHeld => ?_)
              · exact (HoldC.cons (p6) (HoldC.past (by kernel_rfl) HoldC.nil))
              clear hK K
              try simp only [List.getElem_toArray, List.getElem_cons_succ, List.getElem_cons_zero, Act.put, List.setIfInBounds_toArray, List.set_cons_zero, List.set_cons_succ]
              refine wpAnyL_take (i := 8) (oi := _) (v := ?_) rfl (by kernel_rfl) (by kernel_rfl) (by kernel_rfl) (by kernel_rfl) (by kernel_rfl) (fun _ _ _ h => h) (Or.inl ⟨by rfl, ?_⟩) (by assumption) (fun hNew => ?_)
              rotate_left
              · intro w _
                go_simp
                try with_reducible rfl
              clear hHeld
              have hHeld := hNew
              clear hNew
              try simp only [List.getElem_toArray, List.getElem_cons_succ, List.getElem_cons_zero, Act.put, List.setIfInBounds_toArray, List.set_cons_zero, List.set_cons_succ]
              refine wpAnyL_take (i := 9) (oi := _) (v := ?_) rfl (by kernel_rfl) (by kernel_rfl) (by kernel_rfl) (by kernel_rfl) (by kernel_rfl) (fun _ _ _ h => h) (Or.inl ⟨by rfl, ?_⟩) (by assumption) (fun hNew => ?_)
              rotate_left
              · intro w _
                go_simp
                try with_reducible rfl
              clear hHeld
              have hHeld := hNew
              clear hNew
              try simp only [List.getElem_toArray, List.getElem_cons_succ, List.getElem_cons_zero, Act.put, List.setIfInBounds_toArray, List.set_cons_zero, List.set_cons_succ]
              refine wpAnyL_ready (rs := [10]) (by kernel_rfl) (by simp) ?_
              refine AllReadyL.cons (o := _) rfl (fun K hK => ?_) AllReadyL.nil
              try simp only [List.getElem_toArray, List.getElem_cons_succ, List.getElem_cons_zero]
              go_simp
              clear hHeld
              refine hK.out _ _ ?_ (fun hHeld => ?_)
              · exact (HoldC.past (by kernel_rfl) (HoldC.past (by kernel_rfl) HoldC.nil))
              clear hK K
              try simp only [List.getElem_toArray, List.getElem_cons_succ, List.getElem_cons_zero, Act.put, List.setIfInBounds_toArray, List.set_cons_zero, List.set_cons_succ]
              refine wpAnyL_done (by kernel_rfl) ?_ _
              clear hHeld
              rw [hRl] at HO7
              generalize w7.setCell ⟨q, 2, none⟩ (.slice (some ⟨g7, 0, none⟩) (k + 1) cap7) = w8 at *
              clear p6 p7 p8 c2 c6
              have hw8 : IntKind.i64.wrap ((f : Int) + 8 * (k : Int) + 8) = ((f + 8 * (k + 1) : Nat) : Int) := by rw [IntWalk.i64_in _ ⟨by omega, by omega⟩]; push_cast; omega
              have HW8 := Lib.hid hw8
              clear hw8
              go_wp2
              go_roundg (gk - 1)
              case measure => omega
              case rel => exact ⟨k + 1, _, R ++ [(r, .slice ak r.key.length ck)], by first | rfl | rw [HW8.out] | (push_cast; congr 1; omega), by omega, by omega, Lib.hid ⟨HO7.out, by simp [hRl], HRC.out⟩⟩
          · have hkm : k = M := by omega
            have hle : decide ((f : Int) + 8 * (M : Int) + 8 ≤ (n : Int)) = false := decide_eq_false (by omega)
            obtain rfl := hkm.symm
            have HZ : Hid (Z = (0, some ⟨d, f, R.map (·.1)⟩)) := Lib.hid (by
              rw [HG.out, HROWS.out, Nat.sub_self]
              simp [rowsFrom])
            have HROK : Hid (rowsFrom d f M 0 = some (R.map (·.1))) := Lib.hid (by rw [HROWS.out, Nat.sub_self]; simp [rowsFrom])
            have HD1 := Lib.hid (HO.out.done HD.out ⟨by show f + 8 * (R.map (·.1)).length ≤ d.n; rw [List.length_map, hRl, ← HN.out]; omega, (rowsFrom_len _ _ _ HROK.out).2⟩)
            clear hkm hRl
            go_wp2
            go_ret2
            obtain ⟨W, A, h1, h2, h3⟩ := HD1.out
            rw [HZ.out]
            exact ⟨HO.out.chg, q, W, A, rfl, h1, h2, h3⟩
end Go.Proofs.YtbkajnjboipbhaaGreatDoor.W

/- The reference's store: mark, OpenStore. -/
namespace Go.Proofs.YtbkajnjboipbhaaGreatDoor.W
open Go.RowKit
set_option linter.unusedVariables false
set_option linter.unusedSimpArgs false

set_option maxHeartbeats 2000000 in
set_option maxRecDepth 100000 in
theorem rmark_any (n : UInt8) (w : World) : Calls Tryz.prog 84 #[.int .u8 (n.toNat : Int)] w fun e w' => ∃ N, e = .returned (.slice (some ⟨N, 0, none⟩) 64 64) ∧ w.heap.size ≤ N ∧ BytesAt w' (.slice (some ⟨N, 0, none⟩) 64 64) (n :: zeros 63) ∧ Chg [] w w' := by
  have hmk := make_64
  obtain ⟨w1, hw1⟩ : ∃ w1, w1 = w.alloc (.cells (Z64.setIfInBounds 0 (bv n)) 5) := ⟨_, rfl⟩
  have hb0 : (w.alloc (.cells Z64 5)).heap[w.heap.size]? = some (.cells Z64 5 (0, 0)) := heap_alloc_new w _
  have c0 : (w.alloc (.cells Z64 5)).cell? ⟨w.heap.size, 0, none⟩ = some (bv 0) := blk_cell hb0 0 _ rfl
  have f0 := blk_frozen hb0 0
  have hb1 : w1.heap[w.heap.size]? = some (.cells (bvs (n :: zeros 63)).toArray 5 (0, 0)) := by
    rw [hw1, ← mark_cells]
    exact heap_alloc_new w _
  have hc1 : Chg [] w w1 := by rw [hw1]; exact (Chg.refl [] w).alloc _
  have hr1 := row_of_block hb1 (by simp [zeros, maxLen])
  have hlen : (n :: zeros 63).length = 64 := by simp [zeros]
  rw [hlen] at hr1
  have HW1 := Lib.hid hw1
  have HR1 := Lib.hid hr1.bytes
  have HC1 := Lib.hid hc1
  have hv : bv n = .int .u8 (n.toNat : Int) := rfl
  have hv0 : bv 0 = .int .u8 0 := rfl
  rw [hv0] at c0
  rw [hv] at HW1
  clear hb0 hb1 hc1 hr1 hw1 hlen hv hv0
  go_enter Tryz.func84, Tryz.ntmps84
  go_wp2
  go_ret
  rw [← HW1.out]
  exact ⟨_, rfl, Nat.le_refl _, HR1.out, HC1.out⟩

def RStOpenPost (m : Nat) (V F : List Nat) (w : World) (r : Int × Option Sto) (e : Ending) (w' : World) : Prop := Chg [] w w' ∧ match r with
  | (c, none) => e = .returned (.tuple #[.pointer none, .int .i64 c])
  | (c, some t) => ∃ q U B, e = .returned (.tuple #[.pointer (some ⟨q, 0, none⟩), .int .i64 c]) ∧ RStAt w' q m U B t ∧ (∀ x ∈ U, x ∈ V ∨ w.heap.size ≤ x) ∧ ∀ x ∈ B, x ∈ F ∨ w.heap.size ≤ x
theorem slots_one {d : DS} (h9 : 9 ≤ d.n) (hd : d.dead = false) : ((d.slots 1) = (4, none)) ∨ ∃ s, d.slots 1 = (0, some s) ∧ s.d = d := by
  unfold DS.slots
  rw [if_neg (by omega), if_neg (by rw [hd]; simp; omega)]
  split
  · exact .inl rfl
  · exact .inr ⟨_, rfl, rfl⟩
set_option maxHeartbeats 2000000 in
set_option maxRecDepth 100000 in
theorem rstopen_small (m : Nat) (V F : List Nat) (d : DS) (w : World) (h : RDiskAt w m V F d) (hn : d.n < 9) : Calls Tryz.prog 29 #[.pointer (some ⟨m, 0, none⟩)] w fun e w' => e = .returned (.tuple #[.pointer none, .int .i64 1]) ∧ Chg [] w w' := by
  obtain ⟨p6, hnd, a, cap, p0, -⟩ := h.read
  have hz : (d.n : Int) < 9 := by omega
  generalize d.n = n at *
  clear h
  go_enter Tryz.func29, Tryz.ntmps29
  go_wp2
  go_ret2
  exact ⟨rfl, Chg.refl _ _⟩
set_option maxHeartbeats 2000000 in
set_option maxRecDepth 100000 in
theorem rstopen_dead (m : Nat) (V F : List Nat) (d : DS) (w : World) (h : RDiskAt w m V F d) (hn : 9 ≤ d.n) (hd : d.dead = true) : Calls Tryz.prog 29 #[.pointer (some ⟨m, 0, none⟩)] w fun e w' => e = .returned (.tuple #[.pointer none, .int .i64 14]) ∧ Chg [] w w' := by
  obtain ⟨p6, hnd, a, cap, p0, -⟩ := h.read
  have hz : ¬ (d.n : Int) < 9 := by omega
  rw [hd] at p6
  generalize d.n = n at *
  clear h
  go_enter Tryz.func29, Tryz.ntmps29
  go_wp2
  go_ret2
  exact ⟨rfl, Chg.refl _ _⟩
theorem RDiskAt.first {w : World} {m : Nat} {V F : List Nat} {d : DS} (h : RDiskAt w m V F d) (h9 : 9 ≤ d.n) : ∃ g cap g2 o2 cap2, w.cell? ⟨m, 0, none⟩ = some (.slice (some ⟨g, 0, none⟩) d.n cap) ∧ w.cell? ⟨g, 0, none⟩ = some (.slice (some ⟨g2, o2, none⟩) 64 cap2) ∧ 64 ≤ cap2 ∧ w.cell? ⟨g2, o2, none⟩ = some (.int .u8 (((d.now 0).getD 0 0).toNat : Int)) ∧
    BytesAt w (.slice (some ⟨g2, o2 + 1, none⟩) 63 (cap2 - 1)) ((d.now 0).drop 1) ∧ (d.now 0).length = 64 := by
  obtain ⟨_, _, a, cap, p0, hk⟩ := h.read
  obtain ⟨g, ax, cx, rfl, k0, hb, hl⟩ := hk 0 (by omega)
  obtain ⟨a', c', he, h1, h2, h3⟩ := hb
  rw [hl] at he
  obtain ⟨rfl, _, rfl⟩ := Value.slice.inj he
  rcases h3 with ⟨h3, _⟩ | ⟨g2, o2, rfl, hc⟩
  · rw [h3] at hl; simp at hl
  · refine ⟨g, cap, g2, o2, cx, p0, k0, by omega, hc 0 (by omega), ⟨_, _, by rw [List.length_drop, hl], by rw [List.length_drop]; omega, by omega, .inr ⟨g2, o2 + 1, rfl, fun i hi => ?_⟩⟩, hl⟩
    rw [List.length_drop] at hi
    have := hc (i + 1) (by omega)
    rw [show o2 + (i + 1) = o2 + 1 + i by omega] at this
    rw [this, List.getD_eq_getElem?_getD, List.getD_eq_getElem?_getD, List.getElem?_drop, Nat.add_comm 1 i]
set_option maxHeartbeats 4000000 in
set_option maxRecDepth 100000 in
theorem rstopen_head (m : Nat) (V F : List Nat) (d : DS) (w : World) (h : RDiskAt w m V F d) (hn : 9 ≤ d.n) (hd : d.dead = false) (hbad : hdBad (d.now 0) = true) : Calls Tryz.prog 29 #[.pointer (some ⟨m, 0, none⟩)] w fun e w' => e = .returned (.tuple #[.pointer none, .int .i64 4]) ∧ Chg [] w w' := by
  obtain ⟨p6, hnd, -⟩ := h.read
  obtain ⟨g, cap, g2, o2, cap2, p0, k0, hcap, b0, hb, hl⟩ := h.first hn
  have hz : ¬ (d.n : Int) < 9 := by omega
  have hn0 : 0 < d.n := by omega
  have CN := Lib.hid (rnought_any _ _ w hb (by rw [List.length_drop]; omega))
  rw [hd] at p6
  unfold hdBad at hbad
  generalize (d.now 0).getD 0 0 = x at *
  generalize allZ ((d.now 0).drop 1) = z at *
  generalize d.n = n at *
  have hx : x.toNat < 256 := x.toNat_lt
  obtain ⟨y, hy⟩ : ∃ y, y = x.toNat := ⟨_, rfl⟩
  rw [← hy] at b0 hx
  have e1 : x = 1 ↔ y = 1 := by rw [hy]; exact ⟨fun h => by rw [h]; rfl, fun h => UInt8.toNat.inj h⟩
  have e2 : x = 2 ↔ y = 2 := by rw [hy]; exact ⟨fun h => by rw [h]; rfl, fun h => UInt8.toNat.inj h⟩
  have hbad' : (y ≠ 1 ∧ y ≠ 2) ∨ z = false := by
    simp only [Bool.or_eq_true, Bool.not_eq_true', Bool.or_eq_false_iff, decide_eq_false_iff_not] at hbad
    rcases hbad with ⟨h1, h2⟩ | h
    · exact .inl ⟨fun h => h1 (e1.2 h), fun h => h2 (e2.2 h)⟩
    · exact .inr h
  clear h hb hl hbad e1 e2 hy
  by_cases hy1 : y = 1
  · subst hy1
    obtain rfl : z = false := by rcases hbad' with h | h; exact absurd rfl h.1; exact h
    clear hbad'
    go_enter Tryz.func29, Tryz.ntmps29
    go_wp2_with (go_at_call 73; refine CN.out.mono ?_; rintro e w' ⟨rfl, hq⟩; subst hq)
    go_ret2
    exact ⟨rfl, (Chg.refl _ _)⟩
  · by_cases hy2 : y = 2
    · subst hy2
      obtain rfl : z = false := by rcases hbad' with h | h; exact absurd rfl h.2; exact h
      clear hbad'
      go_enter Tryz.func29, Tryz.ntmps29
      go_wp2_with (go_at_call 73; refine CN.out.mono ?_; rintro e w' ⟨rfl, hq⟩; subst hq)
      go_ret2
      exact ⟨rfl, (Chg.refl _ _)⟩
    · have q1 : ((y : Int) != 1) = true := by simp; omega
      have q2 : ((y : Int) != 2) = true := by simp; omega
      clear hbad'
      go_enter Tryz.func29, Tryz.ntmps29
      go_wp2
      go_ret2
      exact ⟨rfl, (Chg.refl _ _)⟩
end Go.Proofs.YtbkajnjboipbhaaGreatDoor.W

/- The reference's OpenStore. -/
namespace Go.Proofs.YtbkajnjboipbhaaGreatDoor.W
open Go.RowKit
set_option linter.unusedVariables false
set_option linter.unusedSimpArgs false

set_option maxHeartbeats 16000000 in
set_option maxRecDepth 100000 in
theorem rstopen_live (m : Nat) (V F : List Nat) (d : DS) (w : World) (h : RDiskAt w m V F d) (hn : 9 ≤ d.n) (hd : d.dead = false) (hbad : hdBad (d.now 0) = false) : Calls Tryz.prog 29 #[.pointer (some ⟨m, 0, none⟩)] w (RStOpenPost m V F w d.stOpen) := by
  obtain ⟨p6, hnd, -⟩ := h.read
  obtain ⟨g, cap, g2, o2, cap2, p0, k0, hcap, b0, hb, hl⟩ := h.first hn
  have hz : ¬ (d.n : Int) < 9 := by omega
  have hn0 : 0 < d.n := by omega
  have CN := Lib.hid (rnought_any _ _ w hb (by rw [List.length_drop]; omega))
  have CO := Lib.hid (ropen_any m V F d 1 w h (by omega))
  have HFE := Lib.hid h.lim
  rw [hd] at p6
  have HG : Hid (d.stOpen = match (d.slots 1).2 with
    | none => (4, none)
    | some s => if stKeys s.rows then (0, some ⟨s, (d.now 0).getD 0 0 == 2⟩) else (4, none)) := Lib.hid (by
    have hb' : ¬ (((d.now 0).getD 0 0 ≠ 1 ∧ (d.now 0).getD 0 0 ≠ 2) ∨ allZ ((d.now 0).drop 1) = false) := fun hh => by
      unfold hdBad at hbad
      simp only [Bool.or_eq_false_iff, Bool.not_eq_false', Bool.or_eq_true, decide_eq_true_eq] at hbad
      rcases hh with ⟨h1, h2⟩ | h3
      · rcases hbad.1 with h4 | h4
        · exact h1 h4
        · exact h2 h4
      · rw [hbad.2] at h3; cases h3
    unfold DS.stOpen
    rw [if_neg (by omega), if_neg (by rw [hd]; simp), if_neg hb']
    rcases slots_one hn hd with h1 | ⟨s, h1, _⟩
    · rw [h1]
    · rw [h1])
  obtain ⟨x, hx⟩ : ∃ x, x = (d.now 0).getD 0 0 := ⟨_, rfl⟩
  have hz1 : allZ ((d.now 0).drop 1) = true := by
    unfold hdBad at hbad
    simp only [Bool.or_eq_false_iff, Bool.not_eq_false'] at hbad
    exact hbad.2
  have hx12 : x = 1 ∨ x = 2 := by
    unfold hdBad at hbad
    simp only [Bool.or_eq_false_iff, Bool.not_eq_false', Bool.or_eq_true, decide_eq_true_eq] at hbad
    rw [hx]; exact hbad.1
  rw [← hx] at b0 HG
  rw [hz1] at CN
  have hso := slots_one hn hd
  generalize d.stOpen = r at *
  generalize d.slots 1 = so at *
  unfold ROpenPost at CO
  generalize d.n = n at *
  clear h hb hl hbad hx hz1 hd
  rcases hx12 with rfl | rfl
  all_goals
    have b0' : w.cell? ⟨g2, o2, none⟩ = some (.int .u8 _) := b0
    simp only [show (1 : UInt8).toNat = 1 from rfl, show (2 : UInt8).toNat = 2 from rfl] at b0
    clear b0'
    go_enter Tryz.func29, Tryz.ntmps29
    go_wp2_with (go_at_call 73; refine CN.out.mono ?_; rintro e w' ⟨rfl, hq⟩; subst hq)
    refine CO.out.mono ?_
    rintro e w1 ⟨hc1, hr⟩
    have HC1 := Lib.hid hc1
    rcases hso with rfl | ⟨s, rfl, hsd⟩
    · dsimp only at hr HG
      subst hr
      clear hc1 CO
      go_wp2
      go_ret2
      rw [HG.out]
      exact ⟨HC1.out, rfl⟩
    · obtain ⟨sp, W, A, rfl, hsl, hW, hA⟩ := hr
      dsimp only at HG
      obtain ⟨a, capr, hlk⟩ := hsl.look
      have HLK := Lib.hid hlk
      have HSL := Lib.hid (And.intro hsl (And.intro hW hA))
      have hfew := hlk.few
      have hbig := hlk.big
      obtain ⟨M, hM⟩ : ∃ M, M = s.rows.length := ⟨_, rfl⟩
      rw [← hM] at hfew hbig
      have HM := Lib.hid hM
      clear hc1 CO hsl hW hA hlk CN
      go_wp2
      go_loopg [7] M (fun g' s7 wr => ∃ (i : Nat), s7 = .int .i64 (i : Int) ∧ i ≤ M ∧ M ≤ i + g' ∧ Hid (Chg [] w1 wr ∧ ∀ j, j < i → (s.rows.getD j noRow).used = true → unOk (s.rows.getD j noRow).key = true))
      case atStart => exact ⟨0, rfl, by omega, by omega, Lib.hid ⟨Chg.refl _ _, fun j hj => by omega⟩⟩
      case round =>
        obtain ⟨i, rfl, hi, hig, HJ⟩ := hrel
        have HLr := Lib.hid (HLK.out.keep (m := m) (W := W) (A := A) HJ.out.1)
        have c2 := HLr.out.c2
        rw [← HM.out] at c2
        by_cases hlt : i < M
        · obtain ⟨g3, kv, rfl, r0, r1, hkb, hkl⟩ := HLr.out.row i (by rw [← HM.out]; exact hlt)
          have hiz : (i : Int) < (M : Int) := by omega
          have hiz1 : (i : Int).toNat = i := by omega
          have CU := Lib.hid (runkey_any kv _ wr hkb (by omega))
          have HKEY : Hid (∀ c, c = (s.rows.getD i noRow).key → c = (s.rows.getD i noRow).key) := Lib.hid (fun c hc => hc)
          obtain ⟨key, hkey⟩ : ∃ key, key = (s.rows.getD i noRow).key := ⟨_, rfl⟩
          obtain ⟨u, hu⟩ : ∃ u, u = (s.rows.getD i noRow).used := ⟨_, rfl⟩
          have HKU := Lib.hid (And.intro hkey hu)
          rw [← hkey] at CU
          rw [← hu] at r0
          obtain ⟨ok, hok⟩ : ∃ ok, ok = unOk key := ⟨_, rfl⟩
          have HOK := Lib.hid hok
          rw [← hok] at CU
          generalize unId key = y at *
          obtain ⟨yc, yl, yn, yi⟩ := y
          clear hkey hu hok hkb hkl HKEY
          go_wp2_with fail
          refine CU.out.mono ?_
          rintro e w2 ⟨rfl, hc2⟩
          have HC2 := Lib.hid (HJ.out.1.trans hc2 (by simp))
          have c2 := (hc2.alloc (.cells (idC ⟨yc, yl, yn, yi⟩) 25)).cell c2 (by simp)
          have r0 := (hc2.alloc (.cells (idC ⟨yc, yl, yn, yi⟩) 25)).cell r0 (by simp)
          have c2 : (w2.alloc (.cells #[.int .i64 yc, .int .i64 yl, .int .i64 yn, .int .i64 yi] 25)).cell? ⟨sp, 2, none⟩ = some (.slice (some ⟨g3, 0, none⟩) M capr) := c2
          have r0 : (w2.alloc (.cells #[.int .i64 yc, .int .i64 yl, .int .i64 yn, .int .i64 yi] 25)).cell? ⟨g3, i * 3, none⟩ = some (.bool u) := r0
          clear hc2 CU r1
          cases u with
          | false =>
            go_wp2
            go_roundg (gk - 1)
            case measure => omega
            case rel => exact ⟨i + 1, by go_num, by omega, by omega, Lib.hid ⟨HC2.out.alloc _, fun j hj hu => by
              by_cases hji : j = i
              · subst hji
                rw [← HKU.out.2] at hu
                cases hu
              · exact HJ.out.2 j (by omega) hu⟩⟩
          | true =>
            cases ok with
            | true =>
              go_wp2
              go_roundg (gk - 1)
              case measure => omega
              case rel => exact ⟨i + 1, by go_num, by omega, by omega, Lib.hid ⟨HC2.out.alloc _, fun j hj hu => by
                by_cases hji : j = i
                · subst hji
                  rw [← HKU.out.1, ← HOK.out]
                · exact HJ.out.2 j (by omega) hu⟩⟩
            | false =>
              have HK : Hid (stKeys s.rows = false) := Lib.hid (by
                rw [Bool.eq_false_iff]
                intro hk
                have h1 := stKeys_iff.1 hk (s.rows.getD i noRow) (row_mem (by rw [← HM.out]; exact hlt)) HKU.out.2.symm
                rw [← HKU.out.1, ← HOK.out] at h1
                cases h1)
              rw [HK.out] at HG
              go_wp2
              go_ret2
              rw [HG.out]
              exact ⟨HC1.out.trans (HC2.out.alloc _) (by simp), rfl⟩
        · have him : i = M := by omega
          have hiz : ¬ (i : Int) < (M : Int) := by omega
          have HK : Hid (keysOk s.rows) := Lib.hid (fun rr hrr hu => by
            obtain ⟨j, hj, rfl⟩ := List.mem_iff_getElem.1 hrr
            have e : s.rows.getD j noRow = s.rows[j] := by rw [List.getD_eq_getElem?_getD, List.getElem?_eq_getElem hj]; rfl
            have := HJ.out.2 j (by rw [him, HM.out]; exact hj) (by rw [e]; exact hu)
            rw [e] at this
            exact this)
          rw [stKeys_iff.2 HK.out] at HG
          rw [if_pos rfl] at HG
          have hnew : ∀ b : Bool, RStOk (wr.alloc (.cells #[.pointer (some ⟨m, 0, none⟩), .pointer (some ⟨sp, 0, none⟩), .bool b] 127)) wr.heap.size sp m W A ⟨s, b⟩ := fun b =>
            ⟨heap_alloc_new wr _, HSL.out.1.keep (HJ.out.1.alloc _) (by simp), fun hm => by have := HSL.out.1.lim.1 _ hm; have := HJ.out.1.size; omega, HK.out⟩
          have HNEW := Lib.hid hnew
          have HSZ : Hid (w.heap.size ≤ wr.heap.size) := Lib.hid (Nat.le_trans HC1.out.size HJ.out.1.size)
          clear hnew
          go_wp2
          go_ret2
          rw [HG.out]
          refine ⟨(HC1.out.trans HJ.out.1 (by simp)).alloc _, _, _, _, rfl, ⟨_, _, _, HNEW.out _, rfl, rfl⟩, fun y hy => ?_, fun y hy => ?_⟩
          · rcases List.mem_cons.1 hy with rfl | hy
            · exact .inr HSZ.out
            · exact HSL.out.2.1 y hy
          · rcases List.mem_cons.1 hy with rfl | hy
            · exact .inr HSZ.out
            · exact HSL.out.2.2 y hy
theorem rstopen_any (m : Nat) (V F : List Nat) (d : DS) (w : World) (h : RDiskAt w m V F d) : Calls Tryz.prog 29 #[.pointer (some ⟨m, 0, none⟩)] w (RStOpenPost m V F w d.stOpen) := by
  by_cases hn : d.n < 9
  · have e : d.stOpen = (1, none) := by unfold DS.stOpen; rw [if_pos hn]
    rw [e]
    exact (rstopen_small m V F d w h hn).mono fun e w' h1 => ⟨h1.2, h1.1⟩
  · by_cases hd : d.dead = true
    · have e : d.stOpen = (14, none) := by unfold DS.stOpen; rw [if_neg hn, if_pos hd]
      rw [e]
      exact (rstopen_dead m V F d w h (by omega) hd).mono fun e w' h1 => ⟨h1.2, h1.1⟩
    · cases hb : hdBad (d.now 0) with
      | true =>
        have e : d.stOpen = (4, none) := by
          unfold DS.stOpen
          refine (if_neg hn).trans ((if_neg hd).trans (if_pos ?_))
          unfold hdBad at hb
          simp only [Bool.or_eq_true, Bool.not_eq_true', Bool.or_eq_false_iff, decide_eq_false_iff_not] at hb
          exact hb
        rw [e]
        exact (rstopen_head m V F d w h (by omega) (by simpa using hd) hb).mono fun e w' h1 => ⟨h1.2, h1.1⟩
      | false => exact rstopen_live m V F d w h (by omega) (by simpa using hd) hb
end Go.Proofs.YtbkajnjboipbhaaGreatDoor.W

/- The reference's store: SetWhole, Format of a new disk. -/
namespace Go.Proofs.YtbkajnjboipbhaaGreatDoor.W
open Go.RowKit
set_option linter.unusedVariables false
set_option linter.unusedSimpArgs false

theorem RStOk.setW {w : World} {q sp m : Nat} {W A : List Nat} {t : Sto} (h : RStOk w q sp m W A t) (b : Bool) : RStOk (w.setCell ⟨q, 2, none⟩ (.bool b)) q sp m W A ⟨t.s, b⟩ := by
  have hc : Chg [q] w (w.setCell ⟨q, 2, none⟩ (.bool b)) := (Chg.refl [q] w).setCell (p := ⟨q, 2, none⟩) (.inl (by simp)) _
  refine ⟨?_, h.slots.keep hc (fun x hx hm => h.out (by rw [← List.mem_singleton.1 hm]; exact hx)), h.out, h.ok⟩
  exact set_blk h.head
theorem RSlotsAt.disk {w : World} {q m : Nat} {W A : List Nat} {s : SS} (h : RSlotsAt w q m W A s) : ∃ V F, RDiskAt w m V F s.d ∧ (∀ x ∈ V, x ∈ W) ∧ ∀ d w', RDid w w' m V F d → d.n = s.d.n → RSid w w' q m W A { s with d := d } := by
  obtain ⟨V, F, rv, R, H⟩ := h
  exact ⟨V, F, H.disk, H.sub.1, fun d w' hd hn => H.did hd hn⟩

set_option maxHeartbeats 8000000 in
set_option maxRecDepth 100000 in
theorem rstsetw_any (q m : Nat) (U B : List Nat) (t : Sto) (w : World) (h : RStAt w q m U B t) (hn : 1 ≤ t.s.d.n) (ho : t.s.d.ops ≤ 900000000) (hw : t.s.d.since.length ≤ 900000) :
    Calls Tryz.prog 44 #[.pointer (some ⟨q, 0, none⟩)] w fun e w' => e = .returned (.int .i64 t.setWhole.1) ∧ RStd w w' q m U B t.setWhole.2 := by
  obtain ⟨sp, W, A, h, rfl, rfl⟩ := h
  obtain ⟨k0, _, _⟩ := h.cells
  obtain ⟨V, F, hd, hVW, hdid⟩ := h.slots.disk
  obtain ⟨p6, _, -⟩ := hd.read
  have HST : Hid (RStd w w q m (q :: W) (q :: A) t) := Lib.hid (RStd.same ⟨sp, W, A, h, rfl, rfl⟩)
  have HG : Hid (t.setWhole = ((t.s.d.sign 2).1, ⟨{ t.s with d := (t.s.d.sign 2).2 }, t.whole || ((t.s.d.sign 2).1 == 0)⟩)) := Lib.hid rfl
  by_cases hdd : t.s.d.dead = true
  · have hsg : t.s.d.sign 2 = (14, t.s.d) := by
      unfold DS.sign
      rw [show t.s.d.write 0 (2 :: zeros 63) = (14, t.s.d) from DS.write_dead hdd 0 _]
      rfl
    have HR : Hid (t.setWhole = (14, t)) := Lib.hid (by
      rw [HG.out, hsg]
      obtain ⟨s, wh⟩ := t
      show ((14 : Int), (⟨s, wh || false⟩ : Sto)) = _
      rw [Bool.or_false])
    rw [hdd] at p6
    clear HG h hd hdid hsg hdd
    go_enter Tryz.func44, Tryz.ntmps44
    go_wp2
    go_ret
    rw [HR.out]
    exact ⟨rfl, HST.out⟩
  · have hdd' : t.s.d.dead = false := by simpa using hdd
    rw [hdd'] at p6
    have CM := Lib.hid (rmark_any 2 w.drew)
    have HH := Lib.hid (And.intro h (And.intro hd hdid))
    have HVW := Lib.hid hVW
    have HS : Hid (t.s.d.sign 2 = if (t.s.d.write 0 (2 :: zeros 63)).1 ≠ 0 then t.s.d.write 0 (2 :: zeros 63) else (t.s.d.write 0 (2 :: zeros 63)).2.sync) := Lib.hid rfl
    obtain ⟨wo1, wo2, wo3⟩ := t.s.d.write_ok 0 (2 :: zeros 63)
    rw [show (2 : UInt8).toNat = 2 from rfl] at CM
    generalize t.setWhole = r at *
    clear h hd hdid hdd hVW
    go_enter Tryz.func44, Tryz.ntmps44
    go_wp2_with fail
    refine wp_region_L [(5, fun w' => w'.cell? ⟨q, 0, none⟩ = some (.pointer (some ⟨m, 0, none⟩)))] (by kernel_rfl) ?_ (fun hHeld => ?_)
    · exact (HoldC.cons (k0) HoldC.nil)
    refine wpAnyL_take (i := 0) (oi := _) (v := ?_) rfl (by kernel_rfl) (by kernel_rfl) (by kernel_rfl) (by kernel_rfl) (by kernel_rfl) (fun _ _ _ h => h) (Or.inl ⟨by rfl, ?_⟩) (by assumption) (fun hNew => ?_)
    rotate_left
    · intro w _
      go_simp
      try with_reducible rfl
    clear hHeld
    have hHeld := hNew
    clear hNew
    try simp only [List.getElem_toArray, List.getElem_cons_succ, List.getElem_cons_zero, Act.put, List.setIfInBounds_toArray, List.set_cons_zero, List.set_cons_succ]
    refine wpAnyL_take (i := 1) (oi := _) (v := ?_) rfl (by kernel_rfl) (by kernel_rfl) (by kernel_rfl) (by kernel_rfl) (by kernel_rfl) (fun _ _ _ h => h) (Or.inl ⟨by rfl, ?_⟩) (by assumption) (fun hNew => ?_)
    rotate_left
    · intro w _
      go_simp
      try with_reducible rfl
    clear hHeld
    have hHeld := hNew
    clear hNew
    try simp only [List.getElem_toArray, List.getElem_cons_succ, List.getElem_cons_zero, Act.put, List.setIfInBounds_toArray, List.set_cons_zero, List.set_cons_succ]
    refine wpAnyL_take (i := 2) (oi := _) (v := ?_) rfl (by kernel_rfl) (by kernel_rfl) (by kernel_rfl) (by kernel_rfl) (by kernel_rfl) (fun _ _ _ h => h) (Or.inl ⟨by rfl, ?_⟩) (by assumption) (fun hNew => ?_)
    rotate_left
    · intro w _
      go_simp
      try with_reducible rfl
    clear hHeld
    have hHeld := hNew
    clear hNew
    try simp only [List.getElem_toArray, List.getElem_cons_succ, List.getElem_cons_zero, Act.put, List.setIfInBounds_toArray, List.set_cons_zero, List.set_cons_succ]
    refine wpAnyL_load 0 (i := 3) (oi := _) (v := ?_) rfl rfl (by kernel_rfl) (by kernel_rfl) (by kernel_rfl) (by kernel_rfl) (by kernel_rfl) (by kernel_rfl) (fun _ _ _ h => h) (Or.inl ⟨by rfl, ?_⟩) (by assumption) (fun hNew => ?_)
    rotate_left
    · intro w hSw
      (try dsimp only at hSw)
      go_simp
      try with_reducible rfl
    clear hHeld
    have hHeld := hNew
    clear hNew
    try simp only [List.getElem_toArray, List.getElem_cons_succ, List.getElem_cons_zero, Act.put, List.setIfInBounds_toArray, List.set_cons_zero, List.set_cons_succ]
    refine wpAnyL_ready (rs := [4]) (by kernel_rfl) (by simp) ?_
    refine AllReadyL.cons (o := _) rfl (fun K hK => ?_) AllReadyL.nil
    try simp only [List.getElem_toArray, List.getElem_cons_succ, List.getElem_cons_zero]
    go_simp
    refine CM.out.mono ?_
    rintro e w1 ⟨M, rfl, hM, hbM, hc1⟩
    have HC1 : Hid (Chg [] w w1) := Lib.hid (((Chg.refl [] w).drew).trans hc1 (by simp))
    have CW := Lib.hid (rwrite_any m V F t.s.d 0 _ (2 :: zeros 63) w1 (HH.out.2.1.keep HC1.out (by simp)) (by omega) (by omega) (by omega) (by simp [zeros]) hbM (fun x hx hm => by
      obtain rfl : M = x := by simpa [Value.ownBlock] using hx
      have a1 := HH.out.2.1.lim.1 M (HH.out.2.1.lim.2.1 M hm)
      have a2 : w.heap.size ≤ M := hM
      omega))
    have HDI := Lib.hid (fun d w' (hd : RDid w1 w' m V F d) (hdn : d.n = t.s.d.n) => HH.out.2.2 d w' (RDid.pre HC1.out hd) hdn)
    have k0 := HC1.out.cell k0 (by simp)
    clear hM hbM hc1 CM
    generalize t.s.d.write 0 (2 :: zeros 63) = z at *
    obtain ⟨e1, d1⟩ := z
    dsimp only at HS wo1 wo2 wo3
    clear hHeld
    refine hK.out _ _ ?_ (fun hHeld => ?_)
    · exact (HoldC.cons (k0) HoldC.nil)
    clear hK K
    try simp only [List.getElem_toArray, List.getElem_cons_succ, List.getElem_cons_zero, Act.put, List.setIfInBounds_toArray, List.set_cons_zero, List.set_cons_succ]
    refine wpAnyL_ready (rs := [5]) (by kernel_rfl) (by simp) ?_
    refine AllReadyL.cons (o := _) rfl (fun K hK => ?_) AllReadyL.nil
    try simp only [List.getElem_toArray, List.getElem_cons_succ, List.getElem_cons_zero]
    go_simp
    refine CW.out.mono ?_
    rintro e w2 ⟨rfl, hd2⟩
    have HRS2 := Lib.hid (HDI.out d1 w2 hd2 wo1)
    clear hd2 CW k0
    clear hHeld
    refine hK.out _ _ ?_ (fun hHeld => ?_)
    · exact (HoldC.past (by kernel_rfl) HoldC.nil)
    clear hK K
    try simp only [List.getElem_toArray, List.getElem_cons_succ, List.getElem_cons_zero, Act.put, List.setIfInBounds_toArray, List.set_cons_zero, List.set_cons_succ]
    refine wpAnyL_take (i := 6) (oi := _) (v := ?_) rfl (by kernel_rfl) (by kernel_rfl) (by kernel_rfl) (by kernel_rfl) (by kernel_rfl) (fun _ _ _ h => h) (Or.inl ⟨by rfl, ?_⟩) (by assumption) (fun hNew => ?_)
    rotate_left
    · intro w _
      go_simp
      try with_reducible rfl
    clear hHeld
    have hHeld := hNew
    clear hNew
    try simp only [List.getElem_toArray, List.getElem_cons_succ, List.getElem_cons_zero, Act.put, List.setIfInBounds_toArray, List.set_cons_zero, List.set_cons_succ]
    refine wpAnyL_done (by kernel_rfl) ?_ _
    clear hHeld
    have HO2 := Lib.hid (HH.out.1.did HRS2.out HH.out.1.ok)
    clear HRS2 HDI
    by_cases he : e1 = 0
    · subst he
      have HS2 : Hid (t.s.d.sign 2 = d1.sync) := Lib.hid (by rw [HS.out, if_neg (by simp)])
      obtain ⟨U2, B2, ⟨sp2, W2, A2, hok2, rfl, rfl⟩, hU2, hB2, hc2⟩ := HO2.out
      obtain ⟨V2, F2, hd2, _, hdid2⟩ := hok2.slots.disk
      obtain ⟨k0, _, _⟩ := hok2.cells
      have CY := Lib.hid (rsync_any m V2 F2 d1 w2 hd2 (by omega))
      have HOK2 := Lib.hid (And.intro hok2 hdid2)
      have HU2 := Lib.hid (And.intro hU2 (And.intro hB2 hc2))
      obtain ⟨y1, y2, y3⟩ := d1.sync_ok
      rw [HS2.out] at HG
      generalize d1.sync = z at *
      obtain ⟨e2, d2⟩ := z
      dsimp only at HG CY y1 y2 y3
      clear hok2 hd2 hdid2 hU2 hB2 hc2 HS HS2
      go_wp2_with fail
      refine CY.out.mono ?_
      rintro e w3 ⟨rfl, hd3⟩
      have HO3 := Lib.hid (RStd.glue HU2.out.1 HU2.out.2.1 HU2.out.2.2 (HOK2.out.1.did (HOK2.out.2 d2 w3 hd3 y1) HOK2.out.1.ok))
      clear hd3 CY k0
      by_cases he2 : e2 = 0
      · subst he2
        obtain ⟨U3, B3, ⟨sp3, W3, A3, hok3, rfl, rfl⟩, hU3, hB3, hc3⟩ := HO3.out
        have k2 := hok3.cells.2.2
        have f2 := blk_frozen hok3.head 2
        have HF : Hid (RStd w (w3.setCell ⟨q, 2, none⟩ (.bool true)) q m (q :: W) (q :: A) ⟨{ t.s with d := d2 }, true⟩) := Lib.hid ⟨_, _, ⟨sp3, W3, A3, hok3.setW true, rfl, rfl⟩, hU3, hB3, hc3.setCell (p := ⟨q, 2, none⟩) (.inl (by simp)) _⟩
        have HR : Hid (r = (0, ⟨{ t.s with d := d2 }, true⟩)) := Lib.hid (by rw [HG.out, show ((0 : Int) == 0) = true from rfl, Bool.or_true])
        clear hok3 hU3 hB3 hc3 HG
        go_wp2
        go_ret
        rw [HR.out]
        exact ⟨rfl, HF.out⟩
      · have q0 : (e2 == 0) = false := by simp [he2]
        have HR : Hid (r = (e2, ⟨{ t.s with d := d2 }, t.whole⟩)) := Lib.hid (by rw [HG.out, q0, Bool.or_false])
        clear HG
        go_wp2
        go_ret
        rw [HR.out]
        exact ⟨rfl, HO3.out⟩
    · have q0 : (e1 == 0) = false := by simp [he]
      have HR : Hid (r = (e1, ⟨{ t.s with d := d1 }, t.whole⟩)) := Lib.hid (by rw [HG.out, HS.out, if_pos he]; dsimp only; rw [q0, Bool.or_false])
      clear HG HS
      go_wp2
      go_ret
      rw [HR.out]
      exact ⟨rfl, HO2.out⟩

theorem rfmt_plain (n : Nat) (h9 : 9 ≤ n) : ∃ d1 d, (DS.new n).format = ((0, some ⟨⟨d, 1, List.replicate ((n - 1) / 8) noRow⟩, false⟩), d) ∧ (DS.new n).wipe ((n - 1) / 8) 1 = (0, d1) ∧ d1.Live ∧ d1.n = n ∧ d1.ops ≤ n ∧ d1.since.length ≤ n ∧ d1.sign 1 = (0, d) ∧ d.slots 1 = (0, some ⟨d, 1, List.replicate ((n - 1) / 8) noRow⟩) ∧ d.n = n := by
  obtain ⟨d, h1, h2, h3, h4, h5, h6, h7⟩ := format_new n h9
  have hl : (DS.new n).Live := ⟨rfl, by show (-1 : Int) < 0; omega⟩
  obtain ⟨a1, a2, a3, a4, a5⟩ := DS.wipe_live ((n - 1) / 8) 1 (DS.new n) hl (by show _ ≤ n + 7; omega) (fun i => rfl)
  have a3' : ((DS.new n).wipe ((n - 1) / 8) 1).2.n = n := a3
  obtain ⟨w1, w2, w3⟩ := DS.wipe_ok ((n - 1) / 8) 1 (DS.new n)
  have hw0 : (DS.new n).ops = 0 := rfl
  have hs0 : (DS.new n).since.length = 0 := rfl
  obtain ⟨b1, b2, b3, b4, b5⟩ := DS.sign_live a2 1 (by rw [a3']; omega)
  have hfm : (DS.new n).format = ((((DS.new n).wipe ((n - 1) / 8) 1).2.sign 1).2.stOpen, (((DS.new n).wipe ((n - 1) / 8) 1).2.sign 1).2) := by
    unfold DS.format DS.fmt2 DS.fmt1
    rw [if_neg (by show ¬ n < 9; omega)]
    rw [show (DS.new n).n = n from rfl, if_neg (by rw [a1]; simp), if_neg (by rw [b1]; simp)]
  have e := h1
  rw [hfm] at e
  have ed : (((DS.new n).wipe ((n - 1) / 8) 1).2.sign 1).2 = d := (Prod.mk.inj e).2
  have eo := (Prod.mk.inj e).1
  rw [ed] at eo
  refine ⟨((DS.new n).wipe ((n - 1) / 8) 1).2, d, h1, Prod.ext a1 rfl, a2, a3', by omega, by omega, Prod.ext b1 ed, ?_, h3⟩
  rcases slots_one (by omega) h2.1 with hs | ⟨s, hs, _⟩
  · unfold DS.stOpen at eo
    rw [if_neg (by omega), if_neg (by rw [h2.1]; simp), hs] at eo
    split at eo <;> simp at eo
  · unfold DS.stOpen at eo
    rw [if_neg (by omega), if_neg (by rw [h2.1]; simp), hs] at eo
    split at eo
    · simp at eo
    · dsimp only at eo
      split at eo
      · have := (Prod.mk.inj eo).2
        have := Option.some.inj this
        have hs2 : s = ⟨d, 1, List.replicate ((n - 1) / 8) noRow⟩ := (Sto.mk.inj this).1
        rw [hs, hs2]
      · simp at eo
end Go.Proofs.YtbkajnjboipbhaaGreatDoor.W

/- The reference's Format of a new disk. -/
namespace Go.Proofs.YtbkajnjboipbhaaGreatDoor.W
open Go.RowKit
set_option linter.unusedVariables false
set_option linter.unusedSimpArgs false

set_option maxHeartbeats 2000000 in
set_option maxRecDepth 100000 in
theorem rstformat_small (m : Nat) (V F : List Nat) (d : DS) (w : World) (h : RDiskAt w m V F d) (hn : d.n < 9) : Calls Tryz.prog 40 #[.pointer (some ⟨m, 0, none⟩)] w fun e w' => e = .returned (.tuple #[.pointer none, .int .i64 1]) ∧ w = w' := by
  obtain ⟨p6, hnd, a, cap, p0, -⟩ := h.read
  have hz : (d.n : Int) < 9 := by omega
  generalize d.n = n at *
  clear h
  go_enter Tryz.func40, Tryz.ntmps40
  go_wp2
  go_ret2
  exact ⟨rfl, rfl⟩

set_option maxHeartbeats 8000000 in
set_option maxRecDepth 100000 in
theorem rstformat_new (m : Nat) (V F : List Nat) (n : Nat) (d1 d : DS) (w : World) (h : RDiskAt w m V F (DS.new n)) (h9 : 9 ≤ n) (hfew : n ≤ 4160) (hwipe : (DS.new n).wipe ((n - 1) / 8) 1 = (0, d1)) (hl1 : d1.Live) (hn1 : d1.n = n) (ho1 : d1.ops ≤ n) (hs1 : d1.since.length ≤ n)
    (hsign : d1.sign 1 = (0, d)) (hslots : d.slots 1 = (0, some ⟨d, 1, List.replicate ((n - 1) / 8) noRow⟩)) (hdn : d.n = n) :
    Calls Tryz.prog 40 #[.pointer (some ⟨m, 0, none⟩)] w fun e w' => ∃ q U B, e = .returned (.tuple #[.pointer (some ⟨q, 0, none⟩), .int .i64 0]) ∧ RStAt w' q m U B ⟨⟨d, 1, List.replicate ((n - 1) / 8) noRow⟩, false⟩ ∧ (∀ x ∈ U, x ∈ V ∨ w.heap.size ≤ x) ∧ (∀ x ∈ B, x ∈ F ∨ w.heap.size ≤ x) ∧ Chg V w w' := by
  obtain ⟨M, hM⟩ : ∃ M, M = (n - 1) / 8 := ⟨_, rfl⟩
  rw [← hM] at hwipe hslots ⊢
  have hm1 : 8 * M + 1 ≤ n ∧ n < 8 * (M + 1) + 1 ∧ M ≤ 520 := by omega
  obtain ⟨p6, _, a, cap, p0, -⟩ := h.read
  have p6 : w.cell? ⟨m, 6, none⟩ = some (.bool false) := p6
  have p0 : w.cell? ⟨m, 0, none⟩ = some (.slice a n cap) := p0
  have hz : ¬ (n : Int) < 9 := by omega
  have hmk := make_64
  have HSG := Lib.hid (And.intro hsign hslots)
  have HWP := Lib.hid hwipe
  have HL1 := Lib.hid (And.intro hl1 (And.intro hn1 (And.intro ho1 hs1)))
  have HH := Lib.hid h
  have HDN := Lib.hid hdn
  have hlv : Hid ((DS.new n).Live) := Lib.hid ⟨rfl, by show (-1 : Int) < 0; omega⟩
  clear hsign hslots hwipe hl1 hn1 ho1 hs1 h hdn hM
  go_enter Tryz.func40, Tryz.ntmps40
  go_wp2
  go_loopg [4] M (fun g' s4 wr => ∃ (i : Nat) (di : DS), s4 = .int .i64 ((1 + 8 * i : Nat) : Int) ∧ i ≤ M ∧ M ≤ i + g' ∧ Hid (RDid w wr m V F di ∧ di.n = n ∧ di.Live ∧ di.ops ≤ i ∧ di.since.length ≤ i ∧ (DS.new n).wipe M 1 = di.wipe (M - i) (1 + 8 * i)))
  case atStart => exact ⟨0, DS.new n, rfl, by omega, by omega, Lib.hid ⟨RDid.same HH.out, rfl, hlv.out, Nat.le_refl _, Nat.le_refl _, rfl⟩⟩
  case round =>
    obtain ⟨i, di, rfl, hi, hig, HI⟩ := hrel
    obtain ⟨⟨Vi, Fi, hd1, hd2, hd3, hd4⟩, hin, hil, hio, his, hiw⟩ := HI.out
    obtain ⟨_, _, ai, capi, q0, -⟩ := hd1.read
    rw [hin] at q0
    have HD1 := Lib.hid hd1
    have HD2 := Lib.hid (And.intro hd2 (And.intro hd3 hd4))
    have HIW := Lib.hid hiw
    have HIL := Lib.hid hil
    clear HI hd1 hd2 hd3 hd4 hiw p0 p6
    by_cases hlt : i < M
    · have hle : ((1 + 8 * i : Nat) : Int) + 8 ≤ (n : Int) := by omega
      have HC := Lib.hid ((Chg.refl [] wr).alloc (.cells Z64 5))
      have CW := Lib.hid (rwrite_any m Vi Fi di (1 + 8 * i) _ (zeros 64) (wr.alloc (.cells Z64 5)) (HD1.out.keep HC.out (by simp)) (by omega) (by omega) (by omega) (by simp [zeros]) (zero_row wr).bytes (fun x hx hm => by
        obtain rfl : wr.heap.size = x := by simpa [Value.ownBlock] using hx
        have := HD1.out.lim.1 _ (HD1.out.lim.2.1 _ hm)
        omega))
      obtain ⟨v1, v2, v3, v4⟩ := DS.write_live hil (1 + 8 * i) (zeros 64) (by omega) (by simp [zeros])
      have hwok := di.write_ok ((1 + 8 * i : Nat) : Int) (zeros 64)
      have hmi : M - i = (M - (i + 1)) + 1 := by omega
      have HW2 : Hid ((DS.new n).wipe M 1 = if (di.write ((1 + 8 * i : Nat) : Int) (zeros 64)).1 ≠ 0 then di.write ((1 + 8 * i : Nat) : Int) (zeros 64) else (di.write ((1 + 8 * i : Nat) : Int) (zeros 64)).2.wipe (M - (i + 1)) (1 + 8 * i + 8)) := Lib.hid (by
        rw [HIW.out, hmi]; rfl)
      generalize di.write ((1 + 8 * i : Nat) : Int) (zeros 64) = z at *
      obtain ⟨e1, dd⟩ := z
      dsimp only at CW hwok HW2 v1 v2 v3
      subst v1
      have HV2 := Lib.hid v2
      clear HIW hmi v4 v2 v3 hil
      go_wp2_with fail
      refine CW.out.mono ?_
      rintro e w2 ⟨rfl, hd2⟩
      have HD3 := Lib.hid (RDid.glue HD2.out.1 HD2.out.2.1 HD2.out.2.2 (RDid.pre HC.out hd2))
      clear hd2 CW
      have HW3 : Hid ((DS.new n).wipe M 1 = dd.wipe (M - (i + 1)) (1 + 8 * (i + 1))) := Lib.hid (by
        rw [HW2.out, if_neg (by simp), show 1 + 8 * i + 8 = 1 + 8 * (i + 1) by omega])
      clear HW2
      go_wp2
      go_roundg (gk - 1)
      case measure => omega
      case rel => exact ⟨i + 1, dd, by go_num, by omega, by omega, Lib.hid ⟨HD3.out, by rw [hwok.1, hin], HV2.out, by omega, by omega, HW3.out⟩⟩
    · have him : i = M := by omega
      have hle : ¬ ((1 + 8 * i : Nat) : Int) + 8 ≤ (n : Int) := by omega
      have CY := Lib.hid (rsync_any m Vi Fi di wr HD1.out (by omega))
      have hw2 : di.sync = (0, d1) := by
        have := HIW.out
        rw [HWP.out, him, Nat.sub_self] at this
        exact this.symm
      rw [hw2] at CY
      have CM := Lib.hid (fun w2 => rmark_any 1 w2)
      rw [show (1 : UInt8).toNat = 1 from rfl] at CM
      clear HIW hw2 him
      go_wp2_with fail
      refine CY.out.mono ?_
      rintro e w2 ⟨rfl, hd2⟩
      have HD3 := Lib.hid (RDid.glue HD2.out.1 HD2.out.2.1 HD2.out.2.2 hd2)
      clear hd2 CY HD2 HD1 q0
      have CM1 := Lib.hid (CM.out w2)
      go_wp2_with fail
      refine CM1.out.mono ?_
      rintro e w3 ⟨Nb, rfl, hNb, hbN, hc3⟩
      obtain ⟨V3, F3, g1, g2, g3, g4⟩ := HD3.out
      obtain ⟨l1, l2, l3, l4⟩ := HL1.out
      have CW := Lib.hid (rwrite_any m V3 F3 d1 0 _ (1 :: zeros 63) w3 (g1.keep hc3 (by simp)) (by omega) (by omega) (by omega) (by simp [zeros]) hbN (fun x hx hm => by
        obtain rfl : Nb = x := by simpa [Value.ownBlock] using hx
        have := g1.lim.1 _ (g1.lim.2.1 _ hm)
        omega))
      have HG3 := Lib.hid (And.intro g2 (And.intro g3 g4))
      have HC3 := Lib.hid hc3
      obtain ⟨v1, v2, v3, v4⟩ := DS.write_live l1 0 (1 :: zeros 63) (by omega) (by simp [zeros])
      have hwok := d1.write_ok 0 (1 :: zeros 63)
      have HSY : Hid ((d1.write 0 (1 :: zeros 63)).2.sync = (0, d)) := Lib.hid (by
        have := HSG.out.1
        unfold DS.sign at this
        rw [if_neg (by rw [show (d1.write 0 (1 :: zeros 63)).1 = 0 from v1]; simp)] at this
        exact this)
      rw [show ((0 : Nat) : Int) = 0 from rfl] at CW v1 v2 v3 v4
      generalize d1.write 0 (1 :: zeros 63) = z at *
      obtain ⟨e1, dd⟩ := z
      dsimp only at CW hwok HSY v1 v2 v3
      subst v1
      clear CM CM1 hNb hbN hc3 g1 g2 g3 g4 l1 v2 v3 v4
      go_wp2_with fail
      refine CW.out.mono ?_
      rintro e w4 ⟨rfl, hd4⟩
      have HD4 := Lib.hid (RDid.glue HG3.out.1 HG3.out.2.1 HG3.out.2.2 (RDid.pre HC3.out hd4))
      clear hd4 CW HG3 HD3 HC3
      obtain ⟨V4, F4, g1, g2, g3, g4⟩ := HD4.out
      have CY := Lib.hid (rsync_any m V4 F4 dd w4 g1 (by omega))
      rw [HSY.out] at CY
      dsimp only at CY
      have HG4 := Lib.hid (And.intro g2 (And.intro g3 g4))
      clear g1 g2 g3 g4
      go_wp2_with fail
      refine CY.out.mono ?_
      rintro e w5 ⟨rfl, hd5⟩
      have HD5 := Lib.hid (RDid.glue HG4.out.1 HG4.out.2.1 HG4.out.2.2 hd5)
      clear hd5 CY HG4 HD4
      obtain ⟨V5, F5, g1, g2, g3, g4⟩ := HD5.out
      have CO := Lib.hid (ropen_any m V5 F5 d 1 w5 g1 (by rw [HDN.out]; omega))
      rw [HSG.out.2] at CO
      unfold ROpenPost at CO
      dsimp only at CO
      have HG5 := Lib.hid (And.intro g2 (And.intro g3 g4))
      clear g1 g2 g3 g4
      go_wp2_with fail
      refine CO.out.mono ?_
      rintro e w6 ⟨hc6, sp, W, A, rfl, hsl, hW, hA⟩
      have HNEW : Hid (RStAt (w6.alloc (.cells #[.pointer (some ⟨m, 0, none⟩), .pointer (some ⟨sp, 0, none⟩), .bool false] 127)) w6.heap.size m (w6.heap.size :: W) (w6.heap.size :: A) ⟨⟨d, 1, List.replicate M noRow⟩, false⟩) := Lib.hid
        ⟨sp, W, A, ⟨heap_alloc_new w6 _, hsl.keep ((Chg.refl [] w6).alloc _) (by simp), fun hm => by have := hsl.lim.1 _ hm; omega, fun rr hrr hu => by
          obtain rfl := List.eq_of_mem_replicate hrr
          cases hu⟩, rfl, rfl⟩
      have HS6 : Hid (w.heap.size ≤ w6.heap.size ∧ (∀ x ∈ W, x ∈ V ∨ w.heap.size ≤ x) ∧ (∀ x ∈ A, x ∈ F ∨ w.heap.size ≤ x) ∧ Chg V w w6) := Lib.hid (by
        have a1 := HG5.out.2.2.size
        refine ⟨Nat.le_trans a1 hc6.size, fun x hx => ?_, fun x hx => ?_, HG5.out.2.2.trans hc6 (by simp)⟩
        · rcases hW x hx with h4 | h4
          · exact HG5.out.1 x h4
          · exact .inr (Nat.le_trans a1 h4)
        · rcases hA x hx with h4 | h4
          · exact HG5.out.2.1 x h4
          · exact .inr (Nat.le_trans a1 h4))
      clear hc6 hsl hW hA CO
      go_wp2
      go_ret2
      refine ⟨_, _, _, rfl, HNEW.out, fun y hy => ?_, fun y hy => ?_, HS6.out.2.2.2.alloc _⟩
      · rcases List.mem_cons.1 hy with rfl | hy
        · exact .inr HS6.out.1
        · exact HS6.out.2.1 y hy
      · rcases List.mem_cons.1 hy with rfl | hy
        · exact .inr HS6.out.1
        · exact HS6.out.2.2.1 y hy
end Go.Proofs.YtbkajnjboipbhaaGreatDoor.W

/- A store beside others' blocks; its disk: fuse, dead, crash. -/
namespace Go.Proofs.YtbkajnjboipbhaaGreatDoor.W
open Go.RowKit
set_option linter.unusedVariables false
set_option linter.unusedSimpArgs false

theorem SlotsAt.keepT {w w' : World} {q p : Nat} {U T : List Nat} {s : SS} (h : SlotsAt w q p U s) (hc : Chg T w w') (ha : ∀ x ∈ U, x ∉ T) (hT : ∀ x ∈ T, ∀ v l, BytesAt w v l → l ≠ [] → v.ownBlock ≠ some x) : SlotsAt w' q p U s := by
  obtain ⟨S, rv, R, h⟩ := h
  refine ⟨S, rv, R, h.obj.keep hc (fun x hx => ha x (h.uB x hx)), h.disk.keep hc (fun x hx => ha x (h.uS x hx)), h.rows, h.sep, fun x hx => ?_, h.uS, h.uB, fun x hx => Nat.lt_of_lt_of_le (h.uL x hx) hc.size, h.ok⟩
  obtain ⟨h1, h2⟩ := h.keys x hx
  exact ⟨h1.chgW hc (fun hl k hk hm => hT k hm _ _ h1 hl hk), fun g hg => ⟨Nat.lt_of_lt_of_le (h2 g hg).1 hc.size, (h2 g hg).2⟩⟩
/-- The reference was at work beside it. -/
theorem StAt.regroup {G G' : List Nat} {w w' : World} {q p : Nat} {U T : List Nat} {t : Sto} (h : StAt G w q p U t) (hc : Chg T w w') (hT : ∀ x ∈ T, x ∈ G) (h8 : ∀ x ∈ T, NoU8 w x) (hU : ∀ x ∈ U, x ∉ G) (hG : ∀ x ∈ G', (x ∈ G ∨ w.heap.size ≤ x) ∧ x < w'.heap.size) : StAt G' w' q p U t := by
  obtain ⟨sp, mb, Us, φ, N, h, rfl⟩ := h
  have hn : ∀ x ∈ q :: mb :: Us, x ∉ T := fun x hx hm => hU x hx (hT x hm)
  refine ⟨sp, mb, Us, φ, N, ⟨hc.keep h.head (hn q (by simp)), h.slots.keepT hc (fun x hx => hn x (by simp [hx])) (fun x hx v l hb hl => (h8 x hx).not_bytes v l hb hl), h.map.chg hc (hn mb (by simp)), h.apart, fun x hx => ?_, h.ok, fun k hk => ⟨(hG k hk).2, fun y v hy hv e => ?_⟩⟩, rfl⟩
  · rcases h.vals x hx with h1 | ⟨h1, v, h2, h3, h4⟩
    · exact .inl h1
    · refine .inr ⟨h1, v, h2, h3.keep (fun g hg => hc.block g (h4 g hg).1 (fun hm => (h.far g (hT g hm)).2 x v hx h2 hg)), fun g hg => ⟨Nat.lt_of_lt_of_le (h4 g hg).1 hc.size, (h4 g hg).2⟩⟩
  · rcases (hG k hk).1 with h1 | h1
    · exact (h.far k h1).2 y v hy hv e
    · rcases h.vals y hy with ⟨_, h2⟩ | ⟨_, v', h2, _, h4⟩
      · rw [h2] at hv; cases hv
      · rw [h2] at hv
        obtain rfl := Option.some.inj hv
        have := (h4 k e).1
        omega
theorem StAt.disk {G : List Nat} {w : World} {q p : Nat} {U : List Nat} {t : Sto} (h : StAt G w q p U t) : ∃ S, DiskAt w p S t.s.d := by
  obtain ⟨sp, mb, Us, φ, N, h, rfl⟩ := h
  obtain ⟨S, rv, R, H⟩ := h.slots
  exact ⟨S, H.disk⟩
theorem StAt.fuse {G : List Nat} {w : World} {q p : Nat} {U : List Nat} {t : Sto} (h : StAt G w q p U t) (n : Int) (hn : n ≤ 9223372036854775807) :
    Calls Tryz.prog 36 #[.pointer (some ⟨p, 0, none⟩), .int .i64 n] w fun e w' => e = .returned (.tuple #[]) ∧ Std G w w' q p U ⟨{ t.s with d := t.s.d.setFuse n }, t.whole⟩ := by
  obtain ⟨sp, mb, Us, φ, N, h, rfl⟩ := h
  obtain ⟨S, rv, R, H⟩ := h.slots
  refine (dfuse_any p S t.s.d n w H.disk hn).mono fun e w' ⟨h1, h2⟩ => ⟨h1, ?_⟩
  obtain ⟨Us', g1, g2, g3⟩ := h.slotsDid (SlotsAt.did H h2 rfl) rfl
  exact g1.std g2 (g3.mono (fun y hy => .inl (by simp [hy])))
theorem StAt.dead {G : List Nat} {w : World} {q p : Nat} {U : List Nat} {t : Sto} (h : StAt G w q p U t) : Calls Tryz.prog 37 #[.pointer (some ⟨p, 0, none⟩)] w fun e w' => e = .returned (.bool t.s.d.dead) ∧ w = w' := by
  obtain ⟨S, hd⟩ := h.disk
  exact ddead_any p S t.s.d w hd
end Go.Proofs.YtbkajnjboipbhaaGreatDoor.W

/- StorePlays: ours and the reference's side by side. -/
namespace Go.Proofs.YtbkajnjboipbhaaGreatDoor.W
open Go.RowKit
set_option linter.unusedVariables false
set_option linter.unusedSimpArgs false

/-- A store without a fragment is far from all. -/
theorem StAt.far0 {G : List Nat} {w : World} {q p : Nat} {U : List Nat} {t : Sto} (h : StAt [] w q p U t) (h0 : ∀ r ∈ t.s.rows, r.used = false) (hG : ∀ x ∈ G, x < w.heap.size) : StAt G w q p U t := by
  obtain ⟨sp, mb, Us, φ, N, h, rfl⟩ := h
  refine ⟨sp, mb, Us, φ, N, ⟨h.head, h.slots, h.map, h.apart, h.vals, h.ok, fun k hk => ⟨hG k hk, fun y v hy hv e => ?_⟩⟩, rfl⟩
  rcases h.vals y hy with ⟨_, h2⟩ | ⟨h1, _⟩
  · rw [h2] at hv; cases hv
  · refine h1 ?_
    unfold Sto.at
    split
    · refine upto_none _ (fun j hj => ?_)
      unfold rowIs
      rw [h0 _ (row_mem hj), Bool.false_and]
    · rfl
theorem RStAt.fuse {w : World} {q m : Nat} {U B : List Nat} {t : Sto} (h : RStAt w q m U B t) (n : Int) (hn : n ≤ 9223372036854775807) :
    (∃ u, w.cell? ⟨m, 5, none⟩ = some u) ∧ w.frozen? ⟨m, 5, none⟩ = false ∧ m < w.heap.size ∧ RStd w (w.setCell ⟨m, 5, none⟩ (.int .i64 (max n (-1)))) q m U B ⟨{ t.s with d := t.s.d.setFuse n }, t.whole⟩ := by
  obtain ⟨sp, W, A, h, rfl, rfl⟩ := h
  obtain ⟨V, F, rv, R, H⟩ := h.slots
  obtain ⟨nv, lv, av, wv, NV, LV, AV, WV, D⟩ := H.disk
  have hlt := blk_lt D.head
  have n0 : NoU8 w m := D.no8 m (by rw [D.mem]; exact blks_head)
  refine ⟨⟨_, blk_cell D.head 5 _ rfl⟩, blk_frozen D.head 5, hlt, h.did (H.did (D.put (d' := t.s.d.setFuse n) ((Chg.refl _ _).setCell (.inl (by simp)) _) (n0.set hlt no8_i64) (set_blk D.head) rfl rfl rfl (by show -1 ≤ max n (-1) ∧ max n (-1) ≤ 9223372036854775807; omega)) rfl) h.ok⟩
theorem RStAt.ops {w : World} {q m : Nat} {U B : List Nat} {t : Sto} (h : RStAt w q m U B t) : w.cell? ⟨m, 4, none⟩ = some (.int .i64 (t.s.d.ops : Int)) := by
  obtain ⟨sp, W, A, h, rfl, rfl⟩ := h
  obtain ⟨V, F, rv, R, H⟩ := h.slots
  obtain ⟨nv, lv, av, wv, NV, LV, AV, WV, D⟩ := H.disk
  exact blk_cell D.head 4 _ rfl
theorem RStAt.disk {w : World} {q m : Nat} {U B : List Nat} {t : Sto} (h : RStAt w q m U B t) : ∃ V F, RDiskAt w m V F t.s.d := by
  obtain ⟨sp, W, A, h, rfl, rfl⟩ := h
  obtain ⟨V, F, rv, R, H⟩ := h.slots
  exact ⟨V, F, H.disk⟩
theorem RStAt.few {w : World} {q m : Nat} {U B : List Nat} {t : Sto} (h : RStAt w q m U B t) : t.s.first + 8 * t.s.rows.length ≤ t.s.d.n ∧ t.s.d.n ≤ 4160 ∧ t.ids.length ≤ 1000 := by
  obtain ⟨sp, W, A, h, rfl, rfl⟩ := h
  obtain ⟨h1, h2⟩ := h.slots.fewR
  have := t.ids_len
  exact ⟨h1, h2, by omega⟩

/-- Ours and the reference's, each new since w. -/
structure Two6 (w wr : World) (q p q2 m : Nat) (U U2 B2 : List Nat) (t r : Sto) : Prop where
  ours : StAt B2 wr q p U t
  refs : RStAt wr q2 m U2 B2 r
  newU : ∀ x ∈ U, w.heap.size ≤ x
  newB : ∀ x ∈ B2, w.heap.size ≤ x
  apart : ∀ x ∈ U, x ∉ B2
  chg : Chg [] w wr
variable {w wr w' : World} {q p q2 m : Nat} {U U2 B2 : List Nat} {t r t' r' : Sto}
theorem Two6.keep (h : Two6 w wr q p q2 m U U2 B2 t r) (hc : Chg [] wr w') : Two6 w w' q p q2 m U U2 B2 t r :=
  ⟨h.ours.keep0 hc, h.refs.keep hc (by simp), h.newU, h.newB, h.apart, h.chg.trans hc (by simp)⟩
theorem Two6.our (h : Two6 w wr q p q2 m U U2 B2 t r) (hs : Std B2 wr w' q p U t') : ∃ U', Two6 w w' q p q2 m U' U2 B2 t' r := by
  obtain ⟨U', h1, h2, h3⟩ := hs
  have hl := h.refs.lim.1
  refine ⟨U', h1, h.refs.keep h3 (fun x hx hm => h.apart x hm hx), fun x hx => ?_, h.newB, fun x hx hm => ?_, h.chg.trans h3 (fun x hx => .inr (h.newU x hx))⟩
  · rcases h2 x hx with h4 | h4
    · exact h.newU x h4
    · exact Nat.le_trans h.chg.size h4
  · rcases h2 x hx with h4 | h4
    · exact h.apart x h4 hm
    · have := hl x hm; omega
theorem Two6.ref (h : Two6 w wr q p q2 m U U2 B2 t r) (hs : RStd wr w' q2 m U2 B2 r') : ∃ U2' B2', Two6 w w' q p q2 m U U2' B2' t r' := by
  obtain ⟨W', A', h1, h2, h3, h4⟩ := hs
  obtain ⟨l1, l2, l3⟩ := h.refs.lim
  have hu := h.ours.lim
  refine ⟨W', A', h.ours.regroup h4 l2 l3 h.apart (fun x hx => ⟨h3 x hx, h1.lim.1 x hx⟩), h1, h.newU, fun x hx => ?_, fun x hx hm => ?_, h.chg.trans h4 (fun x hx => .inr (h.newB x (l2 x hx)))⟩
  · rcases h3 x hx with h5 | h5
    · exact h.newB x h5
    · exact Nat.le_trans h.chg.size h5
  · rcases h3 x hm with h5 | h5
    · exact h.apart x hx h5
    · have := hu x hx; omega
/-- How far a store goes in a round. -/
structure Rise6 (t t' : Sto) (k : Nat) : Prop where
  n : t'.s.d.n = t.s.d.n
  ops : t'.s.d.ops ≤ t.s.d.ops + k
  since : t'.s.d.since.length ≤ t.s.d.since.length + k
theorem clears_n : ∀ (l : List Nat) (s : SS), (s.clears l).2.d.n = s.d.n
  | [], s => rfl
  | i :: r, s => by
    obtain ⟨_, _, h1⟩ := s.clear_ok (i : Int)
    rw [clears_cons]
    split
    · exact h1
    · rw [clears_n r, h1]
theorem put_rise6 (t : Sto) (x : Id) (b : List UInt8) : Rise6 t (t.put x b).2 20 := by
  obtain ⟨h1, h2, h3, _⟩ := t.put_ok x b
  exact ⟨h3, h1, h2⟩
theorem del_rise6 (t : Sto) (x : Id) (h : t.s.rows.length ≤ 20) : Rise6 t (t.del x).2 40 := by
  obtain ⟨h1, h2⟩ := t.del_ok x
  refine ⟨?_, by omega, by omega⟩
  unfold Sto.del
  split
  · rfl
  · exact clears_n _ _
theorem whole_rise6 (t : Sto) : Rise6 t t.setWhole.2 20 := by
  obtain ⟨h1, h2, h3⟩ := t.s.d.sign_ok 2
  exact ⟨h1, by show (t.s.d.sign 2).2.ops ≤ _; omega, by show (t.s.d.sign 2).2.since.length ≤ _; omega⟩
theorem fuse_rise6 (t : Sto) (n : Int) : Rise6 t ⟨{ t.s with d := t.s.d.setFuse n }, t.whole⟩ 20 := ⟨rfl, by show t.s.d.ops ≤ _; omega, by show t.s.d.since.length ≤ _; omega⟩
theorem stOpen_code (d : DS) (h9 : 9 ≤ d.n) : (∃ c, d.stOpen = (c, none) ∧ c ≠ 0) ∨ ∃ t, d.stOpen = (0, some t) := by
  unfold DS.stOpen
  rw [if_neg (by omega)]
  split
  · exact .inl ⟨14, rfl, by omega⟩
  · rename_i hd
    split
    · exact .inl ⟨4, rfl, by omega⟩
    · rcases slots_one h9 (by simpa using hd) with h1 | ⟨s, h1, _⟩
      · rw [h1]; exact .inl ⟨4, rfl, by omega⟩
      · rw [h1]
        dsimp only
        split
        · exact .inr ⟨_, rfl⟩
        · exact .inl ⟨4, rfl, by omega⟩
end Go.Proofs.YtbkajnjboipbhaaGreatDoor.W

/- Bytes that came in. -/
namespace Go.Proofs.YtbkajnjboipbhaaGreatDoor.W
open Go.RowKit Go.ChangeShapes Go.WideShapes
set_option linter.unusedVariables false
set_option linter.unusedSimpArgs false

/-- Bytes that came in. -/
def Came (w : World) (v : Value) (l : List UInt8) : Prop := BytesAt w v l ∧ (l ≠ [] → ∀ k, v.ownBlock = some k → k < w.heap.size)
theorem Came.chg {w w' : World} {v : Value} {l : List UInt8} (h : Came w v l) (hc : Chg [] w w') : Came w' v l := ⟨h.1.chg hc (by simp), fun hl k hk => Nat.lt_of_lt_of_le (h.2 hl k hk) hc.size⟩
theorem toU8 (z : Int) (h : (Lit.int .u8 z).wf = true) : .int .u8 z = bv (UInt8.ofNat z.toNat) := by
  simp [Lit.wf, IntKind.min, IntKind.max, IntKind.signed, IntKind.bits] at h
  unfold bv
  rw [UInt8.toNat_ofNat']
  congr 1
  omega

section
variable {H : Type} {enc : TypeId × Value → H} {w : World} {base : Nat} {held : Bool}
/-- A slice of bytes that came in. -/
theorem open_came {fuel : Nat} {cs : List Value} {x : DataW H × List MemPlace} (h : DataW.trod enc Tryz.prog w base (fun _ => true) held fuel 27 cs = some x) : ∃ v l, cs = [v] ∧ Came w v l ∧ l.length ≤ maxLen := by
  rcases open_ints Tryz.underlying27 Tryz.underlying5 (by kernel_rfl) h with ⟨rfl, _⟩ | ⟨a, len, cap, zs, rfl, _, hl, hm, hz, _, hcell, hwf⟩
  · exact ⟨_, [], rfl, ⟨BytesAt.nil _, by simp⟩, by unfold maxLen; simp⟩
  · replace hz : zs.length = cap := by simpa using hz
    have hlen : ((zs.take len).map (fun z => UInt8.ofNat z.toNat)).length = len := by rw [List.length_map, List.length_take]; omega
    have hg : ∀ i, i < len → ((zs.take len).map (fun z => UInt8.ofNat z.toNat)).getD i 0 = UInt8.ofNat (zs.getD i 0).toNat := by
      intro i hi
      rw [List.getD_eq_getElem?_getD, List.getElem?_map, List.getElem?_take, if_pos hi, List.getD_eq_getElem?_getD, List.getElem?_eq_getElem (by omega)]
      rfl
    have hw : ∀ i, i < zs.length → (Lit.int .u8 (zs.getD i 0)).wf = true := fun i hi => hwf _ (by
      rw [List.getD_eq_getElem?_getD, List.getElem?_eq_getElem hi]
      exact List.getElem_mem hi)
    refine ⟨_, (zs.take len).map (fun z => UInt8.ofNat z.toNat), rfl, ?_, by rw [hlen]; omega⟩
    by_cases hc0 : cap = 0
    · have h0 : len = 0 := by omega
      subst hc0; subst h0
      have hnil : (zs.take 0).map (fun z => UInt8.ofNat z.toNat) = [] := by simp
      rw [hnil]
      exact ⟨⟨some a, 0, rfl, Nat.le_refl _, by unfold maxLen; omega, .inl ⟨rfl, rfl⟩⟩, fun h => absurd rfl h⟩
    · obtain ⟨g, o, spot⟩ := a
      have hc := hcell 0 (by omega)
      have hspot : spot = none := by simpa [Addr.add] using World.cell?_spot hc
      subst hspot
      have hlt : g < w.heap.size := by
        have := World.block_lt_of_cell? w _ hc
        simpa [Addr.add] using this
      refine ⟨⟨some ⟨g, o, none⟩, cap, by rw [hlen], by omega, hm, .inr ⟨g, o, rfl, fun i hi => ?_⟩⟩, fun _ k hk => ?_⟩
      · rw [hlen] at hi
        have := hcell i (by omega)
        rw [add_none] at this
        rw [this, hg i hi, ← toU8 _ (hw i (by omega))]
      · obtain rfl : g = k := by simpa [Value.ownBlock] using hk
        exact hlt
end
theorem IsRow.came {w : World} {a : Option Addr} {len cap : Nat} {zs : List Int} (h : IsRow .u8 w a len cap zs) : ∃ l, l.length = len ∧ len ≤ maxLen ∧ Came w (.slice a len cap) l := by
  rcases h with ⟨rfl, rfl, rfl, rfl⟩ | ⟨x, rfl, h1, h2, h3, h4, h5⟩
  · exact ⟨[], rfl, by unfold maxLen; omega, BytesAt.nil w, by simp⟩
  · have hlen : ((zs.take len).map (fun z => UInt8.ofNat z.toNat)).length = len := by rw [List.length_map, List.length_take]; omega
    have hg : ∀ i, i < len → ((zs.take len).map (fun z => UInt8.ofNat z.toNat)).getD i 0 = UInt8.ofNat (zs.getD i 0).toNat := by
      intro i hi
      rw [List.getD_eq_getElem?_getD, List.getElem?_map, List.getElem?_take, if_pos hi, List.getD_eq_getElem?_getD, List.getElem?_eq_getElem (by omega)]
      rfl
    have hw : ∀ i, i < zs.length → (Lit.int .u8 (zs.getD i 0)).wf = true := fun i hi => h5 _ (by
      rw [List.getD_eq_getElem?_getD, List.getElem?_eq_getElem hi]
      exact List.getElem_mem hi)
    refine ⟨_, hlen, by omega, ?_⟩
    by_cases hl0 : len = 0
    · subst hl0
      have hnil : (zs.take 0).map (fun z => UInt8.ofNat z.toNat) = [] := by simp
      rw [hnil]
      by_cases hc0 : cap = 0
      · subst hc0
        exact ⟨⟨some x, 0, rfl, Nat.le_refl _, by unfold maxLen; omega, .inl ⟨rfl, rfl⟩⟩, by simp⟩
      · obtain ⟨g, o, spot⟩ := x
        have hc := h4 0 (by omega)
        have hspot : spot = none := by simpa [Addr.add] using World.cell?_spot hc
        subst hspot
        exact ⟨⟨some ⟨g, o, none⟩, cap, rfl, by simp, h2, .inr ⟨g, o, rfl, by simp⟩⟩, by simp⟩
    · obtain ⟨g, o, spot⟩ := x
      have hc := h4 0 (by omega)
      have hspot : spot = none := by simpa [Addr.add] using World.cell?_spot hc
      subst hspot
      have hlt : g < w.heap.size := by
        have := World.block_lt_of_cell? w _ hc
        simpa [Addr.add] using this
      refine ⟨⟨some ⟨g, o, none⟩, cap, by rw [hlen], by omega, h2, .inr ⟨g, o, rfl, fun i hi => ?_⟩⟩, fun _ k hk => ?_⟩
      · rw [hlen] at hi
        have := h4 i (by omega)
        rw [add_none] at this
        rw [this, hg i hi, ← toU8 _ (hw i (by omega))]
      · obtain rfl : g = k := by simpa [Value.ownBlock] using hk
        exact hlt
end Go.Proofs.YtbkajnjboipbhaaGreatDoor.W
