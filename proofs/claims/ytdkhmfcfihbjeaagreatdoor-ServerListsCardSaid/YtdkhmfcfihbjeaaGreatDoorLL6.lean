/- Texts laid together. -/
import Derived.Test.YtdkhmfcfihbjeaaGreatDoorLL5
import Derived.Test.YtdkhmfcfihbjeaaGreatDoorLL1
import Derived.Test.YtdkhmfcfihbjeaaGreatDoorLL2
import Derived.DeepKeys
import Derived.Laws.StructEq
import Derived.Deep.Slices
import Derived.ChangeSlices
import Derived.Lib.SmallJoins
import Derived.Test.YtdkhmfcfihbjeaaGreatDoorLL4
import Derived.Deep.MidRow
import Derived.Deep.AppendLies
import Derived.Deep.DeepCutAuto
import Derived.Deep.CutBlock
import Derived.Test.YtdkhmfcfihbjeaaGreatDoorLL3
import Derived.Laws.BitsLemmas
/- A store on a disk that may die, plainly: Put, Delete, a crash. -/
namespace Go.Proofs.YtdkhmfcfihbjeaaGreatDoor.W
set_option linter.unusedVariables false
set_option linter.unusedSimpArgs false

/-! ### What lasts, as long as it lives -/
def DS.Fair (d : DS) : Prop := d.dead = false → ∀ i, applied d.since d.lasts i = d.now i
theorem DS.Fair.write {d : DS} (h : d.Fair) (k : Int) (b : List UInt8) : (d.write k b).2.Fair := by
  unfold DS.write
  split
  · exact h
  · rename_i hd
    have h := h (by simpa using hd)
    split
    · unfold DS.op
      by_cases hf : d.fuse = 0
      · simp only [hf, if_true]
        intro hh; cases hh
      · simp only [hf, if_false, if_true]
        intro _ i
        show applied (d.since ++ [(k.toNat, b)]) d.lasts i = upd d.now k.toNat b i
        rw [applied_snoc]
        unfold upd
        split
        · rfl
        · exact h i
    · exact fun _ => h
theorem DS.Fair.sync {d : DS} (h : d.Fair) : (d.sync).2.Fair := by
  unfold DS.sync
  split
  · exact h
  · rename_i hd
    have h := h (by simpa using hd)
    unfold DS.op
    by_cases hf : d.fuse = 0
    · simp only [hf, if_true]
      intro hh; cases hh
    · simp only [hf, if_false, if_true]
      intro _ i
      exact h i
theorem DS.Fair.wipe : ∀ (k a : Nat) (d : DS), d.Fair → (d.wipe k a).2.Fair
  | 0, a, d, h => h.sync
  | k + 1, a, d, h => by
    unfold DS.wipe
    split
    · exact h.write _ _
    · exact DS.Fair.wipe k (a + 8) _ (h.write _ _)
theorem DS.Fair.sign {d : DS} (h : d.Fair) (n : UInt8) : (d.sign n).2.Fair := by
  unfold DS.sign
  split
  · exact h.write _ _
  · exact (h.write _ _).sync
theorem format_fair {d : DS} (h : d.Fair) : d.format.2.Fair := by
  have h1 : d.fmt1.2.Fair := h.wipe _ _
  have h2 : d.fmt2.2.Fair := h1.sign 1
  unfold DS.format
  split
  · exact h
  · split
    · exact h1
    · split
      · exact h2
      · exact h2
theorem KeptR.new (n : Nat) (h9 : 9 ≤ n) : ∃ t d, (DS.new n).format = ((0, some t), d) ∧ KeptR t (fun _ => none) ∧ t.s.d = d ∧ t.s.rows = List.replicate ((n - 1) / 8) noRow ∧ d.n = n ∧ d.ops ≤ n ∧ t.whole = false ∧ d.Live := by
  obtain ⟨d, h1, h2, h3, h4, h5, h6, h7⟩ := format_new n h9
  have hf : d.Fair := by
    have := format_fair (d := DS.new n) (fun _ _ => rfl)
    rw [h1] at this
    exact this
  have hl : ∀ i, d.lasts i = d.now i := fun i => by
    have := hf h2.1 i
    rw [h4] at this
    exact this
  refine ⟨_, d, h1, ⟨⟨fun _ => false, fun _ => [], ⟨⟨h2.1, h4, hl⟩, by show 1 + 8 * (List.replicate _ noRow).length ≤ d.n; rw [List.length_replicate]; omega, fun k hk => ?_, fun k hk => ?_, fun k hk hu => by cases hu⟩, fun x hx => .inl ⟨rfl, ?_⟩⟩, fun _ _ => rfl, fun r hr hu => ?_, rfl, ⟨?_, by show 9 ≤ d.n; omega⟩, ⟨h7, by show d.lasts 0 = _; rw [hl]; exact h7, by show ∀ x ∈ d.since, _; rw [h4]; simp⟩⟩, rfl, rfl, h3, h6, rfl, h2⟩
  · rw [List.length_replicate] at hk
    show headOf (d.now (1 + 8 * k)) = _
    rw [h5 _ (by omega), List.getD_eq_getElem?_getD, List.getElem?_replicate, if_pos hk]
    rfl
  · rw [List.length_replicate] at hk
    show ((List.replicate _ noRow).getD k noRow).used = false
    rw [List.getD_eq_getElem?_getD, List.getElem?_replicate, if_pos hk]
    rfl
  · rw [Sto.at_may hx]
    cases hu : upto (List.replicate ((n - 1) / 8) noRow) (List.replicate ((n - 1) / 8) noRow).length (idKey x) with
    | nil => rfl
    | cons j r =>
      have hj : j ∈ upto (List.replicate ((n - 1) / 8) noRow) (List.replicate ((n - 1) / 8) noRow).length (idKey x) := by rw [hu]; simp
      obtain ⟨a, b, _⟩ := upto_mem.1 hj
      rw [List.length_replicate] at a
      rw [List.getD_eq_getElem?_getD, List.getElem?_replicate, if_pos a] at b
      simp [noRow] at b
  · obtain rfl := List.eq_of_mem_replicate hr
    simp [noRow] at hu
  · show (d.n - 1) / 8 = (List.replicate ((n - 1) / 8) noRow).length
    rw [List.length_replicate, h3]

/-! ### One row is set -/
section
variable {t : Sto} {F : Frag} {u : Nat → Bool} {v : Nat → List UInt8} {x : Id} {b : List UInt8} {i : Nat} {d2 : DS}
/-- What a store's slots tell. -/
def Tells (t : Sto) (F : Frag) (u : Nat → Bool) (v : Nat → List UInt8) : Prop := ∀ x, mayId x = true → (F x = none ∧ t.at x = []) ∨ ∃ i b, F x = some b ∧ t.at x = [i] ∧ v i = b
theorem KeptR.same_row (h : KeptR t F) (ht : ToldR { t.s with d := d2 } u v) (ha : Tells t F u v) (hz : d2.Zero ((if t.whole then 2 else 1) :: zeros 63)) (hn : d2.n = t.s.d.n) : KeptR ⟨{ t.s with d := d2 }, t.whole⟩ F :=
  ⟨⟨u, v, ht, ha⟩, h.out, h.keys, h.first, ⟨by show (d2.n - 1) / 8 = _; rw [hn]; exact h.full.1, by show 9 ≤ d2.n; rw [hn]; exact h.full.2⟩, hz⟩
theorem KeptR.put_row (h : KeptR t F) (hm : mayId x = true) (hF : F x = none) (hil : i < t.s.rows.length) (hiu : (t.s.rows.getD i noRow).used = false)
    (ht : ToldR { t.s with d := d2, rows := t.s.rows.set i ⟨true, b.length, idKey x⟩ } (fun j => if j = i then true else u j) (fun j => if j = i then b else v j)) (ha : Tells t F u v) (hz : d2.Zero ((if t.whole then 2 else 1) :: zeros 63)) (hn : d2.n = t.s.d.n) :
    KeptR ⟨{ t.s with d := d2, rows := t.s.rows.set i ⟨true, b.length, idKey x⟩ }, t.whole⟩ (setF F x (some b)) := by
  have hat := h.at_none hF
  have hat2 : upto t.s.rows t.s.rows.length (idKey x) = [] := by rw [← Sto.at_may hm]; exact hat
  have hat' : ∀ y, mayId y = true → Sto.at ⟨{ t.s with d := d2, rows := t.s.rows.set i ⟨true, b.length, idKey x⟩ }, t.whole⟩ y = if y = x then [i] else t.at y := fun y hy => by
    rw [Sto.at_may hy, Sto.at_may hy]
    show upto (t.s.rows.set i ⟨true, b.length, idKey x⟩) (t.s.rows.set i ⟨true, b.length, idKey x⟩).length (idKey y) = _
    rw [upto_put hil hiu hat2]
    by_cases e : y = x
    · subst e; rw [if_pos rfl, if_pos rfl]
    · rw [if_neg e, if_neg (fun h => e (idKey_inj hy hm h))]
  refine ⟨⟨_, _, ht, fun y hy => ?_⟩, fun y hy => ?_, h.keys.set i (fun _ => (un_key hm).2), h.first, ⟨?_, by show 9 ≤ d2.n; rw [hn]; exact h.full.2⟩, hz⟩
  · rw [hat' y hy]
    by_cases e : y = x
    · subst e
      rw [setF_self, if_pos rfl]
      exact .inr ⟨i, b, rfl, rfl, by simp⟩
    · rw [setF_other _ _ e, if_neg e]
      rcases ha y hy with h1 | ⟨j, c, h1, h2, h3⟩
      · exact .inl h1
      · refine .inr ⟨j, c, h1, h2, ?_⟩
        have hj : j ∈ upto t.s.rows t.s.rows.length (idKey y) := by rw [← Sto.at_may hy, h2]; simp
        obtain ⟨_, hju, _⟩ := upto_mem.1 hj
        have : j ≠ i := fun e => by subst e; rw [hiu] at hju; cases hju
        simp only [this, if_false]
        exact h3
  · have : y ≠ x := fun e => by subst e; rw [hm] at hy; cases hy
    rw [setF_other _ _ this]
    exact h.out y hy
  · show (d2.n - 1) / 8 = (t.s.rows.set i ⟨true, b.length, idKey x⟩).length
    rw [List.length_set, hn]; exact h.full.1
theorem KeptR.clear_row (h : KeptR t F) (hm : mayId x = true) (hat : t.at x = [i])
    (ht : ToldR { t.s with d := d2, rows := t.s.rows.set i noRow } (fun j => if j = i then false else u j) v) (ha : Tells t F u v) (hz : d2.Zero ((if t.whole then 2 else 1) :: zeros 63)) (hn : d2.n = t.s.d.n) :
    KeptR ⟨{ t.s with d := d2, rows := t.s.rows.set i noRow }, t.whole⟩ (setF F x none) := by
  have hat2 : upto t.s.rows t.s.rows.length (idKey x) = [i] := by rw [← Sto.at_may hm]; exact hat
  have hat' : ∀ y, mayId y = true → Sto.at ⟨{ t.s with d := d2, rows := t.s.rows.set i noRow }, t.whole⟩ y = if y = x then [] else t.at y := fun y hy => by
    rw [Sto.at_may hy, Sto.at_may hy]
    show upto (t.s.rows.set i noRow) (t.s.rows.set i noRow).length (idKey y) = _
    rw [upto_clear hat2]
    by_cases e : y = x
    · subst e; rw [if_pos rfl, if_pos rfl]
    · rw [if_neg e, if_neg (fun h => e (idKey_inj hy hm h))]
  refine ⟨⟨_, _, ht, fun y hy => ?_⟩, fun y hy => ?_, h.keys.set i (fun h => by simp [noRow] at h), h.first, ⟨?_, by show 9 ≤ d2.n; rw [hn]; exact h.full.2⟩, hz⟩
  · rw [hat' y hy]
    by_cases e : y = x
    · subst e
      rw [setF_self, if_pos rfl]
      exact .inl ⟨rfl, rfl⟩
    · rw [setF_other _ _ e, if_neg e]
      exact ha y hy
  · have : y ≠ x := fun e => by subst e; rw [hm] at hy; cases hy
    rw [setF_other _ _ this]
    exact h.out y hy
  · show (d2.n - 1) / 8 = (t.s.rows.set i noRow).length
    rw [List.length_set, hn]; exact h.full.1
end
theorem SS.eta3 (s z : SS) (rows : List SRow) (h1 : z.first = s.first) (h2 : z.rows = rows) : z = { s with d := z.d, rows := rows } := by
  obtain ⟨d, f, r⟩ := z
  dsimp only at h1 h2
  subst h1; subst h2
  rfl
/-- Put, where there is none and there is room: it is done, or the disk dies. -/
theorem KeptR.put_may {t : Sto} {F : Frag} (h : KeptR t F) {x : Id} (hm : mayId x = true) (hF : F x = none) {b : List UInt8} (hb : b.length ≤ 448) (hr : 0 < t.room) :
    ((t.put x b).1 = 0 ∧ KeptR (t.put x b).2 (setF F x (some b)) ∧ (t.put x b).2.room + 1 = t.room ∧ (t.put x b).2.whole = t.whole) ∨
    ((t.put x b).1 = 14 ∧ (t.put x b).2.s.d.dead = true ∧ ∀ ch, Reopens ((t.put x b).2.s.d.crash ch) t.whole F ∨ Reopens ((t.put x b).2.s.d.crash ch) t.whole (setF F x (some b))) := by
  have hfree : ¬ t.s.free < 0 := by
    intro hf
    unfold SS.free at hf
    rcases rowFree_spec t.s.rows 0 with ⟨_, h2⟩ | ⟨n, h1, h2, h3, _⟩
    · unfold Sto.room at hr
      obtain ⟨r, hr1, hr2⟩ := List.countP_pos_iff.1 hr
      rw [h2 r hr1] at hr2; simp at hr2
    · rw [h2] at hf; omega
  obtain ⟨i, hfi, hil, hiu⟩ := SS.free_ok hfree
  have hat := h.at_none hF
  obtain ⟨u, v, htold, hall⟩ := h.told
  have hui : u i = false := by rw [← htold.used i hil]; exact hiu
  have hput : t.put x b = ((t.s.put (i : Int) (idKey x) b).1, { t with s := (t.s.put (i : Int) (idKey x) b).2 }) := by
    unfold Sto.put
    rw [if_neg (by simp [hm]), if_neg (by omega), hat]
    dsimp only
    rw [if_neg hfree, hfi]
  have hz := h.zero.put (by rw [h.first]; simp) (i : Int) (idKey x) b
  rw [hput]
  dsimp only
  rcases htold.put2 i hil (idKey x) b hui (by rw [idKey_len]; omega) hb with ⟨p1, p2, p3, p4, p5⟩ | ⟨p1, p2, p3, p4, p5, p6⟩
  · left
    obtain ⟨_, _, hrows⟩ := SS.put_done p1
    have hrows' : (t.s.put (i : Int) (idKey x) b).2.rows = t.s.rows.set i ⟨true, b.length, idKey x⟩ := by rw [hrows]; simp
    have e := SS.eta3 t.s _ _ p4 hrows'
    refine ⟨p1, ?_, ?_, rfl⟩
    · rw [e] at p2
      show KeptR ⟨(t.s.put (i : Int) (idKey x) b).2, t.whole⟩ _
      rw [e]
      exact h.put_row hm hF hil hiu p2 hall hz p5
    · show (t.s.put (i : Int) (idKey x) b).2.rows.countP (fun r => !r.used) + 1 = t.s.rows.countP (fun r => !r.used)
      rw [hrows']
      have := countP_put ⟨true, b.length, idKey x⟩ hil (fun r => !r.used)
      simp only [hiu, Bool.not_false, if_true, Bool.not_true, Bool.false_eq_true, if_false, Nat.add_zero] at this
      exact this
  · right
    refine ⟨p1, p4, fun ch => ?_⟩
    have hzc := hz.crash ch
    have hnc : ((t.s.put (i : Int) (idKey x) b).2.d.crash ch).n = t.s.d.n := p5
    rcases p6 ch with h6 | h6
    · exact .inl (reopens_of (h.same_row h6 hall hzc hnc))
    · exact .inr (reopens_of (h.put_row hm hF hil hiu h6 hall hzc hnc))
/-- Delete: it is done, or the disk dies. -/
theorem KeptR.del_may {t : Sto} {F : Frag} (h : KeptR t F) {x : Id} (hm : mayId x = true) :
    ((t.del x).1 = 0 ∧ KeptR (t.del x).2 (setF F x none) ∧ (t.del x).2.room = t.room + (if (F x).isSome then 1 else 0) ∧ (F x = none → (t.del x).2 = t) ∧ (t.del x).2.whole = t.whole) ∨
    ((t.del x).1 = 14 ∧ (t.del x).2.s.d.dead = true ∧ (F x).isSome = true ∧ ∀ ch, Reopens ((t.del x).2.s.d.crash ch) t.whole F ∨ Reopens ((t.del x).2.s.d.crash ch) t.whole (setF F x none)) := by
  obtain ⟨u, v, htold, hall⟩ := h.told
  unfold Sto.del
  rw [if_neg (by simp [hm])]
  rcases hall x hm with ⟨h1, h2⟩ | ⟨i, b, h1, h2, h3⟩
  · left
    rw [h2, h1]
    have e : setF F x none = F := by
      funext y
      unfold setF
      split
      · rename_i e; rw [e, h1]
      · rfl
    rw [e]
    exact ⟨rfl, h, rfl, fun _ => rfl, rfl⟩
  · have hi : i ∈ upto t.s.rows t.s.rows.length (idKey x) := by rw [← Sto.at_may hm, h2]; simp
    obtain ⟨hil, hiu, hik⟩ := upto_mem.1 hi
    have hui : u i = true := by rw [← htold.used i hil]; exact hiu
    have hz := h.zero.clear (by rw [h.first]; simp) (i : Int)
    have e2 : (fun j => if j = i then v i else v j) = v := by funext j; split <;> simp_all
    rcases htold.clear2 i hil hui with ⟨p1, p2, p3, p4, p5⟩ | ⟨p1, p2, p3, p4, p5, p6⟩
    · left
      have hcl : t.s.clears [i] = (0, (t.s.clear (i : Int)).2) := by
        unfold SS.clears
        rw [if_neg (by rw [p1]; simp)]
        rfl
      rw [h2, hcl, h1]
      obtain ⟨_, _, hrows⟩ := SS.clear_done p1
      have hrows' : (t.s.clear (i : Int)).2.rows = t.s.rows.set i noRow := by rw [hrows]; simp
      have e := SS.eta3 t.s _ _ p4 hrows'
      refine ⟨rfl, ?_, ?_, (fun h => by cases h), rfl⟩
      · rw [e] at p2
        show KeptR ⟨(t.s.clear (i : Int)).2, t.whole⟩ _
        rw [e]
        exact h.clear_row hm h2 p2 hall hz p5
      · show (t.s.clear (i : Int)).2.rows.countP (fun r => !r.used) = t.s.rows.countP (fun r => !r.used) + _
        rw [hrows']
        have := countP_put noRow hil (fun r => !r.used)
        rw [hiu] at this
        simpa [noRow] using this
    · right
      have hcl : t.s.clears [i] = (14, (t.s.clear (i : Int)).2) := by
        unfold SS.clears
        rw [if_pos (by rw [p1]; simp)]
        rw [← p1]
      rw [h2, hcl, h1]
      refine ⟨rfl, p4, rfl, fun ch => ?_⟩
      have hzc := hz.crash ch
      have hnc : ((t.s.clear (i : Int)).2.d.crash ch).n = t.s.d.n := p5
      rcases p6 ch with h6 | h6
      · exact .inl (reopens_of (h.same_row h6 hall hzc hnc))
      · rw [e2] at h6
        exact .inr (reopens_of (h.clear_row hm h2 h6 hall hzc hnc))
/-- At rest, a crash loses nothing. -/
theorem KeptR.crash {t : Sto} {F : Frag} (h : KeptR t F) (ch : List UInt8) : Reopens (t.s.d.crash ch) t.whole F := by
  obtain ⟨u, v, htold, hall⟩ := h.told
  exact reopens_of (h.same_row (htold.crash ch) hall (h.zero.crash ch) rfl)
theorem KeptR.fuse {t : Sto} {F : Frag} (h : KeptR t F) (n : Int) : KeptR ⟨{ t.s with d := t.s.d.setFuse n }, t.whole⟩ F := by
  obtain ⟨u, v, htold, hall⟩ := h.told
  exact h.same_row (htold.fuse n) hall ⟨h.zero.now, h.zero.lasts, h.zero.since⟩ rfl
end Go.Proofs.YtdkhmfcfihbjeaaGreatDoor.W

/- The reference's Same. -/
namespace Go.Proofs.YtdkhmfcfihbjeaaGreatDoor.W
open Go.RowKit
set_option linter.unusedVariables false
set_option linter.unusedSimpArgs false

theorem same_of (l m : List UInt8) (h : l.length = m.length) (hq : ∀ q, q < l.length → l.getD q 0 = m.getD q 0) : l = m := by
  apply List.ext_getElem h
  intro i h1 h2
  have := hq i h1
  simpa [List.getD_eq_getElem?_getD, List.getElem?_eq_getElem h1, List.getElem?_eq_getElem h2] using this
theorem bv_neq (a b : UInt8) (h : a ≠ b) : (((a.toNat : Int) != (b.toNat : Int)) = true) := by
  rw [bne_iff_ne]
  intro e
  exact h (UInt8.toNat_inj.1 (by omega))

set_option maxHeartbeats 4000000 in
set_option maxRecDepth 100000 in
/-- Same. -/
theorem same_any (u v : Value) (l m : List UInt8) (w : World) (hu : BytesAt w u l) (hv : BytesAt w v m) (hl : l.length ≤ 1000000000) (hm : m.length ≤ 1000000000) :
    Calls Tryz.prog 22 #[u, v] w fun e w' => e = .returned (.bool (decide (l = m))) ∧ ∃ n, w' = w.drewN n := by
  obtain ⟨au, cu, rfl, hlu, _, hu⟩ := hu
  obtain ⟨av, cv, rfl, hlv, _, hv⟩ := hv
  obtain ⟨d, hd⟩ : ∃ d, d = decide (l = m) := ⟨_, rfl⟩
  rw [← hd]
  have HD := Lib.hid hd
  clear hd
  have HU := Lib.hid hu
  have HV := Lib.hid hv
  clear hu hv
  by_cases hlen : l.length = m.length
  · have hmz : ((l.length : Int) != (m.length : Int)) = false := by rw [hlen]; simp
    have HL := Lib.hid hlen
    have hml : m.length = l.length := hlen.symm
    rw [hml]
    clear hlen hml hmz
    go_enter Tryz.func22, Tryz.ntmps22
    go_wp2
    go_loopg [5] l.length (fun g' s5 wr => ∃ (j n : Nat), s5 = .int .i64 j ∧ j ≤ l.length ∧ l.length ≤ j + g' ∧ Hid (∀ q, q < j → l.getD q 0 = m.getD q 0) ∧ wr = w.drewN n)
    case atStart => exact ⟨0, 0, rfl, by omega, by omega, fun q hq => absurd hq (by omega), rfl⟩
    case round =>
      obtain ⟨j, n, rfl, hj, hjg, HQ, rfl⟩ := hrel
      by_cases hlt : j < l.length
      · rcases HU.out with ⟨h0, _⟩ | ⟨gu, ou, rfl, hcu⟩
        · rw [h0] at hlt; simp at hlt
        rcases HV.out with ⟨h0, _⟩ | ⟨gv, ov, rfl, hcv⟩
        · have := HL.out; rw [h0, List.length_nil] at this; omega
        obtain ⟨x, hx, c0⟩ : ∃ x, l.getD j 0 = x ∧ w.cell? ⟨gu, ou + j, none⟩ = some (.int .u8 (x.toNat : Int)) := ⟨_, rfl, hcu j hlt⟩
        obtain ⟨y, hy, c1⟩ : ∃ y, m.getD j 0 = y ∧ w.cell? ⟨gv, ov + j, none⟩ = some (.int .u8 (y.toNat : Int)) := ⟨_, rfl, hcv j (by rw [← HL.out]; exact hlt)⟩
        have HX := Lib.hid hx
        have HY := Lib.hid hy
        have hjz : (j : Int) < (l.length : Int) := by omega
        have hjz0 : (0 : Int) ≤ (j : Int) := by omega
        have hjz1 : (j : Int).toNat = j := by omega
        clear hcu hcv hx hy
        by_cases hxy : x = y
        · subst hxy
          go_wp2
          go_quiet (fail)
          go_wp2
          go_roundg (gk - 1)
          case measure => omega
          case rel =>
            refine ⟨j + 1, _, by go_num, by omega, by omega, ?_, rfl⟩
            intro q hq
            rcases Nat.lt_or_ge q j with h | h
            · exact HQ.out q h
            · obtain rfl : q = j := by omega
              rw [HX.out, HY.out]
        · have hne := bv_neq x y hxy
          have hd : Hid (d = false) := Lib.hid (by
            rw [HD.out, decide_eq_false_iff_not]
            intro e
            have h1 := HX.out
            rw [e] at h1
            exact hxy (h1.symm.trans HY.out))
          clear hxy
          go_wp2
          go_quiet (fail)
          go_wp2
          go_ret
          exact ⟨ret_bool hd.out.symm, _, World.drewN_drewN ..⟩
      · have hd : Hid (d = true) := Lib.hid (by
          rw [HD.out, decide_eq_true_iff]
          exact same_of l m HL.out (fun q hq => HQ.out q (by omega)))
        go_wp2
        go_ret
        exact ⟨ret_bool hd.out.symm, _, rfl⟩
  · have hmz : ((l.length : Int) != (m.length : Int)) = true := by rw [bne_iff_ne]; omega
    have hd : Hid (d = false) := Lib.hid (by
      rw [HD.out, decide_eq_false_iff_not]
      intro e
      exact hlen (by rw [e]))
    clear hlen
    go_enter Tryz.func22, Tryz.ntmps22
    go_wp2
    go_ret
    exact ⟨ret_bool hd.out.symm, 0, rfl⟩
end Go.Proofs.YtdkhmfcfihbjeaaGreatDoor.W

/- The law's own: equality of ids, Id, a store of its own. -/
namespace Go.Proofs.YtdkhmfcfihbjeaaGreatDoor.W
open Go.RowKit
set_option linter.unusedVariables false
set_option linter.unusedSimpArgs false

theorem lits_id3 (m : Nat) (x : Id) : Tryz.prog.keyLits (m + 3) 38 (idC x).toList = litD (idC x).toList := by
  unfold Program.keyLits
  simp only [Tryz.underlying38, cells_id]
  rw [if_pos ⟨rfl, by kernel_rfl⟩]
  simp only [List.mapM_cons, List.mapM_nil, cells_intD, cells_stripe, List.drop_zero, List.drop_succ_cons, List.take_succ_cons, List.take_zero, lits_int, lits_stripe, litD]
  generalize litI (.int .i64 x.c) = a
  generalize litI (.int .i64 x.l) = b
  generalize litI (.int .i64 x.n) = c
  generalize litI (.int .i64 x.i) = d
  cases a <;> cases b <;> cases c <;> cases d <;> simp
theorem litD_ok {x : Id} (h : okD x) : litD (idC x).toList = some [.int .i64 x.c, .int .i64 x.l, .int .i64 x.n, .int .i64 x.i] := by
  obtain ⟨h1, h2, h3, h4⟩ := h
  simp [litD, litI_ok h1, litI_ok h2, litI_ok h3, litI_ok h4]
theorem eq_id (x y : Id) (hx : okD x) (hy : okD y) (w : World) : (binOp .eql 38 (idV x) (idV y)).run Tryz.prog w = .ok (.bool (decide (x = y))) w := by
  rw [run_eql_struct]
  obtain ⟨r, h1, h2⟩ := run_equalIn_deep (P := Tryz.prog) 9997 3 38 (by kernel_rfl) w 3 3 (idV x) (idV y) _ _
    (by simp [Value.formed, Tryz.underlying38, cells_id]) (by simp [Value.formed, Tryz.underlying38, cells_id])
    (by simpa [Value.cells] using (lits_id3 0 x).trans (litD_ok hx)) (by simpa [Value.cells] using (lits_id3 0 y).trans (litD_ok hy))
  have hr : r = decide (x = y) := by
    by_cases e : x = y
    · rw [decide_eq_true e]; exact h2.2 (by rw [e])
    · rw [decide_eq_false e]
      cases r with
      | false => rfl
      | true =>
        refine absurd ?_ e
        have := h2.1 rfl
        obtain ⟨a, b, c, d⟩ := x
        obtain ⟨a', b', c', d'⟩ := y
        simpa using this
  rw [← hr]
  have h3 : (Op.equalIn 10000 38 (idV x) (idV y)).run Tryz.prog w = .ok r w := h1
  rw [h3]
  rfl
theorem ret_id1 {fn : Func} {p : Tmp} (h : fn.results = #[.cell p 38]) (tmps : Array Value) {w : World} {b t : Nat} {x : Id} (hp : tmps.getD p undef = .pointer (some ⟨b, 0, none⟩)) (hb : w.heap[b]? = some (.cells (idC x) t (0, 0))) :
    (results fn tmps).run Tryz.prog w = .ok (idV x) w := by
  have hl := run_loadVar_row (P := Tryz.prog) w b t 38 (idC x) (0, 0) _ hb Tryz.underlying38 rfl (by rw [idSize]; rfl)
  have e : (results fn tmps).run Tryz.prog w = ((asAddr (tmps.getD p undef)).run Tryz.prog w).andThen fun a w₁ => (loadVar 38 a).run Tryz.prog w₁ := by
    simp only [results, h]
    simp [Sem.run_bind, Result.andThen]
  rw [e, hp]
  simp only [asAddr, Sem.run_pure, Result.andThen_ok, hl]
set_option maxHeartbeats 2000000 in
set_option maxRecDepth 100000 in
theorem lawid_any (c l n i : Int) (w : World) : Calls Tryz.prog 36 #[.int .i64 c, .int .i64 l, .int .i64 n, .int .i64 i] w fun e w' => e = .returned (.agg #[.int .i64 c, .int .i64 l, .int .i64 n, .int .i64 i]) ∧ Chg [] w w' := by
  go_enter Tryz.func36, Tryz.ntmps36
  go_wp2_with fail
  have HW := Lib.hid (show (w.alloc (.cells (idC ⟨c, l, n, i⟩) 38)).heap[w.heap.size]? = some (.cells (idC ⟨c, l, n, i⟩) 38 (0, 0)) from heap_alloc_new w _)
  refine bodyPost_ret (ret_id1 rfl _ rfl HW.out) rfl ?_
  exact ⟨rfl, (Chg.refl [] w).alloc _⟩

/-! ### A store of the law's own -/
def Kp (X : List Nat) (w w' : World) : Prop := ∀ k ∈ X, w'.heap[k]? = w.heap[k]?
theorem Kp.refl (X : List Nat) (w : World) : Kp X w w := fun _ _ => rfl
theorem Kp.trans {X : List Nat} {a b c : World} (h : Kp X a b) (k : Kp X b c) : Kp X a c := fun x hx => (k x hx).trans (h x hx)
theorem Kp.bytes {X : List Nat} {w w' : World} {v : Value} {l : List UInt8} (h : BytesAt w v l) (hk : Kp X w w') (hX : ∀ g, v.ownBlock = some g → g ∈ X) : BytesAt w' v l := h.keep fun g hg => hk g (hX g hg)
/-- All its blocks are new since w0, and none of them is in X. -/
def Own6 (X : List Nat) (w0 w : World) (q p : Nat) (t : Sto) : Prop := ∃ U, StAt [] w q p U t ∧ (∀ x ∈ U, w0.heap.size ≤ x) ∧ Chg [] w0 w ∧ ∀ x ∈ X, x ∉ U ∧ x < w.heap.size
variable {X : List Nat} {w0 w : World} {q p : Nat} {t : Sto}
theorem Own6.chg (h : Own6 X w0 w q p t) : Chg [] w0 w := by obtain ⟨U, h1, h2, h3, h4⟩ := h; exact h3
theorem Own6.keep0 {w' : World} (h : Own6 X w0 w q p t) (hc : Chg [] w w') : Own6 X w0 w' q p t := by
  obtain ⟨U, h1, h2, h3, h4⟩ := h
  exact ⟨U, h1.keep0 hc, h2, h3.trans hc (by simp), fun x hx => ⟨(h4 x hx).1, Nat.lt_of_lt_of_le (h4 x hx).2 hc.size⟩⟩
theorem Own6.add {Y : List Nat} {w' : World} (h : Own6 X w0 w q p t) (hc : Chg [] w w') (hY : ∀ k ∈ Y, k ∈ X ∨ w.heap.size ≤ k ∧ k < w'.heap.size) : Own6 Y w0 w' q p t := by
  obtain ⟨U, h1, h2, h3, h4⟩ := h
  refine ⟨U, h1.keep0 hc, h2, h3.trans hc (by simp), fun x hx => ?_⟩
  rcases hY x hx with h5 | ⟨h5, h6⟩
  · exact ⟨(h4 x h5).1, Nat.lt_of_lt_of_le (h4 x h5).2 hc.size⟩
  · exact ⟨fun hm => by have := h1.lim x hm; omega, h6⟩
theorem Own6.mono {Y : List Nat} (h : Own6 X w0 w q p t) (hY : ∀ x ∈ Y, x ∈ X) : Own6 Y w0 w q p t := by
  obtain ⟨U, h1, h2, h3, h4⟩ := h
  exact ⟨U, h1, h2, h3, fun x hx => h4 x (hY x hx)⟩
theorem Own6.did {w' : World} {t' : Sto} {U : List Nat} (h2 : ∀ x ∈ U, w0.heap.size ≤ x) (h3 : Chg [] w0 w) (h4 : ∀ x ∈ X, x ∉ U ∧ x < w.heap.size) (hd : Std [] w w' q p U t') : Own6 X w0 w' q p t' ∧ Kp X w w' := by
  obtain ⟨U', d1, d2, d3⟩ := hd
  have hs := h3.size
  refine ⟨⟨U', d1, fun x hx => ?_, h3.trans d3 (fun x hx => .inr (h2 x hx)), fun x hx => ⟨fun hm => ?_, Nat.lt_of_lt_of_le (h4 x hx).2 d3.size⟩⟩, fun x hx => d3.block x (h4 x hx).2 (h4 x hx).1⟩
  · rcases d2 x hx with h | h
    · exact h2 x h
    · omega
  · rcases d2 x hm with h | h
    · exact (h4 x hx).1 h
    · have := (h4 x hx).2; omega
/-- A new disk. -/
theorem own_disk (n : Nat) (w : World) (h2 : 2 ≤ n) (hm : n ≤ 4160) : Calls Tryz.prog 14 #[.int .i64 (n : Int)] w fun e w' => ∃ p S, e = .returned (.tuple #[.pointer (some ⟨p, 0, none⟩), .int .i64 0]) ∧ DiskAt w' p S (DS.new n) ∧ (∀ x ∈ S, w.heap.size ≤ x) ∧ Chg [] w w' :=
  (dnew_any n w h2 hm).mono fun e w' ⟨p, S, h1, h3, h4, h5⟩ => ⟨p, S, h1, h3, h4, h5⟩
/-- A new store. -/
theorem own_format {S : List Nat} {w1 : World} {n : Nat} {t : Sto} {d : DS} (hd : DiskAt w1 p S (DS.new n)) (hS : ∀ x ∈ S, w0.heap.size ≤ x) (hc : Chg [] w0 w1) (hf : (DS.new n).format = ((0, some t), d)) : Calls Tryz.prog 37 #[.pointer (some ⟨p, 0, none⟩)] w1 fun e w' => ∃ q, e = .returned (.tuple #[.pointer (some ⟨q, 0, none⟩), .int .i64 0]) ∧ Own6 [] w0 w' q p t := by
  have h := format_any p S (DS.new n) w1 hd (by show 0 ≤ _; omega) (by show 0 ≤ _; omega)
  rw [hf] at h
  refine h.mono ?_
  rintro e w' ⟨q, U, rfl, h1, h2, h3⟩
  have hs := hc.size
  refine ⟨q, rfl, U, h1, fun x hx => ?_, hc.trans h3 (fun x hx => .inr (hS x hx)), by simp⟩
  rcases h2 x hx with h | h
  · exact hS x h
  · omega
theorem one_byte6 (w : World) (a : UInt8) : BytesAt (w.alloc (.cells #[bv a] 5)) (.slice (some ⟨w.heap.size, 0, none⟩) 1 1) [a] :=
  (row_of_block (l := [a]) (heap_alloc_new w _) (by unfold maxLen; simp)).bytes
end Go.Proofs.YtdkhmfcfihbjeaaGreatDoor.W

/- The law's awake. -/
namespace Go.Proofs.YtdkhmfcfihbjeaaGreatDoor.W
open Go.RowKit
set_option linter.unusedVariables false
set_option linter.unusedSimpArgs false

theorem okD_c : okD ⟨1, 0, 5, 2⟩ := by decide

end Go.Proofs.YtdkhmfcfihbjeaaGreatDoor.W

/- Ids that came in: as an argument, in a slice. -/
namespace Go.Proofs.YtdkhmfcfihbjeaaGreatDoor.W
open Go.RowKit Go.ChangeShapes Go.WideShapes
set_option linter.unusedVariables false
set_option linter.unusedSimpArgs false

theorem fieldsI : ∃ f0 f1 : Field, Tryz.prog.underlying 38 = some (.struct #[f0, f1]) ∧ f0.offset = 0 ∧ f1.offset = 3 ∧ f0.type = 36 ∧ Tryz.prog.underlying f1.type = some (.int .i64) ∧ Tryz.prog.cellsOf f1.type = 1 :=
  ⟨_, _, Tryz.underlying38, rfl, rfl, rfl, by kernel_rfl, by kernel_rfl⟩
theorem fieldsT : ∃ f0 f1 f2 : Field, Tryz.prog.underlying 36 = some (.struct #[f0, f1, f2]) ∧ f0.offset = 0 ∧ f1.offset = 1 ∧ f2.offset = 2 ∧ Tryz.prog.underlying f0.type = some (.int .i64) ∧ Tryz.prog.underlying f1.type = some (.int .i64) ∧ Tryz.prog.underlying f2.type = some (.int .i64) ∧
    Tryz.prog.cellsOf f0.type = 1 ∧ Tryz.prog.cellsOf f1.type = 1 ∧ Tryz.prog.cellsOf f2.type = 1 :=
  ⟨_, _, _, Tryz.underlying36, rfl, rfl, rfl, by kernel_rfl, by kernel_rfl, by kernel_rfl, by kernel_rfl, by kernel_rfl, by kernel_rfl⟩
section
variable {H : Type} {enc : TypeId × Value → H} {w : World} {base : Nat} {held : Bool} {spare : Nat → Bool}
theorem open_idc {fuel : Nat} {v0 v1 v2 v3 : Value} {x : DataW H × List MemPlace} (h : DataW.trod enc Tryz.prog w base spare held fuel 38 [v0, v1, v2, v3] = some x) : ∃ y : Id, okD y ∧ v0 = .int .i64 y.c ∧ v1 = .int .i64 y.l ∧ v2 = .int .i64 y.n ∧ v3 = .int .i64 y.i := by
  obtain ⟨f0, f1, hs, o0, o1, t0, t1, c1⟩ := fieldsI
  obtain ⟨g0, g1, g2, hs2, p0, p1, p2, u0, u1, u2, d0, d1, d2⟩ := fieldsT
  obtain ⟨xs, k, hk, hxy, _, hxl, hf⟩ := DataW.trod_struct hs h
  match xs, hxl with
  | [y0, y1], _ =>
    have e0 := hf 0 f0 rfl
    have e1 := hf 1 f1 rfl
    rw [t0] at e0
    simp [o0, o1, c1, cells_stripe] at e0 e1
    obtain ⟨xs2, k2, hk2, hxy2, _, hxl2, hf2⟩ := DataW.trod_struct hs2 e0
    match xs2, hxl2 with
    | [z0, z1, z2], _ =>
      have r0 := hf2 0 g0 rfl
      have r1 := hf2 1 g1 rfl
      have r2 := hf2 2 g2 rfl
      simp [p0, p1, p2, d0, d1, d2] at r0 r1 r2
      obtain ⟨a0, q0, _, w0⟩ := DataW.trod_int u0 r0
      obtain ⟨a1, q1, _, w1⟩ := DataW.trod_int u1 r1
      obtain ⟨a2, q2, _, w2⟩ := DataW.trod_int u2 r2
      obtain ⟨a3, q3, _, w3⟩ := DataW.trod_int t1 e1
      simp at q0 q1 q2 q3
      refine ⟨⟨a0, a1, a2, a3⟩, ⟨?_, ?_, ?_, ?_⟩, q0, q1, q2, q3⟩
      · first | exact w0 | exact w0.1
      · first | exact w1 | exact w1.1
      · first | exact w2 | exact w2.1
      · first | exact w3 | exact w3.1

end
end Go.Proofs.YtdkhmfcfihbjeaaGreatDoor.W

/- The reference's Key, MayId. -/
namespace Go.Proofs.YtdkhmfcfihbjeaaGreatDoor.W
open Go.RowKit
set_option linter.unusedVariables false
set_option linter.unusedSimpArgs false

structure RPenNew (w0 w : World) (b : Nat) (g : Option Nat) (l : List UInt8) : Prop where
  pen : PenAt 117 w b g l 0
  chg : Chg [] w0 w
  own : w0.heap.size ≤ b
  ownG : ∀ k, g = some k → w0.heap.size ≤ k
theorem RPenNew.num {w0 w : World} {b : Nat} {g : Option Nat} {l : List UInt8} (h : RPenNew w0 w b g l) (x : Int) (n : Nat) (h1 : 1 ≤ n) (h7 : n ≤ 7) (hx0 : 0 ≤ x) (hx : x < ((256 ^ n : Nat) : Int)) (hl : l.length ≤ 1000) :
    Calls Tryz.prog 49 #[.pointer (some ⟨b, 0, none⟩), .int .i64 x, .int .i64 n] w fun e w' => e = .returned (.tuple #[]) ∧ ∃ g', RPenNew w0 w' b g' (l ++ beBytes n x.toNat) := by
  refine (rpnum_any b g l 0 x n w h.pen (by omega) (by omega)).mono ?_
  rintro e w' ⟨rfl, g', k1, k2, k3⟩
  have e1 : penNum l 0 x n = (l ++ beBytes n x.toNat, 0) := by
    unfold penNum penAdd
    rw [if_neg (by simp), if_neg (by omega), if_neg (by simp), if_neg (by rw [beBytes_len]; omega)]
  rw [Int.toNat_natCast, e1] at k1
  refine ⟨rfl, g', k1, h.chg.trans k3 (fun x hx => .inr ?_), h.own, fun k hk => ?_⟩
  · rcases List.mem_cons.1 hx with rfl | hx
    · exact h.own
    · exact h.ownG x (by simpa using hx)
  · rcases k2 with rfl | ⟨k', rfl, h4⟩
    · exact h.ownG k hk
    · obtain rfl : k' = k := by simpa using hk
      exact Nat.le_trans h.chg.size h4
theorem RPenNew.fresh {w0 w : World} (hc : Chg [] w0 w) : RPenNew w0 (w.alloc (.cells #[.slice none 0 0, .int .i64 0] 117)) w.heap.size none [] :=
  ⟨⟨.slice none 0 0, heap_alloc_new w _, BRow.nil _, rfl, by simp, by simp⟩, hc.alloc _, hc.size, fun k hk => by cases hk⟩
end Go.Proofs.YtdkhmfcfihbjeaaGreatDoor.W

/- Regions that draw their order: a load under a condition that ends far off: the way from it to its end is told. -/
namespace Go.Proofs.YtdkhmfcfihbjeaaGreatDoor.W
open Go.RowKit
set_option linter.unusedVariables false
set_option linter.unusedSimpArgs false

section
variable {P : Program} {ops : Array Oper} {Q : Exit → Act → World → Prop} {md : Region.Mode} {cs : List (Nat × (World → Prop))}

end
end Go.Proofs.YtdkhmfcfihbjeaaGreatDoor.W

/- What the store's laws share. -/
namespace Go.Proofs.YtdkhmfcfihbjeaaGreatDoor.W
end Go.Proofs.YtdkhmfcfihbjeaaGreatDoor.W

/- StoreFull, plainly. -/
namespace Go.Proofs.YtdkhmfcfihbjeaaGreatDoor.W
set_option linter.unusedVariables false
set_option linter.unusedSimpArgs false

theorem range_getD (l : List SRow) : (List.range l.length).map (fun j => l.getD j noRow) = l := by
  apply List.ext_getElem (by simp)
  intro i h1 h2
  simp [List.getD_eq_getElem?_getD, List.getElem?_eq_getElem h2]
theorem used_len (l : List SRow) (P : Nat → Bool) (hP : ∀ j, j < l.length → P j = (l.getD j noRow).used) : ((List.range l.length).filter P).length + l.countP (fun r => !r.used) = l.length := by
  have h1 : ((List.range l.length).filter P).length = l.countP (fun r => r.used) := by
    rw [← List.countP_eq_length_filter]
    conv => rhs; rw [← range_getD l]
    rw [List.countP_map]
    refine List.countP_congr (fun j hj => ?_)
    rw [hP j (List.mem_range.1 hj)]
    rfl
  have h2 := List.length_eq_countP_add_countP (fun r : SRow => r.used) (l := l)
  rw [h1]
  have h3 : l.countP (fun r => decide ¬ r.used = true) = l.countP (fun r => !r.used) := List.countP_congr (fun r _ => by cases r.used <;> simp)
  omega
/-- How many ids there are. -/
theorem Kept.ids_len {t : Sto} {F : Frag} (h : Kept t F) : t.ids.length + t.room = t.s.rows.length := by
  unfold Sto.ids firsts Sto.room
  rw [List.length_mergeSort, List.length_map]
  refine used_len t.s.rows _ (fun j hj => ?_)
  cases hu : (t.s.rows.getD j noRow).used with
  | false => unfold isFirst; rw [hu]; rfl
  | true =>
    refine mem_isFirst.2 ⟨hu, fun k hk hh => ?_⟩
    obtain ⟨hm, he⟩ := un_back (h.keys _ (row_mem hj) hu)
    obtain ⟨u, v, _, h2⟩ := h.told
    have hjm : j ∈ t.at (unId (t.s.rows.getD j noRow).key) := by rw [Sto.at_may hm]; exact upto_mem.2 ⟨hj, hu, he⟩
    have hkm : k ∈ t.at (unId (t.s.rows.getD j noRow).key) := by rw [Sto.at_may hm]; exact upto_mem.2 ⟨by omega, hh.1, by rw [hh.2]; exact he⟩
    rcases h2 _ hm with ⟨_, h4⟩ | ⟨i, b, _, h4, _⟩
    · rw [h4] at hjm; cases hjm
    · rw [h4, List.mem_singleton] at hjm hkm
      omega
theorem SS.clears_ok : ∀ (l : List Nat) (s : SS), (s.clears l).2.d.ops ≤ s.d.ops + 2 * l.length ∧ (s.clears l).2.d.since.length ≤ s.d.since.length + l.length
  | [], s => ⟨Nat.le_refl _, Nat.le_refl _⟩
  | i :: r, s => by
    obtain ⟨h1, h2, _⟩ := s.clear_ok (i : Int)
    obtain ⟨g1, g2⟩ := SS.clears_ok r (s.clear (i : Int)).2
    rw [clears_cons, List.length_cons]
    split
    · exact ⟨by omega, by omega⟩
    · exact ⟨by omega, by omega⟩
theorem Sto.at_len (t : Sto) (x : Id) : (t.at x).length ≤ t.s.rows.length := by
  unfold Sto.at
  split
  · exact upto_len _ _ _
  · simp
theorem Sto.del_ok (t : Sto) (x : Id) : (t.del x).2.s.d.ops ≤ t.s.d.ops + 2 * t.s.rows.length ∧ (t.del x).2.s.d.since.length ≤ t.s.d.since.length + t.s.rows.length := by
  have hl := t.at_len x
  obtain ⟨h1, h2⟩ := SS.clears_ok (t.at x) t.s
  unfold Sto.del
  split
  · exact ⟨by dsimp only; omega, by dsimp only; omega⟩
  · exact ⟨by dsimp only; omega, by dsimp only; omega⟩
def idn (j : Nat) : Id := ⟨1, 0, (j : Int), 0⟩
theorem may_idn {j : Nat} (h : j ≤ 1000) : mayId (idn j) = true := may_iff.2 (by unfold idn; dsimp only; omega)
def fillF (b : List UInt8) (i : Nat) : Frag := fun x => if x.c = 1 ∧ x.l = 0 ∧ x.i = 0 ∧ 0 ≤ x.n ∧ x.n < i then some b else none
structure FullAt (t : Sto) (b : List UInt8) (n i : Nat) : Prop where
  kept : Kept t (fillF b i)
  room : t.room + i = n
  rows : t.s.rows.length = n
  small : t.s.d.ops ≤ 200 + 20 * i ∧ t.s.d.since.length = 0
theorem fillF_self (b : List UInt8) (i : Nat) : fillF b i (idn i) = none := if_neg (by unfold idn; dsimp only; omega)
theorem fillF_next (b : List UInt8) (i : Nat) : setF (fillF b i) (idn i) (some b) = fillF b (i + 1) := by
  funext x
  unfold setF
  by_cases e : x = idn i
  · subst e
    rw [if_pos rfl]
    exact (if_pos (by unfold idn; dsimp only; omega)).symm
  · rw [if_neg e]
    unfold fillF
    by_cases h : x.c = 1 ∧ x.l = 0 ∧ x.i = 0 ∧ 0 ≤ x.n ∧ x.n < i
    · rw [if_pos h, if_pos (by omega)]
    · rw [if_neg h, if_neg (fun h2 => ?_)]
      have : x.n = (i : Int) := by omega
      obtain ⟨a, b', c, d⟩ := x
      refine e ?_
      unfold idn
      simp only [Id.mk.injEq]
      dsimp only at *
      omega
theorem FullAt.step {t : Sto} {b : List UInt8} {n i : Nat} (h : FullAt t b n i) (hi : i < n) (hn : n ≤ 100) (hb : b.length ≤ 448) : (t.put (idn i) b).1 = 0 ∧ FullAt (t.put (idn i) b).2 b n (i + 1) := by
  obtain ⟨o1, o2, _, o4, _⟩ := t.put_ok (idn i) b
  have hr := h.room
  have hs := h.small
  obtain ⟨p1, p2, p3⟩ := h.kept.put_new (may_idn (by omega)) (fillF_self b i) hb (by omega)
  rw [fillF_next] at p2
  exact ⟨p1, p2, by omega, by rw [o4, h.rows], by omega, by rw [p2.since]; rfl⟩
theorem FullAt.new (b : List UInt8) (n : Nat) (h1 : 1 ≤ n) (h2 : n ≤ 12) : ∃ t d, (DS.new (1 + 8 * n)).format = ((0, some t), d) ∧ FullAt t b n 0 := by
  obtain ⟨t, d, f1, f2, f3, f4, f5, f6, _⟩ := Kept.new (1 + 8 * n) (by omega)
  have hrow : (1 + 8 * n - 1) / 8 = n := by omega
  rw [hrow] at f4
  refine ⟨t, d, f1, ?_, ?_, by rw [f4, List.length_replicate], by rw [f3]; omega, by rw [f2.since]; rfl⟩
  · have : fillF b 0 = fun _ => none := by
      funext x
      exact if_neg (by omega)
    rw [this]; exact f2
  · unfold Sto.room
    rw [f4]
    have := List.countP_replicate (p := fun r : SRow => !r.used) (a := noRow) (n := n)
    simp [noRow] at this ⊢
    first | omega | exact this
/-- When it is full. -/
theorem FullAt.after {t : Sto} {b : List UInt8} {n k : Nat} (h : FullAt t b n n) (hk : k < n) (hn : n ≤ 100) (hb : b.length ≤ 448) : t.put (idn n) b = (5, t) ∧ (t.del (idn k)).1 = 0 ∧ (((t.del (idn k)).2).put (idn n) b).1 = 0 ∧ (((t.del (idn k)).2).put (idn n) b).2.room = 0 ∧ (((t.del (idn k)).2).put (idn n) b).2.ids.length = n ∧ (t.del (idn k)).2.s.d.since.length = 0 := by
  have hr := h.room
  have e1 := h.kept.put_full (may_idn (by omega)) (fillF_self b n) hb (by omega)
  obtain ⟨d1, d2, d3, _, d5, d6⟩ := h.kept.del (may_idn (j := k) (by omega))
  have hF : fillF b n (idn k) = some b := if_pos (by unfold idn; dsimp only; omega)
  rw [hF] at d3
  simp only [Option.isSome_some, if_true] at d3
  have hne : idn n ≠ idn k := fun e => by
    have := congrArg Id.n e
    unfold idn at this
    dsimp only at this
    omega
  obtain ⟨p1, p2, p3⟩ := d2.put_new (may_idn (j := n) (by omega)) (by rw [setF_other _ _ hne]; exact fillF_self b n) hb (by omega)
  have hl := p2.ids_len
  obtain ⟨_, _, _, o4, _⟩ := ((t.del (idn k)).2).put_ok (idn n) b
  have hrows := h.rows
  exact ⟨e1, d1, p1, by omega, by omega, by rw [d2.since]; rfl⟩
end Go.Proofs.YtdkhmfcfihbjeaaGreatDoor.W

/- Package server: requests and replies, plainly and as cells. -/
namespace Go.Proofs.YtdkhmfcfihbjeaaGreatDoor.W
open Go.RowKit
set_option linter.unusedVariables false
set_option linter.unusedSimpArgs false

structure Rq where
  k : Int
  x : Id
  b : List UInt8
structure Rp where
  e : Int
  b : List UInt8
  ids : List Id
  room : Int
  whole : Bool
def noRp : Rp := ⟨0, [], [], 0, false⟩
def errRp (e : Int) : Rp := ⟨e, [], [], 0, false⟩
def rqL (r : Rq) (bv : Value) : List Value := [.int .i64 r.k, .int .i64 r.x.c, .int .i64 r.x.l, .int .i64 r.x.n, .int .i64 r.x.i, bv]
def rqV (r : Rq) (bv : Value) : Value := .agg (rqL r bv).toArray
def rpL (e : Int) (bv iv : Value) (room : Int) (wh : Bool) : List Value := [.int .i64 e, bv, iv, .int .i64 room, .bool wh]
def rpV (e : Int) (bv iv : Value) (room : Int) (wh : Bool) : Value := .agg (rpL e bv iv room wh).toArray
def zeroRp : Array Value := #[.int .i64 0, .slice none 0 0, .slice none 0 0, .int .i64 0, .bool false]
theorem rp_size (e room : Int) (bv iv : Value) (wh : Bool) : (Tryz.prog.info? 32).map (·.size) = some (rpL e bv iv room wh).toArray.size := by kernel_rfl
theorem rq_size (r : Rq) (bv : Value) : (Tryz.prog.info? 40).map (·.size) = some (rqL r bv).toArray.size := by kernel_rfl
theorem five_there {w : World} {b t : Nat} {a0 a1 a2 a3 a4 : Value} (h : w.heap[b]? = some (.cells #[a0, a1, a2, a3, a4] t (0, 0))) (n : Nat) (hn : n = 5) : w.there b 0 n := fun j hj => by
  subst hn
  rw [Nat.zero_add]
  refine ⟨?_, blk_frozen h j⟩
  have h2 : (#[a0, a1, a2, a3, a4] : Array Value)[j]? = some (#[a0, a1, a2, a3, a4][j]'(by simpa using hj)) := Array.getElem?_eq_getElem _
  rw [blk_cell h j _ h2]
  rfl
theorem five_set {w : World} {b t : Nat} {a0 a1 a2 a3 a4 : Value} (h : w.heap[b]? = some (.cells #[a0, a1, a2, a3, a4] t (0, 0))) (u0 u1 u2 u3 u4 : Value) : (w.setCells b 0 [u0, u1, u2, u3, u4]).heap[b]? = some (.cells #[u0, u1, u2, u3, u4] t (0, 0)) := by
  simp only [World.setCells]
  have h0 : (w.setCell ⟨b, 0, none⟩ u0).heap[b]? = some (.cells #[u0, a1, a2, a3, a4] t (0, 0)) := set_blk h
  generalize w.setCell ⟨b, 0, none⟩ u0 = x0 at *
  have h1 : (x0.setCell ⟨b, 0 + 1, none⟩ u1).heap[b]? = some (.cells #[u0, u1, a2, a3, a4] t (0, 0)) := set_blk h0
  generalize x0.setCell ⟨b, 0 + 1, none⟩ u1 = x1 at *
  have h2 : (x1.setCell ⟨b, 0 + 1 + 1, none⟩ u2).heap[b]? = some (.cells #[u0, u1, u2, a3, a4] t (0, 0)) := set_blk h1
  generalize x1.setCell ⟨b, 0 + 1 + 1, none⟩ u2 = x2 at *
  have h3 : (x2.setCell ⟨b, 0 + 1 + 1 + 1, none⟩ u3).heap[b]? = some (.cells #[u0, u1, u2, u3, a4] t (0, 0)) := set_blk h2
  generalize x2.setCell ⟨b, 0 + 1 + 1 + 1, none⟩ u3 = x3 at *
  exact set_blk h3
theorem rq_cells {w : World} {N t : Nat} {k xc xl xn xi : Int} {b : List UInt8} {bv : Value} (h : w.heap[N]? = some (.cells (rqL ⟨k, ⟨xc, xl, xn, xi⟩, b⟩ bv).toArray t (0, 0))) : w.cell? ⟨N, 0, none⟩ = some (.int .i64 k) ∧ (w.cell? ⟨N, 1, none⟩ = some (.int .i64 xc) ∧ w.cell? ⟨N, 2, none⟩ = some (.int .i64 xl) ∧ w.cell? ⟨N, 3, none⟩ = some (.int .i64 xn) ∧ w.cell? ⟨N, 4, none⟩ = some (.int .i64 xi)) ∧ w.cell? ⟨N, 5, none⟩ = some bv :=
  ⟨blk_cell h 0 _ rfl, ⟨blk_cell h 1 _ rfl, blk_cell h 2 _ rfl, blk_cell h 3 _ rfl, blk_cell h 4 _ rfl⟩, blk_cell h 5 _ rfl⟩
end Go.Proofs.YtdkhmfcfihbjeaaGreatDoor.W

/- A server, plainly: what it does, and what it keeps. -/
namespace Go.Proofs.YtdkhmfcfihbjeaaGreatDoor.W
set_option linter.unusedVariables false
set_option linter.unusedSimpArgs false

def lostOf (wh : Bool) (e : Int) : Int := if e = 6 ∧ wh = false then 15 else e
/-- What a request does. -/
def Sto.step (t : Sto) (r : Rq) : Rp × Sto :=
  if r.k = 1 then (errRp (t.put r.x r.b).1, (t.put r.x r.b).2)
  else if r.k = 2 then (⟨lostOf t.whole (t.get r.x).2, (t.get r.x).1, [], 0, false⟩, t)
  else if r.k = 3 then (errRp (t.del r.x).1, (t.del r.x).2)
  else if r.k = 4 then (⟨0, [], t.ids, 0, false⟩, t)
  else if r.k = 5 then (⟨0, [], [], (t.room : Int), t.whole⟩, t)
  else if r.k = 6 then (errRp t.setWhole.1, t.setWhole.2)
  else (errRp 1, t)
/-- Do. -/
def Sto.run (t : Sto) (r : Rq) : (Rp × Int) × Sto :=
  if t.s.d.dead then ((noRp, 14), t) else if (t.step r).2.s.d.dead then ((noRp, 14), (t.step r).2) else (((t.step r).1, 0), (t.step r).2)
theorem step1 (t : Sto) (x : Id) (b : List UInt8) : t.step ⟨1, x, b⟩ = (errRp (t.put x b).1, (t.put x b).2) := rfl
theorem step2 (t : Sto) (x : Id) (b : List UInt8) : t.step ⟨2, x, b⟩ = (⟨lostOf t.whole (t.get x).2, (t.get x).1, [], 0, false⟩, t) := rfl
theorem step3 (t : Sto) (x : Id) (b : List UInt8) : t.step ⟨3, x, b⟩ = (errRp (t.del x).1, (t.del x).2) := rfl
theorem step4 (t : Sto) (x : Id) (b : List UInt8) : t.step ⟨4, x, b⟩ = (⟨0, [], t.ids, 0, false⟩, t) := rfl
theorem step5 (t : Sto) (x : Id) (b : List UInt8) : t.step ⟨5, x, b⟩ = (⟨0, [], [], (t.room : Int), t.whole⟩, t) := rfl
theorem step6 (t : Sto) (x : Id) (b : List UInt8) : t.step ⟨6, x, b⟩ = (errRp t.setWhole.1, t.setWhole.2) := rfl
theorem step0 (t : Sto) (r : Rq) (h : r.k < 1 ∨ 6 < r.k) : t.step r = (errRp 1, t) := by
  unfold Sto.step
  rw [if_neg (by omega), if_neg (by omega), if_neg (by omega), if_neg (by omega), if_neg (by omega), if_neg (by omega)]

/-! ### A disk that lives goes on living -/
theorem DS.Live.op {d : DS} (h : d.Live) : d.op.2.Live := by
  obtain ⟨h1, h2⟩ := h
  unfold DS.op
  rw [if_neg (by omega)]
  exact ⟨h1, by show (if 0 < d.fuse then d.fuse - 1 else d.fuse) < 0; rw [if_neg (by omega)]; exact h2⟩
theorem DS.Live.write {d : DS} (h : d.Live) (k : Int) (b : List UInt8) : (d.write k b).2.Live := by
  unfold DS.write
  split
  · exact h
  · split
    · have h1 := DS.Live.op (d := { d with since := d.since ++ [(k.toNat, b)] }) h
      dsimp only
      split
      · exact h1
      · exact h1
    · exact h
theorem DS.Live.sync {d : DS} (h : d.Live) : (d.sync).2.Live := by
  unfold DS.sync
  split
  · exact h
  · dsimp only
    split
    · exact h.op
    · exact h.op
theorem DS.Live.lay (pos : Nat) (b : List UInt8) : ∀ (k j : Nat) (d : DS), d.Live → (d.lay pos b k j).2.Live
  | 0, j, d, h => h.sync
  | k + 1, j, d, h => by
    unfold DS.lay
    split
    · exact h.write _ _
    · exact DS.Live.lay pos b k (j + 1) _ (h.write _ _)
theorem DS.Live.lays {d : DS} (h : d.Live) (pos : Nat) (b : List UInt8) : (d.lays pos b).2.Live := DS.Live.lay _ _ _ _ _ h
theorem DS.Live.put {s : SS} (h : s.d.Live) (i : Int) (key b : List UInt8) : (s.put i key b).2.d.Live := by
  unfold SS.put
  split
  · exact h
  · split
    · exact h
    · split
      · exact h
      · split
        · exact h.lays _ _
        · split
          · exact (h.lays _ _).lays _ _
          · exact (h.lays _ _).lays _ _
theorem DS.Live.clear {s : SS} (h : s.d.Live) (i : Int) : (s.clear i).2.d.Live := by
  unfold SS.clear
  split
  · exact h
  · split
    · exact h
    · split
      · exact h.lays _ _
      · exact h.lays _ _
theorem DS.Live.clears : ∀ (l : List Nat) (s : SS), s.d.Live → (s.clears l).2.d.Live
  | [], s, h => h
  | i :: r, s, h => by
    rw [clears_cons]
    split
    · exact h.clear _
    · exact DS.Live.clears r _ (h.clear _)
theorem live_put {t : Sto} (h : t.s.d.Live) (x : Id) (b : List UInt8) : (t.put x b).2.s.d.Live := by
  unfold Sto.put
  split
  · exact h
  · split
    · exact h
    · split
      · split
        · exact h
        · split <;> exact h
      · split
        · exact h
        · exact h.put _ _ _
theorem live_del {t : Sto} (h : t.s.d.Live) (x : Id) : (t.del x).2.s.d.Live := by
  unfold Sto.del
  split
  · exact h
  · exact DS.Live.clears _ _ h
theorem live_crash (d : DS) (ch : List UInt8) : (d.crash ch).Live := ⟨rfl, by show (-1 : Int) < 0; omega⟩

/-! ### What it keeps -/
/-- At rest, alive, and what it has. -/
structure Keep (t : Sto) (F : Frag) : Prop where
  kept : KeptR t F
  live : t.s.d.Live
variable {t : Sto} {F : Frag}
theorem Keep.alive (h : Keep t F) : t.s.d.dead = false := h.live.1
theorem Keep.new (n : Nat) (h9 : 9 ≤ n) : ∃ t d, (DS.new n).format = ((0, some t), d) ∧ Keep t (fun _ => none) ∧ t.room = (n - 1) / 8 ∧ t.s.d.n = n ∧ t.s.d.ops ≤ n ∧ t.whole = false := by
  obtain ⟨t, d, h1, h2, h3, h4, h5, h6, h7, h8⟩ := KeptR.new n h9
  refine ⟨t, d, h1, ⟨h2, by rw [h3]; exact h8⟩, ?_, by rw [h3]; exact h5, by rw [h3]; exact h6, h7⟩
  unfold Sto.room
  rw [h4]
  simp [List.countP_replicate, noRow]
theorem Keep.since (h : Keep t F) : t.s.d.since = [] := h.kept.rest.none
theorem KeptR.ids_len (h : KeptR t F) : t.ids.length + t.room = t.s.rows.length := by
  unfold Sto.ids firsts Sto.room
  rw [List.length_mergeSort, List.length_map]
  refine used_len t.s.rows _ (fun j hj => ?_)
  cases hu : (t.s.rows.getD j noRow).used with
  | false => unfold isFirst; rw [hu]; rfl
  | true =>
    refine mem_isFirst.2 ⟨hu, fun k hk hh => ?_⟩
    obtain ⟨hm, he⟩ := un_back (h.keys _ (row_mem hj) hu)
    obtain ⟨u, v, _, h2⟩ := h.told
    have hjm : j ∈ t.at (unId (t.s.rows.getD j noRow).key) := by rw [Sto.at_may hm]; exact upto_mem.2 ⟨hj, hu, he⟩
    have hkm : k ∈ t.at (unId (t.s.rows.getD j noRow).key) := by rw [Sto.at_may hm]; exact upto_mem.2 ⟨by omega, hh.1, by rw [hh.2]; exact he⟩
    rcases h2 _ hm with ⟨_, h4⟩ | ⟨i, b, _, h4, _⟩
    · rw [h4] at hjm; cases hjm
    · rw [h4, List.mem_singleton] at hjm hkm
      omega
theorem KeptR.del_bad {x : Id} (hm : mayId x = false) : t.del x = (1, t) := Kept.del_bad hm
/-- What a Put leaves. -/
theorem Keep.put (h : Keep t F) (x : Id) (b : List UInt8) : ∃ F', Keep (t.put x b).2 F' ∧ (t.put x b).2.whole = t.whole ∧
    (((t.put x b).1 = 0 ∧ F x = none ∧ F' = setF F x (some b) ∧ (t.put x b).2.room + 1 = t.room) ∨ (((t.put x b).1 = 0 → F x = some b) ∧ (t.put x b).2 = t ∧ F' = F)) := by
  have hl := live_put h.live x b
  by_cases hb : mayId x = false ∨ 448 < b.length
  · obtain ⟨h1, h2⟩ := h.kept.put_bad hb
    exact ⟨F, by rw [h2]; exact h, by rw [h2], .inr ⟨fun e => absurd e h1, h2, rfl⟩⟩
  · have hm : mayId x = true := by cases hx : mayId x with | true => rfl | false => exact absurd (.inl hx) hb
    have hbl : b.length ≤ 448 := by omega
    cases hF : F x with
    | some c =>
      have h1 := h.kept.put_there hF b hbl
      rw [h1]
      refine ⟨F, h, rfl, .inr ⟨fun e => ?_, rfl, rfl⟩⟩
      by_cases hc : c = b
      · rw [hc]
      · rw [if_neg hc] at e; cases e
    | none =>
      by_cases hr : t.room = 0
      · rw [h.kept.put_full hm hF hbl hr]
        exact ⟨F, h, rfl, .inr ⟨(fun e => by cases e), rfl, rfl⟩⟩
      · rcases h.kept.put_may hm hF hbl (by omega) with ⟨h1, h2, h3, h4⟩ | ⟨_, h2, _⟩
        · exact ⟨_, ⟨h2, hl⟩, h4, .inl ⟨h1, rfl, rfl, h3⟩⟩
        · rw [hl.1] at h2; cases h2
/-- What a Delete leaves. -/
theorem Keep.del (h : Keep t F) (x : Id) : ∃ F', Keep (t.del x).2 F' ∧ (t.del x).2.whole = t.whole ∧
    (((t.del x).1 = 0 ∧ mayId x = true ∧ F' = setF F x none ∧ (t.del x).2.room = t.room + (if (F x).isSome then 1 else 0)) ∨ ((t.del x).1 = 1 ∧ mayId x = false ∧ (t.del x).2 = t ∧ F' = F)) := by
  have hl := live_del h.live x
  cases hm : mayId x with
  | false =>
    rw [KeptR.del_bad hm]
    exact ⟨F, h, rfl, .inr ⟨rfl, rfl, rfl, rfl⟩⟩
  | true =>
    rcases h.kept.del_may hm with ⟨h1, h2, h3, h4, h5⟩ | ⟨_, h2, _⟩
    · exact ⟨_, ⟨h2, hl⟩, h5, .inl ⟨h1, rfl, rfl, h3⟩⟩
    · rw [hl.1] at h2; cases h2
/-- What SetWhole leaves. -/
theorem Keep.sets (h : Keep t F) : t.setWhole.1 = 0 ∧ Keep t.setWhole.2 F ∧ t.setWhole.2.whole = true ∧ t.setWhole.2.room = t.room := by
  have hfair : t.s.d.Fair := fun _ i => by rw [h.since]; exact h.kept.rest.same i
  obtain ⟨h1, h2, h3, h4, h5⟩ := DS.sign_live h.live 2 (by have := h.kept.full.2; omega)
  have h6 := hfair.sign 2
  obtain ⟨d2, hd2⟩ : ∃ d2, d2 = (t.s.d.sign 2).2 := ⟨_, rfl⟩
  have hset : t.setWhole = (0, ⟨{ t.s with d := d2 }, true⟩) := by
    unfold Sto.setWhole
    rw [h1, ← hd2]
    simp
  rw [← hd2] at h2 h3 h4 h5 h6
  rw [hset]
  have hsame : ∀ i, d2.lasts i = d2.now i := fun i => by
    have := h6 h2.1 i
    rw [h5] at this
    exact this
  have hnow : ∀ i, i ≠ 0 → d2.now i = t.s.d.now i := fun i hi => by rw [h4]; unfold upd; rw [if_neg hi]
  obtain ⟨u, v, htold, hall⟩ := h.kept.told
  refine ⟨rfl, ⟨⟨⟨u, v, ⟨⟨h2.1, h5, hsame⟩, by show t.s.first + 8 * t.s.rows.length ≤ d2.n; rw [h3]; exact htold.room, fun k hk => ?_, htold.used, fun k hk hu => ?_⟩, hall⟩, h.kept.out, h.kept.keys, h.kept.first, ⟨by show (d2.n - 1) / 8 = _; rw [h3]; exact h.kept.full.1, by show 9 ≤ d2.n; rw [h3]; exact h.kept.full.2⟩, ⟨?_, ?_, by show ∀ x ∈ d2.since, _; rw [h5]; simp⟩⟩, h2⟩, rfl, rfl⟩
  · have hf := h.kept.first
    show headOf (d2.now (t.s.first + 8 * k)) = _
    rw [hnow _ (by omega)]
    exact htold.head k hk
  · rw [← htold.data k hk hu]
    have hf := h.kept.first
    unfold SS.data SS.pos
    congr 2
    funext i
    exact hnow _ (by show t.s.first + 8 * (k : Int).toNat + 1 + i ≠ 0; omega)
  · show d2.now 0 = _
    rw [h4]; rfl
  · show d2.lasts 0 = _
    rw [hsame, h4]; rfl
/-- Opened behind a crash it is the same. -/
theorem Keep.crash (h : Keep t F) (ch : List UInt8) : (t.s.d.crash ch).stOpen = (0, some ⟨{ t.s with d := t.s.d.crash ch }, t.whole⟩) ∧ Keep ⟨{ t.s with d := t.s.d.crash ch }, t.whole⟩ F := by
  obtain ⟨u, v, htold, hall⟩ := h.kept.told
  have h2 : KeptR ⟨{ t.s with d := t.s.d.crash ch }, t.whole⟩ F := h.kept.same_row (htold.crash ch) hall (h.kept.zero.crash ch) rfl
  refine ⟨?_, h2, live_crash _ _⟩
  generalize hw : (⟨{ t.s with d := t.s.d.crash ch }, t.whole⟩ : Sto) = t2 at *
  have hd : t.s.d.crash ch = t2.s.d := by rw [← hw]
  rw [hd]
  clear hw hd h htold hall
  obtain ⟨u, v, h1, _⟩ := h2.told
  have hsl := h1.anew (by rw [h2.first]; exact h2.full.1) (by have := h2.full.2; omega)
  rw [h2.first] at hsl
  have hn := h2.full.2
  unfold DS.stOpen
  rw [if_neg (by omega), if_neg (by rw [h1.rest.alive]; simp), h2.zero.now]
  cases hw : t2.whole with
  | true =>
    rw [if_neg (by
      rintro (⟨_, h2⟩ | h2)
      · exact h2 rfl
      · rw [show (((if true = true then (2 : UInt8) else 1) :: zeros 63)).drop 1 = zeros 63 from rfl, allZ_zeros] at h2; cases h2)]
    rw [show ((1 : Nat) : Int) = 1 from rfl] at hsl
    rw [hsl]
    dsimp only
    rw [if_pos (stKeys_iff.2 h2.keys)]
    obtain ⟨ts, tw⟩ := t2
    dsimp only at hw
    subst hw
    rfl
  | false =>
    rw [if_neg (by
      rintro (⟨h2, _⟩ | h2)
      · exact h2 rfl
      · rw [show (((if false = true then (2 : UInt8) else 1) :: zeros 63)).drop 1 = zeros 63 from rfl, allZ_zeros] at h2; cases h2)]
    rw [show ((1 : Nat) : Int) = 1 from rfl] at hsl
    rw [hsl]
    dsimp only
    rw [if_pos (stKeys_iff.2 h2.keys)]
    obtain ⟨ts, tw⟩ := t2
    dsimp only at hw
    subst hw
    rfl
/-- A request leaves it alive. -/
theorem Keep.step (h : Keep t F) (r : Rq) : ∃ F', Keep (t.step r).2 F' := by
  by_cases h0 : r.k < 1 ∨ 6 < r.k
  · rw [step0 t r h0]; exact ⟨F, h⟩
  · obtain ⟨k, x, b⟩ := r
    dsimp only at h0
    obtain rfl | rfl | rfl | rfl | rfl | rfl : k = 1 ∨ k = 2 ∨ k = 3 ∨ k = 4 ∨ k = 5 ∨ k = 6 := by omega
    · obtain ⟨F', h1, _⟩ := h.put x b; exact ⟨F', h1⟩
    · exact ⟨F, h⟩
    · obtain ⟨F', h1, _⟩ := h.del x; exact ⟨F', h1⟩
    · exact ⟨F, h⟩
    · exact ⟨F, h⟩
    · exact ⟨F, h.sets.2.1⟩
theorem Keep.run (h : Keep t F) (r : Rq) : t.run r = (((t.step r).1, 0), (t.step r).2) := by
  obtain ⟨F', h1⟩ := h.step r
  unfold Sto.run
  rw [h.alive, h1.alive]
  rfl

/-! ### How far it goes -/
theorem srv_n : ∀ (l : List Nat) (s : SS), (s.clears l).2.d.n = s.d.n
  | [], s => rfl
  | i :: r, s => by
    obtain ⟨_, _, h1⟩ := s.clear_ok (i : Int)
    rw [clears_cons]
    split
    · exact h1
    · rw [srv_n r, h1]
theorem srv_row1 (s : SS) (i : Int) : (s.clear i).2.rows.length = s.rows.length := by
  by_cases he : (s.clear i).1 = 0
  · obtain ⟨_, _, h3⟩ := SS.clear_done he
    rw [h3, List.length_set]
  · rw [SS.clear_not he]
theorem srv_rows : ∀ (l : List Nat) (s : SS), (s.clears l).2.rows.length = s.rows.length
  | [], s => rfl
  | i :: r, s => by
    rw [clears_cons]
    split
    · exact srv_row1 s i
    · rw [srv_rows r, srv_row1]
/-- How far a request goes. -/
structure Far20 (t t' : Sto) : Prop where
  ops : t'.s.d.ops ≤ t.s.d.ops + 40
  since : t'.s.d.since.length ≤ t.s.d.since.length + 40
  n : t'.s.d.n = t.s.d.n
  rows : t'.s.rows.length = t.s.rows.length
theorem step_far (t : Sto) (r : Rq) (hr : t.s.rows.length ≤ 20) : Far20 t (t.step r).2 := by
  by_cases h0 : r.k < 1 ∨ 6 < r.k
  · rw [step0 t r h0]; exact ⟨by dsimp only; omega, by dsimp only; omega, rfl, rfl⟩
  · obtain ⟨k, x, b⟩ := r
    dsimp only at h0
    obtain rfl | rfl | rfl | rfl | rfl | rfl : k = 1 ∨ k = 2 ∨ k = 3 ∨ k = 4 ∨ k = 5 ∨ k = 6 := by omega
    · obtain ⟨a, b', c, d, _⟩ := t.put_ok x b
      rw [step1]
      exact ⟨by dsimp only; omega, by dsimp only; omega, c, d⟩
    · rw [step2]; exact ⟨by dsimp only; omega, by dsimp only; omega, rfl, rfl⟩
    · obtain ⟨a, b'⟩ := t.del_ok x
      rw [step3]
      refine ⟨by dsimp only; omega, by dsimp only; omega, ?_, ?_⟩
      · unfold Sto.del
        split
        · rfl
        · exact srv_n _ _
      · unfold Sto.del
        split
        · rfl
        · exact srv_rows _ _
    · rw [step4]; exact ⟨by dsimp only; omega, by dsimp only; omega, rfl, rfl⟩
    · rw [step5]; exact ⟨by dsimp only; omega, by dsimp only; omega, rfl, rfl⟩
    · obtain ⟨a, b', c⟩ := t.s.d.sign_ok 2
      rw [step6]
      exact ⟨by show (t.s.d.sign 2).2.ops ≤ _; omega, by show (t.s.d.sign 2).2.since.length ≤ _; omega, a, rfl⟩

/-! ### ServerLists -/
def keepB (r : Rq) (e : Int) (y : Id) : Bool := decide (y ≠ r.x) || (decide (r.k ≠ 3) || decide (e ≠ 0))
def thereB (H : List Id) (x : Id) : Bool := H.any (fun y => decide (y = x))
theorem thereB_iff {H : List Id} {x : Id} : thereB H x = true ↔ x ∈ H := by
  unfold thereB
  rw [List.any_eq_true]
  constructor
  · rintro ⟨y, hy, e⟩
    rw [← of_decide_eq_true e]; exact hy
  · intro h; exact ⟨x, h, by simp⟩
def nextH (H : List Id) (r : Rq) (e : Int) : List Id := H.filter (keepB r e) ++ if r.k = 1 ∧ e = 0 ∧ thereB H r.x = false then [r.x] else []
theorem keep_all {H : List Id} {r : Rq} {e : Int} (h : r.k ≠ 3 ∨ e ≠ 0) : H.filter (keepB r e) = H := List.filter_eq_self.2 (fun y _ => by
  unfold keepB
  rcases h with h | h <;> simp [h])
theorem next_same {H : List Id} {r : Rq} {e : Int} (h : r.k ≠ 3 ∨ e ≠ 0) (h1 : r.k ≠ 1 ∨ e ≠ 0 ∨ r.x ∈ H) : nextH H r e = H := by
  unfold nextH
  rw [keep_all h, if_neg, List.append_nil]
  rintro ⟨a, b, c⟩
  rcases h1 with h1 | h1 | h1
  · exact h1 a
  · exact h1 b
  · rw [thereB_iff.2 h1] at c; cases c
structure ListsAt (t : Sto) (H : List Id) (k : Nat) : Prop where
  keep : ∃ F, Keep t F ∧ ∀ x, x ∈ H ↔ (F x).isSome = true
  nodup : H.Nodup
  rows : t.s.rows.length = 12
  len : H.length + t.room = 12
  small : t.s.d.ops ≤ 100 + 40 * k ∧ t.s.d.n = 97
theorem ListsAt.new : ∃ t d, (DS.new 97).format = ((0, some t), d) ∧ ListsAt t [] 0 := by
  obtain ⟨t, d, h1, h2, h3, h4, h5, h6⟩ := Keep.new 97 (by omega)
  refine ⟨t, d, h1, ⟨_, h2, by simp⟩, by simp, ?_, by simp; omega, by omega, h4⟩
  have := h2.kept.full.1
  omega
theorem filter_one {H : List Id} (hn : H.Nodup) {x : Id} (hx : x ∈ H) : (H.filter (fun y => decide (y ≠ x))).length + 1 = H.length := by
  induction H with
  | nil => cases hx
  | cons a l ih =>
    obtain ⟨h1, h2⟩ := List.nodup_cons.1 hn
    by_cases e : a = x
    · subst e
      rw [List.filter_cons_of_neg (by simp), List.filter_eq_self.2 (fun y hy => by
        simp
        intro e; subst e; exact h1 hy)]
      rfl
    · rw [List.filter_cons_of_pos (by simp [e]), List.length_cons, List.length_cons, ih h2 (by
        rcases List.mem_cons.1 hx with h | h
        · exact absurd h.symm e
        · exact h)]
variable {H : List Id} {k : Nat}
theorem ListsAt.step (h : ListsAt t H k) (r : Rq) : ListsAt (t.step r).2 (nextH H r (t.step r).1.e) (k + 1) := by
  obtain ⟨⟨F, hk, hm⟩, hn, hr, hl, hs, hd⟩ := h
  have hf := step_far t r (by omega)
  have hsm : (t.step r).2.s.d.ops ≤ 100 + 40 * (k + 1) ∧ (t.step r).2.s.d.n = 97 := ⟨by have := hf.ops; omega, by rw [hf.n]; exact hd⟩
  have hrw : (t.step r).2.s.rows.length = 12 := by rw [hf.rows]; exact hr
  have same : (t.step r).2 = t → nextH H r (t.step r).1.e = H → ListsAt (t.step r).2 (nextH H r (t.step r).1.e) (k + 1) := fun e1 e2 => by
    rw [e2]
    exact ⟨⟨F, by rw [e1]; exact hk, hm⟩, hn, hrw, by rw [e1]; exact hl, hsm⟩
  by_cases h0 : r.k < 1 ∨ 6 < r.k
  · exact same (by rw [step0 t r h0]) (next_same (.inl (by omega)) (.inl (by omega)))
  · obtain ⟨kk, x, b⟩ := r
    dsimp only at h0
    obtain rfl | rfl | rfl | rfl | rfl | rfl : kk = 1 ∨ kk = 2 ∨ kk = 3 ∨ kk = 4 ∨ kk = 5 ∨ kk = 6 := by omega
    · obtain ⟨F', p1, p2, p3⟩ := hk.put x b
      rcases p3 with ⟨p3, p4, p5, p6⟩ | ⟨p3, p4, p5⟩
      · have hx : x ∉ H := fun hx => by rw [hm x, p4] at hx; cases hx
        have hth : thereB H x = false := by
          cases e : thereB H x with
          | false => rfl
          | true => exact absurd (thereB_iff.1 e) hx
        have e : nextH H ⟨1, x, b⟩ (t.step ⟨1, x, b⟩).1.e = H ++ [x] := by
          unfold nextH
          rw [keep_all (.inl (by simp)), if_pos ⟨rfl, p3, hth⟩]
        rw [e]
        refine ⟨⟨F', p1, fun y => ?_⟩, ?_, hrw, ?_, hsm⟩
        · rw [p5, List.mem_append, List.mem_singleton, hm y]
          by_cases hy : y = x
          · rw [hy, setF_self]; simp
          · rw [setF_other _ _ hy]; simp [hy]
        · rw [List.nodup_append]
          refine ⟨hn, by simp, fun a ha c hc => ?_⟩
          rw [List.mem_singleton.1 hc]
          exact fun e => hx (by rw [← e]; exact ha)
        · rw [List.length_append, List.length_singleton]
          show H.length + 1 + (t.put x b).2.room = 12
          omega
      · refine same p4 (next_same (.inl (by simp)) (.inr ?_))
        by_cases he : (t.put x b).1 = 0
        · exact .inr ((hm x).2 (by rw [p3 he]; rfl))
        · exact .inl he
    · exact same rfl (next_same (.inl (by simp)) (.inl (by simp)))
    · obtain ⟨F', p1, p2, p3⟩ := hk.del x
      rcases p3 with ⟨p3, p4, p5, p6⟩ | ⟨p3, p4, p5, p6⟩
      · have e : nextH H ⟨3, x, b⟩ (t.step ⟨3, x, b⟩).1.e = H.filter (fun y => decide (y ≠ x)) := by
          unfold nextH
          rw [if_neg (by simp), List.append_nil]
          congr 1
          funext y
          show (decide (y ≠ x) || (decide ((3 : Int) ≠ 3) || decide ((t.del x).1 ≠ 0))) = _
          rw [p3]; simp
        rw [e]
        refine ⟨⟨F', p1, fun y => ?_⟩, hn.filter _, hrw, ?_, hsm⟩
        · rw [p5, List.mem_filter, hm y]
          by_cases hy : y = x
          · rw [hy, setF_self]; simp
          · rw [setF_other _ _ hy]; simp [hy]
        · show (H.filter (fun y => decide (y ≠ x))).length + (t.del x).2.room = 12
          rw [p6]
          by_cases hx : x ∈ H
          · rw [if_pos ((hm x).1 hx)]
            have := filter_one hn hx
            omega
          · rw [if_neg (fun h => hx ((hm x).2 h)), List.filter_eq_self.2 (fun y hy => by
              simp
              intro e; subst e; exact hx hy)]
            omega
      · exact same p5 (next_same (.inr (by show (t.del x).1 ≠ 0; rw [p3]; simp)) (.inl (by simp)))
    · exact same rfl (next_same (.inl (by simp)) (.inl (by simp)))
    · exact same rfl (next_same (.inl (by simp)) (.inl (by simp)))
    · obtain ⟨p1, p2, p3, p4⟩ := hk.sets
      rw [next_same (.inl (by simp)) (.inl (by simp))]
      exact ⟨⟨F, p2, hm⟩, hn, hrw, by show H.length + t.setWhole.2.room = 12; omega, hsm⟩
theorem ListsAt.ends (h : ListsAt t H k) : t.ids.length = H.length ∧ t.room = 12 - H.length ∧ ∀ x ∈ H, x ∈ t.ids := by
  obtain ⟨⟨F, hk, hm⟩, hn, hr, hl, hs⟩ := h
  have := hk.kept.ids_len
  exact ⟨by omega, by omega, fun x hx => (hk.kept.mem_ids x).2 ((hm x).1 hx)⟩

/-! ### ServerDead -/
/-! ### ServerWhole -/
/-- What Get says of a store that lives. -/
theorem Keep.gets (h : Keep t F) (x : Id) (b : List UInt8) : (t.step ⟨2, x, b⟩).1 = if mayId x = false then errRp 1 else match F x with | none => errRp (if t.whole then 6 else 15) | some c => ⟨0, c, [], 0, false⟩ := by
  rw [step2, h.kept.get x]
  by_cases hm : mayId x = false
  · rw [if_pos hm, if_pos hm]
    rfl
  · rw [if_neg hm, if_neg hm]
    cases F x with
    | none =>
      cases t.whole <;> rfl
    | some c =>
      rfl
end Go.Proofs.YtdkhmfcfihbjeaaGreatDoor.W

/- Blocks that hold no bytes; append that says what the row's block holds. -/
namespace Go.Proofs.YtdkhmfcfihbjeaaGreatDoor.W
open Go.RowKit
set_option linter.unusedVariables false
set_option linter.unusedSimpArgs false

def No8 (c : Value) : Prop := ∀ z : Int, c ≠ .int .u8 z
/-- No cell of the block is a byte. -/
def NoU8 (w : World) (x : Nat) : Prop := ∀ cs t fr, w.heap[x]? = some (.cells cs t fr) → ∀ (j : Nat) (c : Value), cs[j]? = some c → No8 c
theorem NoU8.keep {w w' : World} {x : Nat} (h : NoU8 w x) (hb : w'.heap[x]? = w.heap[x]?) : NoU8 w' x := fun cs t fr hc => h cs t fr (hb.symm.trans hc)
theorem NoU8.mk {w : World} {x t : Nat} {cs : Array Value} {fr : Nat × Nat} (h : w.heap[x]? = some (.cells cs t fr)) (hc : ∀ (j : Nat) (c : Value), cs[j]? = some c → No8 c) : NoU8 w x := fun cs' t' fr' h' => by
  rw [h] at h'
  cases h'
  exact hc
theorem NoU8.set {w : World} {x j : Nat} {u : Value} (h : NoU8 w x) (hx : x < w.heap.size) (hu : No8 u) : NoU8 (w.setCell ⟨x, j, none⟩ u) x := fun cs t fr hc k c hk => by
  have hx' := Array.getElem?_eq_getElem hx
  unfold World.setCell at hc
  rw [Array.getElem?_modify, if_pos rfl, hx'] at hc
  cases ho : w.heap[x] with
  | cells cs0 t0 fr0 =>
    rw [ho] at hc hx'
    simp at hc
    obtain ⟨rfl, rfl, rfl⟩ := hc
    rw [Array.getElem?_setIfInBounds] at hk
    by_cases hjk : j = k
    · rw [if_pos hjk] at hk
      split at hk
      · rw [← Option.some.inj hk]; exact hu
      · cases hk
    · rw [if_neg hjk] at hk
      exact h cs0 _ _ hx' k c hk
  | _ => rw [ho] at hc; simp at hc
theorem NoU8.not_bytes {w : World} {x : Nat} (h : NoU8 w x) (v : Value) (l : List UInt8) (hb : BytesAt w v l) (hl : l ≠ []) : v.ownBlock ≠ some x := fun e => by
  obtain ⟨a, cap, rfl, h1, h2, h3⟩ := hb
  have hpos : 0 < l.length := by cases l; exact absurd rfl hl; simp
  rcases h3 with ⟨h3, _⟩ | ⟨g', o, rfl, hc⟩
  · exact hl h3
  · obtain rfl : g' = x := by simpa [Value.ownBlock] using e
    have h5 := hc 0 hpos
    rw [Nat.add_zero] at h5
    unfold World.cell? at h5
    cases hx : w.heap[g']? with
    | none => simp [hx] at h5
    | some o' =>
      cases o' with
      | cells cs t fr =>
        simp [hx] at h5
        exact h cs t fr hx o _ h5 _ rfl
      | _ => simp [hx] at h5
theorem no8_slice {a : Option Addr} {n c : Nat} : No8 (.slice a n c) := fun z => by simp
theorem no8_i64 {x : Int} : No8 (.int .i64 x) := fun z => by simp
theorem no8_bool {x : Bool} : No8 (.bool x) := fun z => by simp
theorem no8_ptr {a : Option Addr} : No8 (.pointer a) := fun z => by simp
theorem no8_list {l : List Value} (h : ∀ c ∈ l, No8 c) : ∀ (j : Nat) (c : Value), l.toArray[j]? = some c → No8 c := fun j c hj => by
  rw [List.getElem?_toArray] at hj
  exact h c (List.mem_of_getElem? hj)
theorem BytesAt.no8 {w : World} {v : Value} {l : List UInt8} (h : BytesAt w v l) : No8 v := by
  obtain ⟨a, cap, rfl, _⟩ := h
  exact no8_slice
end Go.Proofs.YtdkhmfcfihbjeaaGreatDoor.W

/- A store beside others' blocks; its disk: fuse, dead, crash. -/
namespace Go.Proofs.YtdkhmfcfihbjeaaGreatDoor.W
open Go.RowKit
set_option linter.unusedVariables false
set_option linter.unusedSimpArgs false

theorem SlotsAt.keepT {w w' : World} {q p : Nat} {U T : List Nat} {s : SS} (h : SlotsAt w q p U s) (hc : Chg T w w') (ha : ∀ x ∈ U, x ∉ T) (hT : ∀ x ∈ T, ∀ v l, BytesAt w v l → l ≠ [] → v.ownBlock ≠ some x) : SlotsAt w' q p U s := by
  obtain ⟨S, rv, R, h⟩ := h
  refine ⟨S, rv, R, h.obj.keep hc (fun x hx => ha x (h.uB x hx)), h.disk.keep hc (fun x hx => ha x (h.uS x hx)), h.rows, h.sep, fun x hx => ?_, h.uS, h.uB, fun x hx => Nat.lt_of_lt_of_le (h.uL x hx) hc.size, h.ok⟩
  obtain ⟨h1, h2⟩ := h.keys x hx
  exact ⟨h1.chgW hc (fun hl k hk hm => hT k hm _ _ h1 hl hk), fun g hg => ⟨Nat.lt_of_lt_of_le (h2 g hg).1 hc.size, (h2 g hg).2⟩⟩
/-- The reference was at work beside it. -/
theorem StAt.regroup {G G' : List Nat} {w w' : World} {q p : Nat} {U T : List Nat} {t : Sto} (h : StAt G w q p U t) (hc : Chg T w w') (hT : ∀ x ∈ T, x ∈ G) (h8 : ∀ x ∈ T, NoU8 w x) (hU : ∀ x ∈ U, x ∉ G) (hG : ∀ x ∈ G', (x ∈ G ∨ w.heap.size ≤ x) ∧ x < w'.heap.size) : StAt G' w' q p U t := by
  obtain ⟨sp, mb, Us, φ, N, h, rfl⟩ := h
  have hn : ∀ x ∈ q :: mb :: Us, x ∉ T := fun x hx hm => hU x hx (hT x hm)
  refine ⟨sp, mb, Us, φ, N, ⟨hc.keep h.head (hn q (by simp)), h.slots.keepT hc (fun x hx => hn x (by simp [hx])) (fun x hx v l hb hl => (h8 x hx).not_bytes v l hb hl), h.map.chg hc (hn mb (by simp)), h.apart, fun x hx => ?_, h.ok, fun k hk => ⟨(hG k hk).2, fun y v hy hv e => ?_⟩⟩, rfl⟩
  · rcases h.vals x hx with h1 | ⟨h1, v, h2, h3, h4⟩
    · exact .inl h1
    · refine .inr ⟨h1, v, h2, h3.keep (fun g hg => hc.block g (h4 g hg).1 (fun hm => (h.far g (hT g hm)).2 x v hx h2 hg)), fun g hg => ⟨Nat.lt_of_lt_of_le (h4 g hg).1 hc.size, (h4 g hg).2⟩⟩
  · rcases (hG k hk).1 with h1 | h1
    · exact (h.far k h1).2 y v hy hv e
    · rcases h.vals y hy with ⟨_, h2⟩ | ⟨_, v', h2, _, h4⟩
      · rw [h2] at hv; cases hv
      · rw [h2] at hv
        obtain rfl := Option.some.inj hv
        have := (h4 k e).1
        omega
theorem StAt.disk {G : List Nat} {w : World} {q p : Nat} {U : List Nat} {t : Sto} (h : StAt G w q p U t) : ∃ S, DiskAt w p S t.s.d := by
  obtain ⟨sp, mb, Us, φ, N, h, rfl⟩ := h
  obtain ⟨S, rv, R, H⟩ := h.slots
  exact ⟨S, H.disk⟩
theorem StAt.fuse {G : List Nat} {w : World} {q p : Nat} {U : List Nat} {t : Sto} (h : StAt G w q p U t) (n : Int) (hn : n ≤ 9223372036854775807) :
    Calls Tryz.prog 18 #[.pointer (some ⟨p, 0, none⟩), .int .i64 n] w fun e w' => e = .returned (.tuple #[]) ∧ Std G w w' q p U ⟨{ t.s with d := t.s.d.setFuse n }, t.whole⟩ := by
  obtain ⟨sp, mb, Us, φ, N, h, rfl⟩ := h
  obtain ⟨S, rv, R, H⟩ := h.slots
  refine (dfuse_any p S t.s.d n w H.disk hn).mono fun e w' ⟨h1, h2⟩ => ⟨h1, ?_⟩
  obtain ⟨Us', g1, g2, g3⟩ := h.slotsDid (SlotsAt.did H h2 rfl) rfl
  exact g1.std g2 (g3.mono (fun y hy => .inl (by simp [hy])))
theorem StAt.dead {G : List Nat} {w : World} {q p : Nat} {U : List Nat} {t : Sto} (h : StAt G w q p U t) : Calls Tryz.prog 38 #[.pointer (some ⟨p, 0, none⟩)] w fun e w' => e = .returned (.bool t.s.d.dead) ∧ w = w' := by
  obtain ⟨S, hd⟩ := h.disk
  exact ddead_any p S t.s.d w hd
end Go.Proofs.YtdkhmfcfihbjeaaGreatDoor.W

/- Package server: the deeds. -/
namespace Go.Proofs.YtdkhmfcfihbjeaaGreatDoor.W
open Go.RowKit
set_option linter.unusedVariables false
set_option linter.unusedSimpArgs false

/-! ### Requests and replies in memory -/
/-- A reply, its rows new since w0. -/
def RpAt (w0 w : World) (v : Value) (o : Rp) : Prop := ∃ bv iv, v = rpV o.e bv iv o.room o.whole ∧ BytesAt w bv o.b ∧ (∀ k, bv.ownBlock = some k → w0.heap.size ≤ k) ∧ w.ownsRow w0.heap.size 38 4 iv o.ids.length (o.ids.flatMap idE)
theorem RpAt.keep {w0 w w' : World} {v : Value} {o : Rp} (h : RpAt w0 w v o) {T : List Nat} (hc : Chg T w w') (hT : ∀ x ∈ T, ∀ bv iv, v = rpV o.e bv iv o.room o.whole → bv.ownBlock ≠ some x ∧ iv.ownBlock ≠ some x) : RpAt w0 w' v o := by
  obtain ⟨bv, iv, h1, h2, h3, h4⟩ := h
  exact ⟨bv, iv, h1, h2.chg hc (fun k hk hm => (hT k hm bv iv h1).1 hk), h3, row_keep h4 (fun g hg => hc.block g (World.ownsRow.lt h4 g hg).2 (fun hm => (hT g hm bv iv h1).2 hg))⟩
theorem RpAt.err {w0 w : World} (e : Int) : RpAt w0 w (rpV e (.slice none 0 0) (.slice none 0 0) 0 false) (errRp e) :=
  ⟨_, _, rfl, BytesAt.nil _, by simp [Value.ownBlock], World.ownsRow_nil _ _ _ _⟩
theorem ret_rp {fn : Func} {p : Tmp} (h : fn.results = #[.cell p 32]) (tmps : Array Value) {w : World} {b t : Nat} {e room : Int} {bv iv : Value} {wh : Bool} (hp : tmps.getD p undef = .pointer (some ⟨b, 0, none⟩)) (hb : w.heap[b]? = some (.cells (rpL e bv iv room wh).toArray t (0, 0))) :
    (results fn tmps).run Tryz.prog w = .ok (rpV e bv iv room wh) w := by
  have hl := run_loadVar_row (P := Tryz.prog) w b t 32 (rpL e bv iv room wh).toArray (0, 0) _ hb Tryz.underlying32 rfl (rp_size _ _ _ _ _)
  have he : (results fn tmps).run Tryz.prog w = ((asAddr (tmps.getD p undef)).run Tryz.prog w).andThen fun a w₁ => (loadVar 32 a).run Tryz.prog w₁ := by
    simp only [results, h]
    simp [Sem.run_bind, Result.andThen]
  rw [he, hp]
  simp only [asAddr, Sem.run_pure, Result.andThen_ok, hl]
  rfl
theorem zeroRp_no8 {w : World} {b t : Nat} (h : w.heap[b]? = some (.cells zeroRp t (0, 0))) : NoU8 w b := NoU8.mk h (by
  unfold zeroRp
  refine no8_list (l := [.int .i64 0, .slice none 0 0, .slice none 0 0, .int .i64 0, .bool false]) (fun c hc => ?_)
  simp only [List.mem_cons, List.mem_nil_iff, or_false] at hc
  rcases hc with rfl | rfl | rfl | rfl | rfl <;> (intro z; simp))

/-! ### Beside the caller's own blocks -/
section
variable {G T U : List Nat} {w w2 w3 w4 : World} {q p : Nat} {t t' : Sto}
theorem StAt.gl (h : StAt G w q p U t) : ∀ x ∈ G, x < w.heap.size := by
  obtain ⟨sp, mb, Us, φ, N, h, rfl⟩ := h
  exact fun x hx => (h.far x hx).1
theorem StAt.with (h : StAt G w q p U t) (hU : ∀ x ∈ U, x ∉ G) (h2 : Chg [] w w2) (hT : ∀ x ∈ T, w.heap.size ≤ x ∧ x < w2.heap.size) : StAt (T ++ G) w2 q p U t :=
  h.regroup (T := []) h2 (by simp) (by simp) hU (fun x hx => by
    rcases List.mem_append.1 hx with hx | hx
    · exact ⟨.inr (hT x hx).1, (hT x hx).2⟩
    · exact ⟨.inl hx, Nat.lt_of_lt_of_le (h.gl x hx) h2.size⟩)
/-- What a call left beside blocks of the caller's own, which are then written. -/
theorem Std.local (hG : ∀ x ∈ G, x < w.heap.size) (hU : ∀ x ∈ U, x ∉ G) (hl : ∀ x ∈ U, x < w.heap.size) (h2 : Chg [] w w2) (hT : ∀ x ∈ T, w.heap.size ≤ x ∧ x < w2.heap.size) (hs : Std (T ++ G) w2 w3 q p U t') (h8 : ∀ x ∈ T, NoU8 w3 x) (hc : Chg T w3 w4) : Std G w w4 q p U t' := by
  obtain ⟨U', a1, a2, a3⟩ := hs
  have hz := h2.size
  have hUT : ∀ x ∈ U', x ∉ T ++ G := fun x hx hm => by
    rcases a2 x hx with h | h
    · rcases List.mem_append.1 hm with hm | hm
      · have := hl x h; have := (hT x hm).1; omega
      · exact hU x h hm
    · rcases List.mem_append.1 hm with hm | hm
      · have := (hT x hm).2; omega
      · have := hG x hm; omega
  refine ⟨U', a1.regroup hc (fun x hx => List.mem_append_left _ hx) h8 hUT (fun x hx => ⟨.inl (List.mem_append_right _ hx), ?_⟩), fun x hx => ?_, ((h2.mono (T := U) (by simp)).trans a3 (fun x hx => .inl hx)).trans hc (fun x hx => .inr (hT x hx).1)⟩
  · have := hG x hx; have := a3.size; have := hc.size; omega
  · rcases a2 x hx with h | h
    · exact .inl h
    · exact .inr (by omega)
theorem Std.blk {b : Nat} {o : Obj} (hs : Std G w2 w3 q p U t') (hb : w2.heap[b]? = some o) (hU : b ∉ U) : w3.heap[b]? = some o := by
  obtain ⟨U', a1, a2, a3⟩ := hs
  exact a3.keep hb hU
/-- What a deed answers, and what it leaves. -/
def DeedPost (G : List Nat) (w : World) (q p : Nat) (U : List Nat) (o : Rp) (t' : Sto) (e : Ending) (w' : World) : Prop := ∃ v, e = .returned v ∧ RpAt w w' v o ∧ Std G w w' q p U t'
/-- A server in memory. -/
structure SvAt (G : List Nat) (w : World) (z q p : Nat) (U : List Nat) (t : Sto) : Prop where
  head : w.heap[z]? = some (.cells #[.pointer (some ⟨q, 0, none⟩)] 87 (0, 0))
  st : StAt G w q p U t
  out : z ∉ U
  far : ∀ x ∈ U, x ∉ G
theorem SvAt.keep0 {z : Nat} (h : SvAt G w z q p U t) (hc : Chg [] w w2) : SvAt G w2 z q p U t := ⟨hc.keep h.head (by simp), h.st.keep0 hc, h.out, h.far⟩
end

/-- The request's and the reply's own blocks, as a deed begins. -/
structure Begun (w w2 : World) (r : Rq) (bv : Value) : Prop where
  chg : Chg [] w w2
  rq : w2.heap[w.heap.size]? = some (.cells (rqL r bv).toArray 40 (0, 0))
  rp : w2.heap[w.heap.size + 1]? = some (.cells zeroRp 32 (0, 0))
theorem begun_of (w : World) (r : Rq) (bv : Value) : Begun w ((w.alloc (.cells (rqL r bv).toArray 40)).alloc (.cells zeroRp 32)) r bv :=
  ⟨((Chg.refl [] w).alloc _).alloc _, blk_alloc (heap_alloc_new w _), heap_at (by simp)⟩
section
variable {G U : List Nat} {z q p : Nat} {t : Sto}
/-- How a deed begins, all that its walk asks. -/
structure Begins (G : List Nat) (w w2 : World) (z q p : Nat) (U : List Nat) (t : Sto) (r : Rq) (bv : Value) : Prop where
  chg : Chg [] w w2
  head : w2.heap[z]? = some (.cells #[.pointer (some ⟨q, 0, none⟩)] 87 (0, 0))
  rq : w2.heap[w.heap.size]? = some (.cells (rqL r bv).toArray 40 (0, 0))
  rp : w2.heap[w.heap.size + 1]? = some (.cells zeroRp 32 (0, 0))
  st : StAt ([w.heap.size + 1] ++ G) w2 q p U t
  out : w.heap.size + 1 ∉ U
  new : ∀ x ∈ [w.heap.size + 1], w.heap.size ≤ x ∧ x < w2.heap.size
theorem SvAt.begins {w : World} (h : SvAt G w z q p U t) (r : Rq) (bv : Value) : Begins G w ((w.alloc (.cells (rqL r bv).toArray 40)).alloc (.cells zeroRp 32)) z q p U t r bv := by
  have B := begun_of w r bv
  generalize ((w.alloc (.cells (rqL r bv).toArray 40)).alloc (.cells zeroRp 32)) = w2 at *
  have hT : ∀ x ∈ [w.heap.size + 1], w.heap.size ≤ x ∧ x < w2.heap.size := fun x hx => by
    rw [List.mem_singleton.1 hx]
    exact ⟨by omega, blk_lt B.rp⟩
  exact ⟨B.chg, B.chg.keep h.head (by simp), B.rq, B.rp, h.st.with h.far B.chg hT, fun hm => by have := h.st.lim _ hm; omega, hT⟩
theorem Begins.drew {w w2 : World} {r : Rq} {bv : Value} (h : Begins G w w2 z q p U t r bv) : Begins G w w2.drew z q p U t r bv :=
  ⟨h.chg.drew, h.head, h.rq, h.rp, h.st.keep0 ((Chg.refl [] w2).drew), h.out, h.new⟩
/-- How a deed ends: its reply is laid down. -/
theorem Begins.ends {w w2 w3 : World} {r : Rq} {bv : Value} {t' : Sto} (hb : Begins G w w2 z q p U t r bv) (h : SvAt G w z q p U t) (hs : Std ([w.heap.size + 1] ++ G) w2 w3 q p U t') (u : List Value) : Std G w (w3.setCells (w.heap.size + 1) 0 u) q p U t' :=
  Std.local h.st.gl h.far h.st.lim hb.chg hb.new hs (fun x hx => by
    rw [List.mem_singleton.1 hx]
    exact zeroRp_no8 (hs.blk hb.rp hb.out)) ((Chg.refl _ w3).setCells (.inl (by simp)) u)
theorem rp_all (e : Int) (a c : Option Addr) (b d f g : Nat) (room : Int) (wh : Bool) : (rpL e (.slice a b f) (.slice c d g) room wh).toArray.all (·.oneCell') = true := all_oneCell_toArray (fun v hv => by
  simp only [rpL, List.mem_cons, List.mem_nil_iff, or_false] at hv
  rcases hv with rfl | rfl | rfl | rfl | rfl <;> rfl)
theorem err_all (e : Int) : (rpL e (.slice none 0 0) (.slice none 0 0) 0 false).toArray.all (·.oneCell') = true := rp_all e none none 0 0 0 0 0 false

set_option maxHeartbeats 4000000 in
set_option maxRecDepth 100000 in
theorem svput_any (r : Rq) (bv : Value) (w : World) (h : SvAt G w z q p U t) (hx : okD r.x) (hb : BytesAt w bv r.b) (hbU : r.b ≠ [] → ∀ k, bv.ownBlock = some k → k ∉ U) (hbl : r.b.length ≤ 1000000) (ho : t.s.d.ops ≤ 900000000) (hw : t.s.d.since.length ≤ 900000) :
    Calls Tryz.prog 82 #[.pointer (some ⟨z, 0, none⟩), rqV r bv] w (DeedPost G w q p U (errRp (t.put r.x r.b).1) (t.put r.x r.b).2) := by
  have HE0 := Lib.hid (h.begins r bv)
  obtain ⟨w2, hw2⟩ : ∃ w2, w2 = (w.alloc (.cells (rqL r bv).toArray 40)).alloc (.cells zeroRp 32) := ⟨_, rfl⟩
  rw [← hw2] at HE0
  have HE := Lib.hid HE0.out.drew
  have CP := Lib.hid (stput_any q p U t r.x bv r.b w2.drew HE.out.st hx ((hb.chg HE0.out.chg (by simp)).keep (fun _ _ => rfl)) hbU hbl ho hw)
  have c0 := blk_cell HE0.out.head 0 _ rfl
  obtain ⟨B, hB⟩ : ∃ B, B = w.heap.size := ⟨_, rfl⟩
  have hrq := HE0.out.rq
  rw [← hB] at hrq
  have q1 := blk_cell hrq 1 _ rfl
  have q2 := blk_cell hrq 2 _ rfl
  have q3 := blk_cell hrq 3 _ rfl
  have q4 := blk_cell hrq 4 _ rfl
  have q5 := blk_cell hrq 5 _ rfl
  have HH := Lib.hid h
  have HW2 := Lib.hid hw2
  have HB := Lib.hid hB
  obtain ⟨o, hoe⟩ : ∃ o, o = t.put r.x r.b := ⟨_, rfl⟩
  rw [← hoe] at CP
  rw [← hoe]
  obtain ⟨k, ⟨xc, xl, xn, xi⟩, b⟩ := r
  obtain ⟨ba, bc, hbv⟩ := hb.slice
  subst hbv
  clear hw2 hB hrq HE0 h hx hb hbU hoe
  unfold rqV rqL
  unfold rqL at HW2
  unfold idV idC at CP
  dsimp only at CP q1 q2 q3 q4 q5
  go_enter Tryz.func82, Tryz.ntmps82
  go_wp2_with fail
  rw [← HB.out]
  rw [show zeroRp = #[.int .i64 0, .slice none 0 0, .slice none 0 0, .int .i64 0, .bool false] from rfl] at HW2
  rw [← HW2.out]
  refine wp_region_L [(8, fun w' => w'.cell? ⟨z, 0, none⟩ = some (.pointer (some ⟨q, 0, none⟩))), (8, fun w' => (w'.cell? ⟨B, 1, none⟩ = some (.int .i64 xc) ∧ w'.cell? ⟨B, 2, none⟩ = some (.int .i64 xl) ∧ w'.cell? ⟨B, 3, none⟩ = some (.int .i64 xn) ∧ w'.cell? ⟨B, 4, none⟩ = some (.int .i64 xi))), (8, fun w' => w'.cell? ⟨B, 5, none⟩ = some (.slice ba b.length bc))] (by kernel_rfl) ?_ (fun hHeld => ?_)
  · exact (HoldC.cons (c0) (HoldC.cons (⟨q1, q2, q3, q4⟩) (HoldC.cons (q5) HoldC.nil)))
  refine wpAnyL_take (i := 0) (oi := _) (v := ?_) rfl (by kernel_rfl) (by kernel_rfl) (by kernel_rfl) (by kernel_rfl) (by kernel_rfl) (fun _ _ _ h => h) (Or.inl ⟨by rfl, ?_⟩) (by assumption) (fun hNew => ?_)
  rotate_left
  · intro w _
    go_simp
    try with_reducible rfl
  clear hHeld
  have hHeld := hNew
  clear hNew
  try simp only [List.getElem_toArray, List.getElem_cons_succ, List.getElem_cons_zero, Act.put, List.setIfInBounds_toArray, List.set_cons_zero, List.set_cons_succ]
  refine wpAnyL_take (i := 1) (oi := _) (v := ?_) rfl (by kernel_rfl) (by kernel_rfl) (by kernel_rfl) (by kernel_rfl) (by kernel_rfl) (fun _ _ _ h => h) (Or.inl ⟨by rfl, ?_⟩) (by assumption) (fun hNew => ?_)
  rotate_left
  · intro w _
    go_simp
    try with_reducible rfl
  clear hHeld
  have hHeld := hNew
  clear hNew
  try simp only [List.getElem_toArray, List.getElem_cons_succ, List.getElem_cons_zero, Act.put, List.setIfInBounds_toArray, List.set_cons_zero, List.set_cons_succ]
  refine wpAnyL_take (i := 2) (oi := _) (v := ?_) rfl (by kernel_rfl) (by kernel_rfl) (by kernel_rfl) (by kernel_rfl) (by kernel_rfl) (fun _ _ _ h => h) (Or.inl ⟨by rfl, ?_⟩) (by assumption) (fun hNew => ?_)
  rotate_left
  · intro w _
    go_simp
    try with_reducible rfl
  clear hHeld
  have hHeld := hNew
  clear hNew
  try simp only [List.getElem_toArray, List.getElem_cons_succ, List.getElem_cons_zero, Act.put, List.setIfInBounds_toArray, List.set_cons_zero, List.set_cons_succ]
  refine wpAnyL_take (i := 4) (oi := _) (v := ?_) rfl (by kernel_rfl) (by kernel_rfl) (by kernel_rfl) (by kernel_rfl) (by kernel_rfl) (fun _ _ _ h => h) (Or.inl ⟨by rfl, ?_⟩) (by assumption) (fun hNew => ?_)
  rotate_left
  · intro w _
    go_simp
    try with_reducible rfl
  clear hHeld
  have hHeld := hNew
  clear hNew
  try simp only [List.getElem_toArray, List.getElem_cons_succ, List.getElem_cons_zero, Act.put, List.setIfInBounds_toArray, List.set_cons_zero, List.set_cons_succ]
  refine wpAnyL_take (i := 6) (oi := _) (v := ?_) rfl (by kernel_rfl) (by kernel_rfl) (by kernel_rfl) (by kernel_rfl) (by kernel_rfl) (fun _ _ _ h => h) (Or.inl ⟨by rfl, ?_⟩) (by assumption) (fun hNew => ?_)
  rotate_left
  · intro w _
    go_simp
    try with_reducible rfl
  clear hHeld
  have hHeld := hNew
  clear hNew
  try simp only [List.getElem_toArray, List.getElem_cons_succ, List.getElem_cons_zero, Act.put, List.setIfInBounds_toArray, List.set_cons_zero, List.set_cons_succ]
  refine wpAnyL_load 0 (i := 3) (oi := _) (v := ?_) rfl rfl (by kernel_rfl) (by kernel_rfl) (by kernel_rfl) (by kernel_rfl) (by kernel_rfl) (by kernel_rfl) (fun _ _ _ h => h) (Or.inl ⟨by rfl, ?_⟩) (by assumption) (fun hNew => ?_)
  rotate_left
  · intro w hSw
    (try dsimp only at hSw)
    go_simp
    try with_reducible rfl
  clear hHeld
  have hHeld := hNew
  clear hNew
  try simp only [List.getElem_toArray, List.getElem_cons_succ, List.getElem_cons_zero, Act.put, List.setIfInBounds_toArray, List.set_cons_zero, List.set_cons_succ]
  refine wpAnyL_load 1 (i := 5) (oi := _) (v := ?_) rfl rfl (by kernel_rfl) (by kernel_rfl) (by kernel_rfl) (by kernel_rfl) (by kernel_rfl) (by kernel_rfl) (fun _ _ _ h => h) (Or.inl ⟨by rfl, ?_⟩) (by assumption) (fun hNew => ?_)
  rotate_left
  · intro w hSw
    (try dsimp only at hSw)
    go_simp
    try with_reducible rfl
  clear hHeld
  have hHeld := hNew
  clear hNew
  try simp only [List.getElem_toArray, List.getElem_cons_succ, List.getElem_cons_zero, Act.put, List.setIfInBounds_toArray, List.set_cons_zero, List.set_cons_succ]
  refine wpAnyL_load 2 (i := 7) (oi := _) (v := ?_) rfl rfl (by kernel_rfl) (by kernel_rfl) (by kernel_rfl) (by kernel_rfl) (by kernel_rfl) (by kernel_rfl) (fun _ _ _ h => h) (Or.inl ⟨by rfl, ?_⟩) (by assumption) (fun hNew => ?_)
  rotate_left
  · intro w hSw
    (try dsimp only at hSw)
    go_simp
    try with_reducible rfl
  clear hHeld
  have hHeld := hNew
  clear hNew
  try simp only [List.getElem_toArray, List.getElem_cons_succ, List.getElem_cons_zero, Act.put, List.setIfInBounds_toArray, List.set_cons_zero, List.set_cons_succ]
  refine wpAnyL_ready (rs := [8]) (by kernel_rfl) (by simp) ?_
  refine AllReadyL.cons (o := _) rfl (fun K hK => ?_) AllReadyL.nil
  try simp only [List.getElem_toArray, List.getElem_cons_succ, List.getElem_cons_zero]
  go_simp
  refine CP.out.mono ?_
  rintro e w3 ⟨rfl, hs3⟩
  have hz3 := hs3.blk HE.out.rp HE.out.out
  rw [← HB.out] at hz3
  have HZ := Lib.hid (five_set hz3 (.int .i64 o.1) (.slice none 0 0) (.slice none 0 0) (.int .i64 0) (.bool false))
  have HTH := Lib.hid (five_there hz3 _ rfl)
  have HS := Lib.hid (HE.out.ends HH.out hs3 (rpL o.1 (.slice none 0 0) (.slice none 0 0) 0 false))
  rw [← HB.out] at HS
  clear hz3 hs3 CP c0 q1 q2 q3 q4 q5
  clear hHeld
  refine hK.out _ _ ?_ (fun hHeld => ?_)
  · exact (HoldC.past (by kernel_rfl) (HoldC.past (by kernel_rfl) (HoldC.past (by kernel_rfl) HoldC.nil)))
  clear hK K
  try simp only [List.getElem_toArray, List.getElem_cons_succ, List.getElem_cons_zero, Act.put, List.setIfInBounds_toArray, List.set_cons_zero, List.set_cons_succ]
  refine wpAnyL_take (i := 9) (oi := _) (v := ?_) rfl (by kernel_rfl) (by kernel_rfl) (by kernel_rfl) (by kernel_rfl) (by kernel_rfl) (fun _ _ _ h => h) (Or.inl ⟨by rfl, ?_⟩) (by assumption) (fun hNew => ?_)
  rotate_left
  · intro w _
    go_simp
    try with_reducible rfl
  clear hHeld
  have hHeld := hNew
  clear hNew
  try simp only [List.getElem_toArray, List.getElem_cons_succ, List.getElem_cons_zero, Act.put, List.setIfInBounds_toArray, List.set_cons_zero, List.set_cons_succ]
  refine wpAnyL_ready (rs := [10]) (by kernel_rfl) (by simp) ?_
  refine AllReadyL.cons (o := _) rfl (fun K hK => ?_) AllReadyL.nil
  try simp only [List.getElem_toArray, List.getElem_cons_succ, List.getElem_cons_zero]
  rw [if_pos (by rfl)]
  refine wp_store_mid 32 (.tmp 4) (.tmp 14) (by rfl) (B + 1) 0 (rpL o.1 (.slice none 0 0) (.slice none 0 0) 0 false).toArray (by rfl) (by rfl) HTH.out (rp_size _ _ _ _ _) (err_all _) ?_
  clear hHeld
  refine hK.out _ _ ?_ (fun hHeld => ?_)
  · exact (HoldC.past (by kernel_rfl) (HoldC.past (by kernel_rfl) (HoldC.past (by kernel_rfl) HoldC.nil)))
  clear hK K
  try simp only [List.getElem_toArray, List.getElem_cons_succ, List.getElem_cons_zero, Act.put, List.setIfInBounds_toArray, List.set_cons_zero, List.set_cons_succ]
  refine wpAnyL_done (by kernel_rfl) ?_ _
  clear hHeld
  go_wp2
  exact bodyPost_ret (ret_rp rfl _ rfl HZ.out) rfl ⟨_, rfl, RpAt.err _, HS.out⟩
end
end Go.Proofs.YtdkhmfcfihbjeaaGreatDoor.W

/- Package server: the other deeds (printed by gen_svb.py). -/
namespace Go.Proofs.YtdkhmfcfihbjeaaGreatDoor.W
open Go.RowKit
set_option linter.unusedVariables false
set_option linter.unusedSimpArgs false

theorem five_cells {w : World} {N t : Nat} {a0 a1 a2 a3 a4 : Value} (h : w.heap[N]? = some (.cells #[a0, a1, a2, a3, a4] t (0, 0))) :
    (w.cell? ⟨N, 0, none⟩ = some a0 ∧ w.cell? ⟨N, 1, none⟩ = some a1 ∧ w.cell? ⟨N, 2, none⟩ = some a2 ∧ w.cell? ⟨N, 3, none⟩ = some a3 ∧ w.cell? ⟨N, 4, none⟩ = some a4) ∧
    w.frozen? ⟨N, 0, none⟩ = false ∧ w.frozen? ⟨N, 1, none⟩ = false ∧ w.frozen? ⟨N, 2, none⟩ = false ∧ w.frozen? ⟨N, 3, none⟩ = false ∧ w.frozen? ⟨N, 4, none⟩ = false :=
  ⟨⟨blk_cell h 0 _ rfl, blk_cell h 1 _ rfl, blk_cell h 2 _ rfl, blk_cell h 3 _ rfl, blk_cell h 4 _ rfl⟩, blk_frozen h 0, blk_frozen h 1, blk_frozen h 2, blk_frozen h 3, blk_frozen h 4⟩
theorem Std.calm {G U : List Nat} {w w' : World} {q p : Nat} {t : Sto} (h : StAt G w q p U t) (hc : Chg [] w w') : Std G w w' q p U t := ⟨U, h.keep0 hc, fun x hx => .inl hx, hc.mono (by simp)⟩
section
variable {G U : List Nat} {z q p : Nat} {t : Sto}
theorem Begins.calm {w w2 w3 : World} {r : Rq} {bv : Value} (hb : Begins G w w2 z q p U t r bv) (h : SvAt G w z q p U t) (hc : Chg [] w2 w3) (u : List Value) : Std G w (w3.setCells (w.heap.size + 1) 0 u) q p U t :=
  hb.ends h (Std.calm hb.st hc) u

set_option maxHeartbeats 4000000 in
set_option maxRecDepth 100000 in
theorem svget_any (r : Rq) (bv : Value) (w : World) (h : SvAt G w z q p U t) (hb : ∃ a n c, bv = .slice a n c) (hx : okD r.x) :
    Calls Tryz.prog 83 #[.pointer (some ⟨z, 0, none⟩), rqV r bv] w (DeedPost G w q p U ⟨lostOf t.whole (t.get r.x).2, (t.get r.x).1, [], 0, false⟩ t) := by
  have HE0 := Lib.hid (h.begins r bv)
  obtain ⟨w2, hw2⟩ : ∃ w2, w2 = (w.alloc (.cells (rqL r bv).toArray 40)).alloc (.cells zeroRp 32) := ⟨_, rfl⟩
  rw [← hw2] at HE0
  have HE := Lib.hid HE0.out.drew
  have c0 := blk_cell HE0.out.head 0 _ rfl
  have c00 := blk_cell h.head 0 _ rfl
  obtain ⟨B, hB⟩ : ∃ B, B = w.heap.size := ⟨_, rfl⟩
  have hrq := HE0.out.rq
  rw [← hB] at hrq
  have q1 := blk_cell hrq 1 _ rfl
  have q2 := blk_cell hrq 2 _ rfl
  have q3 := blk_cell hrq 3 _ rfl
  have q4 := blk_cell hrq 4 _ rfl
  have q5 := blk_cell hrq 5 _ rfl
  have HRP := Lib.hid HE0.out.rp
  rw [← hB] at HRP
  have HH := Lib.hid h
  have HW2 := Lib.hid hw2
  have HB := Lib.hid hB
  have CP := Lib.hid (stget_any q p U t r.x w2.drew HE.out.st hx)
  obtain ⟨o, hoe⟩ : ∃ o, o = t.get r.x := ⟨_, rfl⟩
  rw [← hoe] at CP
  rw [← hoe]
  obtain ⟨b3, e3⟩ := o
  have CWH := Lib.hid (fun w' (hc : Chg [] w2.drew w') => stwhole_any q p U t w' (HE.out.st.keep0 hc))
  obtain ⟨wh, hwh⟩ : ∃ wh, wh = t.whole := ⟨_, rfl⟩
  rw [← hwh] at CWH
  rw [← hwh]
  clear hx hoe hwh
  obtain ⟨k, ⟨xc, xl, xn, xi⟩, b⟩ := r
  obtain ⟨ba, bn, bc, hbv⟩ := hb
  subst hbv
  clear hw2 hB hrq HE0 h
  unfold rqV rqL
  unfold rqL at HW2
  try dsimp only at q1 q2 q3 q4 q5
  unfold idV idC at CP
  try dsimp only at CP
  rw [show zeroRp = #[.int .i64 0, .slice none 0 0, .slice none 0 0, .int .i64 0, .bool false] from rfl] at HW2
  have c0L := c0
  rw [HW2.out] at c0L
  go_enter Tryz.func83, Tryz.ntmps83
  go_wp2_with fail
  clear c0L
  rw [← HB.out]
  rw [← HW2.out]
  refine wp_region_L [(6, fun w' => w'.cell? ⟨z, 0, none⟩ = some (.pointer (some ⟨q, 0, none⟩))), (6, fun w' => (w'.cell? ⟨B, 1, none⟩ = some (.int .i64 xc) ∧ w'.cell? ⟨B, 2, none⟩ = some (.int .i64 xl) ∧ w'.cell? ⟨B, 3, none⟩ = some (.int .i64 xn) ∧ w'.cell? ⟨B, 4, none⟩ = some (.int .i64 xi)))] (by kernel_rfl) ?_ (fun hHeld => ?_)
  · exact (HoldC.cons (c0) (HoldC.cons (⟨q1, q2, q3, q4⟩) HoldC.nil))
  refine wpAnyL_take (i := 0) (oi := _) (v := ?_) rfl (by kernel_rfl) (by kernel_rfl) (by kernel_rfl) (by kernel_rfl) (by kernel_rfl) (fun _ _ _ h => h) (Or.inl ⟨by rfl, ?_⟩) (by assumption) (fun hNew => ?_)
  rotate_left
  · intro w _
    go_simp
    try with_reducible rfl
  clear hHeld
  have hHeld := hNew
  clear hNew
  try simp only [List.getElem_toArray, List.getElem_cons_succ, List.getElem_cons_zero, Act.put, List.setIfInBounds_toArray, List.set_cons_zero, List.set_cons_succ]
  refine wpAnyL_take (i := 1) (oi := _) (v := ?_) rfl (by kernel_rfl) (by kernel_rfl) (by kernel_rfl) (by kernel_rfl) (by kernel_rfl) (fun _ _ _ h => h) (Or.inl ⟨by rfl, ?_⟩) (by assumption) (fun hNew => ?_)
  rotate_left
  · intro w _
    go_simp
    try with_reducible rfl
  clear hHeld
  have hHeld := hNew
  clear hNew
  try simp only [List.getElem_toArray, List.getElem_cons_succ, List.getElem_cons_zero, Act.put, List.setIfInBounds_toArray, List.set_cons_zero, List.set_cons_succ]
  refine wpAnyL_take (i := 2) (oi := _) (v := ?_) rfl (by kernel_rfl) (by kernel_rfl) (by kernel_rfl) (by kernel_rfl) (by kernel_rfl) (fun _ _ _ h => h) (Or.inl ⟨by rfl, ?_⟩) (by assumption) (fun hNew => ?_)
  rotate_left
  · intro w _
    go_simp
    try with_reducible rfl
  clear hHeld
  have hHeld := hNew
  clear hNew
  try simp only [List.getElem_toArray, List.getElem_cons_succ, List.getElem_cons_zero, Act.put, List.setIfInBounds_toArray, List.set_cons_zero, List.set_cons_succ]
  refine wpAnyL_take (i := 4) (oi := _) (v := ?_) rfl (by kernel_rfl) (by kernel_rfl) (by kernel_rfl) (by kernel_rfl) (by kernel_rfl) (fun _ _ _ h => h) (Or.inl ⟨by rfl, ?_⟩) (by assumption) (fun hNew => ?_)
  rotate_left
  · intro w _
    go_simp
    try with_reducible rfl
  clear hHeld
  have hHeld := hNew
  clear hNew
  try simp only [List.getElem_toArray, List.getElem_cons_succ, List.getElem_cons_zero, Act.put, List.setIfInBounds_toArray, List.set_cons_zero, List.set_cons_succ]
  refine wpAnyL_load 0 (i := 3) (oi := _) (v := ?_) rfl rfl (by kernel_rfl) (by kernel_rfl) (by kernel_rfl) (by kernel_rfl) (by kernel_rfl) (by kernel_rfl) (fun _ _ _ h => h) (Or.inl ⟨by rfl, ?_⟩) (by assumption) (fun hNew => ?_)
  rotate_left
  · intro w hSw
    (try dsimp only at hSw)
    go_simp
    try with_reducible rfl
  clear hHeld
  have hHeld := hNew
  clear hNew
  try simp only [List.getElem_toArray, List.getElem_cons_succ, List.getElem_cons_zero, Act.put, List.setIfInBounds_toArray, List.set_cons_zero, List.set_cons_succ]
  refine wpAnyL_load 1 (i := 5) (oi := _) (v := ?_) rfl rfl (by kernel_rfl) (by kernel_rfl) (by kernel_rfl) (by kernel_rfl) (by kernel_rfl) (by kernel_rfl) (fun _ _ _ h => h) (Or.inl ⟨by rfl, ?_⟩) (by assumption) (fun hNew => ?_)
  rotate_left
  · intro w hSw
    (try dsimp only at hSw)
    go_simp
    try with_reducible rfl
  clear hHeld
  have hHeld := hNew
  clear hNew
  try simp only [List.getElem_toArray, List.getElem_cons_succ, List.getElem_cons_zero, Act.put, List.setIfInBounds_toArray, List.set_cons_zero, List.set_cons_succ]
  refine wpAnyL_ready (rs := [6]) (by kernel_rfl) (by simp) ?_
  refine AllReadyL.cons (o := _) rfl (fun K hK => ?_) AllReadyL.nil
  try simp only [List.getElem_toArray, List.getElem_cons_succ, List.getElem_cons_zero]
  go_simp
  refine CP.out.mono ?_
  rintro e w3 ⟨⟨v3, rfl, hb3, hn3⟩, hc3⟩
  dsimp only at hb3
  obtain ⟨a3, c3, rfl⟩ := hb3.slice
  have hz3 := hc3.keep HE.out.rp (by simp)
  rw [← HB.out] at hz3
  have HZ3 := Lib.hid hz3
  have HN3 : Hid (∀ g, (Value.slice a3 b3.length c3).ownBlock = some g → w.heap.size ≤ g) := Lib.hid (fun g hg => Nat.le_trans HE.out.chg.size (hn3 g hg))
  have HBX : Hid (∀ u, BytesAt (w3.setCells (B + 1) 0 u) (.slice a3 b3.length c3) b3) := Lib.hid (fun u => hb3.chg (S := [B + 1]) ((Chg.refl _ w3).setCells (.inl (by simp)) u) (fun g hg hm => by
    have h1 := hn3 g hg
    have h2 := (HE.out.new _ (List.mem_cons_self ..)).2
    rw [← HB.out] at h2
    have := List.mem_singleton.1 hm
    omega))
  have CW3 := Lib.hid (CWH.out w3 hc3)
  have HC3 := Lib.hid hc3
  have c3z := hc3.cell (show w2.drew.cell? ⟨z, 0, none⟩ = some (.pointer (some ⟨q, 0, none⟩)) from c0) (by simp)
  clear hz3 hb3 hn3 hc3 CP CWH c0 c00 q1 q2 q3 q4 q5
  clear hHeld
  refine hK.out _ _ ?_ (fun hHeld => ?_)
  · exact (HoldC.past (by kernel_rfl) (HoldC.past (by kernel_rfl) HoldC.nil))
  clear hK K
  try simp only [List.getElem_toArray, List.getElem_cons_succ, List.getElem_cons_zero, Act.put, List.setIfInBounds_toArray, List.set_cons_zero, List.set_cons_succ]
  refine wpAnyL_take (i := 7) (oi := _) (v := ?_) rfl (by kernel_rfl) (by kernel_rfl) (by kernel_rfl) (by kernel_rfl) (by kernel_rfl) (fun _ _ _ h => h) (Or.inl ⟨by rfl, ?_⟩) (by assumption) (fun hNew => ?_)
  rotate_left
  · intro w _
    go_simp
    try with_reducible rfl
  clear hHeld
  have hHeld := hNew
  clear hNew
  try simp only [List.getElem_toArray, List.getElem_cons_succ, List.getElem_cons_zero, Act.put, List.setIfInBounds_toArray, List.set_cons_zero, List.set_cons_succ]
  refine wpAnyL_take (i := 8) (oi := _) (v := ?_) rfl (by kernel_rfl) (by kernel_rfl) (by kernel_rfl) (by kernel_rfl) (by kernel_rfl) (fun _ _ _ h => h) (Or.inl ⟨by rfl, ?_⟩) (by assumption) (fun hNew => ?_)
  rotate_left
  · intro w _
    go_simp
    try with_reducible rfl
  clear hHeld
  have hHeld := hNew
  clear hNew
  try simp only [List.getElem_toArray, List.getElem_cons_succ, List.getElem_cons_zero, Act.put, List.setIfInBounds_toArray, List.set_cons_zero, List.set_cons_succ]
  refine wpAnyL_take (i := 9) (oi := _) (v := ?_) rfl (by kernel_rfl) (by kernel_rfl) (by kernel_rfl) (by kernel_rfl) (by kernel_rfl) (fun _ _ _ h => h) (Or.inl ⟨by rfl, ?_⟩) (by assumption) (fun hNew => ?_)
  rotate_left
  · intro w _
    go_simp
    try with_reducible rfl
  clear hHeld
  have hHeld := hNew
  clear hNew
  try simp only [List.getElem_toArray, List.getElem_cons_succ, List.getElem_cons_zero, Act.put, List.setIfInBounds_toArray, List.set_cons_zero, List.set_cons_succ]
  refine wpAnyL_take (i := 10) (oi := _) (v := ?_) rfl (by kernel_rfl) (by kernel_rfl) (by kernel_rfl) (by kernel_rfl) (by kernel_rfl) (fun _ _ _ h => h) (Or.inl ⟨by rfl, ?_⟩) (by assumption) (fun hNew => ?_)
  rotate_left
  · intro w _
    go_simp
    try with_reducible rfl
  clear hHeld
  have hHeld := hNew
  clear hNew
  try simp only [List.getElem_toArray, List.getElem_cons_succ, List.getElem_cons_zero, Act.put, List.setIfInBounds_toArray, List.set_cons_zero, List.set_cons_succ]
  refine wpAnyL_take (i := 11) (oi := _) (v := ?_) rfl (by kernel_rfl) (by kernel_rfl) (by kernel_rfl) (by kernel_rfl) (by kernel_rfl) (fun _ _ _ h => h) (Or.inl ⟨by rfl, ?_⟩) (by assumption) (fun hNew => ?_)
  rotate_left
  · intro w _
    go_simp
    try with_reducible rfl
  clear hHeld
  have hHeld := hNew
  clear hNew
  try simp only [List.getElem_toArray, List.getElem_cons_succ, List.getElem_cons_zero, Act.put, List.setIfInBounds_toArray, List.set_cons_zero, List.set_cons_succ]
  refine wpAnyL_done (by kernel_rfl) ?_ _
  clear hHeld
  by_cases he : e3 = 6
  · subst he
    cases wh
    · go_wp2_with fail
      refine CW3.out.mono ?_
      rintro e w' ⟨rfl, hq⟩
      subst hq
      have HS := Lib.hid (HE.out.calm HH.out HC3.out (rpL 15 (.slice a3 b3.length c3) (.slice none 0 0) 0 false))
      rw [← HB.out] at HS
      have HZ := Lib.hid (five_set HZ3.out (.int .i64 15) (.slice a3 b3.length c3) (.slice none 0 0) (.int .i64 0) (.bool false))
      obtain ⟨⟨m0, m1, m2, m3, m4⟩, f0, f1, f2, f3, f4⟩ := five_cells HZ3.out
      go_wp2_with fail
      exact bodyPost_ret (ret_rp rfl _ rfl HZ.out) rfl ⟨_, rfl, ⟨.slice a3 b3.length c3, .slice none 0 0, by unfold lostOf; rw [if_pos ⟨rfl, rfl⟩], HBX.out (rpL 15 (.slice a3 b3.length c3) (.slice none 0 0) 0 false), HN3.out, World.ownsRow_nil _ _ _ _⟩, HS.out⟩

    · go_wp2_with fail
      refine CW3.out.mono ?_
      rintro e w' ⟨rfl, hq⟩
      subst hq
      have HS := Lib.hid (HE.out.calm HH.out HC3.out (rpL 6 (.slice a3 b3.length c3) (.slice none 0 0) 0 false))
      rw [← HB.out] at HS
      have HZ := Lib.hid (five_set HZ3.out (.int .i64 6) (.slice a3 b3.length c3) (.slice none 0 0) (.int .i64 0) (.bool false))
      obtain ⟨⟨m0, m1, m2, m3, m4⟩, f0, f1, f2, f3, f4⟩ := five_cells HZ3.out
      go_wp2_with fail
      exact bodyPost_ret (ret_rp rfl _ rfl HZ.out) rfl ⟨_, rfl, ⟨.slice a3 b3.length c3, .slice none 0 0, by unfold lostOf; rw [if_neg (by simp)], HBX.out (rpL 6 (.slice a3 b3.length c3) (.slice none 0 0) 0 false), HN3.out, World.ownsRow_nil _ _ _ _⟩, HS.out⟩

  · have qe : (e3 == 6) = false := by simp [he]
    have HEN := Lib.hid he
    clear he
    have HS := Lib.hid (HE.out.calm HH.out HC3.out (rpL e3 (.slice a3 b3.length c3) (.slice none 0 0) 0 false))
    rw [← HB.out] at HS
    have HZ := Lib.hid (five_set HZ3.out (.int .i64 e3) (.slice a3 b3.length c3) (.slice none 0 0) (.int .i64 0) (.bool false))
    obtain ⟨⟨m0, m1, m2, m3, m4⟩, f0, f1, f2, f3, f4⟩ := five_cells HZ3.out
    go_wp2_with fail
    exact bodyPost_ret (ret_rp rfl _ rfl HZ.out) rfl ⟨_, rfl, ⟨.slice a3 b3.length c3, .slice none 0 0, by unfold lostOf; rw [if_neg (fun hh => HEN.out hh.1)], HBX.out (rpL e3 (.slice a3 b3.length c3) (.slice none 0 0) 0 false), HN3.out, World.ownsRow_nil _ _ _ _⟩, HS.out⟩

set_option maxHeartbeats 4000000 in
set_option maxRecDepth 100000 in
theorem svdel_any (r : Rq) (bv : Value) (w : World) (h : SvAt G w z q p U t) (hb : ∃ a n c, bv = .slice a n c) (hx : okD r.x) (ho : t.s.d.ops ≤ 800000000) (hw : t.s.d.since.length ≤ 800000) :
    Calls Tryz.prog 84 #[.pointer (some ⟨z, 0, none⟩), rqV r bv] w (DeedPost G w q p U (errRp (t.del r.x).1) (t.del r.x).2) := by
  have HE0 := Lib.hid (h.begins r bv)
  obtain ⟨w2, hw2⟩ : ∃ w2, w2 = (w.alloc (.cells (rqL r bv).toArray 40)).alloc (.cells zeroRp 32) := ⟨_, rfl⟩
  rw [← hw2] at HE0
  have HE := Lib.hid HE0.out.drew
  have c0 := blk_cell HE0.out.head 0 _ rfl
  have c00 := blk_cell h.head 0 _ rfl
  obtain ⟨B, hB⟩ : ∃ B, B = w.heap.size := ⟨_, rfl⟩
  have hrq := HE0.out.rq
  rw [← hB] at hrq
  have q1 := blk_cell hrq 1 _ rfl
  have q2 := blk_cell hrq 2 _ rfl
  have q3 := blk_cell hrq 3 _ rfl
  have q4 := blk_cell hrq 4 _ rfl
  have q5 := blk_cell hrq 5 _ rfl
  have HRP := Lib.hid HE0.out.rp
  rw [← hB] at HRP
  have HH := Lib.hid h
  have HW2 := Lib.hid hw2
  have HB := Lib.hid hB
  have CP := Lib.hid (stdel_any q p U t r.x w2.drew HE.out.st hx ho hw)
  obtain ⟨o, hoe⟩ : ∃ o, o = t.del r.x := ⟨_, rfl⟩
  rw [← hoe] at CP
  rw [← hoe]
  clear hx hoe
  obtain ⟨k, ⟨xc, xl, xn, xi⟩, b⟩ := r
  obtain ⟨ba, bn, bc, hbv⟩ := hb
  subst hbv
  clear hw2 hB hrq HE0 h
  unfold rqV rqL
  unfold rqL at HW2
  try dsimp only at q1 q2 q3 q4 q5
  unfold idV idC at CP
  try dsimp only at CP
  rw [show zeroRp = #[.int .i64 0, .slice none 0 0, .slice none 0 0, .int .i64 0, .bool false] from rfl] at HW2
  have c0L := c0
  rw [HW2.out] at c0L
  go_enter Tryz.func84, Tryz.ntmps84
  go_wp2_with fail
  clear c0L
  rw [← HB.out]
  rw [← HW2.out]
  refine wp_region_L [(6, fun w' => w'.cell? ⟨z, 0, none⟩ = some (.pointer (some ⟨q, 0, none⟩))), (6, fun w' => (w'.cell? ⟨B, 1, none⟩ = some (.int .i64 xc) ∧ w'.cell? ⟨B, 2, none⟩ = some (.int .i64 xl) ∧ w'.cell? ⟨B, 3, none⟩ = some (.int .i64 xn) ∧ w'.cell? ⟨B, 4, none⟩ = some (.int .i64 xi)))] (by kernel_rfl) ?_ (fun hHeld => ?_)
  · exact (HoldC.cons (c0) (HoldC.cons (⟨q1, q2, q3, q4⟩) HoldC.nil))
  refine wpAnyL_take (i := 0) (oi := _) (v := ?_) rfl (by kernel_rfl) (by kernel_rfl) (by kernel_rfl) (by kernel_rfl) (by kernel_rfl) (fun _ _ _ h => h) (Or.inl ⟨by rfl, ?_⟩) (by assumption) (fun hNew => ?_)
  rotate_left
  · intro w _
    go_simp
    try with_reducible rfl
  clear hHeld
  have hHeld := hNew
  clear hNew
  try simp only [List.getElem_toArray, List.getElem_cons_succ, List.getElem_cons_zero, Act.put, List.setIfInBounds_toArray, List.set_cons_zero, List.set_cons_succ]
  refine wpAnyL_take (i := 1) (oi := _) (v := ?_) rfl (by kernel_rfl) (by kernel_rfl) (by kernel_rfl) (by kernel_rfl) (by kernel_rfl) (fun _ _ _ h => h) (Or.inl ⟨by rfl, ?_⟩) (by assumption) (fun hNew => ?_)
  rotate_left
  · intro w _
    go_simp
    try with_reducible rfl
  clear hHeld
  have hHeld := hNew
  clear hNew
  try simp only [List.getElem_toArray, List.getElem_cons_succ, List.getElem_cons_zero, Act.put, List.setIfInBounds_toArray, List.set_cons_zero, List.set_cons_succ]
  refine wpAnyL_take (i := 2) (oi := _) (v := ?_) rfl (by kernel_rfl) (by kernel_rfl) (by kernel_rfl) (by kernel_rfl) (by kernel_rfl) (fun _ _ _ h => h) (Or.inl ⟨by rfl, ?_⟩) (by assumption) (fun hNew => ?_)
  rotate_left
  · intro w _
    go_simp
    try with_reducible rfl
  clear hHeld
  have hHeld := hNew
  clear hNew
  try simp only [List.getElem_toArray, List.getElem_cons_succ, List.getElem_cons_zero, Act.put, List.setIfInBounds_toArray, List.set_cons_zero, List.set_cons_succ]
  refine wpAnyL_take (i := 4) (oi := _) (v := ?_) rfl (by kernel_rfl) (by kernel_rfl) (by kernel_rfl) (by kernel_rfl) (by kernel_rfl) (fun _ _ _ h => h) (Or.inl ⟨by rfl, ?_⟩) (by assumption) (fun hNew => ?_)
  rotate_left
  · intro w _
    go_simp
    try with_reducible rfl
  clear hHeld
  have hHeld := hNew
  clear hNew
  try simp only [List.getElem_toArray, List.getElem_cons_succ, List.getElem_cons_zero, Act.put, List.setIfInBounds_toArray, List.set_cons_zero, List.set_cons_succ]
  refine wpAnyL_load 0 (i := 3) (oi := _) (v := ?_) rfl rfl (by kernel_rfl) (by kernel_rfl) (by kernel_rfl) (by kernel_rfl) (by kernel_rfl) (by kernel_rfl) (fun _ _ _ h => h) (Or.inl ⟨by rfl, ?_⟩) (by assumption) (fun hNew => ?_)
  rotate_left
  · intro w hSw
    (try dsimp only at hSw)
    go_simp
    try with_reducible rfl
  clear hHeld
  have hHeld := hNew
  clear hNew
  try simp only [List.getElem_toArray, List.getElem_cons_succ, List.getElem_cons_zero, Act.put, List.setIfInBounds_toArray, List.set_cons_zero, List.set_cons_succ]
  refine wpAnyL_load 1 (i := 5) (oi := _) (v := ?_) rfl rfl (by kernel_rfl) (by kernel_rfl) (by kernel_rfl) (by kernel_rfl) (by kernel_rfl) (by kernel_rfl) (fun _ _ _ h => h) (Or.inl ⟨by rfl, ?_⟩) (by assumption) (fun hNew => ?_)
  rotate_left
  · intro w hSw
    (try dsimp only at hSw)
    go_simp
    try with_reducible rfl
  clear hHeld
  have hHeld := hNew
  clear hNew
  try simp only [List.getElem_toArray, List.getElem_cons_succ, List.getElem_cons_zero, Act.put, List.setIfInBounds_toArray, List.set_cons_zero, List.set_cons_succ]
  refine wpAnyL_ready (rs := [6]) (by kernel_rfl) (by simp) ?_
  refine AllReadyL.cons (o := _) rfl (fun K hK => ?_) AllReadyL.nil
  try simp only [List.getElem_toArray, List.getElem_cons_succ, List.getElem_cons_zero]
  go_simp
  refine CP.out.mono ?_
  rintro e w3 ⟨rfl, hs3⟩
  have hz3 := hs3.blk HE.out.rp HE.out.out
  rw [← HB.out] at hz3
  have HZ := Lib.hid (five_set hz3 (.int .i64 o.1) (.slice none 0 0) (.slice none 0 0) (.int .i64 0) (.bool false))
  have HTH := Lib.hid (five_there hz3 _ rfl)
  have HS := Lib.hid (HE.out.ends HH.out hs3 (rpL o.1 (.slice none 0 0) (.slice none 0 0) 0 false))
  rw [← HB.out] at HS
  clear hz3 hs3 CP c0 c00 q1 q2 q3 q4 q5
  clear hHeld
  refine hK.out _ _ ?_ (fun hHeld => ?_)
  · exact (HoldC.past (by kernel_rfl) (HoldC.past (by kernel_rfl) HoldC.nil))
  clear hK K
  try simp only [List.getElem_toArray, List.getElem_cons_succ, List.getElem_cons_zero, Act.put, List.setIfInBounds_toArray, List.set_cons_zero, List.set_cons_succ]
  refine wpAnyL_take (i := 7) (oi := _) (v := ?_) rfl (by kernel_rfl) (by kernel_rfl) (by kernel_rfl) (by kernel_rfl) (by kernel_rfl) (fun _ _ _ h => h) (Or.inl ⟨by rfl, ?_⟩) (by assumption) (fun hNew => ?_)
  rotate_left
  · intro w _
    go_simp
    try with_reducible rfl
  clear hHeld
  have hHeld := hNew
  clear hNew
  try simp only [List.getElem_toArray, List.getElem_cons_succ, List.getElem_cons_zero, Act.put, List.setIfInBounds_toArray, List.set_cons_zero, List.set_cons_succ]
  refine wpAnyL_ready (rs := [8]) (by kernel_rfl) (by simp) ?_
  refine AllReadyL.cons (o := _) rfl (fun K hK => ?_) AllReadyL.nil
  try simp only [List.getElem_toArray, List.getElem_cons_succ, List.getElem_cons_zero]
  rw [if_pos (by rfl)]
  refine wp_store_mid 32 (.tmp 4) (.tmp 12) (by rfl) (B + 1) 0 (rpL o.1 (.slice none 0 0) (.slice none 0 0) 0 false).toArray (by rfl) (by rfl) HTH.out (rp_size _ _ _ _ _) (err_all _) ?_
  clear hHeld
  refine hK.out _ _ ?_ (fun hHeld => ?_)
  · exact (HoldC.past (by kernel_rfl) (HoldC.past (by kernel_rfl) HoldC.nil))
  clear hK K
  try simp only [List.getElem_toArray, List.getElem_cons_succ, List.getElem_cons_zero, Act.put, List.setIfInBounds_toArray, List.set_cons_zero, List.set_cons_succ]
  refine wpAnyL_done (by kernel_rfl) ?_ _
  clear hHeld
  go_wp2
  exact bodyPost_ret (ret_rp rfl _ rfl HZ.out) rfl ⟨_, rfl, RpAt.err _, HS.out⟩

set_option maxHeartbeats 4000000 in
set_option maxRecDepth 100000 in
theorem svlist_any (r : Rq) (bv : Value) (w : World) (h : SvAt G w z q p U t) (hb : ∃ a n c, bv = .slice a n c) :
    Calls Tryz.prog 85 #[.pointer (some ⟨z, 0, none⟩), rqV r bv] w (DeedPost G w q p U ⟨0, [], t.ids, 0, false⟩ t) := by
  have HE0 := Lib.hid (h.begins r bv)
  obtain ⟨w2, hw2⟩ : ∃ w2, w2 = (w.alloc (.cells (rqL r bv).toArray 40)).alloc (.cells zeroRp 32) := ⟨_, rfl⟩
  rw [← hw2] at HE0
  have HE := Lib.hid HE0.out
  have c0 := blk_cell HE0.out.head 0 _ rfl
  have c00 := blk_cell h.head 0 _ rfl
  obtain ⟨B, hB⟩ : ∃ B, B = w.heap.size := ⟨_, rfl⟩
  have hrq := HE0.out.rq
  rw [← hB] at hrq
  have q1 := blk_cell hrq 1 _ rfl
  have q2 := blk_cell hrq 2 _ rfl
  have q3 := blk_cell hrq 3 _ rfl
  have q4 := blk_cell hrq 4 _ rfl
  have q5 := blk_cell hrq 5 _ rfl
  have HRP := Lib.hid HE0.out.rp
  rw [← hB] at HRP
  have HH := Lib.hid h
  have HW2 := Lib.hid hw2
  have HB := Lib.hid hB
  have CP := Lib.hid (stlist_any q p U t w2 HE.out.st)
  obtain ⟨ids, hids⟩ : ∃ ids, ids = t.ids := ⟨_, rfl⟩
  rw [← hids] at CP
  rw [← hids]
  clear hids
  obtain ⟨k, ⟨xc, xl, xn, xi⟩, b⟩ := r
  obtain ⟨ba, bn, bc, hbv⟩ := hb
  subst hbv
  clear hw2 hB hrq HE0 h
  unfold rqV rqL
  unfold rqL at HW2
  try dsimp only at q1 q2 q3 q4 q5

  rw [show zeroRp = #[.int .i64 0, .slice none 0 0, .slice none 0 0, .int .i64 0, .bool false] from rfl] at HW2
  have c0L := c0
  rw [HW2.out] at c0L
  go_enter Tryz.func85, Tryz.ntmps85
  go_wp2_with fail
  clear c0L
  rw [← HB.out]
  rw [← HW2.out]

  refine CP.out.mono ?_
  rintro e w3 ⟨v3, rfl, hr3, hc3⟩
  have hz3 := hc3.keep HE.out.rp (by simp)
  rw [← HB.out] at hz3
  obtain ⟨a3, c3, rfl⟩ : ∃ a c, v3 = .slice a ids.length c := by
    rcases hr3.2 with ⟨h1, h2⟩ | ⟨g, cap, cur, h1, _⟩
    · exact ⟨none, 0, by rw [h1, h2]⟩
    · exact ⟨_, cap, h1⟩
  have HZ := Lib.hid (five_set hz3 (.int .i64 0) (.slice none 0 0) (.slice a3 ids.length c3) (.int .i64 0) (.bool false))
  have HS := Lib.hid (HE.out.calm HH.out hc3 (rpL 0 (.slice none 0 0) (.slice a3 ids.length c3) 0 false))
  have HR : Hid ((w3.setCells (w.heap.size + 1) 0 (rpL 0 (.slice none 0 0) (.slice a3 ids.length c3) 0 false)).ownsRow w.heap.size 38 4 (.slice a3 ids.length c3) ids.length (ids.flatMap idE)) := Lib.hid (by
    have hlo : ∀ g, (Value.slice a3 ids.length c3).ownBlock = some g → w2.heap.size ≤ g := fun g hg => (World.ownsRow.lt hr3 g hg).1
    have hb2 := HE.out.new _ (List.mem_cons_self ..)
    refine row_keep (row_base hr3 w.heap.size (fun g hg => ?_)) (fun g hg => setCells_far _ _ _ _ ?_)
    · have := hlo g hg; omega
    · have := hlo g hg; omega)
  rw [← HB.out] at HS HR
  obtain ⟨⟨m0, m1, m2, m3, m4⟩, f0, f1, f2, f3, f4⟩ := five_cells hz3
  clear hz3 hr3 hc3 CP c0 c00 q1 q2 q3 q4 q5
  go_wp2_with fail
  refine bodyPost_ret (ret_rp rfl _ rfl HZ.out) rfl ⟨_, rfl, ⟨.slice none 0 0, .slice a3 ids.length c3, rfl, BytesAt.nil _, by simp [Value.ownBlock], ?_⟩, HS.out⟩
  rw [← HB.out]
  exact HR.out

set_option maxHeartbeats 4000000 in
set_option maxRecDepth 100000 in
theorem svinfo_any (r : Rq) (bv : Value) (w : World) (h : SvAt G w z q p U t) (hb : ∃ a n c, bv = .slice a n c) :
    Calls Tryz.prog 86 #[.pointer (some ⟨z, 0, none⟩), rqV r bv] w (DeedPost G w q p U ⟨0, [], [], (t.room : Int), t.whole⟩ t) := by
  have HE0 := Lib.hid (h.begins r bv)
  obtain ⟨w2, hw2⟩ : ∃ w2, w2 = (w.alloc (.cells (rqL r bv).toArray 40)).alloc (.cells zeroRp 32) := ⟨_, rfl⟩
  rw [← hw2] at HE0
  have HE := Lib.hid HE0.out.drew
  have c0 := blk_cell HE0.out.head 0 _ rfl
  have c00 := blk_cell h.head 0 _ rfl
  obtain ⟨B, hB⟩ : ∃ B, B = w.heap.size := ⟨_, rfl⟩
  have hrq := HE0.out.rq
  rw [← hB] at hrq
  have q1 := blk_cell hrq 1 _ rfl
  have q2 := blk_cell hrq 2 _ rfl
  have q3 := blk_cell hrq 3 _ rfl
  have q4 := blk_cell hrq 4 _ rfl
  have q5 := blk_cell hrq 5 _ rfl
  have HRP := Lib.hid HE0.out.rp
  rw [← hB] at HRP
  have HH := Lib.hid h
  have HW2 := Lib.hid hw2
  have HB := Lib.hid hB
  have CR := Lib.hid (stroom_any q p U t w2.drew HE.out.st)
  have CWH := Lib.hid (stwhole_any q p U t w2.drew HE.out.st)
  obtain ⟨rm, hrm⟩ : ∃ rm, rm = t.room := ⟨_, rfl⟩
  obtain ⟨wh, hwh⟩ : ∃ wh, wh = t.whole := ⟨_, rfl⟩
  rw [← hrm] at CR
  rw [← hwh] at CWH
  rw [← hrm, ← hwh]
  clear hrm hwh
  obtain ⟨k, ⟨xc, xl, xn, xi⟩, b⟩ := r
  obtain ⟨ba, bn, bc, hbv⟩ := hb
  subst hbv
  clear hw2 hB hrq HE0 h
  unfold rqV rqL
  unfold rqL at HW2
  try dsimp only at q1 q2 q3 q4 q5

  rw [show zeroRp = #[.int .i64 0, .slice none 0 0, .slice none 0 0, .int .i64 0, .bool false] from rfl] at HW2
  have c0L := c0
  rw [HW2.out] at c0L
  go_enter Tryz.func86, Tryz.ntmps86
  go_wp2_with fail
  clear c0L
  rw [← HB.out]
  rw [← HW2.out]

  have hz3 := HE.out.rp
  rw [← HB.out] at hz3
  have HZ := Lib.hid (five_set hz3 (.int .i64 0) (.slice none 0 0) (.slice none 0 0) (.int .i64 (rm : Int)) (.bool wh))
  have HTH := Lib.hid (five_there hz3 _ rfl)
  have HS := Lib.hid (HE.out.calm HH.out (Chg.refl [] _) (rpL 0 (.slice none 0 0) (.slice none 0 0) (rm : Int) wh))
  rw [← HB.out] at HS
  clear hz3
  refine wp_region_L [(4, fun w' => w'.cell? ⟨z, 0, none⟩ = some (.pointer (some ⟨q, 0, none⟩))), (9, fun w' => w'.cell? ⟨z, 0, none⟩ = some (.pointer (some ⟨q, 0, none⟩)))] (by kernel_rfl) ?_ (fun hHeld => ?_)
  · exact (HoldC.cons (c0) (HoldC.cons (c0) HoldC.nil))
  refine wpAnyL_take (i := 0) (oi := _) (v := ?_) rfl (by kernel_rfl) (by kernel_rfl) (by kernel_rfl) (by kernel_rfl) (by kernel_rfl) (fun _ _ _ h => h) (Or.inl ⟨by rfl, ?_⟩) (by assumption) (fun hNew => ?_)
  rotate_left
  · intro w _
    go_simp
    try with_reducible rfl
  clear hHeld
  have hHeld := hNew
  clear hNew
  try simp only [List.getElem_toArray, List.getElem_cons_succ, List.getElem_cons_zero, Act.put, List.setIfInBounds_toArray, List.set_cons_zero, List.set_cons_succ]
  refine wpAnyL_take (i := 1) (oi := _) (v := ?_) rfl (by kernel_rfl) (by kernel_rfl) (by kernel_rfl) (by kernel_rfl) (by kernel_rfl) (fun _ _ _ h => h) (Or.inl ⟨by rfl, ?_⟩) (by assumption) (fun hNew => ?_)
  rotate_left
  · intro w _
    go_simp
    try with_reducible rfl
  clear hHeld
  have hHeld := hNew
  clear hNew
  try simp only [List.getElem_toArray, List.getElem_cons_succ, List.getElem_cons_zero, Act.put, List.setIfInBounds_toArray, List.set_cons_zero, List.set_cons_succ]
  refine wpAnyL_take (i := 2) (oi := _) (v := ?_) rfl (by kernel_rfl) (by kernel_rfl) (by kernel_rfl) (by kernel_rfl) (by kernel_rfl) (fun _ _ _ h => h) (Or.inl ⟨by rfl, ?_⟩) (by assumption) (fun hNew => ?_)
  rotate_left
  · intro w _
    go_simp
    try with_reducible rfl
  clear hHeld
  have hHeld := hNew
  clear hNew
  try simp only [List.getElem_toArray, List.getElem_cons_succ, List.getElem_cons_zero, Act.put, List.setIfInBounds_toArray, List.set_cons_zero, List.set_cons_succ]
  refine wpAnyL_take (i := 5) (oi := _) (v := ?_) rfl (by kernel_rfl) (by kernel_rfl) (by kernel_rfl) (by kernel_rfl) (by kernel_rfl) (fun _ _ _ h => h) (Or.inl ⟨by rfl, ?_⟩) (by assumption) (fun hNew => ?_)
  rotate_left
  · intro w _
    go_simp
    try with_reducible rfl
  clear hHeld
  have hHeld := hNew
  clear hNew
  try simp only [List.getElem_toArray, List.getElem_cons_succ, List.getElem_cons_zero, Act.put, List.setIfInBounds_toArray, List.set_cons_zero, List.set_cons_succ]
  refine wpAnyL_take (i := 6) (oi := _) (v := ?_) rfl (by kernel_rfl) (by kernel_rfl) (by kernel_rfl) (by kernel_rfl) (by kernel_rfl) (fun _ _ _ h => h) (Or.inl ⟨by rfl, ?_⟩) (by assumption) (fun hNew => ?_)
  rotate_left
  · intro w _
    go_simp
    try with_reducible rfl
  clear hHeld
  have hHeld := hNew
  clear hNew
  try simp only [List.getElem_toArray, List.getElem_cons_succ, List.getElem_cons_zero, Act.put, List.setIfInBounds_toArray, List.set_cons_zero, List.set_cons_succ]
  refine wpAnyL_take (i := 7) (oi := _) (v := ?_) rfl (by kernel_rfl) (by kernel_rfl) (by kernel_rfl) (by kernel_rfl) (by kernel_rfl) (fun _ _ _ h => h) (Or.inl ⟨by rfl, ?_⟩) (by assumption) (fun hNew => ?_)
  rotate_left
  · intro w _
    go_simp
    try with_reducible rfl
  clear hHeld
  have hHeld := hNew
  clear hNew
  try simp only [List.getElem_toArray, List.getElem_cons_succ, List.getElem_cons_zero, Act.put, List.setIfInBounds_toArray, List.set_cons_zero, List.set_cons_succ]
  refine wpAnyL_load 0 (i := 3) (oi := _) (v := ?_) rfl rfl (by kernel_rfl) (by kernel_rfl) (by kernel_rfl) (by kernel_rfl) (by kernel_rfl) (by kernel_rfl) (fun _ _ _ h => h) (Or.inl ⟨by rfl, ?_⟩) (by assumption) (fun hNew => ?_)
  rotate_left
  · intro w hSw
    (try dsimp only at hSw)
    go_simp
    try with_reducible rfl
  clear hHeld
  have hHeld := hNew
  clear hNew
  try simp only [List.getElem_toArray, List.getElem_cons_succ, List.getElem_cons_zero, Act.put, List.setIfInBounds_toArray, List.set_cons_zero, List.set_cons_succ]
  refine wpAnyL_load 1 (i := 8) (oi := _) (v := ?_) rfl rfl (by kernel_rfl) (by kernel_rfl) (by kernel_rfl) (by kernel_rfl) (by kernel_rfl) (by kernel_rfl) (fun _ _ _ h => h) (Or.inl ⟨by rfl, ?_⟩) (by assumption) (fun hNew => ?_)
  rotate_left
  · intro w hSw
    (try dsimp only at hSw)
    go_simp
    try with_reducible rfl
  clear hHeld
  have hHeld := hNew
  clear hNew
  try simp only [List.getElem_toArray, List.getElem_cons_succ, List.getElem_cons_zero, Act.put, List.setIfInBounds_toArray, List.set_cons_zero, List.set_cons_succ]
  refine wpAnyL_ready (rs := [4]) (by kernel_rfl) (by simp) ?_
  refine AllReadyL.cons (o := _) rfl (fun K hK => ?_) AllReadyL.nil
  try simp only [List.getElem_toArray, List.getElem_cons_succ, List.getElem_cons_zero]
  go_simp
  refine CR.out.mono ?_
  rintro e w' ⟨rfl, hq⟩
  subst hq
  clear hHeld
  refine hK.out _ _ ?_ (fun hHeld => ?_)
  · exact (HoldC.past (by kernel_rfl) (HoldC.cons (c0) HoldC.nil))
  clear hK K
  try simp only [List.getElem_toArray, List.getElem_cons_succ, List.getElem_cons_zero, Act.put, List.setIfInBounds_toArray, List.set_cons_zero, List.set_cons_succ]
  refine wpAnyL_ready (rs := [9]) (by kernel_rfl) (by simp) ?_
  refine AllReadyL.cons (o := _) rfl (fun K hK => ?_) AllReadyL.nil
  try simp only [List.getElem_toArray, List.getElem_cons_succ, List.getElem_cons_zero]
  go_simp
  refine CWH.out.mono ?_
  rintro e w' ⟨rfl, hq⟩
  subst hq
  clear hHeld
  refine hK.out _ _ ?_ (fun hHeld => ?_)
  · exact (HoldC.past (by kernel_rfl) (HoldC.past (by kernel_rfl) HoldC.nil))
  clear hK K
  try simp only [List.getElem_toArray, List.getElem_cons_succ, List.getElem_cons_zero, Act.put, List.setIfInBounds_toArray, List.set_cons_zero, List.set_cons_succ]
  refine wpAnyL_take (i := 10) (oi := _) (v := ?_) rfl (by kernel_rfl) (by kernel_rfl) (by kernel_rfl) (by kernel_rfl) (by kernel_rfl) (fun _ _ _ h => h) (Or.inl ⟨by rfl, ?_⟩) (by assumption) (fun hNew => ?_)
  rotate_left
  · intro w _
    go_simp
    try with_reducible rfl
  clear hHeld
  have hHeld := hNew
  clear hNew
  try simp only [List.getElem_toArray, List.getElem_cons_succ, List.getElem_cons_zero, Act.put, List.setIfInBounds_toArray, List.set_cons_zero, List.set_cons_succ]
  refine wpAnyL_ready (rs := [11]) (by kernel_rfl) (by simp) ?_
  refine AllReadyL.cons (o := _) rfl (fun K hK => ?_) AllReadyL.nil
  try simp only [List.getElem_toArray, List.getElem_cons_succ, List.getElem_cons_zero]
  rw [if_pos (by rfl)]
  refine wp_store_mid 32 (.tmp 4) (.tmp 15) (by rfl) (B + 1) 0 (rpL 0 (.slice none 0 0) (.slice none 0 0) (rm : Int) wh).toArray (by rfl) (by rfl) HTH.out (rp_size _ _ _ _ _) (rp_all _ _ _ _ _ _ _ _ _) ?_
  clear hHeld
  refine hK.out _ _ ?_ (fun hHeld => ?_)
  · exact (HoldC.past (by kernel_rfl) (HoldC.past (by kernel_rfl) HoldC.nil))
  clear hK K
  try simp only [List.getElem_toArray, List.getElem_cons_succ, List.getElem_cons_zero, Act.put, List.setIfInBounds_toArray, List.set_cons_zero, List.set_cons_succ]
  refine wpAnyL_done (by kernel_rfl) ?_ _
  clear hHeld
  go_wp2
  exact bodyPost_ret (ret_rp rfl _ rfl HZ.out) rfl ⟨_, rfl, ⟨.slice none 0 0, .slice none 0 0, rfl, BytesAt.nil _, by simp [Value.ownBlock], World.ownsRow_nil _ _ _ _⟩, HS.out⟩

set_option maxHeartbeats 4000000 in
set_option maxRecDepth 100000 in
theorem svset_any (r : Rq) (bv : Value) (w : World) (h : SvAt G w z q p U t) (hb : ∃ a n c, bv = .slice a n c) (hn : 1 ≤ t.s.d.n) (ho : t.s.d.ops ≤ 900000000) (hw : t.s.d.since.length ≤ 900000) :
    Calls Tryz.prog 87 #[.pointer (some ⟨z, 0, none⟩), rqV r bv] w (DeedPost G w q p U (errRp t.setWhole.1) t.setWhole.2) := by
  have HE0 := Lib.hid (h.begins r bv)
  obtain ⟨w2, hw2⟩ : ∃ w2, w2 = (w.alloc (.cells (rqL r bv).toArray 40)).alloc (.cells zeroRp 32) := ⟨_, rfl⟩
  rw [← hw2] at HE0
  have HE := Lib.hid HE0.out
  have c0 := blk_cell HE0.out.head 0 _ rfl
  have c00 := blk_cell h.head 0 _ rfl
  obtain ⟨B, hB⟩ : ∃ B, B = w.heap.size := ⟨_, rfl⟩
  have hrq := HE0.out.rq
  rw [← hB] at hrq
  have q1 := blk_cell hrq 1 _ rfl
  have q2 := blk_cell hrq 2 _ rfl
  have q3 := blk_cell hrq 3 _ rfl
  have q4 := blk_cell hrq 4 _ rfl
  have q5 := blk_cell hrq 5 _ rfl
  have HRP := Lib.hid HE0.out.rp
  rw [← hB] at HRP
  have HH := Lib.hid h
  have HW2 := Lib.hid hw2
  have HB := Lib.hid hB
  have CP := Lib.hid (stsetw_any q p U t w2 HE.out.st hn ho hw)
  obtain ⟨o, hoe⟩ : ∃ o, o = t.setWhole := ⟨_, rfl⟩
  rw [← hoe] at CP
  rw [← hoe]
  clear hoe
  obtain ⟨k, ⟨xc, xl, xn, xi⟩, b⟩ := r
  obtain ⟨ba, bn, bc, hbv⟩ := hb
  subst hbv
  clear hw2 hB hrq HE0 h
  unfold rqV rqL
  unfold rqL at HW2
  try dsimp only at q1 q2 q3 q4 q5

  rw [show zeroRp = #[.int .i64 0, .slice none 0 0, .slice none 0 0, .int .i64 0, .bool false] from rfl] at HW2
  have c0L := c0
  rw [HW2.out] at c0L
  go_enter Tryz.func87, Tryz.ntmps87
  go_wp2_with fail
  clear c0L
  rw [← HB.out]
  rw [← HW2.out]

  refine CP.out.mono ?_
  rintro e w3 ⟨rfl, hs3⟩
  have hz3 := hs3.blk HE.out.rp HE.out.out
  rw [← HB.out] at hz3
  have HZ := Lib.hid (five_set hz3 (.int .i64 o.1) (.slice none 0 0) (.slice none 0 0) (.int .i64 0) (.bool false))
  have HS := Lib.hid (HE.out.ends HH.out hs3 (rpL o.1 (.slice none 0 0) (.slice none 0 0) 0 false))
  rw [← HB.out] at HS
  obtain ⟨⟨m0, m1, m2, m3, m4⟩, f0, f1, f2, f3, f4⟩ := five_cells hz3
  clear hz3 hs3 CP c0 c00 q1 q2 q3 q4 q5
  go_wp2_with fail
  exact bodyPost_ret (ret_rp rfl _ rfl HZ.out) rfl ⟨_, rfl, RpAt.err _, HS.out⟩

set_option maxHeartbeats 4000000 in
set_option maxRecDepth 100000 in
theorem svno_any (r : Rq) (bv : Value) (w : World) (h : SvAt G w z q p U t) (hb : ∃ a n c, bv = .slice a n c) :
    Calls Tryz.prog 88 #[.pointer (some ⟨z, 0, none⟩), rqV r bv] w (DeedPost G w q p U (errRp 1) t) := by
  have HE0 := Lib.hid (h.begins r bv)
  obtain ⟨w2, hw2⟩ : ∃ w2, w2 = (w.alloc (.cells (rqL r bv).toArray 40)).alloc (.cells zeroRp 32) := ⟨_, rfl⟩
  rw [← hw2] at HE0
  have HE := Lib.hid HE0.out
  have c0 := blk_cell HE0.out.head 0 _ rfl
  have c00 := blk_cell h.head 0 _ rfl
  obtain ⟨B, hB⟩ : ∃ B, B = w.heap.size := ⟨_, rfl⟩
  have hrq := HE0.out.rq
  rw [← hB] at hrq
  have q1 := blk_cell hrq 1 _ rfl
  have q2 := blk_cell hrq 2 _ rfl
  have q3 := blk_cell hrq 3 _ rfl
  have q4 := blk_cell hrq 4 _ rfl
  have q5 := blk_cell hrq 5 _ rfl
  have HRP := Lib.hid HE0.out.rp
  rw [← hB] at HRP
  have HH := Lib.hid h
  have HW2 := Lib.hid hw2
  have HB := Lib.hid hB

  obtain ⟨k, ⟨xc, xl, xn, xi⟩, b⟩ := r
  obtain ⟨ba, bn, bc, hbv⟩ := hb
  subst hbv
  clear hw2 hB hrq HE0 h
  unfold rqV rqL
  unfold rqL at HW2
  try dsimp only at q1 q2 q3 q4 q5

  rw [show zeroRp = #[.int .i64 0, .slice none 0 0, .slice none 0 0, .int .i64 0, .bool false] from rfl] at HW2
  have c0L := c0
  rw [HW2.out] at c0L
  go_enter Tryz.func88, Tryz.ntmps88
  go_wp2_with fail

  rw [← HB.out]
  have hX : Hid (((w.alloc (.cells #[.int .i64 k, .int .i64 xc, .int .i64 xl, .int .i64 xn, .int .i64 xi, .slice ba bn bc] 40)).alloc (.cells #[.int .i64 1, .slice none 0 0, .slice none 0 0, .int .i64 0, .bool false] 32)).heap[B + 1]? = some (.cells (rpL 1 (.slice none 0 0) (.slice none 0 0) 0 false).toArray 32 (0, 0))) := Lib.hid (heap_at (by rw [HB.out]; simp))
  have HS := Lib.hid (Std.calm HH.out.st (((Chg.refl [] w).alloc (.cells #[.int .i64 k, .int .i64 xc, .int .i64 xl, .int .i64 xn, .int .i64 xi, .slice ba bn bc] 40)).alloc (.cells #[.int .i64 1, .slice none 0 0, .slice none 0 0, .int .i64 0, .bool false] 32)))
  exact bodyPost_ret (ret_rp rfl _ rfl hX.out) rfl ⟨_, rfl, RpAt.err _, HS.out⟩
end
end Go.Proofs.YtdkhmfcfihbjeaaGreatDoor.W

/- Package server: deedOf, Do. -/
namespace Go.Proofs.YtdkhmfcfihbjeaaGreatDoor.W
open Go.RowKit
set_option linter.unusedVariables false
set_option linter.unusedSimpArgs false

def deedN (k : Int) : Nat := if k = 1 then 82 else if k = 2 then 83 else if k = 3 then 84 else if k = 4 then 85 else if k = 5 then 86 else if k = 6 then 87 else 88
set_option maxHeartbeats 2000000 in
theorem deedof_any (k : Int) (w : World) : Calls Tryz.prog 39 #[.int .i64 k] w fun e w' => e = .returned (.func (.func (deedN k)) #[] #[]) ∧ w = w' := by
  unfold deedN
  by_cases h1 : k = 1
  · subst h1
    go_enter Tryz.func39, Tryz.ntmps39
    go_wp2
    go_ret
    exact ⟨rfl, rfl⟩
  by_cases h2 : k = 2
  · subst h2
    go_enter Tryz.func39, Tryz.ntmps39
    go_wp2
    go_ret
    exact ⟨rfl, rfl⟩
  by_cases h3 : k = 3
  · subst h3
    go_enter Tryz.func39, Tryz.ntmps39
    go_wp2
    go_ret
    exact ⟨rfl, rfl⟩
  by_cases h4 : k = 4
  · subst h4
    go_enter Tryz.func39, Tryz.ntmps39
    go_wp2
    go_ret
    exact ⟨rfl, rfl⟩
  by_cases h5 : k = 5
  · subst h5
    go_enter Tryz.func39, Tryz.ntmps39
    go_wp2
    go_ret
    exact ⟨rfl, rfl⟩
  by_cases h6 : k = 6
  · subst h6
    go_enter Tryz.func39, Tryz.ntmps39
    go_wp2
    go_ret
    exact ⟨rfl, rfl⟩
  rw [if_neg h1, if_neg h2, if_neg h3, if_neg h4, if_neg h5, if_neg h6]
  have q1 : (k == 1) = false := by simp [h1]
  have q2 : (k == 2) = false := by simp [h2]
  have q3 : (k == 3) = false := by simp [h3]
  have q4 : (k == 4) = false := by simp [h4]
  have q5 : (k == 5) = false := by simp [h5]
  have q6 : (k == 6) = false := by simp [h6]
  clear h1 h2 h3 h4 h5 h6
  go_enter Tryz.func39, Tryz.ntmps39
  go_wp2
  go_ret
  exact ⟨rfl, rfl⟩
theorem deed_enters (k : Int) : ∀ args w, (callFunc (deedN k) args).run Tryz.prog w = .ok (.enter (deedN k) args) w := by
  unfold deedN
  repeat' split
  · exact enters_of Tryz.func82 (by kernel_rfl) rfl
  · exact enters_of Tryz.func83 (by kernel_rfl) rfl
  · exact enters_of Tryz.func84 (by kernel_rfl) rfl
  · exact enters_of Tryz.func85 (by kernel_rfl) rfl
  · exact enters_of Tryz.func86 (by kernel_rfl) rfl
  · exact enters_of Tryz.func87 (by kernel_rfl) rfl
  · exact enters_of Tryz.func88 (by kernel_rfl) rfl
section
variable {G U : List Nat} {z q p : Nat} {t : Sto}
theorem sdeed_any (r : Rq) (bv : Value) (w : World) (h : SvAt G w z q p U t) (hx : okD r.x) (hb : BytesAt w bv r.b) (hbU : r.b ≠ [] → ∀ k, bv.ownBlock = some k → k ∉ U) (hbl : r.b.length ≤ 1000000) (hn : 1 ≤ t.s.d.n) (ho : t.s.d.ops ≤ 800000000) (hw : t.s.d.since.length ≤ 800000) :
    Calls Tryz.prog (deedN r.k) #[.pointer (some ⟨z, 0, none⟩), rqV r bv] w (DeedPost G w q p U (t.step r).1 (t.step r).2) := by
  have hbs : ∃ a n c, bv = .slice a n c := by obtain ⟨a, c, e⟩ := hb.slice; exact ⟨a, _, c, e⟩
  by_cases h0 : r.k < 1 ∨ 6 < r.k
  · rw [step0 t r h0]
    have e : deedN r.k = 88 := by unfold deedN; rw [if_neg (by omega), if_neg (by omega), if_neg (by omega), if_neg (by omega), if_neg (by omega), if_neg (by omega)]
    rw [e]
    exact svno_any r bv w h hbs
  · obtain ⟨k, x, b⟩ := r
    dsimp only at h0
    obtain rfl | rfl | rfl | rfl | rfl | rfl : k = 1 ∨ k = 2 ∨ k = 3 ∨ k = 4 ∨ k = 5 ∨ k = 6 := by omega
    · exact svput_any _ bv w h hx hb hbU hbl (by omega) (by omega)
    · exact svget_any _ bv w h hbs hx
    · exact svdel_any _ bv w h hbs hx ho hw
    · exact svlist_any _ bv w h hbs
    · exact svinfo_any _ bv w h hbs
    · exact svset_any _ bv w h hbs hn (by omega) (by omega)
theorem stdisk_any (w : World) (h : StAt G w q p U t) : Calls Tryz.prog 17 #[.pointer (some ⟨q, 0, none⟩)] w fun e w' => e = .returned (.pointer (some ⟨p, 0, none⟩)) ∧ w = w' := by
  obtain ⟨sp, mb, Us, φ, N, h, rfl⟩ := h
  have c0 := blk_cell h.head 0 _ rfl
  clear h
  go_enter Tryz.func17, Tryz.ntmps17
  go_wp2
  go_ret
  exact ⟨rfl, rfl⟩
theorem ret_rp2 {fn : Func} {p u : Tmp} (h : fn.results = #[.cell p 32, .tmp u]) (tmps : Array Value) {w : World} {b t : Nat} {e room : Int} {bv iv q : Value} {wh : Bool} (hp : tmps.getD p undef = .pointer (some ⟨b, 0, none⟩)) (hu : tmps.getD u undef = q) (hb : w.heap[b]? = some (.cells (rpL e bv iv room wh).toArray t (0, 0))) :
    (results fn tmps).run Tryz.prog w = .ok (.tuple #[rpV e bv iv room wh, q]) w := by
  have hl := run_loadVar_row (P := Tryz.prog) w b t 32 (rpL e bv iv room wh).toArray (0, 0) _ hb Tryz.underlying32 rfl (rp_size _ _ _ _ _)
  rw [results_cell_tmp h, hp, hu]
  simp only [asAddr, Sem.run_pure, Result.andThen_ok, hl]
  rfl
/-- What Do answers, and what it leaves. -/
def DoPost (G : List Nat) (w : World) (q p : Nat) (U : List Nat) (r : (Rp × Int) × Sto) (e : Ending) (w' : World) : Prop := ∃ v, e = .returned (.tuple #[v, .int .i64 r.1.2]) ∧ RpAt w w' v r.1.1 ∧ Std G w w' q p U r.2
/-- Do under way: the deed is done, its reply lies in block C. -/
def DoMid (G : List Nat) (w w2 : World) (q p : Nat) (U : List Nat) (o : Rp) (t' : Sto) (C : Nat) (wx : World) : Prop :=
  ∃ a n c a' n' c', wx.heap[C]? = some (.cells (rpL o.e (.slice a n c) (.slice a' n' c') o.room o.whole).toArray 32 (0, 0)) ∧ BytesAt wx (.slice a n c) o.b ∧ wx.ownsRow w.heap.size 38 4 (.slice a' n' c') o.ids.length (o.ids.flatMap idE) ∧
    (∀ k, (Value.slice a n c).ownBlock = some k ∨ (Value.slice a' n' c').ownBlock = some k → w.heap.size ≤ k ∧ k ≠ w.heap.size + 1) ∧ Std ([w.heap.size + 1] ++ G) w2 wx q p U t' ∧ C ≠ w.heap.size + 1 ∧ w.heap.size ≤ C

theorem SvAt.add {w w2 : World} (h : SvAt G w z q p U t) (hc : Chg [] w w2) (hw : w.heap.size < w2.heap.size) : SvAt ([w.heap.size] ++ G) w2 z q p U t :=
  ⟨hc.keep h.head (by simp), h.st.with h.far hc (fun x hx => by rw [List.mem_singleton.1 hx]; exact ⟨Nat.le_refl _, hw⟩), h.out, fun x hx hm => by
    rcases List.mem_append.1 hm with hm | hm
    · have := h.st.lim x hx; have := List.mem_singleton.1 hm; omega
    · exact h.far x hx hm⟩
theorem SvAt.mid {w w2 : World} {r : Rq} {bv : Value} (h : SvAt G w z q p U t) (hE : Begins G w w2 z q p U t r bv) : SvAt ([w.heap.size + 1] ++ G) w2.drew z q p U t :=
  ⟨hE.head, hE.st.keep0 ((Chg.refl [] w2).drew), h.out, fun x hx hm => by
    rcases List.mem_append.1 hm with hm | hm
    · exact hE.out (by rw [← List.mem_singleton.1 hm]; exact hx)
    · exact h.far x hx hm⟩
theorem doMid_late {w w2 w3 : World} {r : Rq} {bv : Value} {o : Rp} {t' : Sto} {a a' : Option Addr} {n n' c c' : Nat} (hE : Begins G w w2 z q p U t r bv) (h : SvAt G w z q p U t) (hb : BytesAt w3 (.slice a n c) o.b)
    (hn : ∀ k, (Value.slice a n c).ownBlock = some k → w2.drew.heap.size ≤ k) (ho : w3.ownsRow w2.drew.heap.size 38 4 (.slice a' n' c') o.ids.length (o.ids.flatMap idE)) (hs : Std ([w.heap.size + 1] ++ G) w2.drew w3 q p U t') :
    DoMid G w w2 q p U o t' w3.heap.size ((w3.alloc (.cells #[.int .i64 0, .slice none 0 0, .slice none 0 0, .int .i64 0, .bool false] 32)).setCells w3.heap.size 0 (rpL o.e (.slice a n c) (.slice a' n' c') o.room o.whole)) := by
  have hs23 : w2.heap.size ≤ w3.heap.size := by obtain ⟨_, _, _, hc⟩ := hs; exact hc.size
  have hA := (hE.new _ (List.mem_cons_self ..))
  have hc1 : Chg [] w3 (w3.alloc (.cells #[.int .i64 0, .slice none 0 0, .slice none 0 0, .int .i64 0, .bool false] 32)) := (Chg.refl [] w3).alloc _
  have hz := heap_alloc_new w3 (.cells #[.int .i64 0, .slice none 0 0, .slice none 0 0, .int .i64 0, .bool false] 32)
  generalize w3.alloc (.cells #[.int .i64 0, .slice none 0 0, .slice none 0 0, .int .i64 0, .bool false] 32) = w4 at *
  have hc2 : Chg [] w3 (w4.setCells w3.heap.size 0 (rpL o.e (.slice a n c) (.slice a' n' c') o.room o.whole)) := hc1.setCells (.inr (Nat.le_refl _)) _
  have hd : w2.drew.heap.size = w2.heap.size := rfl
  refine ⟨a, n, c, a', n', c', five_set hz _ _ _ _ _, hb.chg hc2 (by simp), row_keep (row_base ho w.heap.size (fun g hg => ?_)) (fun g hg => hc2.block g (World.ownsRow.lt ho g hg).2 (by simp)), fun k hk => ?_, (Std.pre ((Chg.refl [] w2).drew) hs).post hc2, by omega, by omega⟩
  · have := (World.ownsRow.lt ho g hg).1; omega
  · rcases hk with hk | hk
    · have := hn k hk; omega
    · have := (World.ownsRow.lt ho k hk).1; omega
theorem doMid_early {w w2 w3 : World} {r : Rq} {bv : Value} {o : Rp} {t' : Sto} {a a' : Option Addr} {n n' c c' : Nat} (hE : Begins G w w2 z q p U t r bv) (h : SvAt G w z q p U t) (hb : BytesAt w3 (.slice a n c) o.b)
    (hn : ∀ k, (Value.slice a n c).ownBlock = some k → (w2.alloc (.cells #[.int .i64 0, .slice none 0 0, .slice none 0 0, .int .i64 0, .bool false] 32)).drew.heap.size ≤ k) (ho : w3.ownsRow (w2.alloc (.cells #[.int .i64 0, .slice none 0 0, .slice none 0 0, .int .i64 0, .bool false] 32)).drew.heap.size 38 4 (.slice a' n' c') o.ids.length (o.ids.flatMap idE))
    (hs : Std ([w2.heap.size] ++ ([w.heap.size + 1] ++ G)) (w2.alloc (.cells #[.int .i64 0, .slice none 0 0, .slice none 0 0, .int .i64 0, .bool false] 32)).drew w3 q p U t') :
    DoMid G w w2 q p U o t' w2.heap.size (w3.setCells w2.heap.size 0 (rpL o.e (.slice a n c) (.slice a' n' c') o.room o.whole)) := by
  have hA := (hE.new _ (List.mem_cons_self ..))
  have hcX : Chg [] w2 (w2.alloc (.cells #[.int .i64 0, .slice none 0 0, .slice none 0 0, .int .i64 0, .bool false] 32)).drew := ((Chg.refl [] w2).alloc _).drew
  have hzX : (w2.alloc (.cells #[.int .i64 0, .slice none 0 0, .slice none 0 0, .int .i64 0, .bool false] 32)).drew.heap[w2.heap.size]? = some (.cells #[.int .i64 0, .slice none 0 0, .slice none 0 0, .int .i64 0, .bool false] 32 (0, 0)) := heap_alloc_new w2 _
  have hsX : (w2.alloc (.cells #[.int .i64 0, .slice none 0 0, .slice none 0 0, .int .i64 0, .bool false] 32)).drew.heap.size = w2.heap.size + 1 := by show (w2.alloc _).heap.size = _; simp
  generalize (w2.alloc (.cells #[.int .i64 0, .slice none 0 0, .slice none 0 0, .int .i64 0, .bool false] 32)).drew = wX at *
  have hl2 : ∀ x ∈ U, x < w2.heap.size := fun x hx => Nat.lt_of_lt_of_le (h.st.lim x hx) hE.chg.size
  have hz3 := hs.blk hzX (fun hm => by have := hl2 _ hm; omega)
  have hc : Chg [w2.heap.size] w3 (w3.setCells w2.heap.size 0 (rpL o.e (.slice a n c) (.slice a' n' c') o.room o.whole)) := (Chg.refl _ w3).setCells (.inl (by simp)) _
  refine ⟨a, n, c, a', n', c', five_set hz3 _ _ _ _ _, hb.chg hc (fun k hk hm => ?_), row_keep (row_base ho w.heap.size (fun g hg => ?_)) (fun g hg => hc.block g (World.ownsRow.lt ho g hg).2 (fun hm => ?_)), fun k hk => ?_, Std.local (T := [w2.heap.size]) (fun x hx => ?_) (fun x hx hm => ?_) hl2 hcX (fun x hx => by rw [List.mem_singleton.1 hx]; omega) hs (fun x hx => by rw [List.mem_singleton.1 hx]; exact zeroRp_no8 hz3) hc, by omega, by omega⟩
  · have := hn k hk; have := List.mem_singleton.1 hm; omega
  · have := (World.ownsRow.lt ho g hg).1; omega
  · have := (World.ownsRow.lt ho g hg).1; have := List.mem_singleton.1 hm; omega
  · rcases hk with hk | hk
    · have := hn k hk; omega
    · have := (World.ownsRow.lt ho k hk).1; omega
  · rcases List.mem_append.1 hx with hx | hx
    · rw [List.mem_singleton.1 hx]; exact hA.2
    · exact Nat.lt_of_lt_of_le (h.st.gl x hx) hE.chg.size
  · rcases List.mem_append.1 hm with hm | hm
    · exact hE.out (by rw [← List.mem_singleton.1 hm]; exact hx)
    · exact h.far x hx hm
set_option maxHeartbeats 8000000 in
set_option maxRecDepth 100000 in
theorem svdo_any (r : Rq) (bv : Value) (w : World) (h : SvAt G w z q p U t) (hx : okD r.x) (hb : BytesAt w bv r.b) (hbU : r.b ≠ [] → ∀ k, bv.ownBlock = some k → k ∉ U) (hbl : r.b.length ≤ 1000000) (hn : 1 ≤ t.s.d.n) (ho : t.s.d.ops ≤ 800000000) (hw : t.s.d.since.length ≤ 800000) :
    Calls Tryz.prog 12 #[.pointer (some ⟨z, 0, none⟩), rqV r bv] w (DoPost G w q p U (t.run r)) := by
  have HE0 := Lib.hid (h.begins r bv)
  obtain ⟨w2, hw2⟩ : ∃ w2, w2 = (w.alloc (.cells (rqL r bv).toArray 40)).alloc (.cells zeroRp 32) := ⟨_, rfl⟩
  rw [← hw2] at HE0
  have hst2 := h.st.keep0 HE0.out.chg
  have CDK := Lib.hid (stdisk_any w2 hst2)
  have CDD := Lib.hid hst2.dead
  have c0 := blk_cell HE0.out.head 0 _ rfl
  obtain ⟨B, hB⟩ : ∃ B, B = w.heap.size := ⟨_, rfl⟩
  have hrq := HE0.out.rq
  rw [← hB] at hrq
  have HRP := Lib.hid HE0.out.rp
  rw [← hB] at HRP
  have HH := Lib.hid h
  have HBY := Lib.hid (hb.chg HE0.out.chg (by simp))
  have HBU := Lib.hid hbU
  have HXO := Lib.hid hx
  have HW2 := Lib.hid hw2
  have HB := Lib.hid hB
  have HLIM := Lib.hid (And.intro hbl (And.intro hn (And.intro ho hw)))
  have HRUN : Hid (t.run r = if t.s.d.dead then ((noRp, 14), t) else if (t.step r).2.s.d.dead then ((noRp, 14), (t.step r).2) else (((t.step r).1, 0), (t.step r).2)) := Lib.hid rfl
  obtain ⟨R, hR⟩ : ∃ R, R = t.run r := ⟨_, rfl⟩
  rw [← hR] at HRUN
  rw [← hR]
  obtain ⟨k, ⟨xc, xl, xn, xi⟩, b⟩ := r
  obtain ⟨ba, bc, hbv⟩ := hb.slice
  subst hbv
  obtain ⟨q0, ⟨q1, q2, q3, q4⟩, q5⟩ := rq_cells hrq
  have HRQ := Lib.hid hrq
  unfold rqV rqL
  unfold rqL at HW2
  rw [show zeroRp = #[.int .i64 0, .slice none 0 0, .slice none 0 0, .int .i64 0, .bool false] from rfl] at HW2
  have c0L := c0
  rw [HW2.out] at c0L
  clear hw2 hB hrq h hx hb hbU hst2 hR hn ho hw hbl
  go_enter Tryz.func12, Tryz.ntmps12
  go_wp2_with fail
  clear c0L
  rw [← HB.out, ← HW2.out]
  refine CDK.out.mono ?_
  rintro e w' ⟨rfl, hq⟩
  subst hq
  go_wp2_with fail
  refine CDD.out.mono ?_
  rintro e w' ⟨rfl, hq⟩
  subst hq
  cases hdd : t.s.d.dead
  · rw [hdd] at HRUN
    rw [if_neg (by simp)] at HRUN
    go_upto_region 3 with (fail)
    go_cut [6] (fun s6 wx => ∃ C, s6 = .pointer (some ⟨C, 0, none⟩) ∧ Hid (DoMid G w w2 q p U (t.step ⟨k, ⟨xc, xl, xn, xi⟩, b⟩).1 (t.step ⟨k, ⟨xc, xl, xn, xi⟩, b⟩).2 C wx))
    case first =>
      have hent := deed_enters k
      have hG1 : SvAt ([w.heap.size + 1] ++ G) w2.drew z q p U t := HH.out.mid HE0.out
      have CPY := Lib.hid (sdeed_any ⟨k, ⟨xc, xl, xn, xi⟩, b⟩ (.slice ba b.length bc) w2.drew hG1 HXO.out (HBY.out.keep (fun _ _ => rfl)) HBU.out HLIM.out.1 HLIM.out.2.1 HLIM.out.2.2.1 HLIM.out.2.2.2)
      have hcX : Chg [] w2 (w2.alloc (.cells #[.int .i64 0, .slice none 0 0, .slice none 0 0, .int .i64 0, .bool false] 32)).drew := ((Chg.refl [] w2).alloc _).drew
      have hG2 : SvAt ([w2.heap.size] ++ ([w.heap.size + 1] ++ G)) (w2.alloc (.cells #[.int .i64 0, .slice none 0 0, .slice none 0 0, .int .i64 0, .bool false] 32)).drew z q p U t := (hG1.add (w2 := (w2.alloc (.cells #[.int .i64 0, .slice none 0 0, .slice none 0 0, .int .i64 0, .bool false] 32)).drew) ⟨hcX.os, hcX.tape, hcX.output, hcX.size, hcX.block⟩ (by
        rw [show w2.drew.heap.size = w2.heap.size from rfl]
        show w2.heap.size < (w2.alloc _).heap.size
        simp))
      have CPX := Lib.hid (sdeed_any ⟨k, ⟨xc, xl, xn, xi⟩, b⟩ (.slice ba b.length bc) _ hG2 HXO.out (HBY.out.chg hcX (by simp)) HBU.out HLIM.out.1 HLIM.out.2.1 HLIM.out.2.2.1 HLIM.out.2.2.2)
      obtain ⟨r0, ⟨r1, r2, r3, r4⟩, r5⟩ := rq_cells (hcX.keep HRQ.out (by simp))
      unfold rqV rqL at CPX CPY
      clear hG1 hG2
      have HCX := Lib.hid hcX
      clear hcX
      go_wp2_with fail
      refine wp_region_L [(2, fun w' => w'.cell? ⟨B, 0, none⟩ = some (.int .i64 k)), (5, fun w' => (w'.cell? ⟨B, 0, none⟩ = some (.int .i64 k) ∧ w'.cell? ⟨B, 1, none⟩ = some (.int .i64 xc) ∧ w'.cell? ⟨B, 2, none⟩ = some (.int .i64 xl) ∧ w'.cell? ⟨B, 3, none⟩ = some (.int .i64 xn) ∧ w'.cell? ⟨B, 4, none⟩ = some (.int .i64 xi) ∧ w'.cell? ⟨B, 5, none⟩ = some (.slice ba b.length bc)))] (by kernel_rfl) ?_ (fun hHeld => ?_)
      · exact (HoldC.cons (q0) (HoldC.cons (⟨q0, q1, q2, q3, q4, q5⟩) HoldC.nil))
      refine wpAnyL_take (i := 0) (oi := _) (v := ?_) rfl (by kernel_rfl) (by kernel_rfl) (by kernel_rfl) (by kernel_rfl) (by kernel_rfl) (fun _ _ _ h => h) (Or.inl ⟨by rfl, ?_⟩) (by assumption) (fun hNew => ?_)
      rotate_left
      · intro w _
        go_simp
        try with_reducible rfl
      clear hHeld
      have hHeld := hNew
      clear hNew
      try simp only [List.getElem_toArray, List.getElem_cons_succ, List.getElem_cons_zero, Act.put, List.setIfInBounds_toArray, List.set_cons_zero, List.set_cons_succ]
      refine wpAnyL_take (i := 3) (oi := _) (v := ?_) rfl (by kernel_rfl) (by kernel_rfl) (by kernel_rfl) (by kernel_rfl) (by kernel_rfl) (fun _ _ _ h => h) (Or.inl ⟨by rfl, ?_⟩) (by assumption) (fun hNew => ?_)
      rotate_left
      · intro w _
        go_simp
        try with_reducible rfl
      clear hHeld
      have hHeld := hNew
      clear hNew
      try simp only [List.getElem_toArray, List.getElem_cons_succ, List.getElem_cons_zero, Act.put, List.setIfInBounds_toArray, List.set_cons_zero, List.set_cons_succ]
      refine wpAnyL_load 0 (i := 1) (oi := _) (v := ?_) rfl rfl (by kernel_rfl) (by kernel_rfl) (by kernel_rfl) (by kernel_rfl) (by kernel_rfl) (by kernel_rfl) (fun _ _ _ h => h) (Or.inl ⟨by rfl, ?_⟩) (by assumption) (fun hNew => ?_)
      rotate_left
      · intro w hSw
        (try dsimp only at hSw)
        go_simp
        try with_reducible rfl
      clear hHeld
      have hHeld := hNew
      clear hNew
      try simp only [List.getElem_toArray, List.getElem_cons_succ, List.getElem_cons_zero, Act.put, List.setIfInBounds_toArray, List.set_cons_zero, List.set_cons_succ]
      refine wpAnyL_load 1 (i := 4) (oi := _) (v := ?_) rfl rfl (by kernel_rfl) (by kernel_rfl) (by kernel_rfl) (by kernel_rfl) (by kernel_rfl) (by kernel_rfl) (fun _ _ _ h => h) (Or.inl ⟨by rfl, ?_⟩) (by assumption) (fun hNew => ?_)
      rotate_left
      · intro w hSw
        (try dsimp only at hSw)
        go_simp
        try with_reducible rfl
      clear hHeld
      have hHeld := hNew
      clear hNew
      try simp only [List.getElem_toArray, List.getElem_cons_succ, List.getElem_cons_zero, Act.put, List.setIfInBounds_toArray, List.set_cons_zero, List.set_cons_succ]
      refine wpAnyL_ready (rs := [2, 6]) (by kernel_rfl) (by simp) ?_
      refine AllReadyL.cons (o := _) rfl (fun K hK => ?_) (AllReadyL.cons (o := _) rfl (fun K hK => ?_) AllReadyL.nil)
      · try simp only [List.getElem_toArray, List.getElem_cons_succ, List.getElem_cons_zero]
        go_simp
        refine (deedof_any k w2.drew).mono ?_
        rintro e w' ⟨rfl, hq⟩
        subst hq
        clear hHeld
        refine hK.out _ _ ?_ (fun hHeld => ?_)
        · exact (HoldC.past (by kernel_rfl) (HoldC.cons (⟨q0, q1, q2, q3, q4, q5⟩) HoldC.nil))
        clear hK K
        try simp only [List.getElem_toArray, List.getElem_cons_succ, List.getElem_cons_zero, Act.put, List.setIfInBounds_toArray, List.set_cons_zero, List.set_cons_succ]
        refine wpAnyL_ready (rs := [5, 6]) (by kernel_rfl) (by simp) ?_
        refine AllReadyL.cons (o := _) rfl (fun K hK => ?_) (AllReadyL.cons (o := _) rfl (fun K hK => ?_) AllReadyL.nil)
        · try simp only [List.getElem_toArray, List.getElem_cons_succ, List.getElem_cons_zero]
          go_simp
          refine CPY.out.mono ?_
          rintro e w3 ⟨v3, rfl, hr3, hs3⟩
          obtain ⟨bv3, iv3, rfl, hb3, hn3, ho3⟩ := hr3
          obtain ⟨a3, c3, rfl⟩ := hb3.slice
          obtain ⟨a4, n4, c4, rfl⟩ : ∃ a n c, iv3 = .slice a n c := by
            rcases ho3.2 with ⟨h1, h2⟩ | ⟨g, cap, cur, h1, _⟩
            · exact ⟨none, 0, 0, h1⟩
            · exact ⟨_, _, cap, h1⟩
          have HM := Lib.hid (doMid_late HE0.out HH.out hb3 hn3 ho3 hs3)
          clear hb3 hn3 ho3 hs3
          clear hHeld
          refine hK.out _ _ ?_ (fun hHeld => ?_)
          · exact (HoldC.past (by kernel_rfl) (HoldC.past (by kernel_rfl) HoldC.nil))
          clear hK K
          try simp only [List.getElem_toArray, List.getElem_cons_succ, List.getElem_cons_zero, Act.put, List.setIfInBounds_toArray, List.set_cons_zero, List.set_cons_succ]
          refine wpAnyL_ready (rs := [6]) (by kernel_rfl) (by simp) ?_
          refine AllReadyL.cons (o := _) rfl (fun K hK => ?_) AllReadyL.nil
          try simp only [List.getElem_toArray, List.getElem_cons_succ, List.getElem_cons_zero]
          go_simp
          obtain ⟨w4, hw4⟩ : ∃ w4, w4 = w3.alloc (.cells #[.int .i64 0, .slice none 0 0, .slice none 0 0, .int .i64 0, .bool false] 32) := ⟨_, rfl⟩
          rw [← hw4]
          have HW4 := Lib.hid hw4
          have hz4 : w4.heap[w3.heap.size]? = some (.cells #[.int .i64 0, .slice none 0 0, .slice none 0 0, .int .i64 0, .bool false] 32 (0, 0)) := by rw [hw4]; exact heap_alloc_new w3 _
          have HTH := Lib.hid (five_there hz4 _ rfl)
          clear hw4 hz4
          clear hHeld
          refine hK.out _ _ ?_ (fun hHeld => ?_)
          · exact (HoldC.past (by kernel_rfl) (HoldC.past (by kernel_rfl) HoldC.nil))
          clear hK K
          try simp only [List.getElem_toArray, List.getElem_cons_succ, List.getElem_cons_zero, Act.put, List.setIfInBounds_toArray, List.set_cons_zero, List.set_cons_succ]
          refine wpAnyL_ready (rs := [7]) (by kernel_rfl) (by simp) ?_
          refine AllReadyL.cons (o := _) rfl (fun K hK => ?_) AllReadyL.nil
          try simp only [List.getElem_toArray, List.getElem_cons_succ, List.getElem_cons_zero]
          rw [if_pos (by rfl)]
          refine wp_store_mid 32 (.tmp 6) (.tmp 30) (by rfl) w3.heap.size 0 (rpL (t.step ⟨k, ⟨xc, xl, xn, xi⟩, b⟩).1.e (.slice a3 (t.step ⟨k, ⟨xc, xl, xn, xi⟩, b⟩).1.b.length c3) (.slice a4 n4 c4) (t.step ⟨k, ⟨xc, xl, xn, xi⟩, b⟩).1.room (t.step ⟨k, ⟨xc, xl, xn, xi⟩, b⟩).1.whole).toArray (by rfl) (by rfl) HTH.out (rp_size _ _ _ _ _) (rp_all _ _ _ _ _ _ _ _ _) ?_
          clear hHeld
          refine hK.out _ _ ?_ (fun hHeld => ?_)
          · exact (HoldC.past (by kernel_rfl) (HoldC.past (by kernel_rfl) HoldC.nil))
          clear hK K
          try simp only [List.getElem_toArray, List.getElem_cons_succ, List.getElem_cons_zero, Act.put, List.setIfInBounds_toArray, List.set_cons_zero, List.set_cons_succ]
          refine wpAnyL_done (by kernel_rfl) ?_ _
          clear hHeld
          go_wp2_with fail
          go_meet
          exact ⟨_, rfl, by rw [HW4.out]; exact HM⟩
        · try simp only [List.getElem_toArray, List.getElem_cons_succ, List.getElem_cons_zero]
          go_simp
          clear hHeld
          refine hK.out _ _ ?_ (fun hHeld => ?_)
          · exact (HoldC.past (by kernel_rfl) (HoldC.cons (⟨r0, r1, r2, r3, r4, r5⟩) HoldC.nil))
          clear hK K
          try simp only [List.getElem_toArray, List.getElem_cons_succ, List.getElem_cons_zero, Act.put, List.setIfInBounds_toArray, List.set_cons_zero, List.set_cons_succ]
          refine wpAnyL_ready (rs := [5]) (by kernel_rfl) (by simp) ?_
          refine AllReadyL.cons (o := _) rfl (fun K hK => ?_) AllReadyL.nil
          try simp only [List.getElem_toArray, List.getElem_cons_succ, List.getElem_cons_zero]
          go_simp
          refine CPX.out.mono ?_
          rintro e w3 ⟨v3, rfl, hr3, hs3⟩
          obtain ⟨bv3, iv3, rfl, hb3, hn3, ho3⟩ := hr3
          obtain ⟨a3, c3, rfl⟩ := hb3.slice
          obtain ⟨a4, n4, c4, rfl⟩ : ∃ a n c, iv3 = .slice a n c := by
            rcases ho3.2 with ⟨h1, h2⟩ | ⟨g, cap, cur, h1, _⟩
            · exact ⟨none, 0, 0, h1⟩
            · exact ⟨_, _, cap, h1⟩
          have HM := Lib.hid (doMid_early HE0.out HH.out hb3 hn3 ho3 hs3)
          have hz4 := hs3.blk (show (w2.alloc (.cells #[.int .i64 0, .slice none 0 0, .slice none 0 0, .int .i64 0, .bool false] 32)).drew.heap[w2.heap.size]? = some (.cells #[.int .i64 0, .slice none 0 0, .slice none 0 0, .int .i64 0, .bool false] 32 (0, 0)) from heap_alloc_new w2 _) (fun hm => by have := HH.out.st.lim _ hm; have := HE0.out.chg.size; omega)
          have HTH := Lib.hid (five_there hz4 _ rfl)
          clear hb3 hn3 ho3 hs3 hz4
          clear hHeld
          refine hK.out _ _ ?_ (fun hHeld => ?_)
          · exact (HoldC.past (by kernel_rfl) (HoldC.past (by kernel_rfl) HoldC.nil))
          clear hK K
          try simp only [List.getElem_toArray, List.getElem_cons_succ, List.getElem_cons_zero, Act.put, List.setIfInBounds_toArray, List.set_cons_zero, List.set_cons_succ]
          refine wpAnyL_ready (rs := [7]) (by kernel_rfl) (by simp) ?_
          refine AllReadyL.cons (o := _) rfl (fun K hK => ?_) AllReadyL.nil
          try simp only [List.getElem_toArray, List.getElem_cons_succ, List.getElem_cons_zero]
          rw [if_pos (by rfl)]
          refine wp_store_mid 32 (.tmp 6) (.tmp 30) (by rfl) w2.heap.size 0 (rpL (t.step ⟨k, ⟨xc, xl, xn, xi⟩, b⟩).1.e (.slice a3 (t.step ⟨k, ⟨xc, xl, xn, xi⟩, b⟩).1.b.length c3) (.slice a4 n4 c4) (t.step ⟨k, ⟨xc, xl, xn, xi⟩, b⟩).1.room (t.step ⟨k, ⟨xc, xl, xn, xi⟩, b⟩).1.whole).toArray (by rfl) (by rfl) HTH.out (rp_size _ _ _ _ _) (rp_all _ _ _ _ _ _ _ _ _) ?_
          clear hHeld
          refine hK.out _ _ ?_ (fun hHeld => ?_)
          · exact (HoldC.past (by kernel_rfl) (HoldC.past (by kernel_rfl) HoldC.nil))
          clear hK K
          try simp only [List.getElem_toArray, List.getElem_cons_succ, List.getElem_cons_zero, Act.put, List.setIfInBounds_toArray, List.set_cons_zero, List.set_cons_succ]
          refine wpAnyL_done (by kernel_rfl) ?_ _
          clear hHeld
          go_wp2_with fail
          go_meet
          exact ⟨_, rfl, HM⟩
      · try simp only [List.getElem_toArray, List.getElem_cons_succ, List.getElem_cons_zero]
        go_simp
        clear hHeld
        refine hK.out _ _ ?_ (fun hHeld => ?_)
        · exact (HoldC.cons (r0) (HoldC.cons (⟨r0, r1, r2, r3, r4, r5⟩) HoldC.nil))
        clear hK K
        try simp only [List.getElem_toArray, List.getElem_cons_succ, List.getElem_cons_zero, Act.put, List.setIfInBounds_toArray, List.set_cons_zero, List.set_cons_succ]
        refine wpAnyL_ready (rs := [2]) (by kernel_rfl) (by simp) ?_
        refine AllReadyL.cons (o := _) rfl (fun K hK => ?_) AllReadyL.nil
        try simp only [List.getElem_toArray, List.getElem_cons_succ, List.getElem_cons_zero]
        go_simp
        refine (deedof_any k _).mono ?_
        rintro e w' ⟨rfl, hq⟩
        subst hq
        clear hHeld
        refine hK.out _ _ ?_ (fun hHeld => ?_)
        · exact (HoldC.past (by kernel_rfl) (HoldC.cons (⟨r0, r1, r2, r3, r4, r5⟩) HoldC.nil))
        clear hK K
        try simp only [List.getElem_toArray, List.getElem_cons_succ, List.getElem_cons_zero, Act.put, List.setIfInBounds_toArray, List.set_cons_zero, List.set_cons_succ]
        refine wpAnyL_ready (rs := [5]) (by kernel_rfl) (by simp) ?_
        refine AllReadyL.cons (o := _) rfl (fun K hK => ?_) AllReadyL.nil
        try simp only [List.getElem_toArray, List.getElem_cons_succ, List.getElem_cons_zero]
        go_simp
        refine CPX.out.mono ?_
        rintro e w3 ⟨v3, rfl, hr3, hs3⟩
        obtain ⟨bv3, iv3, rfl, hb3, hn3, ho3⟩ := hr3
        obtain ⟨a3, c3, rfl⟩ := hb3.slice
        obtain ⟨a4, n4, c4, rfl⟩ : ∃ a n c, iv3 = .slice a n c := by
          rcases ho3.2 with ⟨h1, h2⟩ | ⟨g, cap, cur, h1, _⟩
          · exact ⟨none, 0, 0, h1⟩
          · exact ⟨_, _, cap, h1⟩
        have HM := Lib.hid (doMid_early HE0.out HH.out hb3 hn3 ho3 hs3)
        have hz4 := hs3.blk (show (w2.alloc (.cells #[.int .i64 0, .slice none 0 0, .slice none 0 0, .int .i64 0, .bool false] 32)).drew.heap[w2.heap.size]? = some (.cells #[.int .i64 0, .slice none 0 0, .slice none 0 0, .int .i64 0, .bool false] 32 (0, 0)) from heap_alloc_new w2 _) (fun hm => by have := HH.out.st.lim _ hm; have := HE0.out.chg.size; omega)
        have HTH := Lib.hid (five_there hz4 _ rfl)
        clear hb3 hn3 ho3 hs3 hz4
        clear hHeld
        refine hK.out _ _ ?_ (fun hHeld => ?_)
        · exact (HoldC.past (by kernel_rfl) (HoldC.past (by kernel_rfl) HoldC.nil))
        clear hK K
        try simp only [List.getElem_toArray, List.getElem_cons_succ, List.getElem_cons_zero, Act.put, List.setIfInBounds_toArray, List.set_cons_zero, List.set_cons_succ]
        refine wpAnyL_ready (rs := [7]) (by kernel_rfl) (by simp) ?_
        refine AllReadyL.cons (o := _) rfl (fun K hK => ?_) AllReadyL.nil
        try simp only [List.getElem_toArray, List.getElem_cons_succ, List.getElem_cons_zero]
        rw [if_pos (by rfl)]
        refine wp_store_mid 32 (.tmp 6) (.tmp 30) (by rfl) w2.heap.size 0 (rpL (t.step ⟨k, ⟨xc, xl, xn, xi⟩, b⟩).1.e (.slice a3 (t.step ⟨k, ⟨xc, xl, xn, xi⟩, b⟩).1.b.length c3) (.slice a4 n4 c4) (t.step ⟨k, ⟨xc, xl, xn, xi⟩, b⟩).1.room (t.step ⟨k, ⟨xc, xl, xn, xi⟩, b⟩).1.whole).toArray (by rfl) (by rfl) HTH.out (rp_size _ _ _ _ _) (rp_all _ _ _ _ _ _ _ _ _) ?_
        clear hHeld
        refine hK.out _ _ ?_ (fun hHeld => ?_)
        · exact (HoldC.past (by kernel_rfl) (HoldC.past (by kernel_rfl) HoldC.nil))
        clear hK K
        try simp only [List.getElem_toArray, List.getElem_cons_succ, List.getElem_cons_zero, Act.put, List.setIfInBounds_toArray, List.set_cons_zero, List.set_cons_succ]
        refine wpAnyL_done (by kernel_rfl) ?_ _
        clear hHeld
        go_wp2_with fail
        go_meet
        exact ⟨_, rfl, HM⟩
    case rest =>
    obtain ⟨C, rfl, HM⟩ := hcut
    obtain ⟨a3, n3, c3, a4, n4, c4, hC, hbC, hoC, hown, hs, hCA, hCw⟩ := HM.out
    have HZA := Lib.hid (hs.blk HE0.out.rp HE0.out.out)
    rw [← HB.out] at HZA
    have HZC := Lib.hid hC
    have HBC := Lib.hid hbC
    have HOC := Lib.hid hoC
    have HOW := Lib.hid hown
    have HSS := Lib.hid hs
    have hzz := blk_cell (hs.blk HE0.out.head HH.out.out) 0 _ rfl
    obtain ⟨U', a1, a2, a3'⟩ := hs
    have CDK2 := Lib.hid (stdisk_any wc a1)
    have CDD2 := Lib.hid a1.dead
    have HE1 := HE0
    clear hC hbC hoC hown a1 a2 a3' CDK CDD c0 q0 q1 q2 q3 q4 q5 HM hCA hCw
    obtain ⟨o, ho⟩ : ∃ o, o = t.step ⟨k, ⟨xc, xl, xn, xi⟩, b⟩ := ⟨_, rfl⟩
    rw [← ho] at HRUN HZC HBC HOC HSS CDD2
    clear ho
    obtain ⟨⟨oe, ob, oi, orm, ow⟩, t'⟩ := o
    dsimp only at HZC HBC HOC HSS CDD2
    go_wp2_with fail
    refine CDK2.out.mono ?_
    rintro e w' ⟨rfl, hq⟩
    subst hq
    go_wp2_with fail
    refine CDD2.out.mono ?_
    rintro e w' ⟨rfl, hq⟩
    subst hq
    clear hzz CDK2 CDD2
    cases hd2 : t'.s.d.dead
    · rw [if_neg (by rw [hd2]; simp)] at HRUN
      obtain ⟨⟨p0, p1, p2, p3, p4⟩, g0, g1, g2, g3, g4⟩ := five_cells HZC.out
      obtain ⟨⟨m0, m1, m2, m3, m4⟩, f0, f1, f2, f3, f4⟩ := five_cells HZA.out
      have HZ := Lib.hid (five_set HZA.out (.int .i64 oe) (.slice a3 n3 c3) (.slice a4 n4 c4) (.int .i64 orm) (.bool ow))
      have HS := Lib.hid (HE0.out.ends HH.out HSS.out (rpL oe (.slice a3 n3 c3) (.slice a4 n4 c4) orm ow))
      rw [← HB.out] at HS
      have HBX : Hid (BytesAt (wc.setCells (B + 1) 0 (rpL oe (.slice a3 n3 c3) (.slice a4 n4 c4) orm ow)) (.slice a3 n3 c3) ob ∧ (wc.setCells (B + 1) 0 (rpL oe (.slice a3 n3 c3) (.slice a4 n4 c4) orm ow)).ownsRow w.heap.size 38 4 (.slice a4 n4 c4) oi.length (oi.flatMap idE)) := Lib.hid (by
        have hc : Chg [B + 1] wc (wc.setCells (B + 1) 0 (rpL oe (.slice a3 n3 c3) (.slice a4 n4 c4) orm ow)) := (Chg.refl _ wc).setCells (.inl (by simp)) _
        have hB := HB.out
        refine ⟨HBC.out.chg hc (fun k hk hm => ?_), row_keep HOC.out (fun g hg => hc.block g (World.ownsRow.lt HOC.out g hg).2 (fun hm => ?_))⟩
        · exact (HOW.out k (.inl hk)).2 (by rw [List.mem_singleton.1 hm, hB])
        · exact (HOW.out g (.inr hg)).2 (by rw [List.mem_singleton.1 hm, hB]))
      go_wp2_with fail
      refine bodyPost_ret (ret_rp2 rfl _ rfl rfl HZ.out) rfl ?_
      rw [HRUN.out]
      exact ⟨_, rfl, ⟨.slice a3 n3 c3, .slice a4 n4 c4, rfl, HBX.out.1, fun k hk => (HOW.out k (.inl hk)).1, HBX.out.2⟩, HS.out⟩
    · rw [if_pos (by rw [hd2])] at HRUN
      obtain ⟨⟨m0, m1, m2, m3, m4⟩, f0, f1, f2, f3, f4⟩ := five_cells HZA.out
      have HZ := Lib.hid (five_set HZA.out (.int .i64 0) (.slice none 0 0) (.slice none 0 0) (.int .i64 0) (.bool false))
      have HS := Lib.hid (HE0.out.ends HH.out HSS.out (rpL 0 (.slice none 0 0) (.slice none 0 0) 0 false))
      rw [← HB.out] at HS
      go_wp2_with fail
      refine bodyPost_ret (ret_rp2 rfl _ rfl rfl HZ.out) rfl ?_
      rw [HRUN.out]
      exact ⟨_, rfl, RpAt.err 0, HS.out⟩
  · rw [hdd] at HRUN
    rw [if_pos rfl] at HRUN
    have hz := HRP.out
    obtain ⟨⟨m0, m1, m2, m3, m4⟩, f0, f1, f2, f3, f4⟩ := five_cells hz
    have HZ := Lib.hid (five_set hz (.int .i64 0) (.slice none 0 0) (.slice none 0 0) (.int .i64 0) (.bool false))
    have HS := Lib.hid (HE0.out.calm HH.out (Chg.refl [] w2) (rpL 0 (.slice none 0 0) (.slice none 0 0) 0 false))
    rw [← HB.out] at HS
    clear hz
    go_wp2_with fail
    refine bodyPost_ret (ret_rp2 rfl _ rfl rfl HZ.out) rfl ?_
    rw [HRUN.out]
    exact ⟨_, rfl, RpAt.err 0, HS.out⟩
end
end Go.Proofs.YtdkhmfcfihbjeaaGreatDoor.W

/- Regions in a fence at whatever exit: none but the plain one is met. -/
namespace Go.Proofs.YtdkhmfcfihbjeaaGreatDoor.W
open Go.RowKit
set_option linter.unusedVariables false
set_option linter.unusedSimpArgs false

section
variable {F : Fence} {n : Nat} {P : Program} {ops : Array Oper} {Q : Exit → Act → World → Prop} {a : Act} {w : World}
end
end Go.Proofs.YtdkhmfcfihbjeaaGreatDoor.W

/- Package disk: Crash. -/
namespace Go.Proofs.YtdkhmfcfihbjeaaGreatDoor.W
open Go.RowKit Go.Shelf
set_option linter.unusedVariables false
set_option linter.unusedSimpArgs false
attribute [local go_sem] Oper.semAt_some

structure CrashAt (w W : World) (n Bi Bh pc Bc gl : Nat) (k : Nat) (cv : Value) (f : Nat → List UInt8) : Prop where
  ci : W.heap[Bi]? = some (.cells #[.int .i64 (k : Int)] 3 (0, 0))
  ch : W.heap[Bh]? = some (.cells #[cv] 30 (0, 0))
  cc : W.heap[Bc]? = some (.cells #[.pointer (some ⟨pc, 0, none⟩)] 44 (0, 0))
  obj : W.heap[pc]? = some (.cells #[.slice none 0 0, .slice (some ⟨gl, 0, none⟩) n n, .slice none 0 0, .int .i64 (-1), .int .i64 0, .bool false] 94 (0, 0))
  secs : SecsAt W gl n f
  chg : Chg [] w W
  lo : w.heap.size ≤ Bi ∧ w.heap.size ≤ Bh ∧ w.heap.size ≤ Bc ∧ w.heap.size ≤ pc ∧ w.heap.size ≤ gl
  ne : Bi ≠ Bh ∧ Bi ≠ Bc ∧ Bi ≠ pc ∧ Bi ≠ gl ∧ Bh ≠ gl ∧ Bc ≠ gl ∧ pc ≠ gl

theorem CrashAt.keep {w W W' : World} {n Bi Bh pc Bc gl k : Nat} {cv : Value} {f : Nat → List UInt8} (h : CrashAt w W n Bi Bh pc Bc gl k cv f) (hc : Chg [] W W') : CrashAt w W' n Bi Bh pc Bc gl k cv f :=
  ⟨hc.keep h.ci (by simp), hc.keep h.ch (by simp), hc.keep h.cc (by simp), hc.keep h.obj (by simp), h.secs.keep (hc.block _ h.secs.lt (by simp)), h.chg.trans hc (by simp), h.lo, h.ne⟩
theorem CrashAt.turn {w W W' : World} {row : Option Nat} {n Bi Bh pc Bc gl k : Nat} {cv : Value} {f : Nat → List UInt8} (h : CrashAt w W n Bi Bh pc Bc gl k cv f) (hg : W.grownBy W' row)
    (hr : ∀ r, row = some r → w.heap.size ≤ r ∧ ∃ o : Obj, W.heap[r]? = some o ∧ o.isCells = false) : CrashAt w W' n Bi Bh pc Bc gl k cv f := by
  have hr2 := fun r e => (hr r e).2
  obtain ⟨cs, h1, h2⟩ := h.secs
  exact ⟨(blk_turn h.ci hg hr2).trans h.ci, (blk_turn h.ch hg hr2).trans h.ch, (blk_turn h.cc hg hr2).trans h.cc, (blk_turn h.obj hg hr2).trans h.obj, h.secs.keep (blk_turn h1 hg hr2), chg_turn h.chg hg (fun r e => (hr r e).1), h.lo, h.ne⟩

end Go.Proofs.YtdkhmfcfihbjeaaGreatDoor.W

/- Package server: a server of the law's own; New, Open, Store. -/
namespace Go.Proofs.YtdkhmfcfihbjeaaGreatDoor.W
open Go.RowKit
set_option linter.unusedVariables false
set_option linter.unusedSimpArgs false

/-- A server all of whose blocks are new since w0, beside the law's own blocks X. -/
structure OwnS (X : List Nat) (w0 w : World) (z q p : Nat) (t : Sto) : Prop where
  sv : ∃ U, SvAt X w z q p U t ∧ ∀ x ∈ U, w0.heap.size ≤ x
  chg : Chg [] w0 w
  newz : w0.heap.size ≤ z
  outz : z ∉ X
section
variable {X Y : List Nat} {w0 w w' : World} {z q p : Nat} {t t' : Sto}
theorem OwnS.gl (h : OwnS X w0 w z q p t) : ∀ x ∈ X, x < w.heap.size := by obtain ⟨U, h1, _⟩ := h.sv; exact h1.st.gl
theorem OwnS.zl (h : OwnS X w0 w z q p t) : z < w.heap.size := by obtain ⟨U, h1, _⟩ := h.sv; exact blk_lt h1.head
theorem OwnS.keep0 (h : OwnS X w0 w z q p t) (hc : Chg [] w w') : OwnS X w0 w' z q p t := by
  obtain ⟨U, h1, h2⟩ := h.sv
  exact ⟨⟨U, h1.keep0 hc, h2⟩, h.chg.trans hc (by simp), h.newz, h.outz⟩
/-- The law writes blocks of its own. -/
theorem OwnS.wrote {T : List Nat} (h : OwnS X w0 w z q p t) (hc : Chg T w w') (hT : ∀ x ∈ T, x ∈ X ∧ w0.heap.size ≤ x) (h8 : ∀ x ∈ T, NoU8 w x) (hY : ∀ x ∈ Y, (x ∈ X ∨ w.heap.size ≤ x) ∧ x < w'.heap.size) : OwnS Y w0 w' z q p t := by
  obtain ⟨U, h1, h2⟩ := h.sv
  have hzT : z ∉ T := fun hm => h.outz (hT z hm).1
  have hzl := h.zl
  refine ⟨⟨U, ⟨hc.keep h1.head hzT, h1.st.regroup hc (fun x hx => (hT x hx).1) h8 h1.far hY, h1.out, fun x hx hm => ?_⟩, h2⟩, h.chg.trans hc (fun x hx => .inr (hT x hx).2), h.newz, fun hm => ?_⟩
  · rcases (hY x hm).1 with h3 | h3
    · exact h1.far x hx h3
    · have := h1.st.lim x hx; omega
  · rcases (hY z hm).1 with h3 | h3
    · exact h.outz h3
    · omega
theorem OwnS.add (h : OwnS X w0 w z q p t) (hc : Chg [] w w') (hY : ∀ x ∈ Y, (x ∈ X ∨ w.heap.size ≤ x) ∧ x < w'.heap.size) : OwnS Y w0 w' z q p t := h.wrote hc (by simp) (by simp) hY
theorem OwnS.sub (h : OwnS X w0 w z q p t) (hY : ∀ x ∈ Y, x ∈ X) : OwnS Y w0 w z q p t := h.add (Chg.refl _ _) (fun x hx => ⟨.inl (hY x hx), h.gl x (hY x hx)⟩)
theorem SvAt.did {U : List Nat} (h : SvAt X w z q p U t) (hs : Std X w w' q p U t') : ∃ U', SvAt X w' z q p U' t' ∧ (∀ x ∈ U', x ∈ U ∨ w.heap.size ≤ x) ∧ Chg U w w' := by
  obtain ⟨U', a1, a2, a3⟩ := hs
  have hz := blk_lt h.head
  refine ⟨U', ⟨a3.keep h.head h.out, a1, fun hm => ?_, fun x hx hm => ?_⟩, a2, a3⟩
  · rcases a2 z hm with h3 | h3
    · exact h.out h3
    · omega
  · rcases a2 x hx with h3 | h3
    · exact h.far x h3 hm
    · have := h.st.gl x hm; omega
theorem OwnS.did (h : OwnS X w0 w z q p t) (hs : ∀ U, SvAt X w z q p U t → (∀ x ∈ U, w0.heap.size ≤ x) → Std X w w' q p U t') : OwnS X w0 w' z q p t' ∧ Kp X w w' := by
  obtain ⟨U, h1, h2⟩ := h.sv
  obtain ⟨U', b1, b2, b3⟩ := h1.did (hs U h1 h2)
  have hsz := h.chg.size
  refine ⟨⟨⟨U', b1, fun x hx => ?_⟩, h.chg.trans b3 (fun x hx => .inr (h2 x hx)), h.newz, h.outz⟩, fun x hx => b3.block x (h1.st.gl x hx) (fun hm => h1.far x hm hx)⟩
  rcases b2 x hx with h3 | h3
  · exact h2 x h3
  · omega
/-- Do. -/
def OwnDo (X : List Nat) (w0 w : World) (z q p : Nat) (r : (Rp × Int) × Sto) (e : Ending) (w' : World) : Prop := ∃ v, e = .returned (.tuple #[v, .int .i64 r.1.2]) ∧ RpAt w w' v r.1.1 ∧ OwnS X w0 w' z q p r.2 ∧ Kp X w w'
theorem own_do (h : OwnS X w0 w z q p t) (r : Rq) (bv : Value) (hx : okD r.x) (hb : BytesAt w bv r.b) (hbX : r.b ≠ [] → ∀ k, bv.ownBlock = some k → k < w0.heap.size ∨ k ∈ X) (hbl : r.b.length ≤ 1000000) (hn : 1 ≤ t.s.d.n) (ho : t.s.d.ops ≤ 800000000) (hw : t.s.d.since.length ≤ 800000) :
    Calls Tryz.prog 12 #[.pointer (some ⟨z, 0, none⟩), rqV r bv] w (OwnDo X w0 w z q p (t.run r)) := by
  obtain ⟨U, h1, h2⟩ := h.sv
  refine (svdo_any r bv w h1 hx hb (fun hne k hk hm => ?_) hbl hn ho hw).mono ?_
  · rcases hbX hne k hk with h3 | h3
    · have := h2 k hm; omega
    · exact h1.far k hm h3
  · rintro e w' ⟨v, rfl, hr, hs⟩
    obtain ⟨U', b1, b2, b3⟩ := h1.did hs
    have hsz := h.chg.size
    refine ⟨v, rfl, hr, ⟨⟨U', b1, fun x hx => ?_⟩, h.chg.trans b3 (fun x hx => .inr (h2 x hx)), h.newz, h.outz⟩, fun x hx => b3.block x (h1.st.gl x hx) (fun hm => h1.far x hm hx)⟩
    rcases b2 x hx with h3 | h3
    · exact h2 x h3
    · omega
/-- Do, its outcome told. -/
def DoIs (X : List Nat) (w0 w : World) (z q p : Nat) (o : Rp) (code : Int) (t' : Sto) (e : Ending) (w' : World) : Prop := ∃ a c a' c', e = .returned (.tuple #[.agg #[.int .i64 o.e, .slice a o.b.length c, .slice a' o.ids.length c', .int .i64 o.room, .bool o.whole], .int .i64 code]) ∧
  BytesAt w' (.slice a o.b.length c) o.b ∧ (∀ k, (Value.slice a o.b.length c).ownBlock = some k → w.heap.size ≤ k) ∧ w'.ownsRow w.heap.size 38 4 (.slice a' o.ids.length c') o.ids.length (o.ids.flatMap idE) ∧ OwnS X w0 w' z q p t' ∧ Kp X w w'
theorem own_doI {o : Rp} {code : Int} (h : OwnS X w0 w z q p t) (r : Rq) (bv : Value) (hrun : t.run r = ((o, code), t')) (hx : okD r.x) (hb : BytesAt w bv r.b) (hbX : r.b ≠ [] → ∀ k, bv.ownBlock = some k → k < w0.heap.size ∨ k ∈ X) (hbl : r.b.length ≤ 1000000) (hn : 1 ≤ t.s.d.n) (ho : t.s.d.ops ≤ 800000000) (hw : t.s.d.since.length ≤ 800000) :
    Calls Tryz.prog 12 #[.pointer (some ⟨z, 0, none⟩), .agg #[.int .i64 r.k, .int .i64 r.x.c, .int .i64 r.x.l, .int .i64 r.x.n, .int .i64 r.x.i, bv]] w (DoIs X w0 w z q p o code t') := by
  refine (own_do h r bv hx hb hbX hbl hn ho hw).mono ?_
  rw [hrun]
  rintro e w' ⟨v, rfl, ⟨bv', iv', rfl, hb', hn', hi'⟩, ho', hk'⟩
  obtain ⟨a, c, rfl⟩ := hb'.slice
  obtain ⟨a', c', rfl⟩ : ∃ a c, iv' = .slice a o.ids.length c := by
    rcases hi'.2 with ⟨h1, h2⟩ | ⟨g, cap, cur, h1, _⟩
    · exact ⟨none, 0, by rw [h1]; rw [show o.ids.length = 0 from h2]⟩
    · exact ⟨_, cap, h1⟩
  exact ⟨a, c, a', c', rfl, hb', hn', hi', ho', hk'⟩
/-- A new server. -/
def NewS (w0 : World) (t : Sto) (e : Ending) (w' : World) : Prop := ∃ z q p, e = .returned (.tuple #[.pointer (some ⟨z, 0, none⟩), .int .i64 0]) ∧ OwnS [] w0 w' z q p t
theorem ownS_of {w3 : World} (h : Own6 [] w0 w q p t) (hw3 : w3 = w.alloc (.cells #[.pointer (some ⟨q, 0, none⟩)] 87)) : OwnS [] w0 w3 w.heap.size q p t := by
  obtain ⟨U, h1, h2, h3, h4⟩ := h
  subst hw3
  refine ⟨⟨U, ⟨heap_alloc_new w _, h1.keep0 ((Chg.refl [] w).alloc _), fun hm => by have := h1.lim _ hm; omega, by simp⟩, h2⟩, h3.alloc _, h3.size, by simp⟩
set_option maxHeartbeats 4000000 in
set_option maxRecDepth 100000 in
theorem own_newS (hc : Chg [] w0 w) (n : Nat) (h9 : 9 ≤ n) (hm : n ≤ 4160) {d : DS} (hf : (DS.new n).format = ((0, some t), d)) : Calls Tryz.prog 11 #[.int .i64 (n : Int)] w (NewS w0 t) := by
  have CN := Lib.hid (own_disk n w (by omega) hm)
  have HC := Lib.hid hc
  have HF := Lib.hid hf
  clear hc hf
  go_enter Tryz.func11, Tryz.ntmps11
  go_wp2_with fail
  refine CN.out.mono ?_
  rintro e w1 ⟨p, S, rfl, hd1, hS1, hc1⟩
  have CF := Lib.hid (own_format (w0 := w0) hd1 (fun x hx => Nat.le_trans HC.out.size (hS1 x hx)) (HC.out.trans hc1 (by simp)) HF.out)
  clear hd1 hS1 hc1 CN
  go_wp2_with fail
  refine CF.out.mono ?_
  rintro e w2 ⟨q, rfl, ho2⟩
  have HO := Lib.hid (ownS_of ho2 rfl)
  clear ho2 CF
  go_wp2
  go_ret2
  exact ⟨_, q, p, rfl, HO.out⟩
end
end Go.Proofs.YtdkhmfcfihbjeaaGreatDoor.W

/- The law's awake of package server; Request, Small. -/
namespace Go.Proofs.YtdkhmfcfihbjeaaGreatDoor.W
open Go.RowKit
set_option linter.unusedVariables false
set_option linter.unusedSimpArgs false

structure Wake20 where
  t0 : Sto
  t1 : Sto
  d : DS
  fmt : (DS.new 25).format = ((0, some t0), d)
  lim0 : 1 ≤ t0.s.d.n ∧ t0.s.d.ops ≤ 25 ∧ t0.s.d.since.length = 0
  lim1 : 1 ≤ t1.s.d.n ∧ t1.s.d.ops ≤ 65 ∧ t1.s.d.since.length = 0
  put : t0.run ⟨1, ⟨1, 0, 5, 2⟩, [9]⟩ = ((⟨0, [], [], 0, false⟩, 0), t1)
  get : t1.run ⟨2, ⟨1, 0, 5, 2⟩, []⟩ = ((⟨0, [9], [], 0, false⟩, 0), t1)
theorem wake20_is : Nonempty Wake20 := by
  obtain ⟨t, d, h1, h2, h3, h4, h5, h6⟩ := Keep.new 25 (by omega)
  have hm : mayId ⟨1, 0, 5, 2⟩ = true := by decide
  obtain ⟨F, p1, p2, p3⟩ := h2.put ⟨1, 0, 5, 2⟩ [9]
  have hr : t.s.rows.length ≤ 20 := by have := h2.kept.full.1; omega
  have hf := step_far t ⟨1, ⟨1, 0, 5, 2⟩, [9]⟩ hr
  have hput : (t.put ⟨1, 0, 5, 2⟩ [9]).1 = 0 ∧ F = setF (fun _ => none) ⟨1, 0, 5, 2⟩ (some [9]) := by
    rcases h2.kept.put_may hm rfl (b := [9]) (by simp) (by omega) with ⟨e1, _⟩ | ⟨_, e2, _⟩
    · rcases p3 with ⟨_, _, e3, _⟩ | ⟨e3, _, _⟩
      · exact ⟨e1, e3⟩
      · exact absurd (e3 e1) (by simp)
    · rw [p1.alive] at e2; cases e2
  have hn' := hf.n
  have ho' := hf.ops
  rw [step1] at hn' ho'
  dsimp only at hn' ho'
  refine ⟨⟨t, (t.put ⟨1, 0, 5, 2⟩ [9]).2, d, h1, ⟨by omega, by omega, by rw [h2.since]; rfl⟩, ⟨by omega, by omega, by rw [p1.since]; rfl⟩, ?_, ?_⟩⟩
  · rw [h2.run, step1, hput.1]
    rfl
  · rw [p1.run, p1.gets, hput.2, setF_self, if_neg (by rw [hm]; simp)]
    rfl
set_option maxHeartbeats 8000000 in
set_option maxRecDepth 100000 in
theorem awake20_any (w : World) : Calls Tryz.prog 9 #[] w fun e w' => e = .returned (.bool true) ∧ Chg [] w w' := by
  obtain ⟨⟨t0, t1, d, hf, hl0, hl1, hp, hg⟩⟩ := wake20_is
  have CN := Lib.hid (own_newS (Chg.refl [] w) 25 (by omega) (by omega) hf)
  have HP := Lib.hid hp
  have HG := Lib.hid hg
  have HL0 := Lib.hid hl0
  have HL1 := Lib.hid hl1
  clear hf hp hg hl0 hl1
  go_enter Tryz.func9, Tryz.ntmps9
  go_wp2_with fail
  refine CN.out.mono ?_
  rintro e w1 ⟨z, q, p, rfl, ho1⟩
  have CI := Lib.hid (lawid_any 1 0 5 2 w1)
  have HO1 := Lib.hid ho1
  clear ho1 CN
  go_wp2_with fail
  refine CI.out.mono ?_
  rintro e w2 ⟨rfl, hc2⟩
  have hcA : Chg [] w2 (w2.alloc (.cells #[bv 9] 5)) := (Chg.refl _ _).alloc _
  have HO2 := Lib.hid ((HO1.out.keep0 hc2).add (Y := [w2.heap.size]) hcA (fun x hx => by rw [List.mem_singleton.1 hx]; exact ⟨.inr (Nat.le_refl _), by simp⟩))
  have CP := Lib.hid (own_doI HO2.out ⟨1, ⟨1, 0, 5, 2⟩, [9]⟩ (.slice (some ⟨w2.heap.size, 0, none⟩) 1 1) HP.out okD_c (one_byte6 w2 9) (fun _ k hk => .inr (by
    obtain rfl : w2.heap.size = k := by simpa [Value.ownBlock] using hk
    simp)) (by simp) HL0.out.1 (by have := HL0.out.2.1; omega) (by have := HL0.out.2.2; omega))
  rw [show bv 9 = .int .u8 9 from rfl] at CP
  dsimp only at CP
  clear hc2 hcA CI HO1
  go_wp2_with fail
  refine CP.out.mono ?_
  rintro e w4 ⟨a4, c4, a5, c5, he, hb4, hn4, hi4, ho4, hk4⟩
  dsimp only at he
  subst he
  have hcB : Chg [] w4 (w4.alloc (.cells #[.int .i64 0, .slice a4 0 c4, .slice a5 0 c5, .int .i64 0, .bool false] 32)) := (Chg.refl _ _).alloc _
  have HO4 := Lib.hid (ho4.add (Y := [w4.heap.size]) hcB (fun x hx => by rw [List.mem_singleton.1 hx]; exact ⟨.inr (Nat.le_refl _), by simp⟩))
  have HA4 := Lib.hid (heap_alloc_new w4 (.cells #[.int .i64 0, .slice a4 0 c4, .slice a5 0 c5, .int .i64 0, .bool false] 32))
  clear hb4 hn4 hi4 ho4 hk4 hcB CP
  have CI := Lib.hid (lawid_any 1 0 5 2 (w4.alloc (.cells #[.int .i64 0, .slice a4 0 c4, .slice a5 0 c5, .int .i64 0, .bool false] 32)))
  go_wp2_with fail
  refine CI.out.mono ?_
  rintro e w5 ⟨rfl, hc5⟩
  have HA5 := Lib.hid (hc5.keep HA4.out (by simp))
  have CG := Lib.hid (own_doI (HO4.out.keep0 hc5) ⟨2, ⟨1, 0, 5, 2⟩, []⟩ (.slice none 0 0) HG.out okD_c (BytesAt.nil _) (by simp) (by simp) HL1.out.1 (by have := HL1.out.2.1; omega) (by have := HL1.out.2.2; omega))
  dsimp only at CG
  clear hc5 CI
  go_wp2_with fail
  refine CG.out.mono ?_
  rintro e w6 ⟨a6, c6, a7, c7, he, hb6, hn6, hi6, ho6, hk6⟩
  dsimp only at he hb6
  subst he
  have HA6 := Lib.hid ((hk6 w4.heap.size (by simp)).trans HA5.out)
  have hcC : Chg [] w6 (w6.alloc (.cells #[.int .i64 0, .slice a6 1 c6, .slice a7 0 c7, .int .i64 0, .bool false] 32)) := (Chg.refl _ _).alloc _
  have HB6 := Lib.hid (hb6.chg hcC (by simp))
  have HC6 := Lib.hid (ho6.chg.trans hcC (by simp))
  have HA7 := Lib.hid (hcC.keep HA6.out (by simp))
  have HN6 := Lib.hid (heap_alloc_new w6 (.cells #[.int .i64 0, .slice a6 1 c6, .slice a7 0 c7, .int .i64 0, .bool false] 32))
  clear hb6 hn6 hi6 ho6 hk6 hcC CG
  obtain ⟨w7, hw7⟩ : ∃ w7, w7 = w6.alloc (.cells #[.int .i64 0, .slice a6 1 c6, .slice a7 0 c7, .int .i64 0, .bool false] 32) := ⟨_, rfl⟩
  rw [← hw7] at HB6 HC6 HA7 HN6
  have p0 := blk_cell HA7.out 0 _ rfl
  have p1 := blk_cell HN6.out 0 _ rfl
  have p2 := blk_cell HN6.out 1 _ rfl
  rw [hw7] at p0 p1 p2
  have HW7 := Lib.hid hw7
  have hcD : Chg [] w7 (w7.alloc (.cells #[bv 9] 5)) := (Chg.refl _ _).alloc _
  have CS := Lib.hid (same_any (.slice a6 1 c6) (.slice (some ⟨w7.heap.size, 0, none⟩) 1 1) [9] [9] (w7.alloc (.cells #[bv 9] 5)) (HB6.out.chg hcD (by simp)) (one_byte6 w7 9) (by simp) (by simp))
  rw [decide_eq_true rfl, show bv 9 = .int .u8 9 from rfl, show w7.heap.size = w6.heap.size + 1 by rw [hw7]; simp] at CS
  have HCD := Lib.hid hcD
  clear hw7 hcD
  go_wp2_with fail
  rw [← HW7.out]
  refine CS.out.mono ?_
  rintro e w8 ⟨rfl, nn, hq⟩
  have HCF : Hid (Chg [] w w8) := Lib.hid (by rw [hq]; exact (HC6.out.trans HCD.out (by simp)).drewN nn)
  clear hq
  go_wp2
  go_ret
  exact ⟨rfl, HCF.out⟩
end Go.Proofs.YtdkhmfcfihbjeaaGreatDoor.W

/- Bytes that came in. -/
namespace Go.Proofs.YtdkhmfcfihbjeaaGreatDoor.W
open Go.RowKit Go.ChangeShapes Go.WideShapes
set_option linter.unusedVariables false
set_option linter.unusedSimpArgs false

/-- Bytes that came in. -/
def Came (w : World) (v : Value) (l : List UInt8) : Prop := BytesAt w v l ∧ (l ≠ [] → ∀ k, v.ownBlock = some k → k < w.heap.size)
theorem Came.chg {w w' : World} {v : Value} {l : List UInt8} (h : Came w v l) (hc : Chg [] w w') : Came w' v l := ⟨h.1.chg hc (by simp), fun hl k hk => Nat.lt_of_lt_of_le (h.2 hl k hk) hc.size⟩
theorem toU8 (z : Int) (h : (Lit.int .u8 z).wf = true) : .int .u8 z = bv (UInt8.ofNat z.toNat) := by
  simp [Lit.wf, IntKind.min, IntKind.max, IntKind.signed, IntKind.bits] at h
  unfold bv
  rw [UInt8.toNat_ofNat']
  congr 1
  omega

section
variable {H : Type} {enc : TypeId × Value → H} {w : World} {base : Nat} {held : Bool}
/-- A slice of bytes that came in. -/
theorem open_came {fuel : Nat} {cs : List Value} {x : DataW H × List MemPlace} (h : DataW.trod enc Tryz.prog w base (fun _ => true) held fuel 30 cs = some x) : ∃ v l, cs = [v] ∧ Came w v l ∧ l.length ≤ maxLen := by
  rcases open_ints Tryz.underlying30 Tryz.underlying5 (by kernel_rfl) h with ⟨rfl, _⟩ | ⟨a, len, cap, zs, rfl, _, hl, hm, hz, _, hcell, hwf⟩
  · exact ⟨_, [], rfl, ⟨BytesAt.nil _, by simp⟩, by unfold maxLen; simp⟩
  · replace hz : zs.length = cap := by simpa using hz
    have hlen : ((zs.take len).map (fun z => UInt8.ofNat z.toNat)).length = len := by rw [List.length_map, List.length_take]; omega
    have hg : ∀ i, i < len → ((zs.take len).map (fun z => UInt8.ofNat z.toNat)).getD i 0 = UInt8.ofNat (zs.getD i 0).toNat := by
      intro i hi
      rw [List.getD_eq_getElem?_getD, List.getElem?_map, List.getElem?_take, if_pos hi, List.getD_eq_getElem?_getD, List.getElem?_eq_getElem (by omega)]
      rfl
    have hw : ∀ i, i < zs.length → (Lit.int .u8 (zs.getD i 0)).wf = true := fun i hi => hwf _ (by
      rw [List.getD_eq_getElem?_getD, List.getElem?_eq_getElem hi]
      exact List.getElem_mem hi)
    refine ⟨_, (zs.take len).map (fun z => UInt8.ofNat z.toNat), rfl, ?_, by rw [hlen]; omega⟩
    by_cases hc0 : cap = 0
    · have h0 : len = 0 := by omega
      subst hc0; subst h0
      have hnil : (zs.take 0).map (fun z => UInt8.ofNat z.toNat) = [] := by simp
      rw [hnil]
      exact ⟨⟨some a, 0, rfl, Nat.le_refl _, by unfold maxLen; omega, .inl ⟨rfl, rfl⟩⟩, fun h => absurd rfl h⟩
    · obtain ⟨g, o, spot⟩ := a
      have hc := hcell 0 (by omega)
      have hspot : spot = none := by simpa [Addr.add] using World.cell?_spot hc
      subst hspot
      have hlt : g < w.heap.size := by
        have := World.block_lt_of_cell? w _ hc
        simpa [Addr.add] using this
      refine ⟨⟨some ⟨g, o, none⟩, cap, by rw [hlen], by omega, hm, .inr ⟨g, o, rfl, fun i hi => ?_⟩⟩, fun _ k hk => ?_⟩
      · rw [hlen] at hi
        have := hcell i (by omega)
        rw [add_none] at this
        rw [this, hg i hi, ← toU8 _ (hw i (by omega))]
      · obtain rfl : g = k := by simpa [Value.ownBlock] using hk
        exact hlt
end
theorem IsRow.came {w : World} {a : Option Addr} {len cap : Nat} {zs : List Int} (h : IsRow .u8 w a len cap zs) : ∃ l, l.length = len ∧ len ≤ maxLen ∧ Came w (.slice a len cap) l := by
  rcases h with ⟨rfl, rfl, rfl, rfl⟩ | ⟨x, rfl, h1, h2, h3, h4, h5⟩
  · exact ⟨[], rfl, by unfold maxLen; omega, BytesAt.nil w, by simp⟩
  · have hlen : ((zs.take len).map (fun z => UInt8.ofNat z.toNat)).length = len := by rw [List.length_map, List.length_take]; omega
    have hg : ∀ i, i < len → ((zs.take len).map (fun z => UInt8.ofNat z.toNat)).getD i 0 = UInt8.ofNat (zs.getD i 0).toNat := by
      intro i hi
      rw [List.getD_eq_getElem?_getD, List.getElem?_map, List.getElem?_take, if_pos hi, List.getD_eq_getElem?_getD, List.getElem?_eq_getElem (by omega)]
      rfl
    have hw : ∀ i, i < zs.length → (Lit.int .u8 (zs.getD i 0)).wf = true := fun i hi => h5 _ (by
      rw [List.getD_eq_getElem?_getD, List.getElem?_eq_getElem hi]
      exact List.getElem_mem hi)
    refine ⟨_, hlen, by omega, ?_⟩
    by_cases hl0 : len = 0
    · subst hl0
      have hnil : (zs.take 0).map (fun z => UInt8.ofNat z.toNat) = [] := by simp
      rw [hnil]
      by_cases hc0 : cap = 0
      · subst hc0
        exact ⟨⟨some x, 0, rfl, Nat.le_refl _, by unfold maxLen; omega, .inl ⟨rfl, rfl⟩⟩, by simp⟩
      · obtain ⟨g, o, spot⟩ := x
        have hc := h4 0 (by omega)
        have hspot : spot = none := by simpa [Addr.add] using World.cell?_spot hc
        subst hspot
        exact ⟨⟨some ⟨g, o, none⟩, cap, rfl, by simp, h2, .inr ⟨g, o, rfl, by simp⟩⟩, by simp⟩
    · obtain ⟨g, o, spot⟩ := x
      have hc := h4 0 (by omega)
      have hspot : spot = none := by simpa [Addr.add] using World.cell?_spot hc
      subst hspot
      have hlt : g < w.heap.size := by
        have := World.block_lt_of_cell? w _ hc
        simpa [Addr.add] using this
      refine ⟨⟨some ⟨g, o, none⟩, cap, by rw [hlen], by omega, h2, .inr ⟨g, o, rfl, fun i hi => ?_⟩⟩, fun _ k hk => ?_⟩
      · rw [hlen] at hi
        have := h4 i (by omega)
        rw [add_none] at this
        rw [this, hg i hi, ← toU8 _ (hw i (by omega))]
      · obtain rfl : g = k := by simpa [Value.ownBlock] using hk
        exact hlt
end Go.Proofs.YtdkhmfcfihbjeaaGreatDoor.W
