/- Texts laid together. -/
import Derived.Test.YtaophafailmhjaaBP1
import Derived.Deep.LoopGhost
import Derived.Deep.QuietTactic
import Derived.BigQuiet
import Derived.Laws.CopyOwn
import Derived.Lib.AppendZerosOnto
import Derived.Lib.Overlaps
import Derived.Deep.AppendLies
import Derived.Laws.Externs
import Derived.Shelf.Spec.SlicesInsert
import Derived.Deep.RegionHeld3
/- Package tree: List. -/
namespace Go.Proofs.Ytaophafailmhjaa.W
open Go.RowKit
open Go.Proofs.Ytaophafailmhjaa.NM
set_option linter.unusedVariables false
set_option linter.unusedSimpArgs false

abbrev Ent := List UInt8 × Nat × Bool
def entC (x : Ent) : List Value := [.string ⟨x.1.toArray⟩, .int .i64 (x.2.1 : Int), .bool x.2.2]
def entOf (T : PT) (a : Nat) (s : List UInt8) : Ent := (s, tKid T a s, tIsDir T (tKid T a s))
def namesOf (T : PT) (a : Nat) : List (List UInt8) := ((T.filter (fun x => x.dir == a)).map (fun x => x.name)).mergeSort (fun x y => decide (x ≤ y))
def entsOf (T : PT) (a : Nat) : List Ent := (namesOf T a).map (entOf T a)
def tList (T : PT) (p : List UInt8) : List Ent × Int :=
  if (tLook T p).2.2 ≠ 0 then ([], (tLook T p).2.2) else if (tLook T p).2.1 = false then ([], 10) else (entsOf T (tLook T p).1, 0)
def ListPost (w : World) (r : List Ent × Int) (e : Ending) (w' : World) : Prop := ∃ v, e = .returned (.tuple #[v, .int .i64 r.2]) ∧ w'.ownsRow w.heap.size 106 3 v r.1.length (r.1.flatMap entC) ∧ Chg [] w w'

theorem kid_names {T : PT} {a : Nat} (s : List UInt8) : (φK T a s).isSome = true ↔ s ∈ (T.filter (fun x => x.dir == a)).map (fun x => x.name) := by
  unfold φK
  rw [List.mem_map]
  constructor
  · intro h
    cases hg : tKidOf T a s with
    | none => rw [hg] at h; cases h
    | some x =>
      obtain ⟨h1, h2, h3⟩ := kidOf_some hg
      exact ⟨x, List.mem_filter.2 ⟨h1, by simpa using h2⟩, h3⟩
  · rintro ⟨x, hx, rfl⟩
    obtain ⟨h1, h2⟩ := List.mem_filter.1 hx
    cases hg : tKidOf T a x.name with
    | none => exact absurd ⟨by simpa using h2, rfl⟩ (kidOf_none hg x h1)
    | some y => rfl
theorem names_nodup {T : PT} (h : TOk T) (a : Nat) : ((T.filter (fun x => x.dir == a)).map (fun x => x.name)).Nodup := by
  unfold List.Nodup
  rw [List.pairwise_map]
  refine List.Pairwise.imp_of_mem ?_ (h.apart.filter (fun x => x.dir == a))
  intro x y hx hy hxy e
  have h1 := (List.mem_filter.1 hx).2
  have h2 := (List.mem_filter.1 hy).2
  exact hxy ⟨by simp at h1 h2; omega, e⟩
theorem leB_trans (a b c : List UInt8) (h1 : decide (a ≤ b) = true) (h2 : decide (b ≤ c) = true) : decide (a ≤ c) = true := by
  rw [decide_eq_true_eq] at *; exact List.le_trans h1 h2
theorem leB_total (a b : List UInt8) : (decide (a ≤ b) || decide (b ≤ a)) = true := by
  rcases List.le_total a b with h | h <;> simp [h]
/-- What was met, sorted. -/
theorem sorted_names {T : PT} (h : TOk T) {a : Nat} {ss : List (List UInt8)} (hn : ss.Nodup) (hm : ∀ s, s ∈ ss ↔ (φK T a s).isSome = true) : ss.mergeSort (fun x y => decide (x ≤ y)) = namesOf T a := by
  have hp : ss.Perm ((T.filter (fun x => x.dir == a)).map (fun x => x.name)) := (List.perm_ext_iff_of_nodup hn (names_nodup h a)).2 (fun s => (hm s).trans (kid_names s))
  have hs : ∀ l : List (List UInt8), (l.mergeSort (fun x y => decide (x ≤ y))).Pairwise (fun x y => x ≤ y) := fun l =>
    (List.pairwise_mergeSort (le := fun x y : List UInt8 => decide (x ≤ y)) leB_trans leB_total l).imp fun {a b} hab => by simpa using hab
  exact List.Perm.eq_of_pairwise (le := fun x y : List UInt8 => x ≤ y) (fun a b _ _ h1 h2 => List.le_antisymm h1 h2) (hs _) (hs _) ((List.mergeSort_perm _ _).trans (hp.trans (List.mergeSort_perm _ _).symm))

theorem elEntries : El Try.prog 28 106 (.agg #[.string ByteArray.empty, .int .i64 0, .bool false]) 3 32 := El.mk Try.underlying28 (by kernel_rfl) rfl (by decide)
def entE (T : PT) (a : Nat) (s : List UInt8) : List Value := entC (entOf T a s)
theorem entE_len (T : PT) (a : Nat) (s : List UInt8) : (entE T a s).length = 3 := rfl
theorem entE_one (T : PT) (a : Nat) (s : List UInt8) : ∀ v ∈ entE T a s, v.oneCell' = true := by
  intro v hv
  simp [entE, entC] at hv
  rcases hv with rfl | rfl | rfl <;> rfl

set_option maxHeartbeats 2000000 in
set_option maxRecDepth 100000 in
theorem closureE (x y : List UInt8) (i j : Int) (b c : Bool) (W : World) : Calls Try.prog 62 #[.agg #[.string ⟨x.toArray⟩, .int .i64 i, .bool b], .agg #[.string ⟨y.toArray⟩, .int .i64 j, .bool c]] W fun e w' =>
    e = .returned (.int .i64 (Lib.compareBytes x y)) ∧ ∃ q os', w' = Go.Sort.grow (W.drewN q) os' := by
  have hcon := fun W' => Try.strings_Compare ⟨x.toArray⟩ ⟨y.toArray⟩ W'
  have HC : Hid (∀ W', Calls Try.prog 63 #[.string ⟨x.toArray⟩, .string ⟨y.toArray⟩] W' fun e w' => e = .returned (.int .i64 (Lib.compareBytes x y)) ∧ w' = W') := Lib.hid hcon
  clear hcon
  generalize Lib.compareBytes x y = r at HC ⊢
  go_enter Try.func62, Try.ntmps62
  go_wp2_with fail
  refine (HC.out _).mono ?_
  rintro e w' ⟨rfl, rfl⟩
  go_wp2
  go_ret
  exact ⟨rfl, 0, _, by rw [Go.Sort.alloc_eq_grow, Go.Sort.alloc_eq_grow, Go.Sort.grow_grow]; rfl⟩
theorem cmpLaysE (T : PT) (a : Nat) (blk off size : Nat) (w : World) : CmpLays Try.prog 62 #[] (entE T a) 3 Lib.compareBytes blk off size w :=
  fun _ _ _ _ x y => closureE x y _ _ _ _ _
theorem kids_le' (T : PT) (a : Nat) : nKids T a ≤ T.length := List.length_filter_le _ _
theorem look_okL {T : PT} {p : List UInt8} (h : (tLook T p).2.2 = 0) : tHas T (tLook T p).1 = true ∧ (tLook T p).2.1 = tIsDir T (tLook T p).1 := by
  unfold tLook at h ⊢
  cases hs : splitB p with
  | none => rw [hs] at h; cases h
  | some l =>
    rw [hs] at h
    simp only at h ⊢
    by_cases h1 : (tWalk T l 1).2 ≠ 0
    · rw [if_pos h1] at h; exact absurd h h1
    · rw [if_neg h1]
      exact ⟨walk_has l 1 rfl (by simpa using h1), rfl⟩
/-- The sort, at a row of entries of the call's own. -/
theorem sortE_any {w : World} {base : Nat} {v : Value} {T : PT} {a : Nat} {ss : List (List UInt8)} (hown : w.ownsRow base 106 3 v ss.length (ss.flatMap (entE T a))) (hl : ss.length ≤ 1000000) :
    Calls Try.prog 61 #[v, .func (.func 62) #[] #[]] w fun e w' => e = .returned (.tuple #[]) ∧ w'.ownsRow base 106 3 v ss.length ((ss.mergeSort (fun x y => decide (x ≤ y))).flatMap (entE T a)) ∧ ∀ S : List Nat, (∀ k, v.ownBlock = some k → k ∈ S) → Chg S w w' := by
  obtain ⟨hlen, hrow⟩ := hown
  rcases hrow with ⟨rfl, h0⟩ | ⟨gb, cap, cur, rfl, hbg, hgb, hnc, hcm, hcs, htake⟩
  · have hnil : ss = [] := List.eq_nil_of_length_eq_zero h0
    subst hnil
    have hS := AnyF.slices_SortFunc_none (P := Try.prog) (ρ := Try.laysSortE_ren) { Try.laysSortE with } none 0 (.func (.func 62) #[] #[]) w
    change Calls Try.prog 61 _ _ _ at hS
    refine hS.mono fun e w' ⟨h1, h2⟩ => ⟨h1, ?_, ?_⟩
    · rw [h2]; simpa using World.ownsRow_nil w base 106 3
    · rw [h2]; exact fun S _ => Chg.refl _ _
  · have hH := holds_row (entE T a) (entE_len T a) hgb htake
    have eg : ∀ args w, (callFunc 62 args).run Try.prog w = .ok (.enter 62 args) w := enters_of Try.func62 (by kernel_rfl) rfl
    have hS := AnyQ.slices_SortFunc_total Try.laysSortE 3 Try.isAgg106 Try.sizeOf106 (entE T a) (entE_len T a) (entE_one T a) Lib.compareBytes swoB 62 #[] gb 0 cap ss.toArray w eg (cmpLaysE T a gb 0 _ w) hH (blk_lt hgb) (by simp; omega) totB
    rw [leB] at hS
    change Calls Try.prog 61 _ _ _ at hS
    have hsz : ss.toArray.size = ss.length := by simp
    rw [hsz] at hS
    refine hS.mono fun e w' ⟨h1, n, os, h2⟩ => ⟨h1, ?_, fun S hS => ?_⟩
    · rw [h2]
      exact ownsRow_sortedK (entE T a) (entE_len T a) (by rw [List.length_mergeSort]) hbg hgb hnc hcm hcs
    · rw [h2]
      exact (chg_sortedK _ _ _).mono (fun x hx => .inl (by rw [List.mem_singleton.1 hx]; exact hS gb rfl))

set_option maxHeartbeats 8000000 in
set_option maxRecDepth 100000 in
theorem tlist_any (t : Nat) (S : List Nat) (T : PT) (s : ByteArray) (w : World) (h : TreeAt w t S T) (hs : s.size ≤ maxLen) (hTl : T.length ≤ 1000) :
    Calls Try.prog 46 #[.pointer (some ⟨t, 0, none⟩), .string s] w (ListPost w (tList T s.data.toList)) := by
  have H := Lib.hid h
  have HS := Lib.hid hs
  have hok := Lib.hid h.ok
  have hlim := Lib.hid h.lim
  clear h hs
  obtain ⟨Z, hZ⟩ : ∃ Z, tList T s.data.toList = Z := ⟨_, rfl⟩
  have HX : Hid (Z = if (tLook T s.data.toList).2.2 ≠ 0 then ([], (tLook T s.data.toList).2.2) else if (tLook T s.data.toList).2.1 = false then ([], 10) else (entsOf T (tLook T s.data.toList).1, 0)) := Lib.hid (by rw [← hZ]; rfl)
  rw [hZ]
  clear hZ
  have HP := Lib.hid (tlook_any t S T s w H.out HS.out)
  have HO : Hid ((tLook T s.data.toList).2.2 = 0 → tHas T (tLook T s.data.toList).1 = true ∧ (tLook T s.data.toList).2.1 = tIsDir T (tLook T s.data.toList).1) := Lib.hid (fun h => look_okL h)
  generalize tLook T s.data.toList = r at *
  obtain ⟨a, isd, er⟩ := r
  simp only at HX HO
  by_cases h0 : er = 0
  · subst h0
    obtain ⟨o1, o2⟩ := HO.out rfl
    have HX1 : Hid (Z = if isd = false then ([], 10) else (entsOf T a, 0)) := Lib.hid (by rw [HX.out, if_neg (by simp)])
    have HA := Lib.hid o1
    have HD := Lib.hid o2
    have has := has_small hok.out o1
    clear o1 o2 HX HO
    cases isd with
    | false =>
      have HE : Hid (Z = ([], 10)) := Lib.hid (by rw [HX1.out, if_pos rfl])
      go_enter Try.func46, Try.ntmps46
      go_wp2_with fail
      refine HP.out.mono ?_
      rintro e w1 ⟨rfl, hb⟩
      have HB := Lib.hid hb
      clear hb
      go_wp2
      go_ret2
      rw [HE.out]
      exact ⟨_, rfl, World.ownsRow_nil _ _ _ _, HB.out⟩
    | true =>
      have HE : Hid (Z = (entsOf T a, 0)) := Lib.hid (by rw [HX1.out, if_neg (by simp)])
      have hd : tIsDir T a = true := HD.out.symm
      have HD2 := Lib.hid hd
      have hkl : nKids T a ≤ 1000 := Nat.le_trans (kids_le' T a) hTl
      clear hd HX1 HD
      go_enter Try.func46, Try.ntmps46
      go_wp2_with fail
      refine HP.out.mono ?_
      rintro e w1 ⟨rfl, hb⟩
      have HB := Lib.hid hb
      obtain ⟨bm, f, g, HT⟩ := H.out.keep0 hb
      have c0 := blk_cell HT.head 0 _ rfl
      have hlk := HT.at HA.out
      have d3 := (HT.cells HA.out).2.2.2
      rw [if_pos HD2.out] at d3
      have HTT := Lib.hid HT
      have hgl := (HT.ins a HD2.out).lt
      clear hb HT
      go_wp2_with (refine wpList_rng keStr _ rfl _ _ rfl 3 Try.underlying77 (g a) (nKids T a) (φK T a) rfl (HTT.out.ins a HD2.out) ?_; intro w2 hr1 hc1 hs1; have HR1 := Lib.hid (And.intro hr1 (And.intro hc1 hs1)); clear hr1 hc1 hs1)
      go_frame
      clear hlk
      go_loopg [9] (nKids T a) (fun gh v9 wr => ∃ (v : Value) (ss : List (List UInt8)) (left : List UInt8 → Bool) (cnt : Nat), v = v9 ∧ cnt ≤ gh ∧ ss.length + cnt ≤ nKids T a ∧ wr.ownsRow w1.heap.size 106 3 v ss.length (ss.flatMap (entE T a)) ∧ Hid (Rng 9 klS okS wr (g a) w1.heap.size (φK T a) (nKids T a) left cnt) ∧
        Hid (ss.Nodup ∧ ∀ s, okS s → (s ∈ ss ↔ (φK T a s).isSome = true ∧ left s = false)) ∧ Hid (∀ s ∈ ss, okS s) ∧ Hid (Chg [] w1 wr))
      case atStart =>
        refine ⟨_, [], _, _, rfl, Nat.le_refl _, by simp, World.ownsRow_nil _ _ _ _, Lib.hid HR1.out.1, Lib.hid ⟨List.nodup_nil, fun k hk => ?_⟩, Lib.hid (by simp), Lib.hid HR1.out.2.1⟩
        constructor
        · intro h; cases h
        · rintro ⟨h1, h2⟩
          rw [h1] at h2; cases h2
      case round =>
        obtain ⟨v9, ss, left, cnt, rfl, hcg, hkc, hown, HR, HK, HO, HC⟩ := hrel
        have hrne : some w1.heap.size ≠ v9.ownBlock := by
          obtain ⟨D, lf, hr, _⟩ := HR.out
          exact row_ne_iter hown hr
        have HOWN := Lib.hid hown
        clear hown
        go_wp2_with (refine wpList_nxtS _ rfl _ rfl (g a) w1.heap.size (nKids T a) (φK T a) left cnt rfl HR.out ?_ ?_)
        · intro hc0 hl0
          have HALL : Hid (∀ k, k ∈ ss ↔ (φK T a k).isSome = true) := Lib.hid (fun k => by
            constructor
            · intro hk
              exact ((HK.out.2 k (HO.out k hk)).1 hk).1
            · intro hk
              have hki : okS k := by
                obtain ⟨x, hx, rfl⟩ := List.mem_map.1 ((kid_names k).1 hk)
                have := may_len (hok.out.may x (List.mem_filter.1 hx).1)
                unfold okS maxLen; omega
              exact (HK.out.2 k hki).2 ⟨hk, hl0 k hki⟩)
          have HS : Hid (ss.mergeSort (fun x y => decide (x ≤ y)) = namesOf T a) := Lib.hid (sorted_names hok.out HK.out.1 HALL.out)
          have HL : Hid (ss.length = (entsOf T a).length) := Lib.hid (by
            have := congrArg List.length HS.out
            rw [List.length_mergeSort] at this
            rw [this]; unfold entsOf; simp)
          clear hc0 hl0
          go_wp2_with fail
          refine (sortE_any HOWN.out (by omega)).mono ?_
          rintro e w5 ⟨rfl, hrow, hch⟩
          have HF : Hid (w5.ownsRow w.heap.size 106 3 v9 (entsOf T a).length ((entsOf T a).flatMap entC) ∧ Chg [] w w5) := Lib.hid (by
            rw [HS.out, HL.out] at hrow
            refine ⟨?_, ?_⟩
            · have e1 : (namesOf T a).flatMap (entE T a) = (entsOf T a).flatMap entC := by
                unfold entsOf
                rw [List.flatMap_map]; rfl
              rw [← e1]
              exact row_base hrow w.heap.size (fun k hk => Nat.le_trans HB.out.size (World.ownsRow.lt hrow k hk).1)
            · cases hv : v9.ownBlock with
              | none => exact (chg_tr HB.out HC.out).trans (hch [] (by rw [hv]; simp)) (by simp)
              | some k =>
                have hlt := (World.ownsRow.lt HOWN.out k hv).1
                exact (chg_tr HB.out HC.out).trans (hch [k] (by rw [hv]; simp)) (by have := HB.out.size; simp; omega))
          clear hrow hch
          go_wp2
          go_ret2
          rw [HE.out]
          exact ⟨_, rfl, HF.out⟩
        · intro x v w3 cnt2 hox hlx hvx hr2 hlt hc2 hs2 hen
          obtain ⟨y, hy, rfl⟩ : ∃ y, tKidOf T a x = some y ∧ .int .i64 (y.ino : Int) = v := by
            unfold φK at hvx
            cases hg : tKidOf T a x with
            | none => rw [hg] at hvx; cases hvx
            | some y =>
              rw [hg] at hvx
              exact ⟨y, rfl, by simpa using hvx⟩
          have HX : Hid ((φK T a x).isSome = true ∧ x ∉ ss ∧ okS x) := Lib.hid (by
            refine ⟨by rw [hvx]; rfl, fun hk => ?_, hox⟩
            have := ((HK.out.2 x hox).1 hk).2
            rw [hlx] at this; cases this)
          have hyk : tKid T a x = y.ino := by unfold tKid; rw [hy]
          have hyh : tHas T y.ino = true := has_iff.2 (.inr ⟨y, (kidOf_some hy).1, rfl⟩)
          have HT3 := Lib.hid (HTT.out.keep (HC.out.trans hc2 (fun z hz => by simp at hz; subst hz; exact .inr (Nat.le_refl _))) (by simp))
          have c03 := blk_cell HT3.out.head 0 _ rfl
          have hlk3 := HT3.out.at hyh
          have y2 := (HT3.out.cells hyh).2.2.1
          have HENC : Hid (entE T a x = [.string ⟨x.toArray⟩, .int .i64 (y.ino : Int), .bool (tIsDir T y.ino)]) := Lib.hid (by unfold entE entC entOf; rw [hyk])
          have HW2 := Lib.hid (And.intro hr2 (And.intro hc2 hs2))
          have hown2 := row_keep HOWN.out (w' := w3) (fun gq hq => hc2.block gq (World.ownsRow.lt HOWN.out gq hq).2 (by
            simp
            rintro rfl
            exact hrne hq.symm))
          have hbase : w1.heap.size ≤ w3.heap.size := by
            have h1 := HC.out.size
            rw [hs2]; omega
          clear hox hlx hvx hr2 hc2 hs2 hy hyk hyh c0 d3
          generalize tIsDir T y.ino = yd at *
          go_wp2_with (at_builtin; refine wpList_app1 rfl _ _ _ rfl w1.heap.size elEntries _ _ _ rfl hown2 _ #[.string ⟨x.toArray⟩, .int .i64 (y.ino : Int), .bool yd] rfl rfl (by intro u hu; simp at hu; rcases hu with rfl | rfl | rfl <;> rfl) (by unfold maxLen; omega) (by omega) hbase ?_; intro v4 w4 hown4 hg4)
          have HEND : Hid (Rng 9 klS okS w4 (g a) w1.heap.size (φK T a) (nKids T a) (fun y => !decide (y = x) && left y) cnt2 ∧ Chg [] w1 w4) := Lib.hid (by
            have hc24 : Chg (match v9.ownBlock with | some k => [k] | none => []) w3 w4 := by
              exact (Chg.refl (match v9.ownBlock with | some k => [k] | none => []) w3).grown hg4 (fun k hk => by
                have hk' : v9.ownBlock = some k := hk
                rw [hk']; exact .inl (by simp))
            have hrb : ∀ k, v9.ownBlock = some k → w1.heap.size ≤ k ∧ k ≠ w1.heap.size := fun k hk => ⟨(World.ownsRow.lt HOWN.out k hk).1, fun e => hrne (by rw [hk, e])⟩
            refine ⟨HW2.out.1.kept hc24 ?_ ?_, (HC.out.trans HW2.out.2.1 (fun z hz => ?_)).trans hc24 (fun z hz => ?_)⟩
            · cases hv : v9.ownBlock with
              | none => simp
              | some k => have := hrb k hv; simp; omega
            · cases hv : v9.ownBlock with
              | none => simp
              | some k => have := hrb k hv; simp; omega
            · simp at hz; right; omega
            · cases hv : v9.ownBlock with
              | none => rw [hv] at hz; simp at hz
              | some k => rw [hv] at hz; simp at hz; have := hrb k hv; right; omega)
          clear hg4
          go_roundg cnt2
          case measure => omega
          case rel =>
            refine ⟨_, ss ++ [x], _, cnt2, rfl, Nat.le_refl _, by simp; omega, ?_, Lib.hid HEND.out.1, Lib.hid ⟨?_, fun k hk => ?_⟩, Lib.hid (fun k hk => ?_), Lib.hid HEND.out.2⟩
            · rw [List.flatMap_append, List.flatMap_cons, List.flatMap_nil, List.append_nil, HENC.out, List.length_append]
              exact hown4
            · refine List.nodup_append.2 ⟨HK.out.1, by simp, fun a ha b hb => ?_⟩
              simp at hb
              rintro rfl
              subst hb
              exact HX.out.2.1 ha
            · rw [List.mem_append, HK.out.2 k hk]
              by_cases e : k = x
              · subst e; simp [HX.out.1]
              · simp [e]
            · rcases List.mem_append.1 hk with hk | hk
              · exact HO.out k hk
              · simp at hk; subst hk; exact HX.out.2.2
  · have HE : Hid (Z = ([], er)) := Lib.hid (by rw [HX.out, if_pos h0])
    have hb0 : (er != 0) = true := by simpa using h0
    clear h0 HX HO
    go_enter Try.func46, Try.ntmps46
    go_wp2_with fail
    refine HP.out.mono ?_
    rintro e w1 ⟨rfl, hb⟩
    have HB := Lib.hid hb
    clear hb
    go_wp2
    go_ret2
    rw [HE.out]
    exact ⟨_, rfl, World.ownsRow_nil _ _ _ _, HB.out⟩
end Go.Proofs.Ytaophafailmhjaa.W

/- Rows of four cells; the small functions of chapter 15. -/
namespace Go.Proofs.Ytaophafailmhjaa.K
open Go.RowKit
set_option linter.unusedVariables false

structure TRow where
  c : Int
  h : Int
  i : Int
  b : Bool
def enc (r : TRow) : List Value := [.int .i64 r.c, .int .i64 r.h, .int .i64 r.i, .bool r.b]
def encs (l : List TRow) : List Value := l.flatMap enc
theorem ret_bool {a b : Bool} (h : a = b) : Ending.returned (.bool a) = .returned (.bool b) := by rw [h]
theorem bt {w w1 w2 : World} (h1 : Below w.heap.size w w1) (h2 : Below w1.heap.size w1 w2) : Below w.heap.size w w2 := h1.trans (h2.mono h1.size)

def mayB (client ino : Int) : Bool := decide (0 ≤ client) && decide (client < 4) && decide (2 ≤ ino) && decide (ino ≤ 128)
set_option maxHeartbeats 1000000 in
theorem may_any (c i : Int) (w : World) : Calls Try.prog 64 #[.int .i64 c, .int .i64 i] w fun e w' => e = .returned (.bool (mayB c i)) ∧ w = w' := by
  go_enter Try.func64, Try.ntmps64
  go_wp2
  all_goals
    go_ret
    refine ⟨ret_bool ?_, rfl⟩
    unfold mayB
    by_cases a1 : 0 ≤ c <;> by_cases a2 : c < 4 <;> by_cases a3 : 2 ≤ i <;> by_cases a4 : i ≤ 128 <;> simp [a1, a2, a3, a4] <;> omega

/-- Two rows by client, handle: as integers wrap. -/
def against (r x : TRow) : Int := if r.c ≠ x.c then wrap64 (r.c - x.c) else wrap64 (r.h - x.h)
set_option maxHeartbeats 1000000 in
theorem against_any (r x : TRow) (w : World) : Calls Try.prog 66 #[.agg (enc r).toArray, .agg (enc x).toArray] w fun e w' => e = .returned (.int .i64 (against r x)) ∧ Below w.heap.size w w' := by
  unfold enc
  go_enter Try.func66, Try.ntmps66
  go_wp2
  all_goals
    go_ret
    refine ⟨?_, ((Below.refl _ _).alloc (Nat.le_refl _) _).alloc (by simp) _⟩
    unfold against
    by_cases h : r.c = x.c <;> simp_all

set_option maxHeartbeats 1000000 in
theorem new_any (w : World) : Calls Try.prog 19 #[] w fun e w' => e = .returned (.pointer (some ⟨w.heap.size, 0, none⟩)) ∧ w' = w.alloc (.cells #[.bool true, .slice none 0 0] 74) := by
  go_enter Try.func19, Try.ntmps19
  go_wp2
  go_ret
  exact ⟨rfl, rfl⟩

instance : Inhabited TRow := ⟨⟨0, 0, 0, false⟩⟩
/-- n rows that lie from the head of a block on, below block 'top'. -/
def RowsAt (w : World) (top : Nat) (a : Option Addr) (n : Nat) (f : Nat → TRow) : Prop :=
  n = 0 ∨ ∃ g, a = some ⟨g, 0, none⟩ ∧ g < top ∧ ∀ i, i < n → w.cell? ⟨g, i * 4, none⟩ = some (.int .i64 (f i).c) ∧ w.cell? ⟨g, i * 4 + 1, none⟩ = some (.int .i64 (f i).h) ∧
    w.cell? ⟨g, i * 4 + 2, none⟩ = some (.int .i64 (f i).i) ∧ w.cell? ⟨g, i * 4 + 3, none⟩ = some (.bool (f i).b)
theorem RowsAt.below {w w' : World} {top : Nat} {a : Option Addr} {n : Nat} {f : Nat → TRow} (h : RowsAt w top a n f) (hb : Below top w w') : RowsAt w' top a n f := by
  rcases h with h0 | ⟨g, rfl, hlt, hc⟩
  · exact .inl h0
  · refine .inr ⟨g, rfl, hlt, fun i hi => ?_⟩
    obtain ⟨c0, c1, c2, c3⟩ := hc i hi
    exact ⟨(hb.cell (p := ⟨g, i * 4, none⟩) hlt).trans c0, (hb.cell (p := ⟨g, i * 4 + 1, none⟩) hlt).trans c1, (hb.cell (p := ⟨g, i * 4 + 2, none⟩) hlt).trans c2, (hb.cell (p := ⟨g, i * 4 + 3, none⟩) hlt).trans c3⟩
theorem encs_len (l : List TRow) : (encs l).length = l.length * 4 := by
  induction l with
  | nil => rfl
  | cons r l ih => simp only [encs, List.flatMap_cons, List.length_append] at ih ⊢; rw [ih]; simp [enc]; omega
theorem encs_cons (r : TRow) (l : List TRow) : encs (r :: l) = enc r ++ encs l := rfl
theorem encs_app (a b : List TRow) : encs (a ++ b) = encs a ++ encs b := by simp [encs]
theorem encs_at (l : List TRow) (i : Nat) (hi : i < l.length) (j : Nat) (hj : j < 4) : (encs l)[i * 4 + j]? = (enc (l.getD i default))[j]? := by
  induction l generalizing i with
  | nil => simp at hi
  | cons r l ih =>
    rw [encs_cons]
    cases i with
    | zero =>
      rw [List.getElem?_append_left (by simp [enc]; omega)]
      simp
    | succ i =>
      rw [List.getElem?_append_right (by simp [enc]; omega)]
      have e : (i + 1) * 4 + j - (enc r).length = i * 4 + j := by simp [enc]; omega
      rw [e, ih i (by simpa using hi)]
      simp
theorem own_rows {w : World} {base : Nat} {v : Value} {l : List TRow} (h : w.ownsRow base 51 4 v l.length (encs l)) :
    ∃ a c, v = .slice a l.length c ∧ l.length ≤ c ∧ RowsAt w w.heap.size a l.length (fun i => l.getD i default) := by
  rcases h.2 with ⟨rfl, h0⟩ | ⟨g, cap, cur, rfl, hbg, hg, hnc, hcm, hcs, htake⟩
  · rw [h0]; exact ⟨none, 0, rfl, Nat.le_refl _, .inl rfl⟩
  · refine ⟨_, _, rfl, hnc, .inr ⟨g, rfl, (Array.getElem?_eq_some_iff.1 hg).1, fun i hi => ?_⟩⟩
    have key : ∀ j, j < 4 → ∀ u, (enc (l.getD i default))[j]? = some u → w.cell? ⟨g, i * 4 + j, none⟩ = some u := by
      intro j hj u hu
      have := h.cells (g := g) rfl (i * 4 + j) u (by rw [encs_at l i hi j hj]; exact hu)
      rw [add_none] at this
      simpa using this
    exact ⟨by simpa using key 0 (by omega) _ rfl, key 1 (by omega) _ rfl, key 2 (by omega) _ rfl, key 3 (by omega) _ rfl⟩

/-- All handles: the struct lies alone in block b, its rows in a row of the program's own. -/
structure IsTok (w : World) (b : Nat) (v : Value) (base : Nat) (l : List TRow) : Prop where
  head : w.heap[b]? = some (.cells #[.bool true, v] 74 (0, 0))
  rows : w.ownsRow base 51 4 v l.length (encs l)
  few : l.length ≤ 100000

def find (l : List TRow) (c h : Int) : Option TRow := l.find? fun r => r.c == c && r.h == h
def ofAns (o : Option TRow) : Value := match o with
  | some r => .tuple #[.agg (enc r).toArray, .bool true]
  | none => .tuple #[.agg (enc ⟨0, 0, 0, false⟩).toArray, .bool false]

theorem head_cells {w : World} {b : Nat} {v : Value} {m : Value} (h : w.heap[b]? = some (.cells #[m, v] 74 (0, 0))) : w.cell? ⟨b, 0, none⟩ = some m ∧ w.cell? ⟨b, 1, none⟩ = some v := by
  simp [World.cell?, h]

set_option maxHeartbeats 2000000 in
theorem rows_any (b : Nat) (v m : Value) (w : World) (h : w.heap[b]? = some (.cells #[m, v] 74 (0, 0))) : Calls Try.prog 38 #[.pointer (some ⟨b, 0, none⟩)] w fun e w' => e = .returned v ∧ w = w' := by
  obtain ⟨h0, h1⟩ := head_cells h
  clear h
  go_enter Try.func38, Try.ntmps38
  go_wp2
  go_ret
  exact ⟨rfl, rfl⟩

theorem blk_cell {w : World} {b t : Nat} {cs : Array Value} (h : w.heap[b]? = some (.cells cs t (0, 0))) (j : Nat) (v : Value) (hv : cs[j]? = some v) : w.cell? ⟨b, j, none⟩ = some v := by
  simp [World.cell?, h, hv]
theorem blk_frozen {w : World} {b t : Nat} {cs : Array Value} (h : w.heap[b]? = some (.cells cs t (0, 0))) (j : Nat) : w.frozen? ⟨b, j, none⟩ = false := by
  simp [World.frozen?, h]; try omega
theorem set_blk {w : World} {b t : Nat} {cs : Array Value} {j : Nat} {u : Value} (h : w.heap[b]? = some (.cells cs t (0, 0))) :
    (w.setCell ⟨b, j, none⟩ u).heap[b]? = some (.cells (cs.setIfInBounds j u) t (0, 0)) := by
  have hlt := lt_of_block h
  have h' : w.heap[b] = .cells cs t (0, 0) := by simpa [Array.getElem?_eq_getElem hlt] using h
  show (w.heap.modify b _)[b]? = _
  rw [Array.getElem?_eq_getElem (by simpa using hlt), Array.getElem_modify_self, h']
  rfl
theorem set4 {w : World} {b t : Nat} {a0 a1 a2 a3 u0 u1 u2 u3 : Value} (h : w.heap[b]? = some (.cells #[a0, a1, a2, a3] t (0, 0))) :
    ((((w.setCell ⟨b, 0, none⟩ u0).setCell ⟨b, 1, none⟩ u1).setCell ⟨b, 2, none⟩ u2).setCell ⟨b, 3, none⟩ u3).heap[b]? = some (.cells #[u0, u1, u2, u3] t (0, 0)) :=
  set_blk (set_blk (set_blk (set_blk h)))
theorem blk_alloc {w : World} {b : Nat} {o o' : Obj} (h : w.heap[b]? = some o) : (w.alloc o').heap[b]? = some o :=
  ((Below.refl w.heap.size w).alloc (Nat.le_refl _) o').block b (Array.getElem?_eq_some_iff.1 h).1 |>.trans h
theorem blk_sets {w : World} {b b' j : Nat} {o : Obj} {u : Value} (h : w.heap[b]? = some o) (hne : b ≠ b') : (w.setCell ⟨b', j, none⟩ u).heap[b]? = some o :=
  (Below.heap_setCell w ⟨b', j, none⟩ u b hne).trans h
theorem find_none (l : List TRow) (c h : Int) (hn : ∀ q, q < l.length → ((l.getD q default).c == c && (l.getD q default).h == h) = false) : find l c h = none := by
  unfold find
  rw [List.find?_eq_none]
  intro x hx
  obtain ⟨i, hi, rfl⟩ := List.mem_iff_getElem.1 hx
  have := hn i hi
  simp [List.getD_eq_getElem?_getD, hi] at this ⊢
  exact this
theorem find_at (l : List TRow) (c h : Int) (j : Nat) (hj : j < l.length) (hn : ∀ q, q < j → ((l.getD q default).c == c && (l.getD q default).h == h) = false)
    (hm : (l.getD j default).c = c ∧ (l.getD j default).h = h) : find l c h = some (l.getD j default) := by
  unfold find
  rw [List.find?_eq_some_iff_getElem]
  refine ⟨by rw [hm.1, hm.2]; simp, j, hj, by simp [List.getD_eq_getElem?_getD, hj], fun q hq => ?_⟩
  have := hn q hq
  rw [List.getD_eq_getElem?_getD, List.getElem?_eq_getElem (show q < l.length by omega)] at this
  simp only [Option.getD_some] at this
  rw [this]; rfl

set_option maxHeartbeats 2000000 in
set_option maxRecDepth 100000 in
theorem of_any (b : Nat) (v : Value) (base : Nat) (l : List TRow) (c n : Int) (w : World) (ht : IsTok w b v base l) :
    Calls Try.prog 65 #[.pointer (some ⟨b, 0, none⟩), .int .i64 c, .int .i64 n] w fun e w' => e = .returned (ofAns (find l c n)) ∧ Below w.heap.size w w' := by
  obtain ⟨a, cap, rfl, hcap, hr⟩ := own_rows ht.rows
  have hfew := ht.few
  have CR : Hid (∀ w' : World, Below w.heap.size w w' → Calls Try.prog 38 #[.pointer (some ⟨b, 0, none⟩)] w' fun e w'' => e = .returned (.slice a l.length cap) ∧ w' = w'') := fun w' hw =>
      rows_any b _ _ w' ((hw.block b (Array.getElem?_eq_some_iff.1 ht.head).1).trans ht.head)
  have HC := Lib.hid hr
  clear hr ht
  go_enter Try.func65, Try.ntmps65
  go_wp2_with fail
  refine (CR.out _ ((Below.refl _ _).alloc (Nat.le_refl _) _)).mono ?_
  rintro e w1 ⟨rfl, rfl⟩
  go_wp2
  go_loopg [13] l.length (fun g' i wr => ∃ j : Nat, i = .int .i64 j ∧ j ≤ l.length ∧ l.length ≤ j + g' ∧ Hid (∀ q, q < j → ((l.getD q default).c == c && (l.getD q default).h == n) = false) ∧
      Hid (wr.heap[w.heap.size]? = some (.cells #[.int .i64 0, .int .i64 0, .int .i64 0, .bool false] 51 (0, 0))) ∧ Below w.heap.size w wr)
  case atStart => exact ⟨0, rfl, by omega, by omega, fun q hq => absurd hq (by omega), heap_alloc_new w _, (Below.refl _ _).alloc (Nat.le_refl _) _⟩
  case round =>
    obtain ⟨j, rfl, hj, hjg, HN, HB, hbel⟩ := hrel
    have hsz : w.heap.size < wr.heap.size := (Array.getElem?_eq_some_iff.1 HB.out).1
    have o0 := blk_cell HB.out 0 _ rfl
    have o1 := blk_cell HB.out 1 _ rfl
    have o2 := blk_cell HB.out 2 _ rfl
    have o3 := blk_cell HB.out 3 _ rfl
    have f0 := blk_frozen HB.out 0
    have f1 := blk_frozen HB.out 1
    have f2 := blk_frozen HB.out 2
    have f3 := blk_frozen HB.out 3
    by_cases hlt : j < l.length
    · rcases HC.out with h0 | ⟨g, rfl, hg, hc⟩
      · omega
      obtain ⟨r, hr, c0, c1, c2, c3⟩ : ∃ r, l.getD j default = r ∧ wr.cell? ⟨g, j * 4, none⟩ = some (.int .i64 r.c) ∧ wr.cell? ⟨g, j * 4 + 1, none⟩ = some (.int .i64 r.h) ∧
            wr.cell? ⟨g, j * 4 + 2, none⟩ = some (.int .i64 r.i) ∧ wr.cell? ⟨g, j * 4 + 3, none⟩ = some (.bool r.b) := by
          obtain ⟨c0, c1, c2, c3⟩ := hc j hlt
          exact ⟨_, rfl, (hbel.cell (p := ⟨g, j * 4, none⟩) hg).trans c0, (hbel.cell (p := ⟨g, j * 4 + 1, none⟩) hg).trans c1, (hbel.cell (p := ⟨g, j * 4 + 2, none⟩) hg).trans c2, (hbel.cell (p := ⟨g, j * 4 + 3, none⟩) hg).trans c3⟩
      clear hc
      have HRR := Lib.hid hr
      clear hr
      by_cases hm1 : r.c = c
      · have m1 : (r.c == c) = true := by simp [hm1]
        have HM1 := Lib.hid hm1
        clear hm1
        by_cases hm2 : r.h = n
        · have m2 : (r.h == n) = true := by simp [hm2]
          have HM2 := Lib.hid hm2
          clear hm2
          go_wp2
          have hb4 := blk_alloc (o' := .cells #[.int .i64 r.c, .int .i64 r.h, .int .i64 r.i, .bool r.b] 51) (set4 (u0 := .int .i64 r.c) (u1 := .int .i64 r.h) (u2 := .int .i64 r.i) (u3 := .bool r.b) HB.out)
          refine bodyPost_ret (v := .tuple #[.agg #[.int .i64 r.c, .int .i64 r.h, .int .i64 r.i, .bool r.b], .bool true]) (by simp [results, Try.results65, go_sem, blk_cell hb4 0 _ rfl, blk_cell hb4 1 _ rfl, blk_cell hb4 2 _ rfl, blk_cell hb4 3 _ rfl]) rfl ⟨?_, ?_⟩
          · rw [find_at l c n j hlt HN.out (by rw [HRR.out]; exact ⟨HM1.out, HM2.out⟩), HRR.out]; rfl
          · exact ((((hbel.setCell (Nat.le_refl _) _).setCell (Nat.le_refl _) _).setCell (Nat.le_refl _) _).setCell (Nat.le_refl _) _).alloc (by simp; omega) _
        · have m2 : (r.h == n) = false := by simp [hm2]
          have HM2 := Lib.hid hm2
          clear hm2
          go_wp2
          go_roundg (gk - 1)
          case measure => omega
          case rel =>
            refine ⟨j + 1, rfl, by omega, by omega, ?_, ?_, ?_⟩
            · intro q hq
              rcases Nat.lt_or_ge q j with hq' | hq'
              · exact HN.out q hq'
              · obtain rfl : q = j := by omega
                rw [HRR.out]
                first | (rw [m1]; rfl) | (rw [m2]; simp)
            · exact blk_alloc HB.out
            · exact hbel.alloc (Nat.le_of_lt hsz) _
      · have m1 : (r.c == c) = false := by simp [hm1]
        have HM1 := Lib.hid hm1
        clear hm1
        go_wp2
        go_roundg (gk - 1)
        case measure => omega
        case rel =>
          refine ⟨j + 1, rfl, by omega, by omega, ?_, ?_, ?_⟩
          · intro q hq
            rcases Nat.lt_or_ge q j with hq' | hq'
            · exact HN.out q hq'
            · obtain rfl : q = j := by omega
              rw [HRR.out]
              first | (rw [m1]; rfl) | (rw [m2]; simp)
          · exact blk_alloc HB.out
          · exact hbel.alloc (Nat.le_of_lt hsz) _
    · have he : j = l.length := by omega
      go_wp2
      have hb4 := set4 (u0 := .int .i64 0) (u1 := .int .i64 0) (u2 := .int .i64 0) (u3 := .bool false) HB.out
      refine bodyPost_ret (v := .tuple #[.agg #[.int .i64 0, .int .i64 0, .int .i64 0, .bool false], .bool false]) (by simp [results, Try.results65, go_sem, blk_cell hb4 0 _ rfl, blk_cell hb4 1 _ rfl, blk_cell hb4 2 _ rfl, blk_cell hb4 3 _ rfl]) rfl ⟨?_, ?_⟩
      · rw [find_none l c n (fun q hq => HN.out q (by omega))]; rfl
      · exact (((hbel.setCell (Nat.le_refl _) _).setCell (Nat.le_refl _) _).setCell (Nat.le_refl _) _).setCell (Nat.le_refl _) _
end Go.Proofs.Ytaophafailmhjaa.K

/- slices.Insert of one struct; copy at elements of several cells. -/
namespace Go.Proofs.Ytaophafailmhjaa.K
open Go.RowKit
set_option linter.unusedVariables false
set_option linter.unusedSimpArgs false

theorem run_copy_n {P : Program} (w : World) (dT sT ty elem : TypeId) (size g o dLen dCap : Nat) (a : Addr) (sLen sCap : Nat) (cur : Array Value) (t : TypeId) (cs : List Value) (m : Nat)
    (hu : P.underlying dT = some (.slice elem)) (hs : (P.info? elem).map (·.size) = some size)
    (hg : w.heap[g]? = some (.cells cur t (0, 0))) (hm : m = Nat.min sLen dLen) (hn : cs.length = m * size)
    (hsrc : ∀ j v, cs[j]? = some v → w.cell? (a.add j) = some v) (hfit : o + cs.length ≤ cur.size) (h1 : ∀ v ∈ cs, v.oneCell' = true) :
    (Builtin.copy_ #[dT, sT] ty #[.slice (some ⟨g, o, none⟩) dLen dCap, .slice (some a) sLen sCap]).run P w =
      .ok (goInt m) (w.setRow g (cur.toList.take o ++ cs ++ cur.toList.drop (o + cs.length)).toArray) := by
  have hl := run_loadCells_list (P := P) w a cs hsrc
  have hst := run_storeCells_at P g o t cs 0 cur w hg (by simpa using hfit) h1
  cases hq : P.info? elem with
  | none => simp [hq] at hs
  | some i =>
    have hi : i.size = size := by simpa [hq] using hs
    simp [Builtin.copy_, run_underlying hu, Builtin.lenOf, Builtin.firstCells, sizeOf, typeInfo, hq, hi, ← hm, ← hn, hl, hst]

/-- Nothing goes over. -/
theorem run_copy_0 {P : Program} (w : World) (dT sT ty elem : TypeId) (size : Nat) (dp sp : Option Addr) (dLen dCap sLen sCap : Nat)
    (hu : P.underlying dT = some (.slice elem)) (hs : (P.info? elem).map (·.size) = some size) (hm : Nat.min sLen dLen = 0) :
    (Builtin.copy_ #[dT, sT] ty #[.slice dp dLen dCap, .slice sp sLen sCap]).run P w = .ok (goInt 0) w := by
  cases hq : P.info? elem with
  | none => simp [hq] at hs
  | some i =>
    cases sp <;> cases dp <;> simp [Builtin.copy_, run_underlying hu, Builtin.lenOf, Builtin.firstCells, sizeOf, typeInfo, hq, hm, loadCells, loadCellsFrom, storeCells]

theorem info35 : (Try.prog.info? 51).map (fun i => (i.zero, i.size, i.bytes)) = some (some (.agg #[.int .i64 0, .int .i64 0, .int .i64 0, .bool false]), 4, 32) := by kernel_rfl
theorem size35 : (Try.prog.info? 51).map (·.size) = some 4 := by
  obtain ⟨i, hi, _, h, _⟩ := info_parts info35; rw [hi]; simp [h]

theorem one_enc (r : TRow) : ∀ u ∈ enc r, u.oneCell' = true := by
  intro u hu; simp [enc] at hu; rcases hu with rfl | rfl | rfl | rfl <;> rfl
theorem one_encs (l : List TRow) : ∀ u ∈ encs l, u.oneCell' = true := by
  intro u hu
  obtain ⟨r, _, hr⟩ := List.mem_flatMap.1 hu
  exact one_enc r u hr

/-- What Insert gives of cells. -/
def insCells (xs news : List Value) (k : Nat) : List Value := xs.take k ++ (news ++ xs.drop k)
theorem ins_len (xs news : List Value) (k : Nat) : (insCells xs news k).length = xs.length + news.length := by
  simp only [insCells, List.length_append, List.length_take, List.length_drop, Nat.min_def]; split <;> omega
/-- In place: shift, then lay over. -/
theorem ins_shift (L xs news C1 : List Value) (p : Nat) (hp : p ≤ xs.length) (hx : L.take xs.length = xs) (hL : xs.length + news.length ≤ L.length)
    (h1 : L.take (p + news.length) ++ xs.drop p ++ L.drop (p + news.length + (xs.drop p).length) = C1) :
    C1.take p ++ news ++ C1.drop (p + news.length) = insCells xs news p ++ L.drop (xs.length + news.length) := by
  have hd : (xs.drop p).length = xs.length - p := List.length_drop
  have e0 : L.take p = xs.take p := by rw [← hx, List.take_take, Nat.min_eq_left hp]
  have ht : (L.take (p + news.length)).length = p + news.length := by rw [List.length_take]; omega
  have e1 : C1.take p = xs.take p := by
    rw [← h1, List.append_assoc, List.take_append_of_le_length (by omega), List.take_take, Nat.min_eq_left (by omega), e0]
  have e2 : C1.drop (p + news.length) = xs.drop p ++ L.drop (xs.length + news.length) := by
    rw [← h1, List.append_assoc, List.drop_append_of_le_length (by omega), List.drop_of_length_le (by omega), List.nil_append, hd]
    congr 2; omega
  rw [e1, e2]; simp [insCells, List.append_assoc]
/-- In a new row: lay the new ones, then the rest. -/
theorem ins_grow (R xs news C1 : List Value) (p : Nat) (hp : p ≤ xs.length) (hx : R.take p = xs.take p) (hR : xs.length + news.length ≤ R.length)
    (h1 : R.take p ++ news ++ R.drop (p + news.length) = C1) :
    C1.take (p + news.length) ++ xs.drop p ++ C1.drop (p + news.length + (xs.drop p).length) = insCells xs news p ++ R.drop (xs.length + news.length) := by
  have hd : (xs.drop p).length = xs.length - p := List.length_drop
  have ht : (R.take p ++ news).length = p + news.length := by rw [List.length_append, List.length_take]; omega
  have e1 : C1.take (p + news.length) = xs.take p ++ news := by
    rw [← h1, List.take_append_of_le_length (by omega), List.take_of_length_le (by omega), hx]
  have e2 : C1.drop (p + news.length + (xs.drop p).length) = R.drop (xs.length + news.length) := by
    have e3 : C1.drop (p + news.length) = R.drop (p + news.length) := by
      rw [← h1, List.drop_append_of_le_length (by omega)]
      rw [show (R.take p ++ news).drop (p + news.length) = [] from List.drop_of_length_le (by omega)]
      rfl
    rw [← List.drop_drop, e3, List.drop_drop, hd]
    congr 1; omega
  rw [e1, e2]; simp [insCells, List.append_assoc]

/-- A row that was made of another one: in its block, or in a new one. -/
def Fresh (w : World) (v v' : Value) : Prop := v'.ownBlock = v.ownBlock ∨ ∃ k, v'.ownBlock = some k ∧ w.heap.size ≤ k
theorem Fresh.old {w w1 : World} {v v' : Value} (h : Fresh w1 v v') (hs : w.heap.size ≤ w1.heap.size) : Fresh w v v' := h.imp id fun ⟨k, h1, h2⟩ => ⟨k, h1, Nat.le_trans hs h2⟩
set_option maxHeartbeats 4000000 in
set_option maxRecDepth 100000 in
theorem insert_any (v : Value) (base n i k : Nat) (xs news : List Value) (w : World) (hown : w.ownsRow base 51 4 v n xs) (hk : w.heap[k]? = some (.cells news.toArray 51 (0, 0))) (hne : v.ownBlock ≠ some k)
    (hi : i ≤ n) (hn : n ≤ 100000) (hb : base ≤ w.heap.size) (h1 : ∀ u ∈ xs, u.oneCell' = true) (hnl : news.length = 4) (h2 : ∀ u ∈ news, u.oneCell' = true) :
    Calls Try.prog 67 #[v, .int .i64 i, .slice (some ⟨k, 0, none⟩) 1 1] w fun e w' => ∃ v', e = .returned v' ∧ w'.ownsRow base 51 4 v' (n + 1) (insCells xs news (i * 4)) ∧ w.grownBy w' v.ownBlock ∧ Fresh w v v' := by
  obtain ⟨i0, hi0, hz0, hz1, hz2⟩ := info_parts info35
  have hxl := hown.1
  rcases Nat.lt_or_ge i n with hin | hin
  · rcases hown.2 with ⟨rfl, h0⟩ | ⟨g, cap, cur, rfl, hbg, hg, hnc, hcm, hcs, htake⟩
    · omega
    have hgk : g ≠ k := by
      intro e; apply hne; simp [Value.ownBlock, e]
    have hgl := lt_of_block hg
    have hkl := lt_of_block hk
    have hcm' := hcm
    unfold maxLen at hcm'
    by_cases hroom : n + 1 ≤ cap
    · have hne2 : ¬ ((k : Nat) = g) := fun e => hgk e.symm
      have hov : ∀ lb cb, (callFunc 74 #[.slice (some ⟨k, 0, none⟩) 1 1, .slice (some ⟨g, (i + 1) * 4, none⟩) lb cb]).run Try.prog w = .ok (.value (.bool false)) w := fun lb cb => by
        rw [run_callFunc_extern Try.func74 (by kernel_rfl) (by kernel_rfl) (by kernel_rfl) (e := Extern.SlicesOverlaps.overlaps #[48, 48] #[4]) (by kernel_rfl),
          Lib.run_overlaps_apart w 48 4 51 Try.underlying48 4 (fun w => by simp [sizeOf, typeInfo, hi0, hz1]) ⟨k, 0, none⟩ ⟨g, (i + 1) * 4, none⟩ 1 1 lb cb hne2 51 51 4 (cap * 4)
            (by simp [World.shape?, hk, hnl]) (by simp [World.shape?, hg, hcs]) (by omega) (blk_frozen hk 0) (blk_frozen hk 4)]
        rfl
      have hdl : (xs.drop (i * 4)).length = (n - i) * 4 := by rw [List.length_drop, hxl, Nat.sub_mul]
      obtain ⟨W1, hW1⟩ : ∃ W1, W1 = w.drew.setRow g (cur.toList.take ((i + 1) * 4) ++ xs.drop (i * 4) ++ cur.toList.drop ((i + 1) * 4 + (xs.drop (i * 4)).length)).toArray := ⟨_, rfl⟩
      have hr1 : ∀ ty dc sc, (Builtin.copy_ #[48, 48] ty #[.slice (some ⟨g, (i + 1) * 4, none⟩) (n - i) dc, .slice (some ⟨g, i * 4, none⟩) (n + 1 - i) sc]).run Try.prog w.drew = .ok (goInt (n - i : Nat)) W1 := fun ty dc sc => by
        rw [hW1]
        refine run_copy_n w.drew _ _ ty 51 4 g ((i + 1) * 4) _ _ ⟨g, i * 4, none⟩ _ _ cur 51 (xs.drop (i * 4)) (n - i) Try.underlying48 size35 hg (by simp only [Nat.min_def]; split <;> omega) hdl ?_ ?_ ?_
        · intro j u hj
          rw [add_none]
          rw [List.getElem?_drop, ← htake, List.getElem?_take] at hj
          split at hj
          · have : w.drew.heap[g]? = some (.cells cur 51 (0, 0)) := hg
            simpa [World.cell?, this] using hj
          · cases hj
        · rw [hdl, hcs, ← Nat.add_mul]; exact Nat.mul_le_mul_right _ (by omega)
        · exact fun u hu => h1 u (List.mem_of_mem_drop hu)
      have hg1 : W1.heap[g]? = some (.cells (cur.toList.take ((i + 1) * 4) ++ xs.drop (i * 4) ++ cur.toList.drop ((i + 1) * 4 + (xs.drop (i * 4)).length)).toArray 51 (0, 0)) := by
        rw [hW1]; exact setRow_heap w.drew g cur _ 51 _ hg
      have hk1 : W1.heap[k]? = some (.cells news.toArray 51 (0, 0)) := by
        rw [hW1]; exact (setRow_other w.drew g k _ hne2).trans hk
      generalize hC1 : cur.toList.take ((i + 1) * 4) ++ xs.drop (i * 4) ++ cur.toList.drop ((i + 1) * 4 + (xs.drop (i * 4)).length) = C1 at hg1 hW1
      have hC1l : C1.length = cap * 4 := by
        rw [← hC1]
        simp only [List.length_append, List.length_take, List.length_drop, Array.length_toList, hdl, hcs, hxl]
        have := Nat.mul_le_mul_right 4 hroom
        simp only [Nat.min_def]; split <;> omega
      obtain ⟨W2, hW2⟩ : ∃ W2, W2 = W1.setRow g (C1.take (i * 4) ++ news ++ C1.drop (i * 4 + news.length)).toArray := ⟨_, rfl⟩
      have hr2 : ∀ ty dc, (Builtin.copy_ #[48, 48] ty #[.slice (some ⟨g, i * 4, none⟩) (n + 1 - i) dc, .slice (some ⟨k, 0, none⟩) 1 1]).run Try.prog W1 = .ok (goInt (1 : Nat)) W2 := fun ty dc => by
        have := run_copy_n (P := Try.prog) W1 48 48 ty 51 4 g (i * 4) (n + 1 - i) dc ⟨k, 0, none⟩ 1 1 C1.toArray 51 news 1 Try.underlying48 size35 hg1 (by simp only [Nat.min_def]; split <;> omega) (by omega) ?_ ?_ h2
        · rw [hW2]; simpa using this
        · intro j u hj
          rw [add_none]
          simp [World.cell?, hk1, hj]
        · simp only [List.size_toArray, hC1l]; rw [hnl]; omega
      have HC1 := Lib.hid hC1
      have HW1 := Lib.hid hW1
      have HW2 := Lib.hid hW2
      have HG1 := Lib.hid hg1
      have HX := Lib.hid (And.intro hown (And.intro hg htake))
      clear hC1 hW1 hW2 hg1 hk1 hown hg htake hk hdl hxl hC1l hcs hne
      have hw1 : IntKind.i64.wrap ((i : Int) + 1) = (i : Int) + 1 := by rw [IntKind.wrap_i64]; omega
      have hb1 : (0 : Int) ≤ (i : Int) + 1 := by omega
      have htn : ((i : Int) + 1).toNat = i + 1 := by omega
      have hb2 : ¬ (cap = i + 1) := by omega
      have hb3 : (i : Int) ≤ (n : Int) + 1 := by omega
      have hb4 : ¬ (cap = i) := by omega
      go_enter Try.func67, Try.ntmps67
      go_wp2_with (simp only [hov])
      go_region_law (refine step_copy_runI rfl _ _ 48 48 rfl _ _ (by simp [Act.eval, Act.put]) (by simp [Act.eval, Act.put]) (hr1 _ _ _) ?_)
      go_wp2_with (at_builtin; refine wpList_copy_runI _ rfl _ _ 48 48 rfl _ _ rfl rfl (hr2 _ _) ?_)
      go_ret
      obtain ⟨ho, hg0, htk⟩ := HX.out
      have hxl := ho.1
      have hLl : cur.toList.length = cap * 4 := by
        obtain ⟨_, h | ⟨g', cap', cur', h, _, hg', _, _, hs, _⟩⟩ := ho
        · cases h.1
        · obtain ⟨rfl, rfl⟩ : g = g' ∧ cap = cap' := by simpa using h
          rw [hg0] at hg'
          obtain rfl : cur = cur' := by simpa using hg'
          simpa using hs
      have hx4 : cur.toList.take xs.length = xs := by rw [hxl]; exact htk
      have hr4 := Nat.mul_le_mul_right 4 hroom
      have e := ins_shift cur.toList xs news C1 (i * 4) (by omega) hx4 (by omega) (by rw [hnl]; have := HC1.out; rw [Nat.add_mul] at this; simpa using this)
      refine ⟨_, rfl, ⟨by rw [ins_len]; omega, .inr ⟨g, cap, (insCells xs news (i * 4) ++ cur.toList.drop (xs.length + news.length)).toArray, rfl, hbg, ?_, hroom, hcm, ?_, ?_⟩⟩,?_, .inl rfl⟩
      · rw [HW2.out, e]; exact setRow_heap W1 g C1.toArray _ 51 _ HG1.out
      · have : (insCells xs news (i * 4) ++ cur.toList.drop (xs.length + news.length)).length = cap * 4 := by
          rw [List.length_append, ins_len, List.length_drop, hLl]; omega
        simpa using this
      · simp only []
        rw [List.take_append_of_le_length (by rw [ins_len]; omega), List.take_of_length_le (by rw [ins_len]; omega)]
      · refine ⟨?_, ?_, ?_, ?_, fun q hq hne => ?_⟩
        · rw [HW2.out, HW1.out]; rfl
        · rw [HW2.out, HW1.out]; rfl
        · rw [HW2.out, HW1.out]; rfl
        · rw [HW2.out, HW1.out]; simp [World.setRow]
        · have hq' : q ≠ g := fun h => hne (by rw [h]; rfl)
          rw [HW2.out, setRow_other _ _ _ _ hq', HW1.out, setRow_other _ _ _ _ hq']; rfl
    · have hold : (Builtin.firstCells i0.size i (.slice (some ⟨g, 0, none⟩) i cap)).run Try.prog w.drew = .ok (xs.take (i * 4)).toArray w.drew := by
        rw [hz1]
        refine run_firstCells_some w.drew 4 i ⟨g, 0, none⟩ i cap (xs.take (i * 4)) (by rw [List.length_take]; omega) (fun j u hj => ?_)
        rw [add_none]
        rw [List.getElem?_take, ← htake, List.getElem?_take] at hj
        have hgd : w.drew.heap[g]? = some (.cells cur 51 (0, 0)) := hg
        split at hj
        · split at hj
          · simpa [World.cell?, hgd] using hj
          · cases hj
        · cases hj
      have hkk : (n : Int) + 1 - (i : Int) = ((n + 1 - i : Nat) : Int) := by omega
      have hik : i + (n + 1 - i) = n + 1 := by omega
      obtain ⟨G, hG⟩ : ∃ G, G = grownCap w (n + 1) cap 51 := ⟨_, rfl⟩
      have hGn : n + 1 ≤ G := by rw [hG]; exact grownCap_ge w _ _ _
      have hG63 : G ≤ maxLen := by rw [hG]; exact grownCap_le_maxLen w (n + 1) cap 51 (by unfold maxLen; omega)
      obtain ⟨R, hR⟩ : ∃ R : Array Value, R = (xs.take (i * 4)).toArray ++ Builtin.zeroCells (Value.agg #[.int .i64 0, .int .i64 0, .int .i64 0, .bool false]).cells (n + 1 - i) ++ Builtin.zeroCells (Value.agg #[.int .i64 0, .int .i64 0, .int .i64 0, .bool false]).cells (G - (n + 1)) := ⟨_, rfl⟩
      obtain ⟨W1, hW1⟩ : ∃ W1, W1 = w.drew.alloc (.cells R 51) := ⟨_, rfl⟩
      have hra : ∀ ty, (Builtin.append_ #[48, 3] ty #[.slice (some ⟨g, 0, none⟩) i cap, .int .i64 ((n : Int) + 1 - (i : Int))]).run Try.prog w = .ok (.slice (some ⟨w.heap.size, 0, none⟩) (n + 1) G) W1 := fun ty => by
        have h := Lib.run_append_grow_zeros w 48 3 ty 51 i0 _ .i64 .i64 Try.underlying48 Try.underlying3 hi0 hz0 (some ⟨g, 0, none⟩) i cap (xs.take (i * 4)) hold (n + 1 - i) (by omega) (by omega) (by omega) (by omega) (by rw [hz2]; omega) (by rw [hz2, hik]; exact growslice_fits (by omega) (by omega))
        rw [hik, ← hG, ← hR, ← hW1] at h
        rw [hkk]
        exact h
      have hNk : ¬ (k = w.heap.size) := by omega
      have hNg : ¬ (g = w.heap.size) := by omega
      have hRl : R.toList.length = G * 4 := by
        rw [hR]
        simp [Builtin.zeroCells, Value.cells, hxl]
        omega
      have hgN : W1.heap[w.heap.size]? = some (.cells R 51 (0, 0)) := by rw [hW1]; exact heap_alloc_new w.drew _
      have hk1 : W1.heap[k]? = some (.cells news.toArray 51 (0, 0)) := by rw [hW1]; exact (Below.heap_alloc w.drew _ k hkl).trans hk
      have hg1 : W1.heap[g]? = some (.cells cur 51 (0, 0)) := by rw [hW1]; exact (Below.heap_alloc w.drew _ g hgl).trans hg
      obtain ⟨C1, hC1⟩ : ∃ C1, R.toList.take (i * 4) ++ news ++ R.toList.drop (i * 4 + news.length) = C1 := ⟨_, rfl⟩
      obtain ⟨W2, hW2⟩ : ∃ W2, W2 = W1.setRow w.heap.size C1.toArray := ⟨_, rfl⟩
      have hr1 : ∀ ty dc, (Builtin.copy_ #[48, 48] ty #[.slice (some ⟨w.heap.size, i * 4, none⟩) (n + 1 - i) dc, .slice (some ⟨k, 0, none⟩) 1 1]).run Try.prog W1 = .ok (goInt (1 : Nat)) W2 := fun ty dc => by
        have := run_copy_n (P := Try.prog) W1 48 48 ty 51 4 w.heap.size (i * 4) (n + 1 - i) dc ⟨k, 0, none⟩ 1 1 R 51 news 1 Try.underlying48 size35 hgN (by simp only [Nat.min_def]; split <;> omega) (by omega) ?_ ?_ h2
        · rw [hW2, ← hC1]; exact this
        · intro j u hj
          rw [add_none]
          simp [World.cell?, hk1, hj]
        · rw [← Array.length_toList, hRl, hnl]; omega
      have hC1l : C1.length = G * 4 := by
        rw [← hC1]
        simp only [List.length_append, List.length_take, List.length_drop, hRl, hnl, Nat.min_def]
        split <;> omega
      have hgN2 : W2.heap[w.heap.size]? = some (.cells C1.toArray 51 (0, 0)) := by rw [hW2]; exact setRow_heap W1 _ R _ 51 _ hgN
      have hg2 : W2.heap[g]? = some (.cells cur 51 (0, 0)) := by rw [hW2]; exact (setRow_other W1 _ g _ hNg).trans hg1
      have hdl : (xs.drop (i * 4)).length = (n - i) * 4 := by rw [List.length_drop, hxl, Nat.sub_mul]
      obtain ⟨W3, hW3⟩ : ∃ W3, W3 = W2.drew.setRow w.heap.size (C1.take ((i + 1) * 4) ++ xs.drop (i * 4) ++ C1.drop ((i + 1) * 4 + (xs.drop (i * 4)).length)).toArray := ⟨_, rfl⟩
      have hr2 : ∀ ty dc sc, (Builtin.copy_ #[48, 48] ty #[.slice (some ⟨w.heap.size, (i + 1) * 4, none⟩) (n - i) dc, .slice (some ⟨g, i * 4, none⟩) (n - i) sc]).run Try.prog W2.drew = .ok (goInt (n - i : Nat)) W3 := fun ty dc sc => by
        have := run_copy_n (P := Try.prog) W2.drew 48 48 ty 51 4 w.heap.size ((i + 1) * 4) (n - i) dc ⟨g, i * 4, none⟩ (n - i) sc C1.toArray 51 (xs.drop (i * 4)) (n - i) Try.underlying48 size35 hgN2 (by simp only [Nat.min_def]; split <;> omega) hdl ?_ ?_ (fun u hu => h1 u (List.mem_of_mem_drop hu))
        · rw [hW3]; simpa using this
        · intro j u hj
          rw [add_none]
          rw [List.getElem?_drop, ← htake, List.getElem?_take] at hj
          have hgd : W2.drew.heap[g]? = some (.cells cur 51 (0, 0)) := hg2
          split at hj
          · simpa [World.cell?, hgd] using hj
          · cases hj
        · simp only [List.size_toArray, hC1l]; rw [hdl]; omega
      have hRt : R.toList.take (i * 4) = xs.take (i * 4) := by
        have : (xs.take (i * 4)).length = i * 4 := by rw [List.length_take]; omega
        rw [hR]
        simp only [Array.toList_append, List.append_assoc]
        rw [List.take_append_of_le_length (by simp; omega)]
        exact List.take_of_length_le (by simp; omega)
      have e := ins_grow R.toList xs news C1 (i * 4) (by omega) hRt (by omega) hC1
      have HE := Lib.hid e
      have HW1 := Lib.hid hW1
      have HW2 := Lib.hid hW2
      have HW3 := Lib.hid hW3
      have HG2 := Lib.hid hgN2
      have HRL := Lib.hid hRl
      have HXL := Lib.hid hxl
      clear e hW1 hW2 hW3 hgN2 hRl hxl hgN hk1 hg1 hC1 hC1l hg2 hdl hRt hR hold hG htake hown hg hk hcs hne hkk hik
      have hw1 : IntKind.i64.wrap ((i : Int) + 1) = (i : Int) + 1 := by rw [IntKind.wrap_i64]; omega
      have hb1 : (0 : Int) ≤ (i : Int) + 1 := by omega
      have htn : ((i : Int) + 1).toNat = i + 1 := by omega
      have hb3 : (i : Int) ≤ (n : Int) + 1 := by omega
      have hb4 : ¬ (cap = i) := by omega
      have hb5 : ¬ (G = i) := by omega
      have hb6 : ¬ (G = i + 1) := by omega
      have hG' := hG63
      unfold maxLen at hG'
      go_enter Try.func67, Try.ntmps67
      go_wp2_with (first
        | (at_builtin; refine Lib.wpList_append_run _ rfl _ _ _ _ rfl _ _ rfl rfl _ _ (hra _) ?_)
        | (at_builtin; refine wpList_copy_runI _ rfl _ _ 48 48 rfl _ _ rfl rfl (hr1 _ _) ?_))
      go_region_law (refine step_copy_runI rfl _ _ 48 48 rfl _ _ (by simp [Act.eval, Act.put]) (by simp [Act.eval, Act.put]) (hr2 _ _ _) ?_)
      go_wp2
      go_ret
      refine ⟨_, rfl, ⟨by rw [ins_len, HXL.out]; omega, .inr ⟨w.heap.size, G, (insCells xs news (i * 4) ++ R.toList.drop (xs.length + news.length)).toArray, rfl, hb, ?_, hGn, hG63, ?_, ?_⟩⟩,?_, .inr ⟨_, rfl, Nat.le_refl _⟩⟩
      · rw [HW3.out]
        have := HE.out
        rw [hnl] at this
        rw [Nat.add_mul, Nat.one_mul, this, ← hnl]
        exact setRow_heap W2.drew _ C1.toArray _ 51 _ HG2.out
      · have : (insCells xs news (i * 4) ++ R.toList.drop (xs.length + news.length)).length = G * 4 := by
          rw [List.length_append, ins_len, List.length_drop, HRL.out, HXL.out]; omega
        simpa using this
      · simp only []
        rw [List.take_append_of_le_length (by rw [ins_len, HXL.out, hnl]; omega), List.take_of_length_le (by rw [ins_len, HXL.out, hnl]; omega)]
      · refine ⟨?_, ?_, ?_, ?_, fun q hq hne => ?_⟩
        · rw [HW3.out, HW2.out, HW1.out]; rfl
        · rw [HW3.out, HW2.out, HW1.out]; rfl
        · rw [HW3.out, HW2.out, HW1.out]; rfl
        · rw [HW3.out, HW2.out, HW1.out]; simp [World.setRow]
        · have hq' : q ≠ w.heap.size := Nat.ne_of_lt hq
          rw [HW3.out, setRow_other _ _ _ _ hq']
          show W2.heap[q]? = _
          rw [HW2.out, setRow_other _ _ _ _ hq', HW1.out]
          exact Below.heap_alloc w.drew _ q hq
  · obtain rfl : i = n := by omega
    have e1 : insCells xs news (i * 4) = xs ++ news := by
      unfold insCells
      rw [List.take_of_length_le (by omega), List.drop_of_length_le (by omega), List.append_nil]
    rw [e1]
    have HOWN := Lib.hid hown
    have hw0 : ∃ a c, v = .slice a i c ∧ i ≤ c ∧ c ≤ maxLen := by
      rcases hown.2 with ⟨rfl, h0⟩ | ⟨g, cap, cur, rfl, hbg, hg, hnc, hcm, hcs, htake⟩
      · exact ⟨none, 0, by rw [h0], by omega, by unfold maxLen; omega⟩
      · exact ⟨_, cap, rfl, hnc, hcm⟩
    obtain ⟨a, c, rfl, hic, hcm⟩ := hw0
    unfold maxLen at hcm
    have HK := Lib.hid hk
    clear hown hk
    go_enter Try.func67, Try.ntmps67
    go_wp2_with (at_builtin; refine wpList_append_lies _ rfl _ _ 48 rfl base 51 i0 _ 4 32 Try.underlying48 hi0 hz0 hz1 hz2 rfl (by decide) (.slice a i c) i xs rfl HOWN.out ⟨k, 0, none⟩ 1 1 news rfl (by omega) (by intro j u hj; rw [add_none]; simp [World.cell?, HK.out, hj]) h2 (by decide) (by unfold maxLen; omega) (by omega) hb _ rfl ?_; intro g1 c1 w1 ho1 hg1 hat _)
    all_goals
      go_ret
      refine ⟨_, rfl, ho1, ?_, ?_⟩
      · cases a <;> exact hg1
      · rcases hat with h | h
        · exact .inl (by cases a <;> exact h.symm)
        · exact .inr ⟨g1, rfl, by omega⟩
end Go.Proofs.Ytaophafailmhjaa.K

/- slices.IndexFunc, ContainsFunc, DeleteFunc over rows. -/
namespace Go.Proofs.Ytaophafailmhjaa.K
open Go.RowKit
set_option linter.unusedVariables false
set_option linter.unusedSimpArgs false

def idx (p : TRow → Bool) (l : List TRow) : Int := match l.findIdx? p with
  | some k => k
  | none => -1
theorem idx_none {p : TRow → Bool} {l : List TRow} (h : ∀ q, q < l.length → p (l.getD q default) = false) : idx p l = -1 := by
  unfold idx
  rw [List.findIdx?_eq_none_iff.2]
  intro x hx
  obtain ⟨i, hi, rfl⟩ := List.mem_iff_getElem.1 hx
  have := h i hi
  rwa [List.getD_eq_getElem?_getD, List.getElem?_eq_getElem hi] at this
theorem idx_at {p : TRow → Bool} {l : List TRow} {j : Nat} (hj : j < l.length) (h : ∀ q, q < j → p (l.getD q default) = false) (hp : p (l.getD j default) = true) : idx p l = j := by
  unfold idx
  rw [List.findIdx?_eq_some_iff_getElem.2 ⟨hj, by rwa [List.getD_eq_getElem?_getD, List.getElem?_eq_getElem hj] at hp, fun q hq => by
    have := h q hq
    rw [List.getD_eq_getElem?_getD, List.getElem?_eq_getElem (by omega)] at this
    simp at this ⊢
    exact this⟩]

/-- A function value that tells 'p' of a row, in each world where block 'kb' is as it is in w. -/
def Tells (g : Nat) (lb : Array Value) (p : TRow → Bool) (kb : Nat) (w : World) : Prop :=
  ∀ W, W.heap[kb]? = w.heap[kb]? → ∀ r, Calls Try.prog g (#[.agg (enc r).toArray] ++ lb) W fun e w' => e = .returned (.bool (p r)) ∧ Below W.heap.size W w'

set_option maxHeartbeats 2000000 in
set_option maxRecDepth 100000 in
theorem index_any (g : Nat) (lb : Array Value) (eg : ∀ args w, (callFunc g args).run Try.prog w = .ok (.enter g args) w) (p : TRow → Bool) (a : Option Addr) (cap kb : Nat) (l : List TRow) (w : World)
    (hr : RowsAt w w.heap.size a l.length (fun i => l.getD i default)) (hkb : kb < w.heap.size) (hl : l.length ≤ 100000) (HP : Hid (Tells g lb p kb w)) :
    Calls Try.prog 52 #[.slice a l.length cap, .func (.func g) #[] lb] w fun e w' => e = .returned (.int .i64 (idx p l)) ∧ Below w.heap.size w w' := by
  have HC := Lib.hid hr
  clear hr
  go_enter Try.func52, Try.ntmps52
  go_wp2
  go_loopg [8] l.length (fun g' i wr => ∃ j : Nat, i = .int .i64 j ∧ j ≤ l.length ∧ l.length ≤ j + g' ∧ Hid (∀ q, q < j → p (l.getD q default) = false) ∧ Below w.heap.size w wr)
  case atStart => exact ⟨0, rfl, by omega, by omega, fun q hq => absurd hq (by omega), Below.refl _ _⟩
  case round =>
    obtain ⟨j, rfl, hj, hjg, HN, hbel⟩ := hrel
    by_cases hlt : j < l.length
    · rcases HC.out with h0 | ⟨gb, rfl, hg, hc⟩
      · omega
      obtain ⟨r, hr, c0, c1, c2, c3⟩ : ∃ r, l.getD j default = r ∧ wr.cell? ⟨gb, j * 4, none⟩ = some (.int .i64 r.c) ∧ wr.cell? ⟨gb, j * 4 + 1, none⟩ = some (.int .i64 r.h) ∧
            wr.cell? ⟨gb, j * 4 + 2, none⟩ = some (.int .i64 r.i) ∧ wr.cell? ⟨gb, j * 4 + 3, none⟩ = some (.bool r.b) := by
          obtain ⟨c0, c1, c2, c3⟩ := hc j hlt
          exact ⟨_, rfl, (hbel.cell (p := ⟨gb, j * 4, none⟩) hg).trans c0, (hbel.cell (p := ⟨gb, j * 4 + 1, none⟩) hg).trans c1, (hbel.cell (p := ⟨gb, j * 4 + 2, none⟩) hg).trans c2, (hbel.cell (p := ⟨gb, j * 4 + 3, none⟩) hg).trans c3⟩
      have hcall := HP.out wr (hbel.block kb hkb) r
      unfold enc at hcall
      clear hc
      have HRR := Lib.hid hr
      clear hr
      cases hq : p r with
      | true =>
        rw [hq] at hcall
        go_wp2_with (go_at_fn g; refine hcall.mono ?_; rintro e w1 ⟨rfl, hb1⟩)
        go_ret
        refine ⟨?_, bt hbel hb1⟩
        rw [idx_at hlt HN.out (by rw [HRR.out]; exact hq)]
        rfl
      | false =>
        rw [hq] at hcall
        go_wp2_with (go_at_fn g; refine hcall.mono ?_; rintro e w1 ⟨rfl, hb1⟩)
        go_roundg (gk - 1)
        case measure => omega
        case rel =>
          refine ⟨j + 1, rfl, by omega, by omega, ?_, bt hbel hb1⟩
          intro q hq'
          rcases Nat.lt_or_ge q j with h | h
          · exact HN.out q h
          · obtain rfl : q = j := by omega
            rw [HRR.out]; exact hq
    · have he : j = l.length := by omega
      go_wp2
      go_ret
      exact ⟨by rw [idx_none (fun q hq => HN.out q (by omega))]; rfl, hbel⟩

def has (p : TRow → Bool) (l : List TRow) : Bool := l.any p
theorem idx_has (p : TRow → Bool) (l : List TRow) : decide (0 ≤ idx p l) = has p l := by
  unfold idx has
  cases h : l.findIdx? p with
  | none =>
    rw [List.findIdx?_eq_none_iff] at h
    have : l.any p = false := by
      rw [List.any_eq_false]; intro x hx; rw [h x hx]; simp
    rw [this]; rfl
  | some k =>
    have := List.findIdx?_eq_some_iff_getElem.1 h
    obtain ⟨hk, hp, _⟩ := this
    have : l.any p = true := List.any_eq_true.2 ⟨l[k], List.getElem_mem hk, hp⟩
    rw [this]; simp

set_option maxHeartbeats 2000000 in
set_option maxRecDepth 100000 in
theorem contains_any (g : Nat) (lb : Array Value) (eg : ∀ args w, (callFunc g args).run Try.prog w = .ok (.enter g args) w) (p : TRow → Bool) (a : Option Addr) (cap kb : Nat) (l : List TRow) (w : World)
    (hr : RowsAt w w.heap.size a l.length (fun i => l.getD i default)) (hkb : kb < w.heap.size) (hl : l.length ≤ 100000) (HP : Hid (Tells g lb p kb w)) :
    Calls Try.prog 58 #[.slice a l.length cap, .func (.func g) #[] lb] w fun e w' => e = .returned (.bool (has p l)) ∧ Below w.heap.size w w' := by
  have H := Lib.hid (index_any g lb eg p a cap kb l w hr hkb hl HP)
  have HH := Lib.hid (idx_has p l)
  clear hr
  generalize hx : idx p l = x at H HH
  clear hx
  go_enter Try.func58, Try.ntmps58
  go_wp2_with (go_at_call 52; refine H.out.mono ?_; rintro e w1 ⟨rfl, hb1⟩)
  go_ret
  exact ⟨by rw [← HH.out]; rfl, hb1⟩

def keep (p : TRow → Bool) (l : List TRow) : List TRow := l.filter fun r => !p r
/-- Between: the first j rows are looked at, i of them are kept, and lie at the head of m. -/
structure Kept (p : TRow → Bool) (l m : List TRow) (i j : Nat) : Prop where
  len : m.length = l.length
  lt : i < j
  head : m.take i = keep p (l.take j)
  tail : m.drop j = l.drop j
theorem take_succ_getD (l : List TRow) (j : Nat) (hj : j < l.length) : l.take (j + 1) = l.take j ++ [l.getD j default] := by
  rw [List.take_add_one, List.getElem?_eq_getElem hj, List.getD_eq_getElem?_getD, List.getElem?_eq_getElem hj]; rfl
theorem Kept.start {p : TRow → Bool} {l : List TRow} {k : Nat} (hk : k < l.length) (h : ∀ q, q < k → p (l.getD q default) = false) (hp : p (l.getD k default) = true) : Kept p l l k (k + 1) := by
  refine ⟨rfl, by omega, ?_, rfl⟩
  unfold keep
  rw [take_succ_getD l k hk, List.filter_append]
  have e1 : (l.take k).filter (fun r => !p r) = l.take k := by
    rw [List.filter_eq_self]
    intro x hx
    obtain ⟨i, hi, rfl⟩ := List.mem_iff_getElem.1 hx
    have hi' : i < k := by rw [List.length_take] at hi; omega
    have := h i hi'
    rw [List.getD_eq_getElem?_getD, List.getElem?_eq_getElem (by omega)] at this
    rw [List.getElem_take]
    simp at this; simp [this]
  rw [e1]; simp only [List.filter_cons, List.filter_nil, hp]; simp
theorem Kept.at {p : TRow → Bool} {l m : List TRow} {i j : Nat} (h : Kept p l m i j) (hj : j < l.length) : m.getD j default = l.getD j default := by
  have e : ∀ x : List TRow, j < x.length → x.getD j default = (x.drop j).getD 0 default := fun x hx => by
    simp [List.getD_eq_getElem?_getD]
  rw [e m (by rw [h.len]; exact hj), e l hj, h.tail]
theorem drop_succ_of (m l : List TRow) (j : Nat) (h : m.drop j = l.drop j) : m.drop (j + 1) = l.drop (j + 1) := by
  rw [← List.drop_drop, ← List.drop_drop, h]
theorem Kept.skip {p : TRow → Bool} {l m : List TRow} {i j : Nat} (h : Kept p l m i j) (hj : j < l.length) (hp : p (l.getD j default) = true) : Kept p l m i (j + 1) := by
  refine ⟨h.len, by have := h.lt; omega, ?_, drop_succ_of _ _ _ h.tail⟩
  rw [h.head, take_succ_getD l j hj]
  unfold keep
  rw [List.filter_append]; simp only [List.filter_cons, List.filter_nil, hp]; simp
theorem Kept.put {p : TRow → Bool} {l m : List TRow} {i j : Nat} (h : Kept p l m i j) (hj : j < l.length) (hp : p (l.getD j default) = false) : Kept p l (m.set i (l.getD j default)) (i + 1) (j + 1) := by
  have hlt := h.lt
  have hlen := h.len
  refine ⟨by rw [List.length_set]; exact h.len, by omega, ?_, ?_⟩
  · rw [take_succ_getD _ i (by rw [List.length_set]; omega)]
    have e1 : (m.set i (l.getD j default)).take i = m.take i := by
      rw [List.take_set_of_le (Nat.le_refl _)]
    have e2 : (m.set i (l.getD j default)).getD i default = l.getD j default := by
      rw [List.getD_eq_getElem?_getD, List.getElem?_set_self (by omega)]; rfl
    rw [e1, e2, h.head, take_succ_getD l j hj]
    unfold keep
    rw [List.filter_append]; simp only [List.filter_cons, List.filter_nil, hp]; simp
  · rw [List.drop_set_of_lt (by omega)]
    exact drop_succ_of _ _ _ h.tail
theorem Kept.done {p : TRow → Bool} {l m : List TRow} {i : Nat} (h : Kept p l m i l.length) : m.take i = keep p l ∧ i = (keep p l).length := by
  have e : m.take i = keep p l := by rw [h.head, List.take_length]
  refine ⟨e, ?_⟩
  rw [← e, List.length_take, h.len]; have := h.lt; omega

/-- Four stores: a row put at place i. -/
theorem put_cells (m : List TRow) (R : List Value) (i : Nat) (hi : i < m.length) (r : TRow) :
    ((((encs m ++ R).toArray.setIfInBounds (i * 4) (.int .i64 r.c)).setIfInBounds (i * 4 + 1) (.int .i64 r.h)).setIfInBounds (i * 4 + 2) (.int .i64 r.i)).setIfInBounds (i * 4 + 3) (.bool r.b) = (encs (m.set i r) ++ R).toArray := by
  apply Array.ext'
  simp only [Array.toList_setIfInBounds, List.toList_toArray]
  induction m generalizing i with
  | nil => simp at hi
  | cons x m ih =>
    cases i with
    | zero => simp [encs_cons, enc]
    | succ i =>
      have := ih i (by simpa using hi)
      simp only [encs_cons, List.set_cons_succ, List.append_assoc]
      have e : ∀ (t : List Value) (k : Nat) (u : Value), (enc x ++ t).set (k + 4) u = enc x ++ t.set k u := fun t k u => by
        rw [List.set_append_right _ _ (by simp [enc])]
        simp [enc]
      rw [show (i + 1) * 4 = i * 4 + 4 by omega, show i * 4 + 4 + 1 = i * 4 + 1 + 4 by omega, show i * 4 + 4 + 2 = i * 4 + 2 + 4 by omega, show i * 4 + 4 + 3 = i * 4 + 3 + 4 by omega, e, e, e, e, this]

theorem encs_take (l : List TRow) (i : Nat) : (encs l).take (i * 4) = encs (l.take i) := by
  induction l generalizing i with
  | nil => simp [encs]
  | cons r l ih =>
    cases i with
    | zero => simp [encs]
    | succ i =>
      rw [List.take_succ_cons, encs_cons, encs_cons, ← ih i, show (i + 1) * 4 = (enc r).length + i * 4 by simp [enc]; omega, List.take_length_add_append]

theorem run_clear_n {P : Program} (w : World) (t e : TypeId) (z : Value) (g o : Nat) (cur : Array Value) (n c : Nat) (ht : P.underlying t = some (.slice e)) (hz : ∀ w, (zeroValue e).run P w = .ok z w) (h0 : 0 < n)
    (hg : w.heap[g]? = some (.cells cur e (0, 0))) (hfit : o + n * z.cells.size ≤ cur.size) (h1 : ∀ v ∈ z.cells.toList, v.oneCell' = true) :
    ∃ cs : List Value, cs.length = n * z.cells.size ∧ ∀ ty, (Builtin.clear_ #[t] ty #[.slice (some ⟨g, o, none⟩) n c]).run P w = .ok (.tuple #[]) (w.setRow g (cur.toList.take o ++ cs ++ cur.toList.drop (o + cs.length)).toArray) := by
  have hl : (Builtin.zeroCells z.cells n).toList.length = n * z.cells.size := by simp [Builtin.zeroCells]
  have hm : ∀ v ∈ (Builtin.zeroCells z.cells n).toList, v.oneCell' = true := by
    intro v hv
    apply h1
    simp only [Builtin.zeroCells] at hv
    simp at hv
    obtain ⟨a, ha, rfl⟩ := hv
    have h0' : 0 < z.cells.size := Nat.pos_of_ne_zero (fun h => by rw [h] at ha; omega)
    have hlt : a % z.cells.size < z.cells.size := Nat.mod_lt _ h0'
    rw [getElem!_pos z.cells _ hlt]
    exact Array.getElem_mem_toList hlt
  refine ⟨(Builtin.zeroCells z.cells n).toList, hl, fun ty => ?_⟩
  have hst := run_storeCells_at P g o e (Builtin.zeroCells z.cells n).toList 0 cur w hg (by rw [hl]; simpa using hfit) hm
  have hn : n ≠ 0 := by omega
  cases n with
  | zero => omega
  | succ n =>
    simp [Builtin.clear_, run_underlying ht, hz, hst]

theorem grownBy_of_below {w w' : World} (h : Below w.heap.size w w') (r : Option Nat) : w.grownBy w' r := ⟨h.os, h.tape, h.output, h.size, fun k hk _ => h.block k hk⟩
theorem row_cells {w : World} {gb : Nat} {m : List TRow} {R : List Value} (h : w.heap[gb]? = some (.cells (encs m ++ R).toArray 51 (0, 0))) (i : Nat) (hi : i < m.length) :
    w.cell? ⟨gb, i * 4, none⟩ = some (.int .i64 (m.getD i default).c) ∧ w.cell? ⟨gb, i * 4 + 1, none⟩ = some (.int .i64 (m.getD i default).h) ∧
    w.cell? ⟨gb, i * 4 + 2, none⟩ = some (.int .i64 (m.getD i default).i) ∧ w.cell? ⟨gb, i * 4 + 3, none⟩ = some (.bool (m.getD i default).b) := by
  have key : ∀ j, j < 4 → ∀ u, (enc (m.getD i default))[j]? = some u → w.cell? ⟨gb, i * 4 + j, none⟩ = some u := by
    intro j hj u hu
    refine blk_cell h _ _ ?_
    rw [List.getElem?_toArray, List.getElem?_append_left (by rw [encs_len]; omega), encs_at m i hi j hj]
    exact hu
  exact ⟨by simpa using key 0 (by omega) _ rfl, key 1 (by omega) _ rfl, key 2 (by omega) _ rfl, key 3 (by omega) _ rfl⟩
theorem row_put {w : World} {gb : Nat} {m : List TRow} {R : List Value} (h : w.heap[gb]? = some (.cells (encs m ++ R).toArray 51 (0, 0))) (i : Nat) (hi : i < m.length) (r : TRow) :
    ((((w.setCell ⟨gb, i * 4, none⟩ (.int .i64 r.c)).setCell ⟨gb, i * 4 + 1, none⟩ (.int .i64 r.h)).setCell ⟨gb, i * 4 + 2, none⟩ (.int .i64 r.i)).setCell ⟨gb, i * 4 + 3, none⟩ (.bool r.b)).heap[gb]? = some (.cells (encs (m.set i r) ++ R).toArray 51 (0, 0)) := by
  rw [← put_cells m R i hi r]
  exact set_blk (set_blk (set_blk (set_blk h)))
theorem grown_set {w w' : World} {g : Nat} (h : w.grownBy w' (some g)) (o : Nat) (u : Value) : w.grownBy (w'.setCell ⟨g, o, none⟩ u) (some g) :=
  ⟨h.os, h.tape, h.output, by simpa [World.setCell] using h.size, fun k hk hne => (Below.heap_setCell _ _ _ k (fun e => hne (by rw [e]))).trans (h.block k hk hne)⟩
theorem grown_below {w w1 w2 : World} {r : Option Nat} (h : w.grownBy w1 r) (hb : Below w1.heap.size w1 w2) : w.grownBy w2 r := grownBy_trans h (grownBy_of_below hb r)
theorem grown_alloc {w w1 : World} {r : Option Nat} (h : w.grownBy w1 r) (o : Obj) : w.grownBy (w1.alloc o) r := grown_below h ((Below.refl _ _).alloc (Nat.le_refl _) o)

/-- What DeleteFunc says. -/
def DelPost (v : Value) (base : Nat) (k : List TRow) (w : World) (e : Ending) (w' : World) : Prop :=
  ∃ v', e = .returned v' ∧ w'.ownsRow base 51 4 v' k.length (encs k) ∧ v'.ownBlock = v.ownBlock ∧ w.grownBy w' v.ownBlock
theorem ownsRow_below {w w' : World} {base : Nat} {e : TypeId} {size : Nat} {v : Value} {n : Nat} {xs : List Value} (h : w.ownsRow base e size v n xs) (hb : Below w.heap.size w w') : w'.ownsRow base e size v n xs := by
  refine ⟨h.1, ?_⟩
  rcases h.2 with h | ⟨g, cap, cur, rfl, hbg, hg, rest⟩
  · exact .inl h
  · exact .inr ⟨g, cap, cur, rfl, hbg, (hb.block g (lt_of_block hg)).trans hg, rest⟩

set_option maxHeartbeats 4000000 in
set_option maxRecDepth 100000 in
theorem delete_any (g : Nat) (lb : Array Value) (eg : ∀ args w, (callFunc g args).run Try.prog w = .ok (.enter g args) w) (p : TRow → Bool) (v : Value) (base kb : Nat) (l : List TRow) (w : World)
    (hown : w.ownsRow base 51 4 v l.length (encs l)) (hkb : kb < w.heap.size) (hne : v.ownBlock ≠ some kb) (hl : l.length ≤ 100000) (HP : Hid (Tells g lb p kb w)) :
    Calls Try.prog 39 #[v, .func (.func g) #[] lb] w fun e w' => DelPost v base (keep p l) w e w' := by
  obtain ⟨a, cap, rfl, hcap, hrows⟩ := own_rows hown
  have HI := Lib.hid (index_any g lb eg p a cap kb l w hrows hkb hl HP)
  by_cases hex : ∃ k, k < l.length ∧ p (l.getD k default) = true ∧ ∀ q, q < k → p (l.getD q default) = false
  · obtain ⟨k0, hk0, hp0, hn0⟩ := hex
    rw [show idx p l = (k0 : Int) from idx_at hk0 hn0 hp0] at HI
    rcases hown.2 with ⟨h, h0⟩ | ⟨gb, cap', cur, hv, hbg, hg, hnc, hcm, hcs, htake⟩
    · omega
    obtain ⟨rfl, rfl⟩ : a = some ⟨gb, 0, none⟩ ∧ cap = cap' := by simpa using hv
    have hgl := lt_of_block hg
    have hgk : gb ≠ kb := by intro e; apply hne; simp [Value.ownBlock, e]
    have hcur : cur = (encs l ++ cur.toList.drop (l.length * 4)).toArray := by
      apply Array.ext'
      simp only [List.toList_toArray]
      rw [← htake, List.take_append_drop]
    obtain ⟨R, hR⟩ : ∃ R, R = cur.toList.drop (l.length * 4) := ⟨_, rfl⟩
    have hRl : R.length + l.length * 4 = cap * 4 := by
      rw [hR, List.length_drop]
      have : cur.toList.length = cap * 4 := by simpa using hcs
      have := Nat.mul_le_mul_right 4 hnc
      omega
    rw [← hR] at hcur
    rw [hcur] at hg
    have HG := Lib.hid hg
    have HST := Lib.hid (Kept.start hk0 hn0 hp0)
    have HRL := Lib.hid hRl
    unfold maxLen at hcm
    clear hcur hR hRl htake hcs hg hp0 hn0 hv hown hrows hne
    go_enter Try.func39, Try.ntmps39
    go_wp2_with (go_at_call 52; refine HI.out.mono ?_; rintro e w1 ⟨rfl, hb1⟩)
    go_loopg [5, 6, 7] l.length (fun g' s5 s6 _ wr => ∃ (i j : Nat) (m : List TRow), s5 = .int .i64 i ∧ s6 = .int .i64 j ∧ j ≤ l.length ∧ l.length ≤ j + g' ∧ Hid (Kept p l m i j) ∧
      Hid (wr.heap[gb]? = some (.cells (encs m ++ R).toArray 51 (0, 0))) ∧ Hid (w.grownBy wr (some gb)))
    case atStart => exact ⟨k0, k0 + 1, l, rfl, rfl, by omega, by omega, HST.out, (hb1.block gb hgl).trans HG.out, grownBy_of_below hb1 _⟩
    case round =>
      obtain ⟨i, j, m, rfl, rfl, hj, hjg, HK, HC, HW⟩ := hrel
      have hgw : gb < wr.heap.size := Nat.lt_of_lt_of_le hgl HW.out.size
      have hkw : kb < wr.heap.size := Nat.lt_of_lt_of_le hkb HW.out.size
      have hkeep : wr.heap[kb]? = w.heap[kb]? := HW.out.block kb hkb (fun e => hgk (Option.some.inj e).symm)
      have HKEEP := Lib.hid hkeep
      have hml := HK.out.len
      have hij := HK.out.lt
      by_cases hlt : j < l.length
      · obtain ⟨r, hr, c0, c1, c2, c3⟩ : ∃ r, l.getD j default = r ∧ wr.cell? ⟨gb, j * 4, none⟩ = some (.int .i64 r.c) ∧ wr.cell? ⟨gb, j * 4 + 1, none⟩ = some (.int .i64 r.h) ∧
            wr.cell? ⟨gb, j * 4 + 2, none⟩ = some (.int .i64 r.i) ∧ wr.cell? ⟨gb, j * 4 + 3, none⟩ = some (.bool r.b) := by
          have := row_cells HC.out j (by omega)
          rw [HK.out.at hlt] at this
          exact ⟨_, rfl, this⟩
        have hcall : ∀ W, W.heap[kb]? = w.heap[kb]? → Calls Try.prog g (#[.agg #[.int .i64 r.c, .int .i64 r.h, .int .i64 r.i, .bool r.b]] ++ lb) W fun e w' => e = .returned (.bool (p r)) ∧ Below W.heap.size W w' := fun W hW => HP.out W hW r
        have HRR := Lib.hid hr
        clear hr hkeep
        have HA := Lib.hid (show (wr.alloc (.cells #[.int .i64 r.c, .int .i64 r.h, .int .i64 r.i, .bool r.b] 51)).heap[wr.heap.size]? = some (.cells #[.int .i64 r.c, .int .i64 r.h, .int .i64 r.i, .bool r.b] 51 (0, 0)) from heap_alloc_new wr _)
        have HAG := Lib.hid (show (wr.alloc (.cells #[.int .i64 r.c, .int .i64 r.h, .int .i64 r.i, .bool r.b] 51)).heap[gb]? = some (.cells (encs m ++ R).toArray 51 (0, 0)) from blk_alloc HC.out)
        have HAW := Lib.hid (grown_alloc HW.out (.cells #[.int .i64 r.c, .int .i64 r.h, .int .i64 r.i, .bool r.b] 51))
        have hasz : (wr.alloc (.cells #[.int .i64 r.c, .int .i64 r.h, .int .i64 r.i, .bool r.b] 51)).heap.size = wr.heap.size + 1 := by simp
        cases hq : p r with
        | true =>
          rw [hq] at hcall
          have HCALL := Lib.hid hcall
          clear hcall
          go_wp2_with (go_at_fn g; refine (HCALL.out _ ((Below.heap_alloc _ _ _ hkw).trans HKEEP.out)).mono ?_; rintro e w1 ⟨rfl, hb1⟩)
          go_roundg (gk - 1)
          case measure => omega
          case rel =>
            refine ⟨i, j + 1, m, rfl, rfl, by omega, by omega, HK.out.skip hlt (by rw [HRR.out]; exact hq), ?_, ?_⟩
            · exact (hb1.block gb (by simp; omega)).trans HAG.out
            · exact grown_below HAW.out hb1
        | false =>
          rw [hq] at hcall
          have HCALL := Lib.hid hcall
          clear hcall
          go_wp2_with (go_at_fn g; refine (HCALL.out _ ((Below.heap_alloc _ _ _ hkw).trans HKEEP.out)).mono ?_; rintro e w1 ⟨rfl, hb1⟩
                       have hla := (hb1.block wr.heap.size (by simp)).trans HA.out
                       have HLG := Lib.hid ((hb1.block gb (by simp; omega)).trans HAG.out)
                       have l0 := blk_cell hla 0 _ rfl
                       have l1 := blk_cell hla 1 _ rfl
                       have l2 := blk_cell hla 2 _ rfl
                       have l3 := blk_cell hla 3 _ rfl
                       obtain ⟨d0, d1, d2, d3⟩ := row_cells HLG.out i (by omega)
                       have f0 := blk_frozen HLG.out (i * 4)
                       have f1 := blk_frozen HLG.out (i * 4 + 1)
                       have f2 := blk_frozen HLG.out (i * 4 + 2)
                       have f3 := blk_frozen HLG.out (i * 4 + 3)
                       have HG1 := Lib.hid (grown_below HAW.out hb1)
                       clear hla hb1)
          go_roundg (gk - 1)
          case measure => omega
          case rel =>
            refine ⟨i + 1, j + 1, m.set i r, rfl, rfl, by omega, by omega, ?_, ?_, ?_⟩
            · have := HK.out.put hlt (by rw [HRR.out]; exact hq)
              rwa [HRR.out] at this
            · exact row_put HLG.out i (by omega) r
            · exact grown_set (grown_set (grown_set (grown_set HG1.out _ _) _ _) _ _) _ _
      · obtain rfl : j = l.length := by omega
        have hdn := HK.out.done
        have hil : i ≤ m.length := by omega
        have hcl : (encs m ++ R).length = cap * 4 := by rw [List.length_append, encs_len, hml]; have := HRL.out; omega
        obtain ⟨zs, hzl, hrz⟩ := run_clear_n (P := Try.prog) wr 48 51 (.agg #[.int .i64 0, .int .i64 0, .int .i64 0, .bool false]) gb (i * 4) (encs m ++ R).toArray (l.length - i) (cap - i) Try.underlying48
          (fun w => by obtain ⟨i0, hi0, hz0, _, _⟩ := info_parts info35; simp [zeroValue, typeInfo, hi0, hz0]) (by omega) HC.out
          (by simp only [List.size_toArray, hcl]; simp [Value.cells]; have := HRL.out; omega) (by intro u hu; simp [Value.cells] at hu; rcases hu with rfl | rfl | rfl | rfl <;> rfl)
        have hz4 : zs.length = (l.length - i) * 4 := hzl
        simp only [List.toList_toArray] at hrz
        have ht : (encs m ++ R).take (i * 4) = encs (m.take i) := by
          rw [List.take_append_of_le_length (by rw [encs_len]; omega), encs_take]
        rw [ht, List.append_assoc] at hrz
        obtain ⟨cs, hcs⟩ : ∃ cs, cs = zs ++ (encs m ++ R).drop (i * 4 + zs.length) := ⟨_, rfl⟩
        have hcsl : (encs (m.take i) ++ cs).length = cap * 4 := by
          rw [hcs]
          simp only [List.length_append, List.length_drop, encs_len, List.length_take, hz4, Nat.min_eq_left hil] at hcl ⊢
          have := HRL.out; omega
        rw [← hcs] at hrz
        obtain ⟨W2, hW2⟩ : ∃ W2, W2 = wr.setRow gb (encs (m.take i) ++ cs).toArray := ⟨_, rfl⟩
        rw [← hW2] at hrz
        have HG2 := Lib.hid (show W2.heap[gb]? = some (.cells (encs (m.take i) ++ cs).toArray 51 (0, 0)) from by rw [hW2]; exact setRow_heap wr gb _ _ 51 _ HC.out)
        have HW2 := Lib.hid (show w.grownBy W2 (some gb) from by
          rw [hW2]
          exact ⟨HW.out.os, HW.out.tape, HW.out.output, by simpa [World.setRow] using HW.out.size, fun q hq hne => (setRow_other wr gb q _ (fun e => hne (by rw [e]))).trans (HW.out.block q hq hne)⟩)
        have HD := Lib.hid hdn
        have HCL := Lib.hid hcsl
        clear hW2 hdn hcsl hcs ht hz4 hzl hcl hkeep
        have hne1 : ¬ (cap = i) := by omega
        go_wp2
        go_ret
        have hd := HD.out
        rw [hd.1] at HG2 HCL
        refine ⟨_, rfl, ?_, rfl, HW2.out⟩
        rw [← hd.2]
        refine ⟨by rw [encs_len, ← hd.2], .inr ⟨gb, cap, _, rfl, hbg, HG2.out, by omega, by unfold maxLen; omega, by simpa using HCL.out, ?_⟩⟩
        simp only []
        rw [List.take_append_of_le_length (by rw [encs_len, ← hd.2]; omega), List.take_of_length_le (by rw [encs_len, ← hd.2]; omega)]
  · have hall : ∀ q, q < l.length → p (l.getD q default) = false := by
      intro q
      induction q using Nat.strongRecOn with
      | _ q ih =>
        intro hq
        cases hp : p (l.getD q default) with
        | false => rfl
        | true => exact absurd ⟨q, hq, hp, fun t ht => ih t ht (by omega)⟩ hex
    have hk : keep p l = l := by
      unfold keep
      rw [List.filter_eq_self]
      intro x hx
      obtain ⟨i, hi, rfl⟩ := List.mem_iff_getElem.1 hx
      have := hall i hi
      rw [List.getD_eq_getElem?_getD, List.getElem?_eq_getElem hi] at this
      simp at this; simp [this]
    rw [idx_none hall] at HI
    rw [hk]
    have HO := Lib.hid hown
    clear hown hrows hk hall hex
    go_enter Try.func39, Try.ntmps39
    go_wp2_with (go_at_call 52; refine HI.out.mono ?_; rintro e w1 ⟨rfl, hb1⟩)
    go_ret
    exact ⟨_, rfl, ownsRow_below HO.out hb1, rfl, grownBy_of_below hb1 _⟩
end Go.Proofs.Ytaophafailmhjaa.K

/- The functions of package tokens that read, and those that turn the rows. -/
namespace Go.Proofs.Ytaophafailmhjaa.K
open Go.RowKit
set_option linter.unusedVariables false
set_option linter.unusedSimpArgs false

theorem IsTok.apart {w : World} {b base : Nat} {v : Value} {l : List TRow} (h : IsTok w b v base l) : v.ownBlock ≠ some b := by
  intro e
  rcases h.rows.2 with ⟨rfl, _⟩ | ⟨g, cap, cur, rfl, _, hg, _⟩
  · simp [Value.ownBlock] at e
  · obtain rfl : g = b := by simpa [Value.ownBlock] using e
    have := h.head
    rw [hg] at this
    simp at this
theorem IsTok.lt {w : World} {b base : Nat} {v : Value} {l : List TRow} (h : IsTok w b v base l) : b < w.heap.size := lt_of_block h.head
theorem IsTok.below {w w' : World} {b base : Nat} {v : Value} {l : List TRow} (h : IsTok w b v base l) (hb : Below w.heap.size w w') : IsTok w' b v base l :=
  ⟨(hb.block b h.lt).trans h.head, ownsRow_below h.rows hb, h.few⟩

/-- What a function that turns the rows leaves alone. -/
structure TokFrame (w w' : World) (b : Nat) (v : Value) : Prop where
  os : w'.os = w.os
  tape : w'.tape = w.tape
  output : w'.output = w.output
  size : w.heap.size ≤ w'.heap.size
  block : ∀ k, k < w.heap.size → k ≠ b → v.ownBlock ≠ some k → w'.heap[k]? = w.heap[k]?
theorem TokFrame.of_below {w w' : World} (h : Below w.heap.size w w') (b : Nat) (v : Value) : TokFrame w w' b v := ⟨h.os, h.tape, h.output, h.size, fun k hk _ _ => h.block k hk⟩
theorem TokFrame.toBelow {B : Nat} {w0 w w' : World} {b base : Nat} {v : Value} {l : List TRow} (h : TokFrame w w' b v) (ht : IsTok w b v base l) (hb : B ≤ b) (hB : B ≤ base) (hs : B ≤ w.heap.size) (h0 : Below B w0 w) : Below B w0 w' :=
  h0.trans ⟨h.os, h.tape, h.output, h.size, fun k hk => h.block k (by omega) (by omega) (fun e => by have := (ht.rows.lt k e).1; omega)⟩

theorem callee {g : Nat} (h : ∀ args w, (callFunc g args).run Try.prog w = .ok (.enter g args) w) : ∀ args w, (callFunc g args).run Try.prog w = .ok (.enter g args) w := h

set_option maxHeartbeats 2000000 in
theorem tells40 (kb : Nat) (c : Int) (w : World) (h : w.heap[kb]? = some (.cells #[.int .i64 c] 3 (0, 0))) : Tells 40 #[.pointer (some ⟨kb, 0, none⟩)] (fun r => r.c == c) kb w := by
  intro W hW r
  have hc := blk_cell (hW.trans h) 0 _ rfl
  have hlt := lt_of_block (hW.trans h)
  clear hW h
  unfold enc
  go_enter Try.func40, Try.ntmps40
  go_wp2
  go_ret
  exact ⟨rfl, (Below.refl _ _).alloc (Nat.le_refl _) _⟩
set_option maxHeartbeats 2000000 in
theorem tells39 (kb : Nat) (c : Int) (w : World) (h : w.heap[kb]? = some (.cells #[.int .i64 c] 3 (0, 0))) : Tells 59 #[.pointer (some ⟨kb, 0, none⟩)] (fun r => r.i == c) kb w := by
  intro W hW r
  have hc := blk_cell (hW.trans h) 0 _ rfl
  have hlt := lt_of_block (hW.trans h)
  clear hW h
  unfold enc
  go_enter Try.func59, Try.ntmps59
  go_wp2
  go_ret
  exact ⟨rfl, (Below.refl _ _).alloc (Nat.le_refl _) _⟩
def rowEq (r x : TRow) : Bool := x.c == r.c && x.h == r.h && x.i == r.i && x.b == r.b
set_option maxHeartbeats 2000000 in
theorem tells35 (kb : Nat) (q : TRow) (w : World) (h : w.heap[kb]? = some (.cells #[.int .i64 q.c, .int .i64 q.h, .int .i64 q.i, .bool q.b] 51 (0, 0))) : Tells 68 #[.pointer (some ⟨kb, 0, none⟩)] (rowEq q) kb w := by
  intro W hW r
  have hc0 := blk_cell (hW.trans h) 0 _ rfl
  have hc1 := blk_cell (hW.trans h) 1 _ rfl
  have hc2 := blk_cell (hW.trans h) 2 _ rfl
  have hc3 := blk_cell (hW.trans h) 3 _ rfl
  have hlt := lt_of_block (hW.trans h)
  clear hW h
  unfold enc
  go_enter Try.func68, Try.ntmps68
  go_wp2
  all_goals
    go_ret
    refine ⟨ret_bool ?_, (Below.refl _ _).alloc (Nat.le_refl _) _⟩
    simp_all [rowEq]

theorem enters35 : ∀ args w, (callFunc 68 args).run Try.prog w = .ok (.enter 68 args) w := enters_of Try.func68 (by kernel_rfl) rfl
theorem enters39 : ∀ args w, (callFunc 59 args).run Try.prog w = .ok (.enter 59 args) w := enters_of Try.func59 (by kernel_rfl) rfl
theorem enters40 : ∀ args w, (callFunc 40 args).run Try.prog w = .ok (.enter 40 args) w := enters_of Try.func40 (by kernel_rfl) rfl

set_option maxHeartbeats 2000000 in
/-- Busy. -/
theorem busy_any (b : Nat) (v : Value) (base : Nat) (l : List TRow) (n : Int) (w : World) (ht : IsTok w b v base l) :
    Calls Try.prog 43 #[.pointer (some ⟨b, 0, none⟩), .int .i64 n] w fun e w' => e = .returned (.bool (has (fun r => r.i == n) l)) ∧ Below w.heap.size w w' := by
  obtain ⟨a, cap, rfl, hcap, hr⟩ := own_rows ht.rows
  have hbox : (w.alloc (.cells #[.int .i64 n] 3)).heap[w.heap.size]? = some (.cells #[.int .i64 n] 3 (0, 0)) := heap_alloc_new w _
  have hb0 : Below w.heap.size w (w.alloc (.cells #[.int .i64 n] 3)) := (Below.refl _ _).alloc (Nat.le_refl _) _
  have CR := Lib.hid (rows_any b _ _ (w.alloc (.cells #[.int .i64 n] 3)) ((hb0.block b ht.lt).trans ht.head))
  have hr1 : RowsAt (w.alloc (.cells #[.int .i64 n] 3)) (w.alloc (.cells #[.int .i64 n] 3)).heap.size a l.length (fun i => l.getD i default) := by
    have := hr.below hb0
    rcases this with h | ⟨g, h1, h2, h3⟩
    · exact .inl h
    · exact .inr ⟨g, h1, by simp; omega, h3⟩
  have CC := Lib.hid (contains_any 59 #[.pointer (some ⟨w.heap.size, 0, none⟩)] enters39 (fun r => r.i == n) a cap w.heap.size l _ hr1 (by simp) ht.few (tells39 w.heap.size n _ hbox))
  have HB := Lib.hid hb0
  generalize has (fun r => r.i == n) l = ans at *
  clear hr hr1 hbox hb0 ht
  go_enter Try.func43, Try.ntmps43
  go_wp2_with (first
    | (go_at_call 38; refine CR.out.mono ?_; rintro e w1 ⟨rfl, rfl⟩)
    | (go_at_call 58; refine CC.out.mono ?_; rintro e w1 ⟨rfl, hb1⟩))
  go_ret
  exact ⟨rfl, HB.out.trans (hb1.mono (by simp))⟩

set_option maxHeartbeats 2000000 in
set_option maxRecDepth 100000 in
/-- slices.Clone. -/
theorem clone_any (v : Value) (base : Nat) (l : List TRow) (w : World) (hown : w.ownsRow base 51 4 v l.length (encs l)) (hl : l.length ≤ 100000) :
    Calls Try.prog 25 #[v] w fun e w' => ∃ v', e = .returned v' ∧ w'.ownsRow w.heap.size 51 4 v' l.length (encs l) ∧ Below w.heap.size w w' := by
  obtain ⟨i0, hi0, hz0, hz1, hz2⟩ := info_parts info35
  rcases hown.2 with ⟨rfl, h0⟩ | ⟨g, cap, cur, rfl, hbg, hg, hnc, hcm, hcs, htake⟩
  · have e : encs l = [] := by have := hown.1; rw [h0] at this; exact List.eq_nil_of_length_eq_zero (by omega)
    rw [h0, e]
    clear e hown
    have hq : ∀ w, (binOp .eql 48 (.slice none 0 0) (.slice none 0 0)).run Try.prog w = .ok (.bool true) w := fun w => Lib.run_eql_slice_nil w 48 51 none 0 0 0 0 Try.underlying48
    go_enter Try.func25, Try.ntmps25
    go_wp2
    go_ret
    exact ⟨_, rfl, World.ownsRow_nil _ _ _ _, Below.refl _ _⟩
  · have hgl := lt_of_block hg
    have hsrc : ∀ j u, (encs l)[j]? = some u → w.cell? ((⟨g, 0, none⟩ : Addr).add j) = some u := fun j u hj => hown.cells rfl j u hj
    have H1 := Lib.hid hsrc
    have HL := Lib.hid hown.1
    have HE := Lib.hid (one_encs l)
    generalize encs l = xs at *
    clear hsrc hown hg htake hcs
    have hq : ∀ w, (binOp .eql 48 (.slice (some ⟨g, 0, none⟩) l.length cap) (.slice none 0 0)).run Try.prog w = .ok (.bool false) w := fun w => Lib.run_eql_slice_nil w 48 51 (some ⟨g, 0, none⟩) _ _ 0 0 Try.underlying48
    go_enter Try.func25, Try.ntmps25
    go_wp2_with (at_builtin; refine wpList_append_own _ rfl _ _ 48 rfl w.heap.size 51 i0 _ 4 32 Try.underlying48 hi0 hz0 hz1 hz2 rfl (by decide) (.slice (some ⟨w.heap.size, 0, none⟩) 0 0) 0 [] rfl (World.ownsRow_made w #[] 0 (Nat.le_refl _) (by unfold maxLen; omega) rfl) ⟨g, 0, none⟩ l.length cap xs rfl HL.out (fun j u hj => (((Below.refl w.heap.size w).alloc (Nat.le_refl _) _).cell (p := (⟨g, 0, none⟩ : Addr).add j) (by rw [add_none]; exact hgl)).trans (H1.out j u hj)) HE.out (by unfold maxLen; omega) (by omega) (by simp) ?_; intro v1 w1 ho1 hg1 _)
    go_ret
    have := ho1
    simp only [Nat.zero_add, List.nil_append] at this
    exact ⟨_, rfl, this, ((Below.refl w.heap.size w).alloc (Nat.le_refl _) _).grown hg1 (by simp) (fun k hk => by simp [Value.ownBlock] at hk; omega)⟩

set_option maxHeartbeats 2000000 in
/-- Rows. -/
theorem copy_any (b : Nat) (v : Value) (base : Nat) (l : List TRow) (w : World) (ht : IsTok w b v base l) :
    Calls Try.prog 26 #[.pointer (some ⟨b, 0, none⟩)] w fun e w' => ∃ v', e = .returned v' ∧ w'.ownsRow w.heap.size 51 4 v' l.length (encs l) ∧ Below w.heap.size w w' := by
  have CR := Lib.hid (rows_any b _ _ w ht.head)
  have CC := Lib.hid (clone_any v base l w ht.rows ht.few)
  clear ht
  go_enter Try.func26, Try.ntmps26
  go_wp2_with (first
    | (go_at_call 38; refine CR.out.mono ?_; rintro e w1 ⟨rfl, rfl⟩)
    | (go_at_call 25; refine CC.out.mono ?_; rintro e w1 ⟨v1, rfl, ho1, hb1⟩))
  go_ret
  exact ⟨_, rfl, ho1, hb1⟩

theorem ownsRow_set {w : World} {base b j : Nat} {v u : Value} {n : Nat} {xs : List Value} (h : w.ownsRow base 51 4 v n xs) (hne : v.ownBlock ≠ some b) : (w.setCell ⟨b, j, none⟩ u).ownsRow base 51 4 v n xs := by
  refine ⟨h.1, ?_⟩
  rcases h.2 with h | ⟨g, cap, cur, rfl, hbg, hg, rest⟩
  · exact .inl h
  · exact .inr ⟨g, cap, cur, rfl, hbg, blk_sets hg (fun e => hne (by rw [← e]; rfl)), rest⟩
theorem tok_store {w W1 : World} {b base : Nat} {v v' : Value} {l l' : List TRow} (ht : IsTok w b v base l) (hown : W1.ownsRow base 51 4 v' l'.length (encs l')) (hg : w.grownBy W1 v.ownBlock) (hl : l'.length ≤ 100000) :
    IsTok (W1.setCell ⟨b, 1, none⟩ v') b v' base l' ∧ TokFrame w (W1.setCell ⟨b, 1, none⟩ v') b v := by
  have hb : W1.heap[b]? = some (.cells #[.bool true, v] 74 (0, 0)) := (hg.block b ht.lt (fun e => ht.apart e.symm)).trans ht.head
  have hap : v'.ownBlock ≠ some b := by
    intro e
    rcases hown.2 with ⟨rfl, _⟩ | ⟨g, cap, cur, rfl, _, hg', _⟩
    · simp [Value.ownBlock] at e
    · obtain rfl : g = b := by simpa [Value.ownBlock] using e
      rw [hg'] at hb
      simp at hb
  refine ⟨⟨set_blk hb, ownsRow_set hown hap, hl⟩, hg.os, hg.tape, hg.output, by simpa [World.setCell] using hg.size, fun k hk h1 h2 => ?_⟩
  exact (Below.heap_setCell _ _ _ k (fun e => h1 e)).trans (hg.block k hk (fun e => h2 e.symm))
theorem head_after {w W1 : World} {b base : Nat} {v : Value} {l : List TRow} (ht : IsTok w b v base l) (hg : w.grownBy W1 v.ownBlock) : W1.cell? ⟨b, 0, none⟩ = some (.bool true) ∧ W1.cell? ⟨b, 1, none⟩ = some v ∧ W1.frozen? ⟨b, 1, none⟩ = false := by
  have hb : W1.heap[b]? = some (.cells #[.bool true, v] 74 (0, 0)) := (hg.block b ht.lt (fun e => ht.apart e.symm)).trans ht.head
  exact ⟨blk_cell hb 0 _ rfl, blk_cell hb 1 _ rfl, blk_frozen hb 1⟩
theorem tok_before {w w0 w' : World} {b : Nat} {v : Value} (h : TokFrame w0 w' b v) (hb : Below w.heap.size w w0) : TokFrame w w' b v :=
  ⟨h.os.trans hb.os, h.tape.trans hb.tape, h.output.trans hb.output, Nat.le_trans hb.size h.size, fun k hk h1 h2 => (h.block k (Nat.lt_of_lt_of_le hk hb.size) h1 h2).trans (hb.block k hk)⟩
theorem tok_cells {w : World} {b base : Nat} {v : Value} {l : List TRow} (ht : IsTok w b v base l) : w.cell? ⟨b, 0, none⟩ = some (.bool true) ∧ w.cell? ⟨b, 1, none⟩ = some v ∧ w.frozen? ⟨b, 1, none⟩ = false :=
  ⟨blk_cell ht.head 0 _ rfl, blk_cell ht.head 1 _ rfl, blk_frozen ht.head 1⟩
theorem one_slice {w : World} {base : Nat} {v : Value} {n : Nat} {xs : List Value} (h : w.ownsRow base 51 4 v n xs) : v.oneCell' = true ∧ ∃ a c, v = .slice a n c := by
  rcases h.2 with ⟨rfl, rfl⟩ | ⟨g, cap, cur, rfl, _⟩
  · exact ⟨rfl, _, _, rfl⟩
  · exact ⟨rfl, _, _, rfl⟩

set_option maxHeartbeats 4000000 in
set_option maxRecDepth 100000 in
/-- Drop. -/
theorem drop_any (b : Nat) (v : Value) (base : Nat) (l : List TRow) (c : Int) (w : World) (ht : IsTok w b v base l) :
    Calls Try.prog 24 #[.pointer (some ⟨b, 0, none⟩), .int .i64 c] w fun e w' => ∃ v', e = .returned (.int .i64 ((l.length : Int) - (keep (fun r => r.c == c) l).length)) ∧ IsTok w' b v' base (keep (fun r => r.c == c) l) ∧ TokFrame w w' b v ∧ Fresh w v v' := by
  obtain ⟨a, cap, rfl, hcap, hr⟩ := own_rows ht.rows
  have hfew := ht.few
  have hkl : (keep (fun r => r.c == c) l).length ≤ l.length := List.length_filter_le _ _
  have hbox : (w.alloc (.cells #[.int .i64 c] 3)).heap[w.heap.size]? = some (.cells #[.int .i64 c] 3 (0, 0)) := heap_alloc_new w _
  have hb0 : Below w.heap.size w (w.alloc (.cells #[.int .i64 c] 3)) := (Below.refl _ _).alloc (Nat.le_refl _) _
  have ht0 := ht.below hb0
  have CR := Lib.hid (rows_any b _ _ _ ht0.head)
  have hne : (Value.slice a l.length cap).ownBlock ≠ some w.heap.size := fun e => by have := (ht.rows.lt _ e).2; omega
  have CD := Lib.hid (delete_any 40 #[.pointer (some ⟨w.heap.size, 0, none⟩)] enters40 (fun r => r.c == c) _ base w.heap.size l _ ht0.rows (by simp) hne hfew (tells40 w.heap.size c _ hbox))
  obtain ⟨k0, k1, k2⟩ := tok_cells ht0
  have HT := Lib.hid ht
  have HT0 := Lib.hid ht0
  have HB := Lib.hid hb0
  have HKL := Lib.hid hkl
  clear hr hbox hb0 ht ht0 hne hkl
  by_cases hl : l.length = 0
  · have hz : ((l.length : Int) == 0) = true := by simp [hl]
    have hk : keep (fun r => r.c == c) l = l := by rw [List.eq_nil_of_length_eq_zero hl]; rfl
    have HL := Lib.hid hl
    have HK := Lib.hid hk
    clear hl hk
    go_enter Try.func24, Try.ntmps24
    go_wp2_with (go_at_call 38; refine CR.out.mono ?_; rintro e w1 ⟨rfl, rfl⟩)
    go_ret
    refine ⟨.slice a l.length cap, ?_, ?_, TokFrame.of_below HB.out b _, .inl rfl⟩
    · rw [HK.out, HL.out]; rfl
    · rw [HK.out]; exact HT0.out
  · have hz : ((l.length : Int) == 0) = false := by simp [hl]
    have HL := Lib.hid hl
    clear hl
    generalize hK : keep (fun r => r.c == c) l = K at *
    have hkl2 := HKL.out
    go_enter Try.func24, Try.ntmps24
    go_wp2_with (first
      | (go_at_call 38; refine CR.out.mono ?_; rintro e w1 ⟨rfl, rfl⟩)
      | (go_at_call 39; refine CD.out.mono ?_; rintro e w1 ⟨v1, rfl, ho1, hob, hg1⟩
         obtain ⟨hone, a1, c1, rfl⟩ := one_slice ho1
         have HST := Lib.hid (tok_store HT0.out ho1 hg1 (Nat.le_trans HKL.out hfew))
         obtain ⟨j0, j1, j2⟩ := head_after HT0.out hg1
         have HOB := Lib.hid hob
         clear ho1 hob hg1 hone))
    go_ret
    refine ⟨_, ?_, HST.out.1, tok_before HST.out.2 HB.out, .inl HOB.out⟩
    rfl

def closeE : Option TRow → Int
  | none => 13
  | some _ => 0
def closeL (l : List TRow) : Option TRow → List TRow
  | none => l
  | some r => keep (rowEq r) l
set_option maxHeartbeats 4000000 in
set_option maxRecDepth 100000 in
/-- Close. -/
theorem close_any (b : Nat) (v : Value) (base : Nat) (l : List TRow) (c n : Int) (w : World) (ht : IsTok w b v base l) :
    Calls Try.prog 51 #[.pointer (some ⟨b, 0, none⟩), .int .i64 c, .int .i64 n] w fun e w' => ∃ v', e = .returned (.int .i64 (closeE (find l c n))) ∧ IsTok w' b v' base (closeL l (find l c n)) ∧ TokFrame w w' b v ∧ Fresh w v v' := by
  obtain ⟨a, cap, rfl, hcap, hr⟩ := own_rows ht.rows
  have hfew := ht.few
  obtain ⟨k0, k1, k2⟩ := tok_cells ht
  have CO := Lib.hid (of_any b _ base l c n w ht)
  have HT := Lib.hid ht
  clear hr ht
  cases hf : find l c n with
  | none =>
    rw [hf] at CO
    unfold ofAns enc at CO
    go_enter Try.func51, Try.ntmps51
    go_wp2_with (go_at_call 65; refine CO.out.mono ?_; rintro e w1 ⟨rfl, hb1⟩)
    go_ret
    exact ⟨.slice a l.length cap, rfl, HT.out.below (hb1.alloc hb1.size _), TokFrame.of_below (hb1.alloc hb1.size _) b _, .inl rfl⟩
  | some r =>
    rw [hf] at CO
    unfold ofAns enc at CO
    have hkl : (closeL l (some r)).length ≤ l.length := List.length_filter_le _ _
    have HKL := Lib.hid hkl
    clear hkl
    go_enter Try.func51, Try.ntmps51
    go_wp2_with (first
      | (go_at_call 65; refine CO.out.mono ?_; rintro e w1 ⟨rfl, hb1⟩
         have hbx := Lib.hid (hb1.alloc hb1.size (.cells #[.int .i64 r.c, .int .i64 r.h, .int .i64 r.i, .bool r.b] 51))
         have HT1 := Lib.hid (HT.out.below hbx.out)
         obtain ⟨i0, i1, i2⟩ := tok_cells HT1.out
         have hne : (Value.slice a l.length cap).ownBlock ≠ some w1.heap.size := fun e => by have := (HT.out.rows.lt _ e).2; have := hb1.size; omega
         have CD := Lib.hid (delete_any 68 #[.pointer (some ⟨w1.heap.size, 0, none⟩)] enters35 (rowEq r) _ base w1.heap.size l _ HT1.out.rows (by simp) hne hfew (tells35 w1.heap.size r _ (heap_alloc_new w1 _)))
         clear hne hb1)
      | (go_at_call 39; refine CD.out.mono ?_; rintro e w2 ⟨v1, rfl, ho1, hob, hg1⟩
         obtain ⟨hone, a1, c1, rfl⟩ := one_slice ho1
         have HST := Lib.hid (tok_store HT1.out ho1 hg1 (Nat.le_trans HKL.out hfew))
         obtain ⟨j0, j1, j2⟩ := head_after HT1.out hg1
         have HOB := Lib.hid hob
         clear ho1 hob hg1 hone))
    go_ret
    refine ⟨_, ?_, HST.out.1, tok_before HST.out.2 hbx.out, .inl HOB.out⟩
    rfl
end Go.Proofs.Ytaophafailmhjaa.K

/- Open. -/
namespace Go.Proofs.Ytaophafailmhjaa.K
open Go.RowKit
set_option linter.unusedVariables false
set_option linter.unusedSimpArgs false

/-- How many rows of a client have a handle from n on. -/
def cnt (l : List TRow) (c : Int) (n : Nat) : Nat := l.countP fun r => r.c == c && decide ((n : Int) ≤ r.h)
theorem cnt_le (l : List TRow) (c : Int) (n : Nat) : cnt l c n ≤ l.length := List.countP_le_length
theorem cnt_step (l : List TRow) (c : Int) (n : Nat) (h : (find l c n).isSome = true) : cnt l c (n + 1) + 1 ≤ cnt l c n := by
  unfold cnt
  induction l with
  | nil => simp [find] at h
  | cons r l ih =>
    by_cases hm : (r.c == c && r.h == (n : Int)) = true
    · have h1 : r.c = c := by simp at hm; exact hm.1
      have h2 : r.h = n := by simp at hm; exact hm.2
      rw [List.countP_cons_of_neg (by simp [h1, h2]; omega), List.countP_cons_of_pos (by simp [h1, h2])]
      have : l.countP (fun r => r.c == c && decide (((n + 1 : Nat) : Int) ≤ r.h)) ≤ l.countP (fun r => r.c == c && decide ((n : Int) ≤ r.h)) := by
        apply List.countP_mono_left
        intro x _ hx
        simp at hx ⊢
        exact ⟨hx.1, by omega⟩
      omega
    · have hs : (find l c n).isSome = true := by
        unfold find at h ⊢
        simp only [List.find?_cons] at h
        split at h
        · rename_i e; exact absurd e hm
        · exact h
      have := ih hs
      simp only [List.countP_cons]
      have : (if (r.c == c && decide (((n + 1 : Nat) : Int) ≤ r.h)) = true then 1 else 0) = (if (r.c == c && decide ((n : Int) ≤ r.h)) = true then 1 else 0) := by
        simp at hm
        by_cases e : r.c = c
        · have := hm e
          by_cases e2 : (n : Int) ≤ r.h
          · have : ((n + 1 : Nat) : Int) ≤ r.h := by omega
            simp [e, e2]; omega
          · have : ¬ ((n + 1 : Nat) : Int) ≤ r.h := by omega
            simp [e, e2]; omega
        · simp [e]
      omega

/-- The least handle that is free. -/
def leastFrom (l : List TRow) (c : Int) : Nat → Nat → Nat
  | 0, n => n
  | f + 1, n => if (find l c n).isSome then leastFrom l c f (n + 1) else n
def least (l : List TRow) (c : Int) : Nat := leastFrom l c (l.length + 1) 0
theorem leastFrom_at (l : List TRow) (c : Int) (n : Nat) (hn : (find l c n).isSome = false) : ∀ (f m : Nat), m ≤ n → n < m + f → (∀ q, m ≤ q → q < n → (find l c q).isSome = true) → leastFrom l c f m = n
  | 0, m, h1, h2, _ => by omega
  | f + 1, m, h1, h2, h => by
    unfold leastFrom
    by_cases e : m = n
    · subst e; rw [hn]; rfl
    · rw [h m (Nat.le_refl _) (by omega)]
      exact leastFrom_at l c n hn f (m + 1) (by omega) (by omega) (fun q h1 h2 => h q (by omega) h2)
theorem least_at (l : List TRow) (c : Int) (n : Nat) (hn : (find l c n).isSome = false) (hl : n ≤ l.length) (h : ∀ q, q < n → (find l c q).isSome = true) : least l c = n :=
  leastFrom_at l c n hn _ 0 (by omega) (by omega) (fun q _ h2 => h q h2)

def busyL (l : List TRow) (i : Int) (b : Bool) : Bool := l.any fun r => r.i == i && (b || r.b)
def insRow (l : List TRow) (r : TRow) : List TRow := l.takeWhile (fun x => decide (0 < against r x)) ++ r :: l.dropWhile (fun x => decide (0 < against r x))
/-- Open: the handle, the error, the rows. -/
def openR (l : List TRow) (c i : Int) (b : Bool) : Int × Int × List TRow :=
  if mayB c i = false then (0, 1, l) else if 4 ≤ least l c then (0, 5, l) else if busyL l i b then (0, 8, l) else (least l c, 0, insRow l ⟨c, least l c, i, b⟩)

theorem while_at (p : TRow → Bool) (l : List TRow) (j : Nat) (hj : j ≤ l.length) (h : ∀ q, q < j → p (l.getD q default) = true) (he : j < l.length → p (l.getD j default) = false) : l.takeWhile p = l.take j ∧ l.dropWhile p = l.drop j := by
  induction l generalizing j with
  | nil => simp
  | cons x l ih =>
    cases j with
    | zero =>
      have : p x = false := he (by simp)
      simp [this]
    | succ j =>
      have hx : p x = true := h 0 (by omega)
      have := ih j (by simpa using hj) (fun q hq => h (q + 1) (by omega)) (fun hlt => he (by simpa using hlt))
      simp [hx, this.1, this.2]
theorem ins_row (l : List TRow) (r : TRow) (j : Nat) (hj : j ≤ l.length) (h : ∀ q, q < j → decide (0 < against r (l.getD q default)) = true) (he : j < l.length → decide (0 < against r (l.getD j default)) = false) :
    insRow l r = l.take j ++ r :: l.drop j := by
  obtain ⟨h1, h2⟩ := while_at (fun x => decide (0 < against r x)) l j hj h he
  unfold insRow; rw [h1, h2]
theorem of_tuple (o : Option TRow) : ∃ z : TRow, ofAns o = .tuple #[.agg #[.int .i64 z.c, .int .i64 z.h, .int .i64 z.i, .bool z.b], .bool o.isSome] := by
  cases o with
  | none => exact ⟨⟨0, 0, 0, false⟩, rfl⟩
  | some r => exact ⟨r, rfl⟩

theorem IsTok.drew {w : World} {b base : Nat} {v : Value} {l : List TRow} (h : IsTok w b v base l) : IsTok w.drew b v base l := ⟨h.head, h.rows, h.few⟩
theorem TokFrame.drew {w w' : World} {b : Nat} {v : Value} (h : TokFrame w w' b v) : TokFrame w w'.drew b v := ⟨h.os, h.tape, h.output, h.size, h.block⟩

/-- Insert, as Open calls it: the row in a new block, behind whatever draws. -/
def InsAt (b : Nat) (v : Value) (base : Nat) (l : List TRow) (x : TRow) (j : Nat) (w W : World) : Prop :=
  ∀ X, Below W.heap.size W X → X.heap[W.heap.size]? = some (.cells #[.int .i64 x.c, .int .i64 x.h, .int .i64 x.i, .bool x.b] 51 (0, 0)) →
    Calls Try.prog 67 #[v, .int .i64 j, .slice (some ⟨W.heap.size, 0, none⟩) 1 1] X fun e w' => ∃ a1 c1, e = .returned (.slice a1 (l.length + 1) c1) ∧ w'.cell? ⟨b, 1, none⟩ = some v ∧ w'.frozen? ⟨b, 1, none⟩ = false ∧
      Hid (IsTok (w'.setCell ⟨b, 1, none⟩ (.slice a1 (l.length + 1) c1)) b (.slice a1 (l.length + 1) c1) base (l.take j ++ x :: l.drop j) ∧ TokFrame w (w'.setCell ⟨b, 1, none⟩ (.slice a1 (l.length + 1) c1)) b v ∧ Fresh w v (.slice a1 (l.length + 1) c1))
theorem insAt (b : Nat) (v : Value) (base : Nat) (l : List TRow) (x : TRow) (j : Nat) (w W : World) (hw : IsTok w b v base l) (hW : Below w.heap.size w W) (hj : j ≤ l.length) (hl : l.length < 100000) (hbase : base ≤ w.heap.size) : InsAt b v base l x j w W := by
  intro X hX hx
  have ht : IsTok X b v base l := (hw.below hW).below hX
  have hne : v.ownBlock ≠ some W.heap.size := fun e => by have := (hw.rows.lt _ e).2; have := hW.size; omega
  refine (insert_any v base l.length j W.heap.size (encs l) (enc x) X ht.rows hx hne hj (by omega) (by have := hW.size; have := hX.size; omega) (one_encs l) rfl (one_enc x)).mono ?_
  rintro e w' ⟨v', rfl, ho, hg, hfr⟩
  have hins : insCells (encs l) (enc x) (j * 4) = encs (l.take j ++ x :: l.drop j) := by
    unfold insCells
    rw [encs_app, encs_cons, encs_take]
    congr 2
    have h1 : encs l = encs (l.take j) ++ encs (l.drop j) := by rw [← encs_app, List.take_append_drop]
    have h2 : (encs (l.take j)).length = j * 4 := by rw [encs_len, List.length_take]; omega
    rw [h1, List.drop_append_of_le_length (by omega), List.drop_of_length_le (by omega), List.nil_append]
  have hlen : (l.take j ++ x :: l.drop j).length = l.length + 1 := by simp; omega
  rw [hins, ← hlen] at ho
  obtain ⟨hone, a1, c1, rfl⟩ := one_slice ho
  obtain ⟨j0, j1, j2⟩ := head_after ht hg
  have := tok_store ht ho hg (by omega)
  rw [hlen] at this ⊢
  exact ⟨a1, c1, rfl, j1, j2, this.1, tok_before this.2 ((hW.trans (hX.mono hW.size))), by have hf2 := hfr.old (w := w) (Nat.le_trans hW.size hX.size); rwa [hlen] at hf2⟩

set_option maxHeartbeats 4000000 in
set_option maxRecDepth 100000 in
theorem open_any (b : Nat) (v : Value) (base : Nat) (l : List TRow) (c i : Int) (mw : Bool) (w : World) (ht : IsTok w b v base l) (hl : l.length < 100000) (hbase : base ≤ w.heap.size) :
    Calls Try.prog 47 #[.pointer (some ⟨b, 0, none⟩), .int .i64 c, .int .i64 i, .bool mw] w fun e w' => ∃ v', e = .returned (.tuple #[.int .i64 (openR l c i mw).1, .int .i64 (openR l c i mw).2.1]) ∧ IsTok w' b v' base (openR l c i mw).2.2 ∧ TokFrame w w' b v ∧ Fresh w v v' := by
  obtain ⟨a, cap, rfl, hcap, hr⟩ := own_rows ht.rows
  obtain ⟨k0, k1, k2⟩ := tok_cells ht
  have HT := Lib.hid ht
  have HR := Lib.hid hr
  have CM := Lib.hid (may_any c i)
  have hbl := ht.lt
  obtain ⟨tk, htk⟩ : ∃ tk : Nat → Bool, tk = fun n : Nat => (find l c n).isSome := ⟨_, rfl⟩
  have CO : Hid (∀ (n : Nat) (W : World), Below w.heap.size w W → Calls Try.prog 65 #[.pointer (some ⟨b, 0, none⟩), .int .i64 c, .int .i64 n] W fun e w' => (∃ z : TRow, e = .returned (.tuple #[.agg #[.int .i64 z.c, .int .i64 z.h, .int .i64 z.i, .bool z.b], .bool (tk n)])) ∧ Below W.heap.size W w') := by
    intro n W hW
    refine (of_any b _ base l c n W (HT.out.below hW)).mono ?_
    rintro e w' ⟨rfl, hb⟩
    obtain ⟨z, hz⟩ := of_tuple (find l c n)
    exact ⟨⟨z, by rw [hz, htk]⟩, hb⟩
  have HTK := Lib.hid htk
  clear ht hr htk
  generalize hOR : openR l c i mw = OR
  have HOR := Lib.hid hOR
  unfold openR at hOR
  cases hm : mayB c i with
  | false =>
    rw [hm] at CM hOR
    obtain rfl : (0, 1, l) = OR := by rw [← hOR]; rfl
    clear hOR
    go_enter Try.func47, Try.ntmps47
    go_wp2_with (first
      | (go_at_call 64; refine (CM.out _).mono ?_; rintro e w1 ⟨rfl, rfl⟩))
    go_ret2
    exact ⟨_, rfl, HT.out, TokFrame.of_below (Below.refl _ _) _ _, .inl rfl⟩
  | true =>
    rw [hm] at CM hOR
    have HO := Lib.hid hOR
    clear hOR
    go_enter Try.func47, Try.ntmps47
    go_wp2_with (first
      | (go_at_call 64; refine (CM.out _).mono ?_; rintro e w1 ⟨rfl, rfl⟩)
      | (go_at_call 65; refine (CO.out 0 _ (Below.refl _ _)).mono ?_; rintro e w1 ⟨⟨z, rfl⟩, hb1⟩))
    go_loopg [10, 11, 12] l.length (fun g' s10 s11 s12 w' => ∃ (n kb : Nat) (z : TRow), s10 = .int .i64 n ∧ s11 = .pointer (some ⟨kb, 0, none⟩) ∧ s12 = .bool (tk n) ∧
      Hid (w'.heap[kb]? = some (.cells #[.int .i64 z.c, .int .i64 z.h, .int .i64 z.i, .bool z.b] 51 (0, 0))) ∧ l.length ≤ n + g' ∧ Hid (∀ q, q < n → tk q = true) ∧ Hid (n + cnt l c n ≤ l.length) ∧ n ≤ l.length ∧ Below w.heap.size w w')
    case atStart =>
      exact ⟨0, w1.heap.size, z, rfl, rfl, rfl, heap_alloc_new w1 _, by omega, fun q hq => absurd hq (by omega), (by have := cnt_le l c 0; show _ ≤ _; omega), by omega, hb1.alloc hb1.size _⟩
    case round =>
      obtain ⟨n, kb, z2, rfl, rfl, rfl, HK, hng, HN, HCN, hnl, hbel⟩ := hrel
      have hkb := lt_of_block HK.out
      have hbw : b < wr.heap.size := Nat.lt_of_lt_of_le hbl hbel.size
      obtain ⟨i0, i1, i2⟩ := tok_cells (HT.out.below hbel)
      cases ht : tk n with
      | true =>
        have hcs : n + 1 + cnt l c (n + 1) ≤ l.length := by
          have := cnt_step l c n (by rw [HTK.out] at ht; exact ht)
          have := HCN.out
          omega
        have hn1 : n + 1 ≤ l.length := by omega
        have HCS := Lib.hid hcs
        clear hcs
        have g0 := blk_cell HK.out 0 _ rfl
        have g1 := blk_cell HK.out 1 _ rfl
        have g2 := blk_cell HK.out 2 _ rfl
        have g3 := blk_cell HK.out 3 _ rfl
        go_wp2_with (first
          | (go_at_call 65; refine (CO.out (n + 1) _ (hbel.alloc hbel.size _)).mono ?_; rintro e w3 ⟨⟨z3, rfl⟩, hb3⟩))
        go_roundg (gk - 1)
        case measure => omega
        case rel =>
          refine ⟨n + 1, wr.heap.size, z2, rfl, rfl, rfl, ?_, by omega, ?_, HCS.out, hn1, bt (hbel.alloc hbel.size _) (hb3.mono ?_)⟩
          · exact (hb3.block wr.heap.size (by simp)).trans (heap_alloc_new wr _)
          · intro q hq
            rcases Nat.lt_or_ge q n with h | h
            · exact HN.out q h
            · obtain rfl : q = n := by omega
              exact ht
          · simp
      | false =>
        have hle : least l c = n := by
          refine least_at l c n ?_ hnl (fun q hq => ?_)
          · have := ht; rw [HTK.out] at this; exact this
          · have := HN.out q hq; rw [HTK.out] at this; exact this
        have HLE := Lib.hid hle
        clear hle
        by_cases h4 : 4 ≤ n
        · obtain rfl : (0, 5, l) = OR := by
            have := HO.out
            rw [HLE.out] at this
            simpa [h4] using this
          go_wp2
          go_ret2
          first
            | exact ⟨_, rfl, HT.out.below hbel, TokFrame.of_below hbel _ _, .inl rfl⟩
            | exact ⟨rfl, _, HT.out.below hbel, TokFrame.of_below hbel _ _, .inl rfl⟩
        · have HO2 := Lib.hid (show (if busyL l i mw = true then (0, 8, l) else ((n : Int), 0, insRow l ⟨c, n, i, mw⟩)) = OR from by
            have := HO.out
            rw [HLE.out] at this
            simpa [h4] using this)
          clear HO
          go_wp2
          obtain ⟨wo, rfl⟩ : ∃ wo : World, wo = wr := ⟨_, rfl⟩
          obtain ⟨gko, rfl⟩ : ∃ gko : Nat, gko = gk := ⟨_, rfl⟩
          go_loopg [56] l.length (fun g' s56 w' => ∃ j : Nat, s56 = .int .i64 j ∧ j ≤ l.length ∧ l.length ≤ j + g' ∧ Hid (∀ q, q < j → ((l.getD q default).i == i && (mw || (l.getD q default).b)) = false) ∧ Below w.heap.size w w')
          case atStart => exact ⟨0, rfl, by omega, by omega, fun q hq => absurd hq (by omega), hbel⟩
          case round =>
            obtain ⟨j, rfl, hj, hjg, HB, hbel2⟩ := hrel
            by_cases hlt : j < l.length
            · rcases HR.out with h0 | ⟨g, rfl, hg, hc⟩
              · omega
              obtain ⟨r, hr, c0, c1, c2, c3⟩ : ∃ r, l.getD j default = r ∧ wr.cell? ⟨g, j * 4, none⟩ = some (.int .i64 r.c) ∧ wr.cell? ⟨g, j * 4 + 1, none⟩ = some (.int .i64 r.h) ∧
                  wr.cell? ⟨g, j * 4 + 2, none⟩ = some (.int .i64 r.i) ∧ wr.cell? ⟨g, j * 4 + 3, none⟩ = some (.bool r.b) := by
                obtain ⟨c0, c1, c2, c3⟩ := hc j hlt
                exact ⟨_, rfl, (hbel2.cell (p := ⟨g, j * 4, none⟩) hg).trans c0, (hbel2.cell (p := ⟨g, j * 4 + 1, none⟩) hg).trans c1, (hbel2.cell (p := ⟨g, j * 4 + 2, none⟩) hg).trans c2, (hbel2.cell (p := ⟨g, j * 4 + 3, none⟩) hg).trans c3⟩
              clear hc
              have HRR := Lib.hid hr
              clear hr
              cases hq : (r.i == i && (mw || r.b)) with
              | true =>
                have HQ := Lib.hid hq
                have q1 : (r.i == i) = true := by simp at hq; simp [hq.1]
                have q2 : (mw || r.b) = true := by simp at hq; simpa using hq.2
                clear hq
                have hbz : busyL l i mw = true := List.any_eq_true.2 ⟨r, by rw [← HRR.out, List.getD_eq_getElem?_getD, List.getElem?_eq_getElem hlt]; exact List.getElem_mem hlt, HQ.out⟩
                obtain rfl : (0, 8, l) = OR := by
                  have := HO2.out
                  rw [hbz] at this
                  simpa using this
                cases mw with
                | true =>
                  go_wp2
                  go_ret2
                  exact ⟨rfl, _, HT.out.below (hbel2.alloc hbel2.size _), TokFrame.of_below (hbel2.alloc hbel2.size _) _ _, .inl rfl⟩
                | false =>
                  have q3 : r.b = true := by simpa using q2
                  go_wp2
                  go_ret2
                  exact ⟨rfl, _, HT.out.below (hbel2.alloc hbel2.size _), TokFrame.of_below (hbel2.alloc hbel2.size _) _ _, .inl rfl⟩
              | false =>
                have HQ := Lib.hid hq
                have HN2 : Hid (∀ q, q < j + 1 → ((l.getD q default).i == i && (mw || (l.getD q default).b)) = false) := fun q hq' => by
                  rcases Nat.lt_or_ge q j with h | h
                  · exact HB.out q h
                  · obtain rfl : q = j := by omega
                    rw [HRR.out]; exact hq
                clear hq
                cases q1 : (r.i == i) with
                | false =>
                  go_wp2
                  go_roundg (gk - 1)
                  case measure => omega
                  case rel => exact ⟨j + 1, rfl, by omega, by omega, HN2.out, hbel2.alloc hbel2.size _⟩
                | true =>
                  have q2 : mw = false ∧ r.b = false := by
                    have := HQ.out
                    rw [q1] at this
                    simpa using this
                  obtain ⟨rfl, q3⟩ := q2
                  go_wp2
                  go_roundg (gk - 1)
                  case measure => omega
                  case rel => exact ⟨j + 1, rfl, by omega, by omega, HN2.out, hbel2.alloc hbel2.size _⟩
            · obtain rfl : j = l.length := by omega
              have hbz : busyL l i mw = false := by
                unfold busyL
                rw [List.any_eq_false]
                intro x hx
                obtain ⟨q, hq, rfl⟩ := List.mem_iff_getElem.1 hx
                have := HB.out q hq
                rw [List.getD_eq_getElem?_getD, List.getElem?_eq_getElem hq] at this
                simp only [Option.getD_some] at this
                rw [this]; simp
              obtain rfl : ((n : Int), (0 : Int), insRow l ⟨c, n, i, mw⟩) = OR := by
                have := HO2.out
                rw [hbz] at this
                simpa using this
              clear HO2 hbz
              go_wp2
              obtain ⟨wo2, rfl⟩ : ∃ wo2 : World, wo2 = wr := ⟨_, rfl⟩
              obtain ⟨gko2, rfl⟩ : ∃ gko2 : Nat, gko2 = gk := ⟨_, rfl⟩
              have hbk := hbel2.alloc hbel2.size (.cells #[.int .i64 c, .int .i64 n, .int .i64 i, .bool mw] 51)
              have HBK := Lib.hid hbk
              go_loopg [17] l.length (fun g' s17 w' => ∃ j : Nat, s17 = .int .i64 j ∧ j ≤ l.length ∧ l.length ≤ j + g' ∧ Hid (∀ q, q < j → decide (0 < against ⟨c, n, i, mw⟩ (l.getD q default)) = true) ∧
                Hid (w'.heap[wo2.heap.size]? = some (.cells #[.int .i64 c, .int .i64 n, .int .i64 i, .bool mw] 51 (0, 0))) ∧ Below w.heap.size w w')
              case atStart => exact ⟨0, rfl, by omega, by omega, fun q hq => absurd hq (by omega), heap_alloc_new wo2 _, hbk⟩
              case round =>
                obtain ⟨j, rfl, hj2, hjg2, HA, HKR, hbel3⟩ := hrel
                obtain ⟨m0, m1, m2⟩ := tok_cells (HT.out.below hbel3)
                have hbr : b < wr.heap.size := Nat.lt_of_lt_of_le hbl hbel3.size
                have hkr := lt_of_block HKR.out
                have n0 := blk_cell HKR.out 0 _ rfl
                have n1 := blk_cell HKR.out 1 _ rfl
                have n2 := blk_cell HKR.out 2 _ rfl
                have n3 := blk_cell HKR.out 3 _ rfl
                by_cases hlt2 : j < l.length
                · rcases HR.out with h0 | ⟨g, rfl, hg, hc⟩
                  · omega
                  obtain ⟨r, hr, c0, c1, c2, c3⟩ : ∃ r, l.getD j default = r ∧ wr.cell? ⟨g, j * 4, none⟩ = some (.int .i64 r.c) ∧ wr.cell? ⟨g, j * 4 + 1, none⟩ = some (.int .i64 r.h) ∧
                      wr.cell? ⟨g, j * 4 + 2, none⟩ = some (.int .i64 r.i) ∧ wr.cell? ⟨g, j * 4 + 3, none⟩ = some (.bool r.b) := by
                    obtain ⟨c0, c1, c2, c3⟩ := hc j hlt2
                    exact ⟨_, rfl, (hbel3.cell (p := ⟨g, j * 4, none⟩) hg).trans c0, (hbel3.cell (p := ⟨g, j * 4 + 1, none⟩) hg).trans c1, (hbel3.cell (p := ⟨g, j * 4 + 2, none⟩) hg).trans c2, (hbel3.cell (p := ⟨g, j * 4 + 3, none⟩) hg).trans c3⟩
                  clear hc
                  have HRR := Lib.hid hr
                  clear hr
                  have CA := Lib.hid (fun W => against_any ⟨c, n, i, mw⟩ r W)
                  unfold enc at CA
                  generalize hag : against ⟨c, n, i, mw⟩ r = ag at CA
                  have HAG := Lib.hid hag
                  clear hag
                  by_cases hpos : 0 < ag
                  · go_wp2_with (go_at_call 66; refine (CA.out _).mono ?_; rintro e w4 ⟨rfl, hb4⟩)
                    go_roundg (gk - 1)
                    case measure => omega
                    case rel =>
                      refine ⟨j + 1, rfl, by omega, by omega, ?_, (hb4.block _ hkr).trans HKR.out, bt hbel3 hb4⟩
                      intro q hq
                      rcases Nat.lt_or_ge q j with h | h
                      · exact HA.out q h
                      · obtain rfl : q = j := by omega
                        rw [HRR.out, HAG.out]; simpa using hpos
                  · have HIN := Lib.hid (ins_row l ⟨c, n, i, mw⟩ j hj2 HA.out (fun _ => by rw [HRR.out, HAG.out]; simpa using hpos))
                    have HRR2 := HRR
                    go_wp2_with (go_at_call 66; refine (CA.out _).mono ?_; rintro e w4 ⟨rfl, hb4⟩
                                 have HI := Lib.hid (insAt b _ base l ⟨c, n, i, mw⟩ j w w4 HT.out (bt hbel3 hb4) hj2 hl hbase)
                                 unfold InsAt at HI
                                 obtain ⟨p0, p1, p2⟩ := tok_cells (HT.out.below (bt hbel3 hb4))
                                 have HKR4 := Lib.hid ((hb4.block _ hkr).trans HKR.out)
                                 have r0 := blk_cell HKR4.out 0 _ rfl
                                 have r1 := blk_cell HKR4.out 1 _ rfl
                                 have r2 := blk_cell HKR4.out 2 _ rfl
                                 have r3 := blk_cell HKR4.out 3 _ rfl
                                 have hb4b : b < w4.heap.size := Nat.lt_of_lt_of_le hbr hb4.size
                                 have hb4k : wo2.heap.size < w4.heap.size := Nat.lt_of_lt_of_le hkr hb4.size
                                 have hb4n : ¬ (b = w4.heap.size) := Nat.ne_of_lt hb4b
                                 have hb4m : ¬ (wo2.heap.size = w4.heap.size) := Nat.ne_of_lt hb4k
                                 have y1 := (Below.heap_alloc w4 (.cells #[.int .i64 c, .int .i64 n, .int .i64 i, .bool mw] 51) b hb4b)
                                 have z1 := (World.cell?_of_block (w := w4) (a := ⟨b, 1, none⟩) y1).trans p1
                                 clear y1)
                    go_region_law (first | (go_simp; go_at_call 67; refine (HI.out _ (((Below.refl _ _).alloc (Nat.le_refl _) _).drew) (heap_alloc_new w4 _)).mono ?_; rintro e w5 ⟨a1, c1, rfl, s1, s2, HST⟩))
                    all_goals
                      go_wp2
                      go_ret2
                      first
                        | exact ⟨rfl, _, by rw [HIN.out]; exact HST.out.1, HST.out.2⟩
                        | exact ⟨_, rfl, by rw [HIN.out]; exact HST.out.1, HST.out.2⟩
                · obtain rfl : j = l.length := by omega
                  have HIN := Lib.hid (ins_row l ⟨c, n, i, mw⟩ l.length hj2 HA.out (fun h => absurd h (by omega)))
                  have HI := Lib.hid (insAt b _ base l ⟨c, n, i, mw⟩ l.length w wr HT.out hbel3 hj2 hl hbase)
                  unfold InsAt at HI
                  have hb4n : ¬ (b = wr.heap.size) := Nat.ne_of_lt hbr
                  have hb4m : ¬ (wo2.heap.size = wr.heap.size) := Nat.ne_of_lt hkr
                  have y1 := (Below.heap_alloc wr (.cells #[.int .i64 c, .int .i64 n, .int .i64 i, .bool mw] 51) b hbr)
                  have z1 := (World.cell?_of_block (w := wr) (a := ⟨b, 1, none⟩) y1).trans m1
                  clear y1
                  go_wp2
                  go_region_law (first | (go_simp; go_at_call 67; refine (HI.out _ (((Below.refl _ _).alloc (Nat.le_refl _) _).drew) (heap_alloc_new wr _)).mono ?_; rintro e w5 ⟨a1, c1, rfl, s1, s2, HST⟩))
                  all_goals
                    go_wp2
                    go_ret2
                    first
                      | exact ⟨rfl, _, by rw [HIN.out]; exact HST.out.1, HST.out.2⟩
                      | exact ⟨_, rfl, by rw [HIN.out]; exact HST.out.1, HST.out.2⟩
end Go.Proofs.Ytaophafailmhjaa.K

/- The functions of package tokens as the laws use them: rows of a struct of our own. -/
namespace Go.Proofs.Ytaophafailmhjaa.K
open Go.RowKit
set_option linter.unusedVariables false
set_option linter.unusedSimpArgs false

/-- Handles in block b, all of them made since w0. -/
def TokS (w0 w : World) (b : Nat) (l : List TRow) : Prop :=
  ∃ v base, IsTok w b v base l ∧ w0.heap.size ≤ b ∧ w0.heap.size ≤ base ∧ base ≤ w.heap.size ∧ Below w0.heap.size w0 w
/-- Blocks that are not b and hold no rows stay. -/
def Keeps (w w' : World) (b : Nat) : Prop := w.heap.size ≤ w'.heap.size ∧ ∀ k o, k ≠ b → w.heap[k]? = some o → (∀ cs fz, o ≠ .cells cs 51 fz) → w'.heap[k]? = some o
theorem TokS.bel {w0 w : World} {b : Nat} {l : List TRow} (h : TokS w0 w b l) : Below w0.heap.size w0 w := by obtain ⟨v, base, _, _, _, _, hb⟩ := h; exact hb
theorem TokS.below {w0 w w' : World} {b : Nat} {l : List TRow} (h : TokS w0 w b l) (hb : Below w.heap.size w w') : TokS w0 w' b l := by
  obtain ⟨v, base, h1, h2, h3, h4, h5⟩ := h
  exact ⟨v, base, h1.below hb, h2, h3, Nat.le_trans h4 hb.size, bt h5 hb⟩
theorem keeps_below {w w' : World} (hb : Below w.heap.size w w') (b : Nat) : Keeps w w' b := ⟨hb.size, fun k o _ h _ => (hb.block k (lt_of_block h)).trans h⟩
theorem frame_s {w0 w w' : World} {b base : Nat} {v v' : Value} {l l' : List TRow} (h1 : IsTok w b v base l) (h2 : w0.heap.size ≤ b) (h3 : w0.heap.size ≤ base) (h4 : base ≤ w.heap.size) (h5 : Below w0.heap.size w0 w)
    (ht : IsTok w' b v' base l') (hf : TokFrame w w' b v) : TokS w0 w' b l' ∧ Keeps w w' b := by
  refine ⟨⟨v', base, ht, h2, h3, Nat.le_trans h4 hf.size, hf.toBelow h1 h2 h3 h5.size h5⟩, hf.size, fun k o hk ho hn => ?_⟩
  refine (hf.block k (lt_of_block ho) hk (fun e => ?_)).trans ho
  rcases h1.rows.2 with ⟨rfl, _⟩ | ⟨g, cap, cur, rfl, _, hg, _⟩
  · simp [Value.ownBlock] at e
  · obtain rfl : g = k := by simpa [Value.ownBlock] using e
    rw [hg] at ho
    exact hn _ _ (Option.some.inj ho).symm
theorem new_s (w0 w : World) (hb : Below w0.heap.size w0 w) : Calls Try.prog 19 #[] w fun e w' => e = .returned (.pointer (some ⟨w.heap.size, 0, none⟩)) ∧ TokS w0 w' w.heap.size [] ∧ Below w.heap.size w w' := by
  refine (new_any w).mono ?_
  rintro e w' ⟨rfl, rfl⟩
  refine ⟨rfl, ⟨.slice none 0 0, w0.heap.size, ⟨heap_alloc_new w _, World.ownsRow_nil _ _ _ _, by simp⟩, hb.size, Nat.le_refl _, ?_, hb.alloc hb.size _⟩, (Below.refl _ _).alloc (Nat.le_refl _) _⟩
  have := hb.size
  simp; omega
theorem open_s {w0 w : World} {b : Nat} {l : List TRow} (h : TokS w0 w b l) (hl : l.length < 100000) (c i : Int) (mw : Bool) :
    Calls Try.prog 47 #[.pointer (some ⟨b, 0, none⟩), .int .i64 c, .int .i64 i, .bool mw] w fun e w' => e = .returned (.tuple #[.int .i64 (openR l c i mw).1, .int .i64 (openR l c i mw).2.1]) ∧ TokS w0 w' b (openR l c i mw).2.2 ∧ Keeps w w' b := by
  obtain ⟨v, base, h1, h2, h3, h4, h5⟩ := h
  refine (open_any b v base l c i mw w h1 hl h4).mono ?_
  rintro e w' ⟨v', rfl, ht, hf, _⟩
  exact ⟨rfl, frame_s h1 h2 h3 h4 h5 ht hf⟩
theorem close_s {w0 w : World} {b : Nat} {l : List TRow} (h : TokS w0 w b l) (c n : Int) :
    Calls Try.prog 51 #[.pointer (some ⟨b, 0, none⟩), .int .i64 c, .int .i64 n] w fun e w' => e = .returned (.int .i64 (closeE (find l c n))) ∧ TokS w0 w' b (closeL l (find l c n)) ∧ Keeps w w' b := by
  obtain ⟨v, base, h1, h2, h3, h4, h5⟩ := h
  refine (close_any b v base l c n w h1).mono ?_
  rintro e w' ⟨v', rfl, ht, hf, _⟩
  exact ⟨rfl, frame_s h1 h2 h3 h4 h5 ht hf⟩
theorem drop_s {w0 w : World} {b : Nat} {l : List TRow} (h : TokS w0 w b l) (c : Int) :
    Calls Try.prog 24 #[.pointer (some ⟨b, 0, none⟩), .int .i64 c] w fun e w' => e = .returned (.int .i64 ((l.length : Int) - (keep (fun r => r.c == c) l).length)) ∧ TokS w0 w' b (keep (fun r => r.c == c) l) ∧ Keeps w w' b := by
  obtain ⟨v, base, h1, h2, h3, h4, h5⟩ := h
  refine (drop_any b v base l c w h1).mono ?_
  rintro e w' ⟨v', rfl, ht, hf, _⟩
  exact ⟨rfl, frame_s h1 h2 h3 h4 h5 ht hf⟩
theorem of_s {w0 w : World} {b : Nat} {l : List TRow} (h : TokS w0 w b l) (c n : Int) :
    Calls Try.prog 65 #[.pointer (some ⟨b, 0, none⟩), .int .i64 c, .int .i64 n] w fun e w' => e = .returned (ofAns (find l c n)) ∧ TokS w0 w' b l ∧ Below w.heap.size w w' := by
  have h0 := h
  obtain ⟨v, base, h1, h2, h3, h4, h5⟩ := h
  refine (of_any b v base l c n w h1).mono ?_
  rintro e w' ⟨rfl, hb⟩
  exact ⟨rfl, h0.below hb, hb⟩
theorem busy_s {w0 w : World} {b : Nat} {l : List TRow} (h : TokS w0 w b l) (n : Int) :
    Calls Try.prog 43 #[.pointer (some ⟨b, 0, none⟩), .int .i64 n] w fun e w' => e = .returned (.bool (has (fun r => r.i == n) l)) ∧ TokS w0 w' b l ∧ Below w.heap.size w w' := by
  have h0 := h
  obtain ⟨v, base, h1, h2, h3, h4, h5⟩ := h
  refine (busy_any b v base l n w h1).mono ?_
  rintro e w' ⟨rfl, hb⟩
  exact ⟨rfl, h0.below hb, hb⟩
theorem rows_s {w0 w : World} {b : Nat} {l : List TRow} (h : TokS w0 w b l) :
    Calls Try.prog 26 #[.pointer (some ⟨b, 0, none⟩)] w fun e w' => ∃ a cap, e = .returned (.slice a l.length cap) ∧ RowsAt w' w'.heap.size a l.length (fun i => l.getD i default) ∧ TokS w0 w' b l ∧ Below w.heap.size w w' := by
  have h0 := h
  obtain ⟨v, base, h1, h2, h3, h4, h5⟩ := h
  refine (copy_any b v base l w h1).mono ?_
  rintro e w' ⟨v', rfl, ho, hb⟩
  obtain ⟨a, cap, rfl, hcap, hr⟩ := own_rows ho
  exact ⟨a, cap, rfl, hr, h0.below hb, hb⟩

end Go.Proofs.Ytaophafailmhjaa.K

/- Plain: what Open and Close keep of the rows. -/
namespace Go.Proofs.Ytaophafailmhjaa.K
open Go.RowKit
set_option linter.unusedVariables false
set_option linter.unusedSimpArgs false

def lt (r x : TRow) : Prop := r.c < x.c ∨ r.c = x.c ∧ r.h < x.h
def apartR (r x : TRow) : Prop := r.i = x.i → r.b = false ∧ x.b = false
structure Good (l : List TRow) : Prop where
  rng : ∀ r ∈ l, 0 ≤ r.c ∧ r.c < 4 ∧ 0 ≤ r.h ∧ r.h < 4
  ord : l.Pairwise lt
  alone : l.Pairwise apartR
theorem good_nil : Good [] := ⟨by simp, List.Pairwise.nil, List.Pairwise.nil⟩
theorem Good.sub {l m : List TRow} (h : Good l) (hs : m.Sublist l) : Good m :=
  ⟨fun r hr => h.rng r (hs.subset hr), h.ord.sublist hs, h.alone.sublist hs⟩
theorem Good.close {l : List TRow} (h : Good l) (c n : Int) : Good (closeL l (find l c n)) := by
  cases hf : find l c n with
  | none => exact h
  | some r => exact h.sub List.filter_sublist
theorem lt_trans' {a b c : TRow} (h1 : lt a b) (h2 : lt b c) : lt a c := by unfold lt at *; omega

theorem against_pos {r x : TRow} (hr : 0 ≤ r.c ∧ r.c < 4 ∧ 0 ≤ r.h ∧ r.h < 4) (hx : 0 ≤ x.c ∧ x.c < 4 ∧ 0 ≤ x.h ∧ x.h < 4) : 0 < against r x ↔ lt x r := by
  unfold against lt
  have w : ∀ z : Int, -4 < z → z < 4 → wrap64 z = z := fun z h1 h2 => by
    rw [wrap64]
    omega
  split
  · rw [w _ (by omega) (by omega)]; omega
  · rw [w _ (by omega) (by omega)]; omega

theorem least_free (l : List TRow) (c : Int) : (find l c (least l c)).isSome = false ∧ ∀ q, q < least l c → (find l c q).isSome = true := by
  have key : ∀ d n : Nat, cnt l c n + n ≤ l.length → l.length - n ≤ d → (∀ q, q < n → (find l c q).isSome = true) → ∃ m, m ≤ l.length ∧ (find l c m).isSome = false ∧ ∀ q, q < m → (find l c q).isSome = true := by
    intro d
    induction d with
    | zero =>
      intro n h1 h2 h3
      cases hf : (find l c n).isSome with
      | false => exact ⟨n, by omega, hf, h3⟩
      | true =>
        have := cnt_step l c n hf
        omega
    | succ d ih =>
      intro n h1 h2 h3
      cases hf : (find l c n).isSome with
      | false => exact ⟨n, by omega, hf, h3⟩
      | true =>
        have := cnt_step l c n hf
        refine ih (n + 1) (by omega) (by omega) (fun q hq => ?_)
        rcases Nat.lt_or_ge q n with h | h
        · exact h3 q h
        · obtain rfl : q = n := by omega
          exact hf
  obtain ⟨m, h1, h2, h3⟩ := key l.length 0 (by have := cnt_le l c 0; omega) (by omega) (fun q hq => absurd hq (by omega))
  rw [least_at l c m h2 h1 h3]
  exact ⟨h2, h3⟩

theorem takeWhile_all {α : Type} {p : α → Bool} : ∀ (l : List α), ∀ x ∈ l.takeWhile p, p x = true
  | [], x, h => by simp at h
  | a :: l, x, h => by
    rw [List.takeWhile_cons] at h
    split at h
    · rcases List.mem_cons.1 h with rfl | h'
      · assumption
      · exact takeWhile_all l x h'
    · simp at h

theorem dropWhile_all {p : TRow → Bool} (r : TRow) : ∀ (l : List TRow), l.Pairwise lt → (∀ x ∈ l, p x = false → lt r x) → ∀ x ∈ l.dropWhile p, lt r x
  | [], _, _, x, h => by simp at h
  | a :: l, ho, hp, x, h => by
    rw [List.dropWhile_cons] at h
    split at h
    · exact dropWhile_all r l (List.Pairwise.of_cons ho) (fun y hy => hp y (List.mem_cons_of_mem _ hy)) x h
    · rename_i hf
      have ha : lt r a := hp a (List.mem_cons_self ..) (by simpa using hf)
      rcases List.mem_cons.1 h with rfl | h'
      · exact ha
      · exact lt_trans' ha ((List.pairwise_cons.1 ho).1 x h')

theorem Good.ins {l : List TRow} (h : Good l) (r : TRow) (hr : 0 ≤ r.c ∧ r.c < 4 ∧ 0 ≤ r.h ∧ r.h < 4) (hf : (find l r.c r.h).isSome = false) (hb : busyL l r.i r.b = false) : Good (insRow l r) := by
  have hfree : ∀ x ∈ l, ¬ (x.c = r.c ∧ x.h = r.h) := by
    intro x hx hc
    have : (find l r.c r.h).isSome = true := by
      unfold find
      rw [List.find?_isSome]
      exact ⟨x, hx, by simp [hc.1, hc.2]⟩
    rw [hf] at this
    cases this
  have hap : ∀ x ∈ l, apartR r x ∧ apartR x r := by
    intro x hx
    unfold busyL at hb
    rw [List.any_eq_false] at hb
    have := hb x hx
    simp at this
    constructor
    · intro e; have := this e.symm; exact ⟨this.1, this.2⟩
    · intro e; have := this e; exact ⟨this.2, this.1⟩
  have hT : ∀ x ∈ l.takeWhile (fun x => decide (0 < against r x)), lt x r := by
    intro x hx
    have h1 := takeWhile_all l x hx
    have hm := (List.takeWhile_sublist _).subset hx
    exact (against_pos hr (h.rng x hm)).1 (by simpa using h1)
  have hD : ∀ x ∈ l.dropWhile (fun x => decide (0 < against r x)), lt r x := by
    refine dropWhile_all r l h.ord ?_
    intro x hx hp
    have h1 : ¬ lt x r := fun hl => by
      have := (against_pos hr (h.rng x hx)).2 hl
      simp at hp; omega
    have h2 := hfree x hx
    unfold lt at *
    omega
  have hl : l = l.takeWhile (fun x => decide (0 < against r x)) ++ l.dropWhile (fun x => decide (0 < against r x)) := (List.takeWhile_append_dropWhile).symm
  have hsT : ∀ x ∈ l.takeWhile (fun x => decide (0 < against r x)), x ∈ l := fun x hx => (List.takeWhile_sublist _).subset hx
  have hsD : ∀ x ∈ l.dropWhile (fun x => decide (0 < against r x)), x ∈ l := fun x hx => (List.dropWhile_sublist _).subset hx
  have po := h.ord
  have pa := h.alone
  rw [hl] at po pa
  obtain ⟨po1, po2, po3⟩ := List.pairwise_append.1 po
  obtain ⟨pa1, pa2, pa3⟩ := List.pairwise_append.1 pa
  unfold insRow
  refine ⟨?_, ?_, ?_⟩
  · intro x hx
    rcases List.mem_append.1 hx with h1 | h1
    · exact h.rng x (hsT x h1)
    · rcases List.mem_cons.1 h1 with rfl | h2
      · exact hr
      · exact h.rng x (hsD x h2)
  · refine List.pairwise_append.2 ⟨po1, List.pairwise_cons.2 ⟨hD, po2⟩, ?_⟩
    intro x hx y hy
    rcases List.mem_cons.1 hy with rfl | h2
    · exact hT x hx
    · exact po3 x hx y h2
  · refine List.pairwise_append.2 ⟨pa1, List.pairwise_cons.2 ⟨fun y hy => (hap y (hsD y hy)).1, pa2⟩, ?_⟩
    intro x hx y hy
    rcases List.mem_cons.1 hy with rfl | h2
    · exact (hap x (hsT x hx)).2
    · exact pa3 x hx y h2

theorem Good.opens {l : List TRow} (h : Good l) (c i : Int) (mw : Bool) : Good (openR l c i mw).2.2 := by
  unfold openR
  split
  · exact h
  · rename_i hm
    split
    · exact h
    · rename_i h4
      split
      · exact h
      · rename_i hb
        have hc : 0 ≤ c ∧ c < 4 := by
          unfold mayB at hm; simp at hm; omega
        exact h.ins ⟨c, least l c, i, mw⟩ ⟨hc.1, hc.2, by simp, by simp; omega⟩ (least_free l c).1 (by simpa using hb)
theorem open_len (l : List TRow) (c i : Int) (mw : Bool) : (openR l c i mw).2.2.length ≤ l.length + 1 := by
  unfold openR
  split
  · simp
  · split
    · simp
    · split
      · simp
      · show (insRow l _).length ≤ _
        unfold insRow
        rw [List.length_append, List.length_cons]
        have h1 : (l.takeWhile (fun x => decide (0 < against ⟨c, least l c, i, mw⟩ x)) ++ l.dropWhile (fun x => decide (0 < against ⟨c, least l c, i, mw⟩ x))).length = l.length := by rw [List.takeWhile_append_dropWhile]
        rw [List.length_append] at h1
        omega
theorem close_len (l : List TRow) (o : Option TRow) : (closeL l o).length ≤ l.length := by
  cases o with
  | none => exact Nat.le_refl _
  | some r => exact List.length_filter_le _ _
end Go.Proofs.Ytaophafailmhjaa.K

/- Plain: what the tests of TokensAlone ask of good rows. -/
namespace Go.Proofs.Ytaophafailmhjaa.K
set_option linter.unusedVariables false
set_option linter.unusedSimpArgs false

theorem getD_getElem (l : List TRow) (q : Nat) (hq : q < l.length) : l.getD q default = l[q] := by
  rw [List.getD_eq_getElem?_getD, List.getElem?_eq_getElem hq]; rfl
theorem Good.pair {l : List TRow} (h : Good l) (p q : Nat) (hp : p < l.length) (hq : q < l.length) (hne : p ≠ q) :
    apartR (l.getD p default) (l.getD q default) ∧ ¬ ((l.getD p default).c = (l.getD q default).c ∧ (l.getD p default).h = (l.getD q default).h) := by
  rw [getD_getElem l p hp, getD_getElem l q hq]
  rcases Nat.lt_or_ge p q with hlt | hge
  · have h1 := List.pairwise_iff_getElem.1 h.ord p q hp hq hlt
    have h2 := List.pairwise_iff_getElem.1 h.alone p q hp hq hlt
    refine ⟨h2, ?_⟩
    unfold lt at h1; omega
  · have h1 := List.pairwise_iff_getElem.1 h.ord q p hq hp (by omega)
    have h2 := List.pairwise_iff_getElem.1 h.alone q p hq hp (by omega)
    refine ⟨fun e => ?_, ?_⟩
    · have := h2 e.symm; exact ⟨this.2, this.1⟩
    · unfold lt at h1; omega
def cm (l : List TRow) (c : Int) (q : Nat) : Nat := (l.take q).countP fun r => r.c == c
theorem cm_succ (l : List TRow) (c : Int) (q : Nat) (hq : q < l.length) : cm l c (q + 1) = cm l c q + if (l.getD q default).c = c then 1 else 0 := by
  unfold cm
  rw [take_succ_getD l q hq, List.countP_append]
  congr 1
  by_cases e : (l.getD q default).c = c
  · rw [if_pos e, List.countP_cons_of_pos (by simp only [beq_iff_eq]; exact e)]; rfl
  · rw [if_neg e, List.countP_cons_of_neg (by simp only [beq_iff_eq]; exact e)]; rfl
theorem len_of_rising (l : List TRow) (lo : Int) (n : Nat) (h1 : ∀ r ∈ l, lo ≤ r.h ∧ r.h < lo + n) (h2 : l.Pairwise (fun a b => a.h < b.h)) : l.length ≤ n := by
  induction l generalizing lo n with
  | nil => simp
  | cons r l ih =>
    have hr := h1 r (List.mem_cons_self ..)
    obtain ⟨ha, hb⟩ := List.pairwise_cons.1 h2
    cases n with
    | zero => simp at hr; omega
    | succ n =>
      have := ih (lo + 1) n (fun x hx => by have := ha x hx; have := h1 x (List.mem_cons_of_mem _ hx); omega) hb
      simp; omega
theorem Good.few4 {l : List TRow} (h : Good l) (c : Int) (q : Nat) : cm l c q ≤ 4 := by
  unfold cm
  rw [List.countP_eq_length_filter]
  refine len_of_rising _ 0 4 ?_ ?_
  · intro r hr
    have hm := (List.take_sublist _ _).subset (List.mem_filter.1 hr).1
    have := h.rng r hm
    omega
  · have hs : ((l.take q).filter (fun r => r.c == c)).Sublist l := List.filter_sublist.trans (List.take_sublist _ _)
    have ho := h.ord.sublist hs
    refine List.Pairwise.imp_of_mem ?_ ho
    intro a b ha hb hl
    have h1 := (List.mem_filter.1 ha).2
    have h2 := (List.mem_filter.1 hb).2
    simp at h1 h2
    unfold lt at hl; omega
end Go.Proofs.Ytaophafailmhjaa.K

/- The file system as it is meant, plainly: what an operation answers, and what it leaves. -/
namespace Go.Proofs.Ytaophafailmhjaa.W
open Go.Proofs.Ytaophafailmhjaa.NM
set_option linter.unusedVariables false
set_option linter.unusedSimpArgs false

structure Op where
  d : Int
  p : List UInt8
  q : List UInt8
  h : Int
  i : Int
  n : Int
  w : Bool
  b : List UInt8
instance : Inhabited Op := ⟨⟨0, [], [], 0, 0, 0, false, []⟩⟩
structure Ans where
  e : Int
  ino : Int
  dir : Bool
  size : Nat
  h : Int
  b : List UInt8
  l : List Ent
def no (e : Int) : Ans := ⟨e, 0, false, 0, 0, [], []⟩
abbrev Fs := Int → Option (List UInt8)
abbrev Os := Int × Int → Option (List UInt8)
structure PS where
  T : PT
  K : List K.TRow
  F : Fs
  O : Os
def PS.new : PS := ⟨[], [], fun _ => none, fun _ => none⟩
def upd {κ : Type} [DecidableEq κ] (f : κ → Option (List UInt8)) (x : κ) (l : List UInt8) : κ → Option (List UInt8) := fun y => if y = x then some l else f y
def del {κ : Type} [DecidableEq κ] (f : κ → Option (List UInt8)) (x : κ) : κ → Option (List UInt8) := fun y => if y = x then none else f y
def ofO (o : Option (List UInt8)) : List UInt8 := o.getD []

def psMake (s : PS) (o : Op) : Ans × PS :=
  if (tMake s.T o.p (o.d == 2)).1.2 ≠ 0 then (no (tMake s.T o.p (o.d == 2)).1.2, { s with T := (tMake s.T o.p (o.d == 2)).2 }) else
  (⟨0, (tMake s.T o.p (o.d == 2)).1.1, false, 0, 0, [], []⟩, { s with T := (tMake s.T o.p (o.d == 2)).2, F := if o.d = 1 then upd s.F ((tMake s.T o.p (o.d == 2)).1.1 : Int) [] else s.F })
def psRemove (s : PS) (o : Op) : Ans × PS :=
  if (tLook s.T o.p).2.2 ≠ 0 then (no (tLook s.T o.p).2.2, s) else
  if (!(tLook s.T o.p).2.1 && (o.d == 3) && K.has (fun r => r.i == ((tLook s.T o.p).1 : Int)) s.K) = true then (no 8, s) else
  if (tRemove s.T o.p (o.d == 4)).1.2 ≠ 0 then (no (tRemove s.T o.p (o.d == 4)).1.2, { s with T := (tRemove s.T o.p (o.d == 4)).2 }) else
  (⟨0, (tRemove s.T o.p (o.d == 4)).1.1, false, 0, 0, [], []⟩, { s with T := (tRemove s.T o.p (o.d == 4)).2, F := del s.F ((tRemove s.T o.p (o.d == 4)).1.1 : Int) })
def psRename (s : PS) (o : Op) : Ans × PS := (no (tMove s.T o.p o.q).1, { s with T := (tMove s.T o.p o.q).2 })
def psStat (s : PS) (o : Op) : Ans × PS :=
  if (tLook s.T o.p).2.2 ≠ 0 then (no (tLook s.T o.p).2.2, s) else
  (⟨0, (tLook s.T o.p).1, (tLook s.T o.p).2.1, (ofO (s.F ((tLook s.T o.p).1 : Int))).length, 0, [], []⟩, s)
def psList (s : PS) (o : Op) : Ans × PS := (⟨(tList s.T o.p).2, 0, false, 0, 0, [], (tList s.T o.p).1⟩, s)
def psOpen (s : PS) (c : Int) (o : Op) : Ans × PS :=
  if (tLook s.T o.p).2.2 ≠ 0 then (no (tLook s.T o.p).2.2, s) else
  if (tLook s.T o.p).2.1 = true then (no 9, s) else
  if (K.openR s.K c ((tLook s.T o.p).1 : Int) o.w).2.1 ≠ 0 then (no (K.openR s.K c ((tLook s.T o.p).1 : Int) o.w).2.1, { s with K := (K.openR s.K c ((tLook s.T o.p).1 : Int) o.w).2.2 }) else
  (⟨0, (tLook s.T o.p).1, false, (ofO (s.F ((tLook s.T o.p).1 : Int))).length, (K.openR s.K c ((tLook s.T o.p).1 : Int) o.w).1, [], []⟩,
    { s with K := (K.openR s.K c ((tLook s.T o.p).1 : Int) o.w).2.2, O := if o.w = true then upd s.O (c, (K.openR s.K c ((tLook s.T o.p).1 : Int) o.w).1) (ofO (s.F ((tLook s.T o.p).1 : Int))) else s.O })
/-- What a handle sees. -/
def psSees (s : PS) (r : K.TRow) : List UInt8 := if r.b = true then ofO (s.O (r.c, r.h)) else ofO (s.F r.i)
def cutB (b : List UInt8) (i n : Nat) : List UInt8 := (b.drop i).take n
def sizedB (b : List UInt8) (n : Nat) : List UInt8 := b.take n ++ List.replicate (n - b.length) 0
def putB (b : List UInt8) (i : Nat) (m : List UInt8) : List UInt8 := b.take i ++ m ++ b.drop (i + m.length)
def writeB (b : List UInt8) (i : Nat) (m : List UInt8) : List UInt8 := putB (sizedB b (max b.length (i + m.length))) i m
def psRead (s : PS) (c : Int) (o : Op) : Ans × PS :=
  match K.find s.K c o.h with
  | none => (no 13, s)
  | some r => if o.i < 0 ∨ o.n < 0 then (no 1, s) else (⟨0, 0, false, 0, 0, cutB (psSees s r) o.i.toNat o.n.toNat, []⟩, s)
def psWrite (s : PS) (c : Int) (o : Op) : Ans × PS :=
  match K.find s.K c o.h with
  | none => (no 13, s)
  | some r => if r.b = false then (no 13, s) else if o.i < 0 then (no 1, s) else if 4096 < o.b.length ∨ 4096 - (o.b.length : Int) < o.i then (no 3, s) else
    if o.b = [] then (no 0, s) else (no 0, { s with O := upd s.O (c, o.h) (writeB (psSees s r) o.i.toNat o.b) })
def psTrunc (s : PS) (c : Int) (o : Op) : Ans × PS :=
  match K.find s.K c o.h with
  | none => (no 13, s)
  | some r => if r.b = false then (no 13, s) else if o.n < 0 then (no 1, s) else if 4096 < o.n then (no 3, s) else
    (no 0, { s with O := upd s.O (c, o.h) (sizedB (psSees s r) o.n.toNat) })
def psSync (s : PS) (c : Int) (o : Op) : Ans × PS :=
  match K.find s.K c o.h with
  | none => (no 13, s)
  | some r => (no 0, { s with F := if r.b = true then upd s.F r.i (psSees s r) else s.F, O := if o.d = 13 then del s.O (c, o.h) else s.O, K := if o.d = 13 then K.closeL s.K (some r) else s.K })
def psDo (s : PS) (c : Int) (o : Op) : Ans × PS :=
  if c < 0 ∨ 4 ≤ c ∨ o.d < 1 ∨ 13 < o.d then (no 1, s) else
  if o.d ≤ 2 then psMake s o else if o.d ≤ 4 then psRemove s o else if o.d = 5 then psRename s o else if o.d = 6 then psStat s o else if o.d = 7 then psList s o else
  if o.d = 8 then psOpen s c o else if o.d = 9 then psRead s c o else if o.d = 10 then psWrite s c o else if o.d = 11 then psTrunc s c o else psSync s c o
def psCrash (s : PS) (c : Int) : Int × PS := ((s.K.length : Int) - (K.keep (fun r => r.c == c) s.K).length, { s with K := K.keep (fun r => r.c == c) s.K, O := fun x => if x.1 = c then none else s.O x })

/-- What holds of each file system. -/
structure PInv (s : PS) : Prop where
  tok : TOk s.T
  good : K.Good s.K
  file : ∀ x, (s.F x).isSome = true ↔ ∃ t ∈ s.T, x = (t.ino : Int) ∧ t.isDir = false
  own : ∀ c h, (s.O (c, h)).isSome = true ↔ ∃ r ∈ s.K, r.c = c ∧ r.h = h ∧ r.b = true
  rows : ∀ r ∈ s.K, (s.F r.i).isSome = true
  fsz : ∀ x l, s.F x = some l → l.length ≤ 4096
  osz : ∀ x l, s.O x = some l → l.length ≤ 4096
theorem PInv.new : PInv PS.new where
  tok := TOk.nil
  good := K.good_nil
  file := fun x => by simp [PS.new]
  own := fun c h => by simp [PS.new]
  rows := by simp [PS.new]
  fsz := fun x l h => by simp [PS.new] at h
  osz := fun x l h => by simp [PS.new] at h

theorem good_uniq {l : List K.TRow} (h : K.Good l) {r x : K.TRow} (hr : r ∈ l) (hx : x ∈ l) (hc : r.c = x.c) (hh : r.h = x.h) : r = x := by
  have := h.ord
  clear h
  induction l with
  | nil => cases hr
  | cons y m ih =>
    have h1 := List.pairwise_cons.1 this
    rcases List.mem_cons.1 hr with rfl | hr'
    · rcases List.mem_cons.1 hx with rfl | hx'
      · rfl
      · have := h1.1 x hx'
        unfold K.lt at this; omega
    · rcases List.mem_cons.1 hx with rfl | hx'
      · have := h1.1 r hr'
        unfold K.lt at this; omega
      · exact ih hr' hx' h1.2
theorem find_mem {l : List K.TRow} {c h : Int} {r : K.TRow} (hf : K.find l c h = some r) : r ∈ l ∧ r.c = c ∧ r.h = h := by
  unfold K.find at hf
  have h1 := List.find?_some hf
  simp at h1
  exact ⟨List.mem_of_find?_eq_some hf, h1.1, h1.2⟩
theorem find_none {l : List K.TRow} {c h : Int} (hf : K.find l c h = none) : ∀ r ∈ l, ¬ (r.c = c ∧ r.h = h) := by
  unfold K.find at hf
  intro r hr ⟨h1, h2⟩
  have := List.find?_eq_none.1 hf r hr
  simp [h1, h2] at this
theorem find_of_mem {l : List K.TRow} (h : K.Good l) {r : K.TRow} (hr : r ∈ l) : K.find l r.c r.h = some r := by
  cases hf : K.find l r.c r.h with
  | none => exact absurd ⟨rfl, rfl⟩ (find_none hf r hr)
  | some x =>
    obtain ⟨h1, h2, h3⟩ := find_mem hf
    rw [good_uniq h h1 hr h2 h3]
theorem good_few {l : List K.TRow} (h : K.Good l) : l.length ≤ 16 := by
  have h1 := K.len_of_rising (l.map (fun r => { r with h := 4 * r.c + r.h })) 0 16 (by
    intro r hr
    obtain ⟨x, hx, rfl⟩ := List.mem_map.1 hr
    have := h.rng x hx
    simp only
    omega) (by
    rw [List.pairwise_map]
    refine h.ord.imp_of_mem ?_
    intro a b ha hb hab
    have h1 := h.rng a ha
    have h2 := h.rng b hb
    unfold K.lt at hab
    simp only
    omega)
  simpa using h1
theorem ins_mem {l : List K.TRow} {r x : K.TRow} : x ∈ K.insRow l r ↔ x = r ∨ x ∈ l := by
  unfold K.insRow
  rw [List.mem_append, List.mem_cons]
  have : x ∈ l ↔ x ∈ l.takeWhile (fun x => decide (0 < K.against r x)) ∨ x ∈ l.dropWhile (fun x => decide (0 < K.against r x)) := by
    rw [← List.mem_append, List.takeWhile_append_dropWhile]
  rw [this]
  constructor
  · rintro (h | h | h)
    · exact .inr (.inl h)
    · exact .inl h
    · exact .inr (.inr h)
  · rintro (h | h | h)
    · exact .inr (.inl h)
    · exact .inl h
    · exact .inr (.inr h)
theorem open_cases (l : List K.TRow) (c i : Int) (b : Bool) : (K.openR l c i b).2.1 ≠ 0 ∧ (K.openR l c i b).2.2 = l ∨
    (K.openR l c i b).2.1 = 0 ∧ 0 ≤ c ∧ c < 4 ∧ 0 ≤ (K.openR l c i b).1 ∧ (K.openR l c i b).1 < 4 ∧ K.busyL l i b = false ∧ K.find l c (K.openR l c i b).1 = none ∧ (K.openR l c i b).2.2 = K.insRow l ⟨c, (K.openR l c i b).1, i, b⟩ := by
  unfold K.openR
  split
  · exact .inl ⟨by simp, rfl⟩
  · rename_i hm
    split
    · exact .inl ⟨by simp, rfl⟩
    · rename_i h4
      split
      · exact .inl ⟨by simp, rfl⟩
      · rename_i hb
        have hc : 0 ≤ c ∧ c < 4 := by unfold K.mayB at hm; simp at hm; omega
        have := (K.least_free l c).1
        exact .inr ⟨rfl, hc.1, hc.2, by simp, by simp; omega, by simpa using hb, by simpa using this, rfl⟩

theorem make_cases {T : PT} (hT : TOk T) (p : List UInt8) (d : Bool) : (tMake T p d).1.2 ≠ 0 ∧ tMake T p d = ((0, (tMake T p d).1.2), T) ∨
    ∃ y : Th, tMake T p d = ((y.ino, 0), tIns y T) ∧ (∀ x ∈ T, x.ino ≠ y.ino) ∧ 2 ≤ y.ino ∧ y.isDir = d := by
  unfold tMake
  split
  · exact .inl ⟨by simp, rfl⟩
  · split
    · rename_i h
      exact .inl ⟨h, rfl⟩
    · split
      · exact .inl ⟨by simp, rfl⟩
      · split
        · exact .inl ⟨by simp, rfl⟩
        · exact .inr ⟨⟨tLeast 2 T, _, _, d⟩, rfl, least_free T 2 hT.rise (fun x hx => (hT.nums x hx).1), least_ge T 2, rfl⟩
theorem remove_cases {T : PT} (hT : TOk T) (p : List UInt8) (d : Bool) : (tRemove T p d).1.2 ≠ 0 ∧ tRemove T p d = ((0, (tRemove T p d).1.2), T) ∨
    ∃ x ∈ T, tRemove T p d = ((x.ino, 0), T.filter (fun z => z.ino != x.ino)) ∧ tLook T p = (x.ino, x.isDir, 0) ∧ x.isDir = d ∧ (∀ y ∈ T, y.dir ≠ x.ino) := by
  unfold tRemove
  split
  · rename_i h
    exact .inl ⟨h, rfl⟩
  · rename_i h0
    split
    · exact .inl ⟨by simp, rfl⟩
    · rename_i h1
      split
      · exact .inl ⟨by simp, rfl⟩
      · rename_i h2
        split
        · exact .inl ⟨by simp, rfl⟩
        · rename_i h3
          split
          · exact .inl ⟨by simp, rfl⟩
          · rename_i h4
            right
            have hz : (tLook T p).2.2 = 0 := by simpa using h0
            obtain ⟨k1, k2⟩ := look_okL hz
            obtain ⟨x, hx, he⟩ := (has_iff.1 k1).resolve_left h1
            have hd : tIsDir T (tLook T p).1 = x.isDir := by
              rw [← he]
              unfold tIsDir
              rw [get_mem hT hx]
              have := (hT.nums x hx).1
              have : (x.ino == 1) = false := by simp; omega
              rw [this]; rfl
            rw [hd] at k2
            refine ⟨x, hx, by rw [he], ?_, ?_, fun y hy e => h4 ?_⟩
            · rw [he, ← k2, ← hz]
            · rw [k2] at h2 h3
              cases d <;> cases hxd : x.isDir <;> simp [hxd] at h2 h3 ⊢
            · rw [List.any_eq_true]
              exact ⟨y, hy, by rw [← he, e]; simp⟩
theorem move_mem {T : PT} (p q : List UInt8) (x : Int) (b : Bool) : (∃ t ∈ (tMove T p q).2, x = (t.ino : Int) ∧ t.isDir = b) ↔ ∃ t ∈ T, x = (t.ino : Int) ∧ t.isDir = b := by
  have key : ∀ n d s, (∃ t ∈ tRename T n d s, x = (t.ino : Int) ∧ t.isDir = b) ↔ ∃ t ∈ T, x = (t.ino : Int) ∧ t.isDir = b := by
    intro n d s
    unfold tRename
    constructor
    · rintro ⟨t, ht, h1, h2⟩
      obtain ⟨u, hu, rfl⟩ := List.mem_map.1 ht
      refine ⟨u, hu, ?_, ?_⟩
      · rw [h1]; split <;> rfl
      · rw [← h2]; split <;> rfl
    · rintro ⟨u, hu, h1, h2⟩
      refine ⟨_, List.mem_map_of_mem hu, ?_, ?_⟩
      · rw [h1]; split <;> rfl
      · rw [← h2]; split <;> rfl
  unfold tMove
  split
  · rfl
  · split
    · rfl
    · split
      · rfl
      · split
        · rfl
        · split
          · rfl
          · split
            · rfl
            · exact key _ _ _

theorem upd_some {κ : Type} [DecidableEq κ] (f : κ → Option (List UInt8)) (x y : κ) (l : List UInt8) : (upd f x l y).isSome = true ↔ y = x ∨ (f y).isSome = true := by
  unfold upd
  split
  · rename_i h; simp [h]
  · rename_i h; simp [h]
theorem del_some {κ : Type} [DecidableEq κ] (f : κ → Option (List UInt8)) (x y : κ) : (del f x y).isSome = true ↔ y ≠ x ∧ (f y).isSome = true := by
  unfold del
  split
  · rename_i h; simp [h]
  · rename_i h; simp [h]
theorem upd_sz {κ : Type} [DecidableEq κ] {f : κ → Option (List UInt8)} (h : ∀ x l, f x = some l → l.length ≤ 4096) {x : κ} {l : List UInt8} (hl : l.length ≤ 4096) : ∀ y m, upd f x l y = some m → m.length ≤ 4096 := by
  intro y m hy
  unfold upd at hy
  split at hy
  · cases hy; exact hl
  · exact h y m hy
theorem del_sz {κ : Type} [DecidableEq κ] {f : κ → Option (List UInt8)} (h : ∀ x l, f x = some l → l.length ≤ 4096) {x : κ} : ∀ y m, del f x y = some m → m.length ≤ 4096 := by
  intro y m hy
  unfold del at hy
  split at hy
  · cases hy
  · exact h y m hy
theorem ofO_sz {κ : Type} {f : κ → Option (List UInt8)} (h : ∀ x l, f x = some l → l.length ≤ 4096) (x : κ) : (ofO (f x)).length ≤ 4096 := by
  cases hx : f x with
  | none => exact Nat.zero_le _
  | some l => exact h x l hx
theorem PInv.sees {s : PS} (h : PInv s) (r : K.TRow) : (psSees s r).length ≤ 4096 := by
  unfold psSees
  split
  · exact ofO_sz h.osz _
  · exact ofO_sz h.fsz _
theorem sized_len (b : List UInt8) (n : Nat) : (sizedB b n).length = n := by
  unfold sizedB
  rw [List.length_append, List.length_take, List.length_replicate]
  omega
theorem put_len {b m : List UInt8} {i : Nat} (h : i + m.length ≤ b.length) : (putB b i m).length = b.length := by
  unfold putB
  rw [List.length_append, List.length_append, List.length_take, List.length_drop]
  omega
theorem write_len (b m : List UInt8) (i : Nat) : (writeB b i m).length = max b.length (i + m.length) := by
  unfold writeB
  rw [put_len (by rw [sized_len]; omega), sized_len]
/-- A file's number. -/
theorem PInv.ino {s : PS} (h : PInv s) {x : Int} (hx : (s.F x).isSome = true) : 2 ≤ x ∧ x ≤ 128 := by
  obtain ⟨t, ht, rfl, _⟩ := (h.file x).1 hx
  have := h.tok.nums t ht
  omega
theorem PInv.look {s : PS} (h : PInv s) {p : List UInt8} (h0 : (tLook s.T p).2.2 = 0) (hd : (tLook s.T p).2.1 = false) : (s.F ((tLook s.T p).1 : Int)).isSome = true := by
  obtain ⟨k1, k2⟩ := look_okL h0
  rw [hd] at k2
  rw [h.file]
  rcases has_iff.1 k1 with h1 | ⟨x, hx, he⟩
  · rw [h1] at k2; cases k2
  · refine ⟨x, hx, by rw [he], ?_⟩
    rw [← he] at k2
    unfold tIsDir at k2
    rw [get_mem h.tok hx] at k2
    have := (h.tok.nums x hx).1
    have e : (x.ino == 1) = false := by simp; omega
    rw [e] at k2
    simpa using k2.symm

theorem PInv.make {s : PS} (h : PInv s) (o : Op) (hd : o.d = 1 ∨ o.d = 2) (hT : TOk (psMake s o).2.T) : PInv (psMake s o).2 := by
  unfold psMake at hT ⊢
  rcases make_cases h.tok o.p (o.d == 2) with ⟨h1, h2⟩ | ⟨y, h2, h3, h4, h5⟩
  · rw [if_pos h1]
    rw [h2]
    exact h
  · rw [h2] at hT ⊢
    rw [if_neg (by simp)] at hT ⊢
    simp only at hT ⊢
    have hmem : ∀ x, (∃ t ∈ tIns y s.T, x = (t.ino : Int) ∧ t.isDir = false) ↔ (x = (y.ino : Int) ∧ y.isDir = false) ∨ ∃ t ∈ s.T, x = (t.ino : Int) ∧ t.isDir = false := by
      intro x
      constructor
      · rintro ⟨t, ht, e1, e2⟩
        rcases (mem_ins s.T t).1 ht with rfl | ht
        · exact .inl ⟨e1, e2⟩
        · exact .inr ⟨t, ht, e1, e2⟩
      · rintro (⟨e1, e2⟩ | ⟨t, ht, e1, e2⟩)
        · exact ⟨y, (mem_ins s.T y).2 (.inl rfl), e1, e2⟩
        · exact ⟨t, (mem_ins s.T t).2 (.inr ht), e1, e2⟩
    refine ⟨hT, h.good, fun x => ?_, h.own, fun r hr => ?_, ?_, h.osz⟩
    · rw [hmem, ← h.file]
      rcases hd with hd | hd
      · rw [if_pos hd, upd_some]
        have : y.isDir = false := by rw [h5, hd]; rfl
        simp [this]
      · rw [if_neg (by omega)]
        have : y.isDir = true := by rw [h5, hd]; rfl
        simp [this]
    · have := h.rows r hr
      split
      · rw [upd_some]; exact .inr this
      · exact this
    · split
      · exact upd_sz h.fsz (by simp)
      · exact h.fsz
theorem PInv.remove {s : PS} (h : PInv s) (o : Op) (hd : o.d = 3 ∨ o.d = 4) (hT : TOk (psRemove s o).2.T) : PInv (psRemove s o).2 := by
  unfold psRemove at hT ⊢
  split
  · exact h
  · rename_i h0
    rw [if_neg h0] at hT
    split
    · exact h
    · rename_i h1
      rw [if_neg h1] at hT
      rcases remove_cases h.tok o.p (o.d == 4) with ⟨k1, k2⟩ | ⟨x, hx, k2, k3, k4, k5⟩
      · rw [if_pos k1, k2]; exact h
      · rw [k2] at hT ⊢
        rw [if_neg (by simp)] at hT ⊢
        simp only at hT ⊢
        have hmem : ∀ z, (∃ t ∈ s.T.filter (fun z => z.ino != x.ino), z = (t.ino : Int) ∧ t.isDir = false) ↔ z ≠ (x.ino : Int) ∧ ∃ t ∈ s.T, z = (t.ino : Int) ∧ t.isDir = false := by
          intro z
          constructor
          · rintro ⟨t, ht, e1, e2⟩
            obtain ⟨m1, m2⟩ := List.mem_filter.1 ht
            refine ⟨fun e => ?_, t, m1, e1, e2⟩
            simp at m2
            omega
          · rintro ⟨e0, t, ht, e1, e2⟩
            exact ⟨t, List.mem_filter.2 ⟨ht, by simp; omega⟩, e1, e2⟩
        refine ⟨hT, h.good, fun z => by rw [hmem, del_some, h.file], h.own, fun r hr => ?_, del_sz h.fsz, h.osz⟩
        rw [del_some]
        refine ⟨fun e => ?_, h.rows r hr⟩
        rcases hd with hd | hd
        · have hxd : x.isDir = false := by rw [k4, hd]; rfl
          rw [k3, hd, hxd] at h1
          refine h1 ?_
          simp only [K.has]
          rw [Bool.and_eq_true, List.any_eq_true]
          exact ⟨rfl, r, hr, by simp [e]⟩
        · have hxd : x.isDir = true := by rw [k4, hd]; rfl
          obtain ⟨t, ht, e1, e2⟩ := (h.file _).1 (h.rows r hr)
          have : t = x := by
            have hg1 := get_mem h.tok ht
            have hg2 := get_mem h.tok hx
            have he : t.ino = x.ino := by omega
            rw [he, hg2] at hg1
            exact (Option.some.inj hg1).symm
          rw [this, hxd] at e2
          cases e2
theorem PInv.rename {s : PS} (h : PInv s) (o : Op) (hT : TOk (psRename s o).2.T) : PInv (psRename s o).2 := by
  refine ⟨hT, h.good, fun x => ?_, h.own, h.rows, h.fsz, h.osz⟩
  show (s.F x).isSome = true ↔ ∃ t ∈ (tMove s.T o.p o.q).2, x = (t.ino : Int) ∧ t.isDir = false
  rw [h.file]
  exact (move_mem o.p o.q x false).symm
theorem PInv.opens {s : PS} (h : PInv s) (c : Int) (o : Op) : PInv (psOpen s c o).2 := by
  unfold psOpen
  split
  · exact h
  · rename_i h0
    split
    · exact h
    · rename_i h1
      have hF := h.look (by simpa using h0) (by simpa using h1)
      generalize hi : ((tLook s.T o.p).1 : Int) = i at *
      have hgood := h.good.opens c i o.w
      rcases open_cases s.K c i o.w with ⟨k1, k2⟩ | ⟨k1, c0, c4, h0', h4, kb, kf, k2⟩
      · rw [if_pos k1, k2]; exact h
      · rw [if_neg (by simpa using k1)]
        rw [k2] at hgood ⊢
        generalize (K.openR s.K c i o.w).1 = hd at *
        refine ⟨h.tok, hgood, h.file, fun c' h' => ?_, fun r hr => ?_, h.fsz, ?_⟩
        · simp only
          have e1 : (∃ r ∈ K.insRow s.K ⟨c, hd, i, o.w⟩, r.c = c' ∧ r.h = h' ∧ r.b = true) ↔ (c' = c ∧ h' = hd ∧ o.w = true) ∨ ∃ r ∈ s.K, r.c = c' ∧ r.h = h' ∧ r.b = true := by
            constructor
            · rintro ⟨r, hr, e1, e2, e3⟩
              rcases ins_mem.1 hr with rfl | hr
              · exact .inl ⟨e1.symm, e2.symm, e3⟩
              · exact .inr ⟨r, hr, e1, e2, e3⟩
            · rintro (⟨e1, e2, e3⟩ | ⟨r, hr, e1, e2, e3⟩)
              · exact ⟨_, ins_mem.2 (.inl rfl), e1.symm, e2.symm, e3⟩
              · exact ⟨r, ins_mem.2 (.inr hr), e1, e2, e3⟩
          rw [e1, ← h.own]
          cases hw : o.w with
          | true =>
            rw [if_pos rfl, upd_some]
            simp
          | false =>
            rw [if_neg (by simp)]
            simp
        · rcases ins_mem.1 hr with rfl | hr
          · exact hF
          · exact h.rows r hr
        · simp only
          split
          · exact upd_sz h.osz (ofO_sz h.fsz _)
          · exact h.osz
theorem PInv.writes {s : PS} (h : PInv s) {c n : Int} {r : K.TRow} (hf : K.find s.K c n = some r) (hb : r.b = true) {l : List UInt8} (hl : l.length ≤ 4096) : PInv { s with O := upd s.O (c, n) l } := by
  obtain ⟨h1, h2, h3⟩ := find_mem hf
  refine ⟨h.tok, h.good, h.file, fun c' h' => ?_, h.rows, h.fsz, upd_sz h.osz hl⟩
  rw [upd_some, h.own]
  constructor
  · rintro (e | e)
    · cases e
      exact ⟨r, h1, h2, h3, hb⟩
    · exact e
  · exact .inr
theorem PInv.write {s : PS} (h : PInv s) (c : Int) (o : Op) : PInv (psWrite s c o).2 := by
  unfold psWrite
  split
  · exact h
  · rename_i r hf
    split
    · exact h
    · rename_i hb
      split
      · exact h
      · split
        · exact h
        · split
          · exact h
          · refine h.writes hf (by simpa using hb) ?_
            rw [write_len]
            have := h.sees r
            omega
theorem PInv.trunc {s : PS} (h : PInv s) (c : Int) (o : Op) : PInv (psTrunc s c o).2 := by
  unfold psTrunc
  split
  · exact h
  · rename_i r hf
    split
    · exact h
    · rename_i hb
      split
      · exact h
      · split
        · exact h
        · refine h.writes hf (by simpa using hb) ?_
          rw [sized_len]
          omega
theorem keep_mem {p : K.TRow → Bool} {l : List K.TRow} {r : K.TRow} : r ∈ K.keep p l ↔ r ∈ l ∧ p r = false := by
  unfold K.keep
  rw [List.mem_filter]
  simp
theorem close_mem {l : List K.TRow} {r x : K.TRow} : x ∈ K.closeL l (some r) ↔ x ∈ l ∧ x ≠ r := by
  unfold K.closeL
  rw [keep_mem]
  have : K.rowEq r x = false ↔ x ≠ r := by
    obtain ⟨a1, a2, a3, a4⟩ := r
    obtain ⟨b1, b2, b3, b4⟩ := x
    unfold K.rowEq
    constructor
    · intro h e
      cases e
      simp at h
    · intro h
      cases hq : (b1 == a1 && b2 == a2 && b3 == a3 && b4 == a4) with
      | false => rfl
      | true =>
        simp at hq
        obtain ⟨⟨⟨rfl, rfl⟩, rfl⟩, rfl⟩ := hq
        exact absurd rfl h
  rw [this]
theorem PInv.sync {s : PS} (h : PInv s) (c : Int) (o : Op) : PInv (psSync s c o).2 := by
  unfold psSync
  split
  · exact h
  · rename_i r hf
    obtain ⟨h1, h2, h3⟩ := find_mem hf
    have hF : ∀ x, ((if r.b = true then upd s.F r.i (psSees s r) else s.F) x).isSome = true ↔ (s.F x).isSome = true := by
      intro x
      split
      · rw [upd_some]
        constructor
        · rintro (rfl | e)
          · exact h.rows r h1
          · exact e
        · exact .inr
      · rfl
    have hG : K.Good (if o.d = 13 then K.closeL s.K (some r) else s.K) := by
      split
      · have := h.good.close c o.h
        rwa [hf] at this
      · exact h.good
    have hsub : ∀ x, x ∈ (if o.d = 13 then K.closeL s.K (some r) else s.K) → x ∈ s.K := by
      intro x hx
      split at hx
      · exact (close_mem.1 hx).1
      · exact hx
    refine ⟨h.tok, hG, fun x => by rw [← h.file]; exact hF x, fun c' h' => ?_, fun x hx => (hF _).2 (h.rows x (hsub x hx)), ?_, ?_⟩
    · simp only
      split
      · rw [del_some, h.own]
        constructor
        · rintro ⟨e0, x, hx, e1, e2, e3⟩
          refine ⟨x, close_mem.2 ⟨hx, fun e => e0 ?_⟩, e1, e2, e3⟩
          subst e
          rw [← e1, ← e2, h2, h3]
        · rintro ⟨x, hx, e1, e2, e3⟩
          obtain ⟨m1, m2⟩ := close_mem.1 hx
          refine ⟨fun e => m2 ?_, x, m1, e1, e2, e3⟩
          have e4 : c' = c ∧ h' = o.h := by simpa using e
          exact good_uniq h.good m1 h1 (by rw [e1, e4.1, h2]) (by rw [e2, e4.2, h3])
      · exact h.own c' h'
    · simp only
      split
      · exact upd_sz h.fsz (h.sees r)
      · exact h.fsz
    · simp only
      split
      · exact del_sz h.osz
      · exact h.osz
theorem PInv.crash {s : PS} (h : PInv s) (c : Int) : PInv (psCrash s c).2 := by
  refine ⟨h.tok, h.good.sub List.filter_sublist, h.file, fun c' h' => ?_, fun r hr => h.rows r (keep_mem.1 hr).1, h.fsz, fun x l hx => ?_⟩
  · simp only [psCrash]
    split
    · rename_i e
      subst e
      constructor
      · intro e; cases e
      · rintro ⟨r, hr, e1, e2, e3⟩
        have := (keep_mem.1 hr).2
        simp [e1] at this
    · rename_i e
      rw [h.own]
      constructor
      · rintro ⟨r, hr, e1, e2, e3⟩
        exact ⟨r, keep_mem.2 ⟨hr, by simp [e1, e]⟩, e1, e2, e3⟩
      · rintro ⟨r, hr, e1, e2, e3⟩
        exact ⟨r, (keep_mem.1 hr).1, e1, e2, e3⟩
  · simp only [psCrash] at hx
    split at hx
    · cases hx
    · exact h.osz x l hx
end Go.Proofs.Ytaophafailmhjaa.W

/- SameEntries, at two rows that are the same. -/
namespace Go.Proofs.Ytaophafailmhjaa.W
open Go.RowKit
open Go.Proofs.Ytaophafailmhjaa.NM
set_option linter.unusedVariables false
set_option linter.unusedSimpArgs false

/-- A slice of entries that lies in memory. -/
def EntsAt (w : World) (u : Value) (L : List Ent) : Prop := ∃ a c, u = .slice a L.length c ∧ (L = [] ∨ ∃ g, a = some ⟨g, 0, none⟩ ∧ g < w.heap.size ∧ ∀ i e, L[i]? = some e →
  w.cell? ⟨g, i * 3, none⟩ = some (.string ⟨e.1.toArray⟩) ∧ w.cell? ⟨g, i * 3 + 1, none⟩ = some (.int .i64 (e.2.1 : Int)) ∧ w.cell? ⟨g, i * 3 + 2, none⟩ = some (.bool e.2.2))
theorem EntsAt.keep {S : List Nat} {w w' : World} {u : Value} {L : List Ent} (h : EntsAt w u L) (hc : Chg S w w') (hS : ∀ g, u.ownBlock = some g → g ∉ S) : EntsAt w' u L := by
  obtain ⟨a, c, rfl, h⟩ := h
  refine ⟨a, c, rfl, ?_⟩
  rcases h with h | ⟨g, rfl, hg, h⟩
  · exact .inl h
  · have hn := hS g rfl
    refine .inr ⟨g, rfl, Nat.lt_of_lt_of_le hg hc.size, fun i e he => ?_⟩
    obtain ⟨c0, c1, c2⟩ := h i e he
    exact ⟨hc.cell c0 hn, hc.cell c1 hn, hc.cell c2 hn⟩
theorem EntsAt.keep0 {w w' : World} {u : Value} {L : List Ent} (h : EntsAt w u L) (hc : Chg [] w w') : EntsAt w' u L := h.keep hc (by simp)
instance : Inhabited Ent := ⟨([], 0, false)⟩
theorem ents_own {w : World} {base : Nat} {L : List Ent} {v : Value} (h : w.ownsRow base 106 3 v L.length (L.flatMap entC)) : EntsAt w v L := by
  rcases h.2 with ⟨rfl, h0⟩ | ⟨g, cap, cur, rfl, hbg, hg, hnc, hcm, hcs, htake⟩
  · exact ⟨none, 0, by rw [h0], .inl (List.eq_nil_of_length_eq_zero h0)⟩
  · refine ⟨_, cap, rfl, .inr ⟨g, rfl, blk_lt hg, fun i e he => ?_⟩⟩
    have hi := (List.getElem?_eq_some_iff.1 he).1
    have key : ∀ j, j < 3 → ∀ u, (entC e)[j]? = some u → w.cell? ⟨g, i * 3 + j, none⟩ = some u := by
      intro j hj u hu
      have := h.cells (g := g) rfl (i * 3 + j) u (by
        have := flatMap_at entC (fun _ => rfl) L i j hi hj
        rw [show L[i]! = e by simp [List.getElem!_eq_getElem?_getD, he]] at this
        rw [this]; exact hu)
      rw [add_none] at this
      simpa using this
    exact ⟨by simpa using key 0 (by omega) (.string ⟨e.1.toArray⟩) rfl, key 1 (by omega) _ rfl, key 2 (by omega) _ rfl⟩

end Go.Proofs.Ytaophafailmhjaa.W

/- Package tree: New; a thing more. -/
namespace Go.Proofs.Ytaophafailmhjaa.W
open Go.RowKit
open Go.Proofs.Ytaophafailmhjaa.NM
set_option linter.unusedVariables false
set_option linter.unusedSimpArgs false

theorem has_ins {T : PT} {y : Th} (a : Nat) : tHas (tIns y T) a = true ↔ a = y.ino ∨ tHas T a = true := by
  rw [has_iff, has_iff]
  constructor
  · rintro (h | ⟨x, hx, rfl⟩)
    · exact .inr (.inl h)
    · rcases (mem_ins T x).1 hx with rfl | hx
      · exact .inl rfl
      · exact .inr (.inr ⟨x, hx, rfl⟩)
  · rintro (rfl | h | ⟨x, hx, rfl⟩)
    · exact .inr ⟨y, (mem_ins T y).2 (.inl rfl), rfl⟩
    · exact .inl h
    · exact .inr ⟨x, (mem_ins T x).2 (.inr hx), rfl⟩
theorem kids_ins (y : Th) (T : PT) (a : Nat) : nKids (tIns y T) a = nKids T a + if y.dir = a then 1 else 0 := by
  unfold nKids
  rw [((ins_perm y T).filter _).length_eq, List.filter_cons]
  by_cases e : y.dir = a
  · simp [e]
  · simp [e]
theorem okI_small {a : Nat} (h : a ≤ 1000) : okI (a : Int) := i64_ok (by omega) (by omega)

/-- A thing more. -/
theorem TreeOk.grow {w w' : World} {t : Nat} {S : List Nat} {T : PT} {bm : Nat} {f g : Nat → Nat} (h : TreeOk w t S T bm f g) {y : Th} (hy : ∀ x ∈ T, x.ino ≠ y.ino) (hok : TOk (tIns y T)) (hd : tIsDir T y.dir = true) (hk : tKidOf T y.dir y.name = none)
    {px gx : Nat} (hpx : w.heap.size ≤ px) (hgx : w.heap.size ≤ gx) (hpl : px < w'.heap.size) (hgl : gx < w'.heap.size)
    (hm : MapF 3 klI okI w' bm (updF (φT T f) (y.ino : Int) (pth px)) (T.length + 2)) (hg : MapF 9 klS okS w' (g y.dir) (updF (φK T y.dir) y.name (.int .i64 (y.ino : Int))) (nKids T y.dir + 1))
    (hb : w'.heap[px]? = some (.cells (thCells y (if y.isDir then some gx else none)) 79 (0, 0))) (hn : y.isDir = true → MapF 9 klS okS w' gx (fun _ => none) 0) (hc : Chg [bm, g y.dir] w w') :
    TreeAt w' t (S ++ [px, gx]) (tIns y T) := by
  have hn2 := hok.nums y ((mem_ins T y).2 (.inl rfl))
  have hne : ∀ a, tHas T a = true → a ≠ y.ino := fun a ha e => by
    subst e
    rcases has_iff.1 ha with h1 | ⟨x, hx, h1⟩
    · omega
    · exact hy x hx h1
  have hdd := dir_has hd
  have fcell : ∀ a, tHas T a = true → f a < w.heap.size ∧ f a ≠ bm ∧ f a ≠ g y.dir := fun a ha =>
    ⟨blk_lt (h.each a ha), ne_map h.things (h.cells ha).1, ne_map (h.ins _ hd) (h.cells ha).1⟩
  have hdirne : ∀ a, tIsDir T a = true → a ≠ y.ino := fun a ha => hne a (dir_has ha)
  have hfx : ∀ a, tHas T a = true → (if a = y.ino then px else f a) = f a := fun a ha => if_neg (hne a ha)
  have hgx' : ∀ a, tIsDir T a = true → (if a = y.ino then gx else g a) = g a := fun a ha => if_neg (hdirne a ha)
  have hth : ∀ a, tHas T a = true → thOf (tIns y T) a = thOf T a := fun a ha => by
    unfold thOf
    by_cases e : a = 1
    · rw [if_pos e, if_pos e]
    · rw [if_neg e, if_neg e, get_ins h.ok hy, if_neg (hne a ha)]
  have hthy : thOf (tIns y T) y.ino = y := thOf_mem hok ((mem_ins T y).2 (.inl rfl))
  have hdy : tIsDir (tIns y T) y.ino = y.isDir := by
    rw [isDir_thOf _ ((has_ins _).2 (.inl rfl)), hthy]
  have hdT : ∀ a, a ≠ y.ino → tIsDir (tIns y T) a = tIsDir T a := fun a ha => isDir_ins h.ok hy ha
  have hkT : ∀ x ∈ T, x.dir ≠ y.ino := fun x hx => hdirne _ (h.ok.dirs x hx)
  have hglt : ∀ a, tIsDir T a = true → g a < w.heap.size := fun a ha => (h.ins a ha).lt
  refine ⟨bm, fun a => if a = y.ino then px else f a, fun a => if a = y.ino then gx else g a, ?_⟩
  exact {
    head := hc.keep h.head (by
      have := ne_map h.things (blk_cell h.head 0 _ rfl)
      have h2 := ne_map (h.ins _ hd) (blk_cell h.head 0 _ rfl)
      simp at this h2 ⊢; exact ⟨this, h2⟩)
    things := hm.congr (by rw [ins_len]) (fun x hx => by
      by_cases e : x = (y.ino : Int)
      · subst e
        rw [updF_self, φT_has ((has_ins _).2 (.inl rfl)), if_pos rfl]
      · rw [updF_other _ _ e]
        unfold φT
        by_cases e0 : 0 ≤ x
        · have e1 : x.toNat ≠ y.ino := by omega
          by_cases e2 : tHas T x.toNat = true
          · rw [if_pos ⟨e0, e2⟩, if_pos ⟨e0, (has_ins _).2 (.inr e2)⟩]
            show some (pth (f x.toNat)) = some (pth (if x.toNat = y.ino then px else f x.toNat))
            rw [if_neg e1]
          · rw [if_neg (fun hh => e2 hh.2), if_neg (fun hh => by
              rcases (has_ins _).1 hh.2 with h1 | h1
              · exact e1 h1
              · exact e2 h1)]
        · rw [if_neg (fun hh => e0 hh.1), if_neg (fun hh => e0 hh.1)])
    each := fun a ha => by
      rcases (has_ins a).1 ha with rfl | ha'
      · simp only [if_pos]
        rw [hthy, hdy]; exact hb
      · have hna := hne a ha'
        simp only [if_neg hna]
        rw [hth a ha', hdT a hna]
        obtain ⟨h1, h2, h3⟩ := fcell a ha'
        exact hc.keep (h.each a ha') (by simp; exact ⟨h2, h3⟩)
    ins := fun a ha => by
      by_cases e : a = y.ino
      · subst e
        rw [hdy] at ha
        simp only [if_pos]
        have hno : ∀ x ∈ tIns y T, x.dir ≠ y.ino := fun x hx => by
          rcases (mem_ins T x).1 hx with rfl | hx
          · exact hdirne _ hd
          · exact hkT x hx
        refine (hn ha).congr ?_ (fun s _ => ?_)
        · unfold nKids
          rw [List.filter_eq_nil_iff.2 (fun x hx => by simpa using hno x hx)]; rfl
        · unfold φK
          cases hg2 : tKidOf (tIns y T) y.ino s with
          | none => rfl
          | some z => exact absurd (kidOf_some hg2).2.1 (hno z (kidOf_some hg2).1)
      · rw [hdT a e] at ha
        simp only [if_neg e]
        by_cases e2 : a = y.dir
        · subst e2
          refine hg.congr (by rw [kids_ins, if_pos rfl]) (fun s _ => ?_)
          by_cases e3 : s = y.name
          · subst e3
            rw [updF_self]; unfold φK
            rw [kidOf_ins h.ok hok, if_pos ⟨rfl, rfl⟩]; rfl
          · rw [updF_other _ _ e3]; unfold φK
            rw [kidOf_ins h.ok hok, if_neg (fun hh => e3 hh.2)]
        · refine ((h.ins a ha).chg hc (by
            have := h.gm a ha
            have h2 : g a ≠ g y.dir := fun e3 => e2 (h.ginj _ _ ha hd e3)
            simp; exact ⟨this, h2⟩)).congr (by rw [kids_ins, if_neg (fun hh => e2 hh.symm)]; rfl) (fun s _ => ?_)
          unfold φK
          rw [kidOf_ins h.ok hok, if_neg (fun hh => e2 hh.1)]
    finj := fun a b ha hb' e => by
      rcases (has_ins a).1 ha with rfl | ha'
      · rcases (has_ins b).1 hb' with rfl | hb''
        · rfl
        · rw [if_pos rfl, hfx b hb''] at e
          have := (fcell b hb'').1; omega
      · rcases (has_ins b).1 hb' with rfl | hb''
        · rw [hfx a ha', if_pos rfl] at e
          have := (fcell a ha').1; omega
        · rw [hfx a ha', hfx b hb''] at e
          exact h.finj a b ha' hb'' e
    ginj := fun a b ha hb' e => by
      by_cases ea : a = y.ino
      · by_cases eb : b = y.ino
        · rw [ea, eb]
        · rw [hdT b eb] at hb'
          rw [if_pos ea, if_neg eb] at e
          have := hglt b hb'; omega
      · rw [hdT a ea] at ha
        by_cases eb : b = y.ino
        · rw [if_neg ea, if_pos eb] at e
          have := hglt a ha; omega
        · rw [hdT b eb] at hb'
          rw [if_neg ea, if_neg eb] at e
          exact h.ginj a b ha hb' e
    gm := fun a ha => by
      by_cases ea : a = y.ino
      · rw [if_pos ea]
        have := h.things.lt; omega
      · rw [hdT a ea] at ha
        rw [if_neg ea]; exact h.gm a ha
    mem := by
      refine ⟨List.mem_append_left _ h.mem.1, List.mem_append_left _ h.mem.2.1, fun a ha => ?_, fun a ha => ?_⟩
      · rcases (has_ins a).1 ha with rfl | ha'
        · rw [if_pos rfl]; simp
        · rw [hfx a ha']; exact List.mem_append_left _ (h.mem.2.2.1 a ha')
      · by_cases ea : a = y.ino
        · rw [if_pos ea]; simp
        · rw [hdT a ea] at ha
          rw [if_neg ea]; exact List.mem_append_left _ (h.mem.2.2.2 a ha)
    lim := fun x hx => by
      rcases List.mem_append.1 hx with hx | hx
      · exact Nat.lt_of_lt_of_le (h.lim x hx) hc.size
      · simp at hx
        rcases hx with rfl | rfl
        · exact hpl
        · exact hgl
    ok := hok }

def NewPost (w : World) (e : Ending) (w' : World) : Prop := ∃ t S, e = .returned (pth t) ∧ TreeAt w' t S [] ∧ (∀ x ∈ S, w.heap.size ≤ x) ∧ Chg [] w w'
set_option maxHeartbeats 4000000 in
set_option maxRecDepth 100000 in
theorem tnew_any (w : World) : Calls Try.prog 18 #[] w (NewPost w) := by
  have hmm := @run_makeMap Try.prog
  go_enter Try.func18, Try.ntmps18
  go_wp2_with fail
  refine (tdirectory_any 0 ByteArray.empty _).mono ?_
  rintro e w1 ⟨rfl, h1⟩
  have hs1 : w1.heap.size = w.heap.size + 3 := by rw [h1]; simp
  have HM : Hid (MapF 3 klI okI w1 w.heap.size (fun _ => none) 0) := Lib.hid (by
    rw [h1]
    exact (MapF.made w).chg (((Chg.refl [] _).alloc _).alloc _) (by simp))
  have HG : Hid (MapF 9 klS okS w1 (w.heap.size + 1) (fun _ => none) 0) := Lib.hid (by
    rw [h1]
    have h := (MapF.made (k := 9) (kl := klS) (ok := okS) (w.alloc (.map #[] 0))).chg ((Chg.refl [] _).alloc (.cells #[.int .i64 0, .string ByteArray.empty, .bool true, .map (some (w.alloc (.map #[] 0)).heap.size)] 79)) (by simp)
    simpa using h)
  have HB : Hid (w1.heap[w.heap.size + 2]? = some (.cells (thCells rootTh (some (w.heap.size + 1))) 79 (0, 0))) := Lib.hid (by
    rw [h1]
    have h := (MapKept.heap_alloc ((w.alloc (.map #[] 0)).alloc (.map #[] 0)) (.cells #[.int .i64 0, .string ByteArray.empty, .bool true, .map (some (w.alloc (.map #[] 0)).heap.size)] 79)).1
    have e : ((w.alloc (.map #[] 0)).alloc (.map #[] 0)).heap.size = w.heap.size + 2 := by simp
    rw [e] at h
    have e2 : (w.alloc (.map #[] 0)).heap.size = w.heap.size + 1 := by simp
    rw [e2] at h ⊢
    exact h)
  have HC : Hid (Chg [] w w1) := Lib.hid (by
    rw [h1]
    exact (((Chg.refl [] w).alloc _).alloc _).alloc _)
  have HS := Lib.hid hs1
  clear h1 hs1
  have e1 : pth ((w.alloc (.map #[] 0)).heap.size + 1) = pth (w.heap.size + 2) := by simp
  rw [e1]
  clear e1
  go_wp2_with (refine wpList_upd keInt _ rfl _ _ _ _ (.inr rfl) 68 Try.underlying70 w.heap.size 0 _ rfl HM.out (by unfold maxLen; omega) 1 rfl (okI_small (a := 1) (by omega)) (pth (w.heap.size + 2)) rfl ?_; intro w2 hm2 hc2 hs2; have HW2 := Lib.hid hs2; clear hs2)
  have HF : Hid (TreeAt (w2.alloc (.cells #[.map (some w.heap.size)] 72)) w2.heap.size [w.heap.size, w.heap.size + 1, w.heap.size + 2, w2.heap.size] []) := Lib.hid (by
    have hsz : w2.heap.size = w.heap.size + 3 := by rw [HW2.out, HS.out]
    have hc3 := hc2.alloc (.cells #[.map (some w.heap.size)] 72)
    have hone : ∀ a, tHas [] a = true ↔ a = 1 := fun a => by unfold tHas tGet; simp
    have hone2 : ∀ a, tIsDir [] a = true ↔ a = 1 := fun a => by unfold tIsDir tGet; simp
    refine ⟨w.heap.size, fun _ => w.heap.size + 2, fun _ => w.heap.size + 1, ?_⟩
    exact {
      head := (MapKept.heap_alloc _ _).1
      things := ((hm2.chg ((Chg.refl [] _).alloc _) (by simp)).congr rfl (fun x hx => by
        by_cases e : x = 1
        · subst e; rw [updF_self]; rfl
        · rw [updF_other _ _ e]
          unfold φT
          rw [if_neg (fun hh => e (by have := (hone _).1 hh.2; omega))]))
      each := fun a ha => by
        obtain rfl := (hone a).1 ha
        exact hc3.keep HB.out (by simp)
      ins := fun a ha => by
        obtain rfl := (hone2 a).1 ha
        exact (HG.out.chg hc3 (by simp)).congr rfl (fun s _ => rfl)
      finj := fun a b ha hb _ => by rw [(hone a).1 ha, (hone b).1 hb]
      ginj := fun a b ha hb _ => by rw [(hone2 a).1 ha, (hone2 b).1 hb]
      gm := fun a ha => by omega
      mem := ⟨by simp, by simp, fun _ _ => by simp, fun _ _ => by simp⟩
      lim := fun x hx => by simp at hx ⊢; omega
      ok := TOk.nil })
  have HC2 : Hid (Chg [] w (w2.alloc (.cells #[.map (some w.heap.size)] 72))) := Lib.hid (((HC.out.trans hc2 (by simp))).alloc _)
  have HS2 : Hid (w2.heap.size = w.heap.size + 3) := Lib.hid (by rw [HW2.out, HS.out])
  clear hm2 hc2
  go_wp2
  go_ret
  exact ⟨_, _, rfl, HF.out, fun x hx => by have := HS2.out; simp at hx; omega, HC2.out⟩
end Go.Proofs.Ytaophafailmhjaa.W
