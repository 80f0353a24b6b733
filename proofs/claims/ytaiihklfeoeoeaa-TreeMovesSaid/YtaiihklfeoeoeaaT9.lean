/- Package tree: List. -/
import Derived.Test.YtaiihklfeoeoeaaT8
import Derived.Test.YtaiihklfeoeoeaaSortK
import Derived.Test.YtaiihklfeoeoeaaShelf
namespace Go.Proofs.Ytaiihklfeoeoeaa.W
open Go.RowKit
open Go.Proofs.Ytaiihklfeoeoeaa.NM
set_option linter.unusedVariables false
set_option linter.unusedSimpArgs false

abbrev Ent := List UInt8 × Nat × Bool
def entC (x : Ent) : List Value := [.string ⟨x.1.toArray⟩, .int .i64 (x.2.1 : Int), .bool x.2.2]
def entOf (T : PT) (a : Nat) (s : List UInt8) : Ent := (s, tKid T a s, tIsDir T (tKid T a s))
def namesOf (T : PT) (a : Nat) : List (List UInt8) := ((T.filter (fun x => x.dir == a)).map (fun x => x.name)).mergeSort (fun x y => decide (x ≤ y))
def entsOf (T : PT) (a : Nat) : List Ent := (namesOf T a).map (entOf T a)
def tList (T : PT) (p : List UInt8) : List Ent × Int :=
  if (tLook T p).2.2 ≠ 0 then ([], (tLook T p).2.2) else if (tLook T p).2.1 = false then ([], 10) else (entsOf T (tLook T p).1, 0)
def ListPost (w : World) (r : List Ent × Int) (e : Ending) (w' : World) : Prop := ∃ v, e = .returned (.tuple #[v, .int .i64 r.2]) ∧ w'.ownsRow w.heap.size 39 3 v r.1.length (r.1.flatMap entC) ∧ Chg [] w w'

theorem kid_names {T : PT} {a : Nat} (s : List UInt8) : (φK T a s).isSome = true ↔ s ∈ (T.filter (fun x => x.dir == a)).map (fun x => x.name) := by
  unfold φK
  rw [List.mem_map]
  constructor
  · intro h
    cases hg : tKidOf T a s with
    | none => rw [hg] at h; cases h
    | some x =>
      obtain ⟨h1, h2, h3⟩ := kidOf_some hg
      exact ⟨x, List.mem_filter.2 ⟨h1, by simpa using h2⟩, h3⟩
  · rintro ⟨x, hx, rfl⟩
    obtain ⟨h1, h2⟩ := List.mem_filter.1 hx
    cases hg : tKidOf T a x.name with
    | none => exact absurd ⟨by simpa using h2, rfl⟩ (kidOf_none hg x h1)
    | some y => rfl
theorem names_nodup {T : PT} (h : TOk T) (a : Nat) : ((T.filter (fun x => x.dir == a)).map (fun x => x.name)).Nodup := by
  unfold List.Nodup
  rw [List.pairwise_map]
  refine List.Pairwise.imp_of_mem ?_ (h.apart.filter (fun x => x.dir == a))
  intro x y hx hy hxy e
  have h1 := (List.mem_filter.1 hx).2
  have h2 := (List.mem_filter.1 hy).2
  exact hxy ⟨by simp at h1 h2; omega, e⟩
theorem leB_trans (a b c : List UInt8) (h1 : decide (a ≤ b) = true) (h2 : decide (b ≤ c) = true) : decide (a ≤ c) = true := by
  rw [decide_eq_true_eq] at *; exact List.le_trans h1 h2
theorem leB_total (a b : List UInt8) : (decide (a ≤ b) || decide (b ≤ a)) = true := by
  rcases List.le_total a b with h | h <;> simp [h]
/-- What was met, sorted. -/
theorem sorted_names {T : PT} (h : TOk T) {a : Nat} {ss : List (List UInt8)} (hn : ss.Nodup) (hm : ∀ s, s ∈ ss ↔ (φK T a s).isSome = true) : ss.mergeSort (fun x y => decide (x ≤ y)) = namesOf T a := by
  have hp : ss.Perm ((T.filter (fun x => x.dir == a)).map (fun x => x.name)) := (List.perm_ext_iff_of_nodup hn (names_nodup h a)).2 (fun s => (hm s).trans (kid_names s))
  have hs : ∀ l : List (List UInt8), (l.mergeSort (fun x y => decide (x ≤ y))).Pairwise (fun x y => x ≤ y) := fun l =>
    (List.pairwise_mergeSort (le := fun x y : List UInt8 => decide (x ≤ y)) leB_trans leB_total l).imp fun {a b} hab => by simpa using hab
  exact List.Perm.eq_of_pairwise (le := fun x y : List UInt8 => x ≤ y) (fun a b _ _ h1 h2 => List.le_antisymm h1 h2) (hs _) (hs _) ((List.mergeSort_perm _ _).trans (hp.trans (List.mergeSort_perm _ _).symm))

theorem elEntries : El Try.prog 35 39 (.agg #[.string ByteArray.empty, .int .i64 0, .bool false]) 3 32 := El.mk Try.underlying35 (by kernel_rfl) rfl (by decide)
def entE (T : PT) (a : Nat) (s : List UInt8) : List Value := entC (entOf T a s)
theorem entE_len (T : PT) (a : Nat) (s : List UInt8) : (entE T a s).length = 3 := rfl
theorem entE_one (T : PT) (a : Nat) (s : List UInt8) : ∀ v ∈ entE T a s, v.oneCell' = true := by
  intro v hv
  simp [entE, entC] at hv
  rcases hv with rfl | rfl | rfl <;> rfl

set_option maxHeartbeats 2000000 in
set_option maxRecDepth 100000 in
theorem closureE (x y : List UInt8) (i j : Int) (b c : Bool) (W : World) : Calls Try.prog 32 #[.agg #[.string ⟨x.toArray⟩, .int .i64 i, .bool b], .agg #[.string ⟨y.toArray⟩, .int .i64 j, .bool c]] W fun e w' =>
    e = .returned (.int .i64 (Lib.compareBytes x y)) ∧ ∃ q os', w' = Go.Sort.grow (W.drewN q) os' := by
  have hcon := fun W' => Try.strings_Compare ⟨x.toArray⟩ ⟨y.toArray⟩ W'
  have HC : Hid (∀ W', Calls Try.prog 33 #[.string ⟨x.toArray⟩, .string ⟨y.toArray⟩] W' fun e w' => e = .returned (.int .i64 (Lib.compareBytes x y)) ∧ w' = W') := Lib.hid hcon
  clear hcon
  generalize Lib.compareBytes x y = r at HC ⊢
  go_enter Try.func32, Try.ntmps32
  go_wp2_with fail
  refine (HC.out _).mono ?_
  rintro e w' ⟨rfl, rfl⟩
  go_wp2
  go_ret
  exact ⟨rfl, 0, _, by rw [Go.Sort.alloc_eq_grow, Go.Sort.alloc_eq_grow, Go.Sort.grow_grow]; rfl⟩
theorem cmpLaysE (T : PT) (a : Nat) (blk off size : Nat) (w : World) : CmpLays Try.prog 32 #[] (entE T a) 3 Lib.compareBytes blk off size w :=
  fun _ _ _ _ x y => closureE x y _ _ _ _ _
theorem kids_le' (T : PT) (a : Nat) : nKids T a ≤ T.length := List.length_filter_le _ _
theorem look_okL {T : PT} {p : List UInt8} (h : (tLook T p).2.2 = 0) : tHas T (tLook T p).1 = true ∧ (tLook T p).2.1 = tIsDir T (tLook T p).1 := by
  unfold tLook at h ⊢
  cases hs : splitB p with
  | none => rw [hs] at h; cases h
  | some l =>
    rw [hs] at h
    simp only at h ⊢
    by_cases h1 : (tWalk T l 1).2 ≠ 0
    · rw [if_pos h1] at h; exact absurd h h1
    · rw [if_neg h1]
      exact ⟨walk_has l 1 rfl (by simpa using h1), rfl⟩
/-- The sort, at a row of entries of the call's own. -/
theorem sortE_any {w : World} {base : Nat} {v : Value} {T : PT} {a : Nat} {ss : List (List UInt8)} (hown : w.ownsRow base 39 3 v ss.length (ss.flatMap (entE T a))) (hl : ss.length ≤ 1000000) :
    Calls Try.prog 31 #[v, .func (.func 32) #[] #[]] w fun e w' => e = .returned (.tuple #[]) ∧ w'.ownsRow base 39 3 v ss.length ((ss.mergeSort (fun x y => decide (x ≤ y))).flatMap (entE T a)) ∧ ∀ S : List Nat, (∀ k, v.ownBlock = some k → k ∈ S) → Chg S w w' := by
  obtain ⟨hlen, hrow⟩ := hown
  rcases hrow with ⟨rfl, h0⟩ | ⟨gb, cap, cur, rfl, hbg, hgb, hnc, hcm, hcs, htake⟩
  · have hnil : ss = [] := List.eq_nil_of_length_eq_zero h0
    subst hnil
    have hS := AnyF.slices_SortFunc_none (P := Try.prog) (ρ := Try.laysSortE_ren) { Try.laysSortE with } none 0 (.func (.func 32) #[] #[]) w
    change Calls Try.prog 31 _ _ _ at hS
    refine hS.mono fun e w' ⟨h1, h2⟩ => ⟨h1, ?_, ?_⟩
    · rw [h2]; simpa using World.ownsRow_nil w base 39 3
    · rw [h2]; exact fun S _ => Chg.refl _ _
  · have hH := holds_row (entE T a) (entE_len T a) hgb htake
    have eg : ∀ args w, (callFunc 32 args).run Try.prog w = .ok (.enter 32 args) w := enters_of Try.func32 (by kernel_rfl) rfl
    have hS := AnyQ.slices_SortFunc_total Try.laysSortE 3 Try.isAgg39 Try.sizeOf39 (entE T a) (entE_len T a) (entE_one T a) Lib.compareBytes swoB 32 #[] gb 0 cap ss.toArray w eg (cmpLaysE T a gb 0 _ w) hH (blk_lt hgb) (by simp; omega) totB
    rw [leB] at hS
    change Calls Try.prog 31 _ _ _ at hS
    have hsz : ss.toArray.size = ss.length := by simp
    rw [hsz] at hS
    refine hS.mono fun e w' ⟨h1, n, os, h2⟩ => ⟨h1, ?_, fun S hS => ?_⟩
    · rw [h2]
      exact ownsRow_sortedK (entE T a) (entE_len T a) (by rw [List.length_mergeSort]) hbg hgb hnc hcm hcs
    · rw [h2]
      exact (chg_sortedK _ _ _).mono (fun x hx => .inl (by rw [List.mem_singleton.1 hx]; exact hS gb rfl))

set_option maxHeartbeats 8000000 in
set_option maxRecDepth 100000 in
theorem tlist_any (t : Nat) (S : List Nat) (T : PT) (s : ByteArray) (w : World) (h : TreeAt w t S T) (hs : s.size ≤ maxLen) (hTl : T.length ≤ 1000) :
    Calls Try.prog 14 #[.pointer (some ⟨t, 0, none⟩), .string s] w (ListPost w (tList T s.data.toList)) := by
  have H := Lib.hid h
  have HS := Lib.hid hs
  have hok := Lib.hid h.ok
  have hlim := Lib.hid h.lim
  clear h hs
  obtain ⟨Z, hZ⟩ : ∃ Z, tList T s.data.toList = Z := ⟨_, rfl⟩
  have HX : Hid (Z = if (tLook T s.data.toList).2.2 ≠ 0 then ([], (tLook T s.data.toList).2.2) else if (tLook T s.data.toList).2.1 = false then ([], 10) else (entsOf T (tLook T s.data.toList).1, 0)) := Lib.hid (by rw [← hZ]; rfl)
  rw [hZ]
  clear hZ
  have HP := Lib.hid (tlook_any t S T s w H.out HS.out)
  have HO : Hid ((tLook T s.data.toList).2.2 = 0 → tHas T (tLook T s.data.toList).1 = true ∧ (tLook T s.data.toList).2.1 = tIsDir T (tLook T s.data.toList).1) := Lib.hid (fun h => look_okL h)
  generalize tLook T s.data.toList = r at *
  obtain ⟨a, isd, er⟩ := r
  simp only at HX HO
  by_cases h0 : er = 0
  · subst h0
    obtain ⟨o1, o2⟩ := HO.out rfl
    have HX1 : Hid (Z = if isd = false then ([], 10) else (entsOf T a, 0)) := Lib.hid (by rw [HX.out, if_neg (by simp)])
    have HA := Lib.hid o1
    have HD := Lib.hid o2
    have has := has_small hok.out o1
    clear o1 o2 HX HO
    cases isd with
    | false =>
      have HE : Hid (Z = ([], 10)) := Lib.hid (by rw [HX1.out, if_pos rfl])
      go_enter Try.func14, Try.ntmps14
      go_wp2_with fail
      refine HP.out.mono ?_
      rintro e w1 ⟨rfl, hb⟩
      have HB := Lib.hid hb
      clear hb
      go_wp2
      go_ret2
      rw [HE.out]
      exact ⟨_, rfl, World.ownsRow_nil _ _ _ _, HB.out⟩
    | true =>
      have HE : Hid (Z = (entsOf T a, 0)) := Lib.hid (by rw [HX1.out, if_neg (by simp)])
      have hd : tIsDir T a = true := HD.out.symm
      have HD2 := Lib.hid hd
      have hkl : nKids T a ≤ 1000 := Nat.le_trans (kids_le' T a) hTl
      clear hd HX1 HD
      go_enter Try.func14, Try.ntmps14
      go_wp2_with fail
      refine HP.out.mono ?_
      rintro e w1 ⟨rfl, hb⟩
      have HB := Lib.hid hb
      obtain ⟨bm, f, g, HT⟩ := H.out.keep0 hb
      have c0 := blk_cell HT.head 0 _ rfl
      have hlk := HT.at HA.out
      have d3 := (HT.cells HA.out).2.2.2
      rw [if_pos HD2.out] at d3
      have HTT := Lib.hid HT
      have hgl := (HT.ins a HD2.out).lt
      clear hb HT
      go_wp2_with (refine wpList_rng keStr _ rfl _ _ rfl 3 Try.underlying67 (g a) (nKids T a) (φK T a) rfl (HTT.out.ins a HD2.out) ?_; intro w2 hr1 hc1 hs1; have HR1 := Lib.hid (And.intro hr1 (And.intro hc1 hs1)); clear hr1 hc1 hs1)
      go_frame
      clear hlk
      go_loopg [9] (nKids T a) (fun gh v9 wr => ∃ (v : Value) (ss : List (List UInt8)) (left : List UInt8 → Bool) (cnt : Nat), v = v9 ∧ cnt ≤ gh ∧ ss.length + cnt ≤ nKids T a ∧ wr.ownsRow w1.heap.size 39 3 v ss.length (ss.flatMap (entE T a)) ∧ Hid (Rng 9 klS okS wr (g a) w1.heap.size (φK T a) (nKids T a) left cnt) ∧
        Hid (ss.Nodup ∧ ∀ s, okS s → (s ∈ ss ↔ (φK T a s).isSome = true ∧ left s = false)) ∧ Hid (∀ s ∈ ss, okS s) ∧ Hid (Chg [] w1 wr))
      case atStart =>
        refine ⟨_, [], _, _, rfl, Nat.le_refl _, by simp, World.ownsRow_nil _ _ _ _, Lib.hid HR1.out.1, Lib.hid ⟨List.nodup_nil, fun k hk => ?_⟩, Lib.hid (by simp), Lib.hid HR1.out.2.1⟩
        constructor
        · intro h; cases h
        · rintro ⟨h1, h2⟩
          rw [h1] at h2; cases h2
      case round =>
        obtain ⟨v9, ss, left, cnt, rfl, hcg, hkc, hown, HR, HK, HO, HC⟩ := hrel
        have hrne : some w1.heap.size ≠ v9.ownBlock := by
          obtain ⟨D, lf, hr, _⟩ := HR.out
          exact row_ne_iter hown hr
        have HOWN := Lib.hid hown
        clear hown
        go_wp2_with (refine wpList_nxtS _ rfl _ rfl (g a) w1.heap.size (nKids T a) (φK T a) left cnt rfl HR.out ?_ ?_)
        · intro hc0 hl0
          have HALL : Hid (∀ k, k ∈ ss ↔ (φK T a k).isSome = true) := Lib.hid (fun k => by
            constructor
            · intro hk
              exact ((HK.out.2 k (HO.out k hk)).1 hk).1
            · intro hk
              have hki : okS k := by
                obtain ⟨x, hx, rfl⟩ := List.mem_map.1 ((kid_names k).1 hk)
                have := may_len (hok.out.may x (List.mem_filter.1 hx).1)
                unfold okS maxLen; omega
              exact (HK.out.2 k hki).2 ⟨hk, hl0 k hki⟩)
          have HS : Hid (ss.mergeSort (fun x y => decide (x ≤ y)) = namesOf T a) := Lib.hid (sorted_names hok.out HK.out.1 HALL.out)
          have HL : Hid (ss.length = (entsOf T a).length) := Lib.hid (by
            have := congrArg List.length HS.out
            rw [List.length_mergeSort] at this
            rw [this]; unfold entsOf; simp)
          clear hc0 hl0
          go_wp2_with fail
          refine (sortE_any HOWN.out (by omega)).mono ?_
          rintro e w5 ⟨rfl, hrow, hch⟩
          have HF : Hid (w5.ownsRow w.heap.size 39 3 v9 (entsOf T a).length ((entsOf T a).flatMap entC) ∧ Chg [] w w5) := Lib.hid (by
            rw [HS.out, HL.out] at hrow
            refine ⟨?_, ?_⟩
            · have e1 : (namesOf T a).flatMap (entE T a) = (entsOf T a).flatMap entC := by
                unfold entsOf
                rw [List.flatMap_map]; rfl
              rw [← e1]
              exact row_base hrow w.heap.size (fun k hk => Nat.le_trans HB.out.size (World.ownsRow.lt hrow k hk).1)
            · cases hv : v9.ownBlock with
              | none => exact (chg_tr HB.out HC.out).trans (hch [] (by rw [hv]; simp)) (by simp)
              | some k =>
                have hlt := (World.ownsRow.lt HOWN.out k hv).1
                exact (chg_tr HB.out HC.out).trans (hch [k] (by rw [hv]; simp)) (by have := HB.out.size; simp; omega))
          clear hrow hch
          go_wp2
          go_ret2
          rw [HE.out]
          exact ⟨_, rfl, HF.out⟩
        · intro x v w3 cnt2 hox hlx hvx hr2 hlt hc2 hs2 hen
          obtain ⟨y, hy, rfl⟩ : ∃ y, tKidOf T a x = some y ∧ .int .i64 (y.ino : Int) = v := by
            unfold φK at hvx
            cases hg : tKidOf T a x with
            | none => rw [hg] at hvx; cases hvx
            | some y =>
              rw [hg] at hvx
              exact ⟨y, rfl, by simpa using hvx⟩
          have HX : Hid ((φK T a x).isSome = true ∧ x ∉ ss ∧ okS x) := Lib.hid (by
            refine ⟨by rw [hvx]; rfl, fun hk => ?_, hox⟩
            have := ((HK.out.2 x hox).1 hk).2
            rw [hlx] at this; cases this)
          have hyk : tKid T a x = y.ino := by unfold tKid; rw [hy]
          have hyh : tHas T y.ino = true := has_iff.2 (.inr ⟨y, (kidOf_some hy).1, rfl⟩)
          have HT3 := Lib.hid (HTT.out.keep (HC.out.trans hc2 (fun z hz => by simp at hz; subst hz; exact .inr (Nat.le_refl _))) (by simp))
          have c03 := blk_cell HT3.out.head 0 _ rfl
          have hlk3 := HT3.out.at hyh
          have y2 := (HT3.out.cells hyh).2.2.1
          have HENC : Hid (entE T a x = [.string ⟨x.toArray⟩, .int .i64 (y.ino : Int), .bool (tIsDir T y.ino)]) := Lib.hid (by unfold entE entC entOf; rw [hyk])
          have HW2 := Lib.hid (And.intro hr2 (And.intro hc2 hs2))
          have hown2 := row_keep HOWN.out (w' := w3) (fun gq hq => hc2.block gq (World.ownsRow.lt HOWN.out gq hq).2 (by
            simp
            rintro rfl
            exact hrne hq.symm))
          have hbase : w1.heap.size ≤ w3.heap.size := by
            have h1 := HC.out.size
            rw [hs2]; omega
          clear hox hlx hvx hr2 hc2 hs2 hy hyk hyh c0 d3
          generalize tIsDir T y.ino = yd at *
          go_wp2_with (at_builtin; refine wpList_app1 rfl _ _ _ rfl w1.heap.size elEntries _ _ _ rfl hown2 _ #[.string ⟨x.toArray⟩, .int .i64 (y.ino : Int), .bool yd] rfl rfl (by intro u hu; simp at hu; rcases hu with rfl | rfl | rfl <;> rfl) (by unfold maxLen; omega) (by omega) hbase ?_; intro v4 w4 hown4 hg4)
          have HEND : Hid (Rng 9 klS okS w4 (g a) w1.heap.size (φK T a) (nKids T a) (fun y => !decide (y = x) && left y) cnt2 ∧ Chg [] w1 w4) := Lib.hid (by
            have hc24 : Chg (match v9.ownBlock with | some k => [k] | none => []) w3 w4 := by
              exact (Chg.refl (match v9.ownBlock with | some k => [k] | none => []) w3).grown hg4 (fun k hk => by
                have hk' : v9.ownBlock = some k := hk
                rw [hk']; exact .inl (by simp))
            have hrb : ∀ k, v9.ownBlock = some k → w1.heap.size ≤ k ∧ k ≠ w1.heap.size := fun k hk => ⟨(World.ownsRow.lt HOWN.out k hk).1, fun e => hrne (by rw [hk, e])⟩
            refine ⟨HW2.out.1.kept hc24 ?_ ?_, (HC.out.trans HW2.out.2.1 (fun z hz => ?_)).trans hc24 (fun z hz => ?_)⟩
            · cases hv : v9.ownBlock with
              | none => simp
              | some k => have := hrb k hv; simp; omega
            · cases hv : v9.ownBlock with
              | none => simp
              | some k => have := hrb k hv; simp; omega
            · simp at hz; right; omega
            · cases hv : v9.ownBlock with
              | none => rw [hv] at hz; simp at hz
              | some k => rw [hv] at hz; simp at hz; have := hrb k hv; right; omega)
          clear hg4
          go_roundg cnt2
          case measure => omega
          case rel =>
            refine ⟨_, ss ++ [x], _, cnt2, rfl, Nat.le_refl _, by simp; omega, ?_, Lib.hid HEND.out.1, Lib.hid ⟨?_, fun k hk => ?_⟩, Lib.hid (fun k hk => ?_), Lib.hid HEND.out.2⟩
            · rw [List.flatMap_append, List.flatMap_cons, List.flatMap_nil, List.append_nil, HENC.out, List.length_append]
              exact hown4
            · refine List.nodup_append.2 ⟨HK.out.1, by simp, fun a ha b hb => ?_⟩
              simp at hb
              rintro rfl
              subst hb
              exact HX.out.2.1 ha
            · rw [List.mem_append, HK.out.2 k hk]
              by_cases e : k = x
              · subst e; simp [HX.out.1]
              · simp [e]
            · rcases List.mem_append.1 hk with hk | hk
              · exact HO.out k hk
              · simp at hk; subst hk; exact HX.out.2.2
  · have HE : Hid (Z = ([], er)) := Lib.hid (by rw [HX.out, if_pos h0])
    have hb0 : (er != 0) = true := by simpa using h0
    clear h0 HX HO
    go_enter Try.func14, Try.ntmps14
    go_wp2_with fail
    refine HP.out.mono ?_
    rintro e w1 ⟨rfl, hb⟩
    have HB := Lib.hid hb
    clear hb
    go_wp2
    go_ret2
    rw [HE.out]
    exact ⟨_, rfl, World.ownsRow_nil _ _ _ _, HB.out⟩
end Go.Proofs.Ytaiihklfeoeoeaa.W
