/- Package tree: Inos. -/
import Derived.Test.YtaiihklfeoeoeaaT2
import Derived.Sort.OwnSortedInts
import Derived.Sort.OwnSorted
namespace Go.Proofs.Ytaiihklfeoeoeaa.W
open Go.RowKit
open Go.Proofs.Ytaiihklfeoeoeaa.NM
set_option linter.unusedVariables false
set_option linter.unusedSimpArgs false

def inosL (T : PT) : List Int := 1 :: T.map (fun x => (x.ino : Int))
theorem inosL_len (T : PT) : (inosL T).length = T.length + 1 := by simp [inosL]
theorem inosL_rise {T : PT} (h : TOk T) : (inosL T).Pairwise (· < ·) := by
  unfold inosL
  refine List.pairwise_cons.2 ⟨fun a ha => ?_, ?_⟩
  · obtain ⟨x, hx, rfl⟩ := List.mem_map.1 ha
    have := (h.nums x hx).1; omega
  · rw [List.pairwise_map]
    exact h.rise.imp fun {a b} hab => by omega
theorem inosL_mem {T : PT} (k : Int) : k ∈ inosL T ↔ 0 ≤ k ∧ tHas T k.toNat = true := by
  unfold inosL
  rw [List.mem_cons, List.mem_map]
  constructor
  · rintro (rfl | ⟨x, hx, rfl⟩)
    · exact ⟨by omega, rfl⟩
    · exact ⟨by omega, has_iff.2 (.inr ⟨x, hx, by simp⟩)⟩
  · rintro ⟨h0, h⟩
    rcases has_iff.1 h with h1 | ⟨x, hx, h1⟩
    · left; omega
    · right; exact ⟨x, hx, by omega⟩
theorem φT_some {T : PT} {f : Nat → Nat} (k : Int) : (φT T f k).isSome = true ↔ k ∈ inosL T := by
  rw [inosL_mem]
  unfold φT
  by_cases h : 0 ≤ k ∧ tHas T k.toNat = true
  · rw [if_pos h]; simp [h]
  · rw [if_neg h]; exact ⟨(fun hh => by cases hh), (fun hh => absurd hh h)⟩
/-- What was met, sorted. -/
theorem sorted_inos {T : PT} (h : TOk T) {ks : List Int} (hn : ks.Nodup) (hm : ∀ k, k ∈ ks ↔ k ∈ inosL T) : ks.mergeSort (fun x y => decide (x ≤ y)) = inosL T := by
  have hr := inosL_rise h
  have hp : ks.Perm (inosL T) := (List.perm_ext_iff_of_nodup hn (hr.imp fun {a b} hab => by omega)).2 hm
  refine List.Perm.eq_of_pairwise (le := fun x y : Int => x ≤ y) ?_ ?_ (hr.imp fun {a b} hab => by omega) ((List.mergeSort_perm _ _).trans hp)
  · intro a b _ _ h1 h2; omega
  · have := List.pairwise_mergeSort (le := fun x y : Int => decide (x ≤ y)) (fun a b c h1 h2 => by simp at *; omega) (fun a b => by simp; omega) ks
    exact this.imp fun {a b} hab => by simpa using hab

def InosPost (w : World) (l : List Int) (e : Ending) (w' : World) : Prop := ∃ v, e = .returned v ∧ w'.ownsRow w.heap.size 3 1 v l.length (l.map (Value.int .i64)) ∧ Chg [] w w'
theorem elInts : El Try.prog 31 3 (.int .i64 0) 1 8 := El.mk Try.underlying31 (by kernel_rfl) rfl (by decide)

set_option maxHeartbeats 4000000 in
set_option maxRecDepth 100000 in
theorem tinos_any (t : Nat) (S : List Nat) (T : PT) (w : World) (h : TreeAt w t S T) : Calls Try.prog 12 #[.pointer (some ⟨t, 0, none⟩)] w (InosPost w (inosL T)) := by
  have hok := Lib.hid h.ok
  have hlim := Lib.hid h.lim
  have hlen : T.length ≤ 127 := by
    have h1 := least_le T 2
    have h2 := h.ok.nums
    have h3 := h.ok.rise
    have : ∀ (U : PT) (n : Nat), U.Pairwise (fun x y => x.ino < y.ino) → (∀ x ∈ U, n ≤ x.ino ∧ x.ino ≤ 128) → U = [] ∨ n + U.length ≤ 129 := by
      intro U
      induction U with
      | nil => intro n _ _; exact .inl rfl
      | cons y r ih =>
        intro n hp hm
        right
        have hp' := List.pairwise_cons.1 hp
        have hy := hm y (List.mem_cons_self ..)
        rcases ih (n + 1) hp'.2 (fun x hx => ⟨by have := hp'.1 x hx; omega, (hm x (List.mem_cons_of_mem _ hx)).2⟩) with h4 | h4
        · subst h4; simp; omega
        · simp; omega
    rcases this T 2 h3 h2 with h4 | h4
    · rw [h4]; simp
    · omega
  have H := Lib.hid h
  obtain ⟨bm, f, g, HT⟩ := h
  have c0 := blk_cell HT.head 0 _ rfl
  have hbl := HT.things.lt
  have htl := blk_lt HT.head
  have HM := Lib.hid HT.things
  have htb : t ≠ bm := ne_map HT.things (blk_cell HT.head 0 _ rfl)
  clear HT
  go_enter Try.func12, Try.ntmps12
  go_wp2_with fail
  refine (tmade_any t S T w H.out).mono ?_
  rintro e w' ⟨rfl, rfl⟩
  go_wp2_with (refine wpList_rng keInt _ rfl _ _ rfl 59 Try.underlying61 bm (T.length + 1) (φT T f) rfl HM.out ?_; intro w1 hr1 hc1 hs1; have HR1 := Lib.hid (And.intro hr1 (And.intro hc1 hs1)); clear hr1 hc1 hs1)
  go_frame
  go_loopg [3] (T.length + 1) (fun gh v3 wr => ∃ (v : Value) (ks : List Int) (left : Int → Bool) (cnt : Nat), v = v3 ∧ cnt ≤ gh ∧ ks.length + cnt ≤ T.length + 1 ∧ wr.ownsRow w.heap.size 3 1 v ks.length (ks.map (Value.int .i64)) ∧ Hid (Rng 3 klI okI wr bm w.heap.size (φT T f) (T.length + 1) left cnt) ∧
    Hid (ks.Nodup ∧ ∀ k, okI k → (k ∈ ks ↔ k ∈ inosL T ∧ left k = false)) ∧ Hid (∀ k ∈ ks, okI k) ∧ Hid (Chg [] w wr))
  case atStart =>
    refine ⟨_, [], _, _, rfl, Nat.le_refl _, by simp, World.ownsRow_nil _ _ _ _, Lib.hid HR1.out.1, Lib.hid ⟨List.nodup_nil, fun k hk => ?_⟩, Lib.hid (by simp), Lib.hid HR1.out.2.1⟩
    constructor
    · intro h; cases h
    · rintro ⟨h1, h2⟩
      rw [(φT_some (f := f) k).2 h1] at h2; cases h2
  case round =>
    obtain ⟨v3, ks, left, cnt, rfl, hcg, hkc, hown, HR, HK, HO, HC⟩ := hrel
    have hrne : some w.heap.size ≠ v3.ownBlock := by
      obtain ⟨D, lf, hr, _⟩ := HR.out
      exact row_ne_iter hown hr
    have HOWN := Lib.hid hown
    clear hown
    go_wp2_with (refine wpList_nxtI _ rfl _ rfl bm w.heap.size (T.length + 1) (φT T f) left cnt rfl HR.out ?_ ?_)
    · intro hc0 hl0
      have HALL : Hid (∀ k, k ∈ ks ↔ k ∈ inosL T) := Lib.hid (fun k => by
        constructor
        · intro hk
          exact ((HK.out.2 k (HO.out k hk)).1 hk).1
        · intro hk
          have hki : okI k := by
            rw [inosL_mem] at hk
            have := has_small hok.out hk.2
            exact i64_ok (by omega) (by omega)
          exact (HK.out.2 k hki).2 ⟨hk, hl0 k hki⟩)
      have HS : Hid (ks.mergeSort (fun x y => decide (x ≤ y)) = inosL T) := Lib.hid (sorted_inos hok.out HK.out.1 HALL.out)
      have HL : Hid (ks.length = T.length + 1) := Lib.hid (by
        have := congrArg List.length HS.out
        rw [List.length_mergeSort, inosL_len] at this; exact this)
      clear hc0 hl0
      obtain ⟨hl, hrow⟩ := HOWN.out
      rcases hrow with ⟨rfl, h0⟩ | ⟨gb, cap, cur, rfl, hbg, hgb, hnc, hcm, hcs, htake⟩
      · have := HL.out; omega
      · have hH := holds_of_blockI (ss := ks) hgb (by rw [Nat.mul_one] at htake; exact htake)
        have hlt := blk_lt hgb
        have HH := Lib.hid (And.intro hH (And.intro hgb (And.intro hnc (And.intro hcm hcs))))
        have hbase := hbg
        clear hl hH hgb hnc hcm hcs htake hbg hrne
        go_wp2_with fail
        refine (Try.slices_Sort_int gb 0 cap ks wr HH.out.1 hlt (by omega)).mono ?_
        rintro e w2 ⟨rfl, n, os, hw2⟩
        have HF : Hid (w2.ownsRow w.heap.size 3 1 (.slice (some ⟨gb, 0, none⟩) ks.length cap) ks.length ((inosL T).map (Value.int .i64)) ∧ Chg [] w w2) := Lib.hid (by
          rw [hw2, HS.out]
          refine ⟨ownsRow_sortedI (by rw [inosL_len, HL.out]) hbase HH.out.2.1 HH.out.2.2.1 HH.out.2.2.2.1 HH.out.2.2.2.2, ?_⟩
          exact (HC.out.grown (grownBy_sortedI _) (fun k hk => by cases hk; exact .inr hbase)))
        clear hw2
        go_wp2
        go_ret
        refine ⟨_, rfl, ?_, HF.out.2⟩
        have := HF.out.1
        rw [HL.out] at this
        rw [inosL_len, HL.out]
        exact this
    · intro x v w2 cnt2 hox hlx hvx hr2 hlt hc2 hs2 hen
      have HX : Hid (x ∈ inosL T ∧ x ∉ ks ∧ okI x) := Lib.hid (by
        have h1 := (φT_some (f := f) x).1 (by rw [hvx]; rfl)
        refine ⟨h1, fun hk => ?_, hox⟩
        have := ((HK.out.2 x hox).1 hk).2
        rw [hlx] at this; cases this)
      have HW2 := Lib.hid (And.intro hr2 (And.intro hc2 hs2))
      have hown2 := row_keep HOWN.out (w' := w2) (fun gq hq => hc2.block gq (World.ownsRow.lt HOWN.out gq hq).2 (by
        simp
        rintro rfl
        exact hrne hq.symm))
      have hbase : w.heap.size ≤ w2.heap.size := by
        have := HC.out.size
        rw [hs2]; omega
      clear hox hlx hvx hr2 hc2 hs2
      go_wp2_with (at_builtin; refine wpList_app1 rfl _ _ _ rfl w.heap.size elInts _ _ _ rfl hown2 _ #[.int .i64 x] rfl rfl (one1 rfl) (by unfold maxLen; omega) (by omega) hbase ?_; intro v4 w4 hown4 hg4)
      have HEND : Hid (Rng 3 klI okI w4 bm w.heap.size (φT T f) (T.length + 1) (fun y => !decide (y = x) && left y) cnt2 ∧ Chg [] w w4) := Lib.hid (by
        have hc24 : Chg (match v3.ownBlock with | some k => [k] | none => []) w2 w4 := by
          exact (Chg.refl (match v3.ownBlock with | some k => [k] | none => []) w2).grown hg4 (fun k hk => by
            have hk' : v3.ownBlock = some k := hk
            rw [hk']; exact .inl (by simp))
        have hrb : ∀ k, v3.ownBlock = some k → w.heap.size ≤ k ∧ k ≠ w.heap.size := fun k hk => ⟨(World.ownsRow.lt HOWN.out k hk).1, fun e => hrne (by rw [hk, e])⟩
        refine ⟨HW2.out.1.kept hc24 ?_ ?_, (HC.out.trans HW2.out.2.1 (fun z hz => ?_)).trans hc24 (fun z hz => ?_)⟩
        · cases hv : v3.ownBlock with
          | none => simp
          | some k => have := hrb k hv; simp; omega
        · cases hv : v3.ownBlock with
          | none => simp
          | some k => have := hrb k hv; simp; omega
        · simp at hz; right; omega
        · cases hv : v3.ownBlock with
          | none => rw [hv] at hz; simp at hz
          | some k => rw [hv] at hz; simp at hz; have := hrb k hv; right; omega)
      clear hg4
      go_roundg cnt2
      case measure => omega
      case rel =>
        refine ⟨_, ks ++ [x], _, cnt2, rfl, Nat.le_refl _, by simp; omega, by simpa using hown4, Lib.hid HEND.out.1, Lib.hid ⟨?_, fun k hk => ?_⟩, Lib.hid (fun k hk => ?_), Lib.hid HEND.out.2⟩
        · refine List.nodup_append.2 ⟨HK.out.1, by simp, fun a ha b hb => ?_⟩
          simp at hb
          rintro rfl
          subst hb
          exact HX.out.2.1 ha
        · rw [List.mem_append, HK.out.2 k hk]
          by_cases e : k = x
          · subst e; simp [HX.out.1]
          · simp [e]
        · rcases List.mem_append.1 hk with hk | hk
          · exact HO.out k hk
          · simp at hk; subst hk; exact HX.out.2.2
end Go.Proofs.Ytaiihklfeoeoeaa.W
