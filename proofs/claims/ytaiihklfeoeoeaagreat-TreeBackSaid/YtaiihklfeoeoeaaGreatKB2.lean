/- Texts laid together. -/
import Derived.Test.YtaiihklfeoeoeaaGreatKB1
import Derived.Sort.OwnSortedInts
import Derived.Sort.OwnSorted
import Derived.Shelf.SlSortCmp.NoneTotal
import Derived.Lib.Bytealg
import Derived.Deep.Slices
import Derived.ChangeSlices
import Derived.ChangeArms
import Derived.Deep.QuietTactic
import Derived.BigQuiet
/- Package tree: New; a thing more. -/
namespace Go.Proofs.YtaiihklfeoeoeaaGreat.W
open Go.RowKit
open Go.Proofs.YtaiihklfeoeoeaaGreat.NM
set_option linter.unusedVariables false
set_option linter.unusedSimpArgs false

theorem has_ins {T : PT} {y : Th} (a : Nat) : tHas (tIns y T) a = true ↔ a = y.ino ∨ tHas T a = true := by
  rw [has_iff, has_iff]
  constructor
  · rintro (h | ⟨x, hx, rfl⟩)
    · exact .inr (.inl h)
    · rcases (mem_ins T x).1 hx with rfl | hx
      · exact .inl rfl
      · exact .inr (.inr ⟨x, hx, rfl⟩)
  · rintro (rfl | h | ⟨x, hx, rfl⟩)
    · exact .inr ⟨y, (mem_ins T y).2 (.inl rfl), rfl⟩
    · exact .inl h
    · exact .inr ⟨x, (mem_ins T x).2 (.inr hx), rfl⟩
theorem kids_ins (y : Th) (T : PT) (a : Nat) : nKids (tIns y T) a = nKids T a + if y.dir = a then 1 else 0 := by
  unfold nKids
  rw [((ins_perm y T).filter _).length_eq, List.filter_cons]
  by_cases e : y.dir = a
  · simp [e]
  · simp [e]
theorem okI_small {a : Nat} (h : a ≤ 1000) : okI (a : Int) := i64_ok (by omega) (by omega)

/-- A thing more. -/
theorem TreeOk.grow {w w' : World} {t : Nat} {S : List Nat} {T : PT} {bm : Nat} {f g : Nat → Nat} (h : TreeOk w t S T bm f g) {y : Th} (hy : ∀ x ∈ T, x.ino ≠ y.ino) (hok : TOk (tIns y T)) (hd : tIsDir T y.dir = true) (hk : tKidOf T y.dir y.name = none)
    {px gx : Nat} (hpx : w.heap.size ≤ px) (hgx : w.heap.size ≤ gx) (hpl : px < w'.heap.size) (hgl : gx < w'.heap.size)
    (hm : MapF 3 klI okI w' bm (updF (φT T f) (y.ino : Int) (pth px)) (T.length + 2)) (hg : MapF 9 klS okS w' (g y.dir) (updF (φK T y.dir) y.name (.int .i64 (y.ino : Int))) (nKids T y.dir + 1))
    (hb : w'.heap[px]? = some (.cells (thCells y (if y.isDir then some gx else none)) 94 (0, 0))) (hn : y.isDir = true → MapF 9 klS okS w' gx (fun _ => none) 0) (hc : Chg [bm, g y.dir] w w') :
    TreeAt w' t (S ++ [px, gx]) (tIns y T) := by
  have hn2 := hok.nums y ((mem_ins T y).2 (.inl rfl))
  have hne : ∀ a, tHas T a = true → a ≠ y.ino := fun a ha e => by
    subst e
    rcases has_iff.1 ha with h1 | ⟨x, hx, h1⟩
    · omega
    · exact hy x hx h1
  have hdd := dir_has hd
  have fcell : ∀ a, tHas T a = true → f a < w.heap.size ∧ f a ≠ bm ∧ f a ≠ g y.dir := fun a ha =>
    ⟨blk_lt (h.each a ha), ne_map h.things (h.cells ha).1, ne_map (h.ins _ hd) (h.cells ha).1⟩
  have hdirne : ∀ a, tIsDir T a = true → a ≠ y.ino := fun a ha => hne a (dir_has ha)
  have hfx : ∀ a, tHas T a = true → (if a = y.ino then px else f a) = f a := fun a ha => if_neg (hne a ha)
  have hgx' : ∀ a, tIsDir T a = true → (if a = y.ino then gx else g a) = g a := fun a ha => if_neg (hdirne a ha)
  have hth : ∀ a, tHas T a = true → thOf (tIns y T) a = thOf T a := fun a ha => by
    unfold thOf
    by_cases e : a = 1
    · rw [if_pos e, if_pos e]
    · rw [if_neg e, if_neg e, get_ins h.ok hy, if_neg (hne a ha)]
  have hthy : thOf (tIns y T) y.ino = y := thOf_mem hok ((mem_ins T y).2 (.inl rfl))
  have hdy : tIsDir (tIns y T) y.ino = y.isDir := by
    rw [isDir_thOf _ ((has_ins _).2 (.inl rfl)), hthy]
  have hdT : ∀ a, a ≠ y.ino → tIsDir (tIns y T) a = tIsDir T a := fun a ha => isDir_ins h.ok hy ha
  have hkT : ∀ x ∈ T, x.dir ≠ y.ino := fun x hx => hdirne _ (h.ok.dirs x hx)
  have hglt : ∀ a, tIsDir T a = true → g a < w.heap.size := fun a ha => (h.ins a ha).lt
  refine ⟨bm, fun a => if a = y.ino then px else f a, fun a => if a = y.ino then gx else g a, ?_⟩
  exact {
    head := hc.keep h.head (by
      have := ne_map h.things (blk_cell h.head 0 _ rfl)
      have h2 := ne_map (h.ins _ hd) (blk_cell h.head 0 _ rfl)
      simp at this h2 ⊢; exact ⟨this, h2⟩)
    things := hm.congr (by rw [ins_len]) (fun x hx => by
      by_cases e : x = (y.ino : Int)
      · subst e
        rw [updF_self, φT_has ((has_ins _).2 (.inl rfl)), if_pos rfl]
      · rw [updF_other _ _ e]
        unfold φT
        by_cases e0 : 0 ≤ x
        · have e1 : x.toNat ≠ y.ino := by omega
          by_cases e2 : tHas T x.toNat = true
          · rw [if_pos ⟨e0, e2⟩, if_pos ⟨e0, (has_ins _).2 (.inr e2)⟩]
            show some (pth (f x.toNat)) = some (pth (if x.toNat = y.ino then px else f x.toNat))
            rw [if_neg e1]
          · rw [if_neg (fun hh => e2 hh.2), if_neg (fun hh => by
              rcases (has_ins _).1 hh.2 with h1 | h1
              · exact e1 h1
              · exact e2 h1)]
        · rw [if_neg (fun hh => e0 hh.1), if_neg (fun hh => e0 hh.1)])
    each := fun a ha => by
      rcases (has_ins a).1 ha with rfl | ha'
      · simp only [if_pos]
        rw [hthy, hdy]; exact hb
      · have hna := hne a ha'
        simp only [if_neg hna]
        rw [hth a ha', hdT a hna]
        obtain ⟨h1, h2, h3⟩ := fcell a ha'
        exact hc.keep (h.each a ha') (by simp; exact ⟨h2, h3⟩)
    ins := fun a ha => by
      by_cases e : a = y.ino
      · subst e
        rw [hdy] at ha
        simp only [if_pos]
        have hno : ∀ x ∈ tIns y T, x.dir ≠ y.ino := fun x hx => by
          rcases (mem_ins T x).1 hx with rfl | hx
          · exact hdirne _ hd
          · exact hkT x hx
        refine (hn ha).congr ?_ (fun s _ => ?_)
        · unfold nKids
          rw [List.filter_eq_nil_iff.2 (fun x hx => by simpa using hno x hx)]; rfl
        · unfold φK
          cases hg2 : tKidOf (tIns y T) y.ino s with
          | none => rfl
          | some z => exact absurd (kidOf_some hg2).2.1 (hno z (kidOf_some hg2).1)
      · rw [hdT a e] at ha
        simp only [if_neg e]
        by_cases e2 : a = y.dir
        · subst e2
          refine hg.congr (by rw [kids_ins, if_pos rfl]) (fun s _ => ?_)
          by_cases e3 : s = y.name
          · subst e3
            rw [updF_self]; unfold φK
            rw [kidOf_ins h.ok hok, if_pos ⟨rfl, rfl⟩]; rfl
          · rw [updF_other _ _ e3]; unfold φK
            rw [kidOf_ins h.ok hok, if_neg (fun hh => e3 hh.2)]
        · refine ((h.ins a ha).chg hc (by
            have := h.gm a ha
            have h2 : g a ≠ g y.dir := fun e3 => e2 (h.ginj _ _ ha hd e3)
            simp; exact ⟨this, h2⟩)).congr (by rw [kids_ins, if_neg (fun hh => e2 hh.symm)]; rfl) (fun s _ => ?_)
          unfold φK
          rw [kidOf_ins h.ok hok, if_neg (fun hh => e2 hh.1)]
    finj := fun a b ha hb' e => by
      rcases (has_ins a).1 ha with rfl | ha'
      · rcases (has_ins b).1 hb' with rfl | hb''
        · rfl
        · rw [if_pos rfl, hfx b hb''] at e
          have := (fcell b hb'').1; omega
      · rcases (has_ins b).1 hb' with rfl | hb''
        · rw [hfx a ha', if_pos rfl] at e
          have := (fcell a ha').1; omega
        · rw [hfx a ha', hfx b hb''] at e
          exact h.finj a b ha' hb'' e
    ginj := fun a b ha hb' e => by
      by_cases ea : a = y.ino
      · by_cases eb : b = y.ino
        · rw [ea, eb]
        · rw [hdT b eb] at hb'
          rw [if_pos ea, if_neg eb] at e
          have := hglt b hb'; omega
      · rw [hdT a ea] at ha
        by_cases eb : b = y.ino
        · rw [if_neg ea, if_pos eb] at e
          have := hglt a ha; omega
        · rw [hdT b eb] at hb'
          rw [if_neg ea, if_neg eb] at e
          exact h.ginj a b ha hb' e
    gm := fun a ha => by
      by_cases ea : a = y.ino
      · rw [if_pos ea]
        have := h.things.lt; omega
      · rw [hdT a ea] at ha
        rw [if_neg ea]; exact h.gm a ha
    mem := by
      refine ⟨List.mem_append_left _ h.mem.1, List.mem_append_left _ h.mem.2.1, fun a ha => ?_, fun a ha => ?_⟩
      · rcases (has_ins a).1 ha with rfl | ha'
        · rw [if_pos rfl]; simp
        · rw [hfx a ha']; exact List.mem_append_left _ (h.mem.2.2.1 a ha')
      · by_cases ea : a = y.ino
        · rw [if_pos ea]; simp
        · rw [hdT a ea] at ha
          rw [if_neg ea]; exact List.mem_append_left _ (h.mem.2.2.2 a ha)
    lim := fun x hx => by
      rcases List.mem_append.1 hx with hx | hx
      · exact Nat.lt_of_lt_of_le (h.lim x hx) hc.size
      · simp at hx
        rcases hx with rfl | rfl
        · exact hpl
        · exact hgl
    ok := hok }

def NewPost (w : World) (e : Ending) (w' : World) : Prop := ∃ t S, e = .returned (pth t) ∧ TreeAt w' t S [] ∧ (∀ x ∈ S, w.heap.size ≤ x) ∧ Chg [] w w'
set_option maxHeartbeats 4000000 in
set_option maxRecDepth 100000 in
theorem tnew_any (w : World) : Calls Tryz.prog 7 #[] w (NewPost w) := by
  have hmm := @run_makeMap Tryz.prog
  go_enter Tryz.func7, Tryz.ntmps7
  go_wp2_with fail
  refine (tdirectory_any 0 ByteArray.empty _).mono ?_
  rintro e w1 ⟨rfl, h1⟩
  have hs1 : w1.heap.size = w.heap.size + 3 := by rw [h1]; simp
  have HM : Hid (MapF 3 klI okI w1 w.heap.size (fun _ => none) 0) := Lib.hid (by
    rw [h1]
    exact (MapF.made w).chg (((Chg.refl [] _).alloc _).alloc _) (by simp))
  have HG : Hid (MapF 9 klS okS w1 (w.heap.size + 1) (fun _ => none) 0) := Lib.hid (by
    rw [h1]
    have h := (MapF.made (k := 9) (kl := klS) (ok := okS) (w.alloc (.map #[] 0))).chg ((Chg.refl [] _).alloc (.cells #[.int .i64 0, .string ByteArray.empty, .bool true, .map (some (w.alloc (.map #[] 0)).heap.size)] 94)) (by simp)
    simpa using h)
  have HB : Hid (w1.heap[w.heap.size + 2]? = some (.cells (thCells rootTh (some (w.heap.size + 1))) 94 (0, 0))) := Lib.hid (by
    rw [h1]
    have h := (MapKept.heap_alloc ((w.alloc (.map #[] 0)).alloc (.map #[] 0)) (.cells #[.int .i64 0, .string ByteArray.empty, .bool true, .map (some (w.alloc (.map #[] 0)).heap.size)] 94)).1
    have e : ((w.alloc (.map #[] 0)).alloc (.map #[] 0)).heap.size = w.heap.size + 2 := by simp
    rw [e] at h
    have e2 : (w.alloc (.map #[] 0)).heap.size = w.heap.size + 1 := by simp
    rw [e2] at h ⊢
    exact h)
  have HC : Hid (Chg [] w w1) := Lib.hid (by
    rw [h1]
    exact (((Chg.refl [] w).alloc _).alloc _).alloc _)
  have HS := Lib.hid hs1
  clear h1 hs1
  have e1 : pth ((w.alloc (.map #[] 0)).heap.size + 1) = pth (w.heap.size + 2) := by simp
  rw [e1]
  clear e1
  go_wp2_with (refine wpList_upd keInt _ rfl _ _ _ _ (.inr rfl) 51 Tryz.underlying53 w.heap.size 0 _ rfl HM.out (by unfold maxLen; omega) 1 rfl (okI_small (a := 1) (by omega)) (pth (w.heap.size + 2)) rfl ?_; intro w2 hm2 hc2 hs2; have HW2 := Lib.hid hs2; clear hs2)
  have HF : Hid (TreeAt (w2.alloc (.cells #[.map (some w.heap.size)] 55)) w2.heap.size [w.heap.size, w.heap.size + 1, w.heap.size + 2, w2.heap.size] []) := Lib.hid (by
    have hsz : w2.heap.size = w.heap.size + 3 := by rw [HW2.out, HS.out]
    have hc3 := hc2.alloc (.cells #[.map (some w.heap.size)] 55)
    have hone : ∀ a, tHas [] a = true ↔ a = 1 := fun a => by unfold tHas tGet; simp
    have hone2 : ∀ a, tIsDir [] a = true ↔ a = 1 := fun a => by unfold tIsDir tGet; simp
    refine ⟨w.heap.size, fun _ => w.heap.size + 2, fun _ => w.heap.size + 1, ?_⟩
    exact {
      head := (MapKept.heap_alloc _ _).1
      things := ((hm2.chg ((Chg.refl [] _).alloc _) (by simp)).congr rfl (fun x hx => by
        by_cases e : x = 1
        · subst e; rw [updF_self]; rfl
        · rw [updF_other _ _ e]
          unfold φT
          rw [if_neg (fun hh => e (by have := (hone _).1 hh.2; omega))]))
      each := fun a ha => by
        obtain rfl := (hone a).1 ha
        exact hc3.keep HB.out (by simp)
      ins := fun a ha => by
        obtain rfl := (hone2 a).1 ha
        exact (HG.out.chg hc3 (by simp)).congr rfl (fun s _ => rfl)
      finj := fun a b ha hb _ => by rw [(hone a).1 ha, (hone b).1 hb]
      ginj := fun a b ha hb _ => by rw [(hone2 a).1 ha, (hone2 b).1 hb]
      gm := fun a ha => by omega
      mem := ⟨by simp, by simp, fun _ _ => by simp, fun _ _ => by simp⟩
      lim := fun x hx => by simp at hx ⊢; omega
      ok := TOk.nil })
  have HC2 : Hid (Chg [] w (w2.alloc (.cells #[.map (some w.heap.size)] 55))) := Lib.hid (((HC.out.trans hc2 (by simp))).alloc _)
  have HS2 : Hid (w2.heap.size = w.heap.size + 3) := Lib.hid (by rw [HW2.out, HS.out])
  clear hm2 hc2
  go_wp2
  go_ret
  exact ⟨_, _, rfl, HF.out, fun x hx => by have := HS2.out; simp at hx; omega, HC2.out⟩
end Go.Proofs.YtaiihklfeoeoeaaGreat.W

/- Package tree: Make. -/
namespace Go.Proofs.YtaiihklfeoeoeaaGreat.W
open Go.RowKit
open Go.Proofs.YtaiihklfeoeoeaaGreat.NM
set_option linter.unusedVariables false
set_option linter.unusedSimpArgs false

def MakePost (w : World) (t : Nat) (S : List Nat) (r : (Nat × Int) × PT) (e : Ending) (w' : World) : Prop := e = .returned (.tuple #[.int .i64 (r.1.1 : Int), .int .i64 r.1.2]) ∧ TDid w w' t S r.2
theorem place_ok {T : PT} {p : List UInt8} (h : (tPlace T p).2.2 = 0) : tIsDir T (tPlace T p).1 = true ∧ mayB (tPlace T p).2.1 = true ∧ tHas T (tPlace T p).1 = true := by
  unfold tPlace at h ⊢
  cases hs : splitB p with
  | none => rw [hs] at h; cases h
  | some l =>
    rw [hs] at h
    simp only at h ⊢
    by_cases h0 : l = []
    · rw [if_pos h0] at h; cases h
    · rw [if_neg h0] at h ⊢
      by_cases h1 : (tWalk T l.dropLast 1).2 ≠ 0
      · rw [if_pos h1] at h; exact absurd h h1
      · rw [if_neg h1] at h ⊢
        by_cases h2 : tIsDir T (tWalk T l.dropLast 1).1 = false
        · rw [if_pos h2] at h; cases h
        · rw [if_neg h2]
          have h3 : tIsDir T (tWalk T l.dropLast 1).1 = true := by simpa using h2
          refine ⟨h3, ?_, dir_has h3⟩
          refine (split_some hs).1 _ ?_
          show l.getLastD [] ∈ l
          rw [List.getLastD_eq_getLast?, List.getLast?_eq_some_getLast h0]
          exact List.getLast_mem h0
theorem root_str (s : ByteArray) : (s.toList == [47]) = decide (s.data.toList = [47]) := by
  rw [toList_data, Bool.eq_iff_iff]; simp

theorem kids_le (T : PT) (a : Nat) : nKids T a ≤ T.length := List.length_filter_le _ _
theorem φT_none {T : PT} {f : Nat → Nat} {k : Nat} (h2 : 2 ≤ k) (hno : ∀ x ∈ T, x.ino ≠ k) : φT T f (k : Int) = none := by
  unfold φT
  rw [if_neg]
  rintro ⟨_, hh⟩
  rcases has_iff.1 hh with h3 | ⟨x, hx, h3⟩
  · omega
  · exact hno x hx (by omega)
/-- What 'put' asks, where a thing is new. -/
theorem put_ready {w1 w2 : World} {t : Nat} {S : List Nat} {T : PT} {bm : Nat} {f g : Nat → Nat} (HT : TreeOk w1 t S T bm f g) (hc : Chg [] w1 w2) {a k px : Nat} {la : List UInt8} {dd : Bool} {mm : Option Nat} (ha : tIsDir T a = true) (hla : la.length ≤ 12) (hno : ∀ x ∈ T, x.ino ≠ k) (h2 : 2 ≤ k) (h128 : k ≤ 128)
    (hT : T.length ≤ 126) (hx : w2.heap[px]? = some (.cells (thCells ⟨k, a, la, dd⟩ mm) 94 (0, 0))) :
    Calls Tryz.prog 40 #[.pointer (some ⟨t, 0, none⟩), .int .i64 (a : Int), .int .i64 (k : Int), .pointer (some ⟨px, 0, none⟩)] w2 fun e w' => e = .returned (.tuple #[]) ∧ PutsTh w2 bm (g a) (φT T f) (T.length + 1) (φK T a) (nKids T a) (k : Int) px la w' := by
  have hne : a ≠ k := fun e => by
    subst e
    rcases has_iff.1 (dir_has ha) with h3 | ⟨x, hx', h3⟩
    · omega
    · exact hno x hx' h3
  have has := has_small HT.ok (dir_has ha)
  have hkl := kids_le T a
  have d3 := (HT.cells (dir_has ha)).2.2.2
  rw [if_pos ha] at d3
  refine tput_any t bm a k px (f a) (g a) (φT T f) (T.length + 1) (φK T a) (nKids T a) la w2 (hc.keep HT.head (by simp)) (HT.things.chg hc (by simp)) (by unfold maxLen; omega) (okI_small (by omega)) (okI_small (by omega)) ?_ (hc.cell d3 (by simp)) (blk_cell hx 1 _ rfl) ((HT.ins a ha).chg hc (by simp)) (by unfold maxLen; omega) (by unfold okS maxLen; omega) (HT.gm a ha)
  rw [updF_other _ _ (by omega), φT_has (dir_has ha)]
/-- A new thing is put in. -/
theorem put_done {w w1 w2 w3 : World} {t : Nat} {S : List Nat} {T : PT} {bm : Nat} {f g : Nat → Nat} (HT : TreeOk w1 t S T bm f g) (HB : Chg [] w w1) (hc : Chg [] w1 w2) {y : Th} (hy : ∀ x ∈ T, x.ino ≠ y.ino) (hok : TOk (tIns y T)) (hd : tIsDir T y.dir = true) (hk : tKidOf T y.dir y.name = none)
    {px gx : Nat} (hpx : w1.heap.size ≤ px) (hgx : w1.heap.size ≤ gx) (hgl : gx < w2.heap.size)
    (hb : w2.heap[px]? = some (.cells (thCells y (if y.isDir then some gx else none)) 94 (0, 0))) (hn : y.isDir = true → MapF 9 klS okS w2 gx (fun _ => none) 0)
    (hp : PutsTh w2 bm (g y.dir) (φT T f) (T.length + 1) (φK T y.dir) (nKids T y.dir) (y.ino : Int) px y.name w3) : TDid w w3 t S (tIns y T) := by
  obtain ⟨p1, p2, p3, p4⟩ := hp
  have h2 := (hok.nums y ((mem_ins T y).2 (.inl rfl))).1
  rw [φT_none h2 hy] at p1
  have e2 : φK T y.dir y.name = none := by unfold φK; rw [hk]; rfl
  rw [e2] at p2
  have l1 := HT.things.lt
  have l2 := (HT.ins _ hd).lt
  have hc13 : Chg [bm, g y.dir] w1 w3 := (hc.mono (by simp)).trans p3 (fun x hx => .inl hx)
  have hgr := HT.grow hy hok hd hk (w' := w3) (px := px) (gx := gx) hpx hgx (by rw [p4]; exact blk_lt hb) (by rw [p4]; exact hgl) p1 p2 (p3.keep hb (by simp; omega)) (fun hdir => (hn hdir).chg p3 (by simp; omega)) hc13
  refine ⟨_, hgr, fun x hx => ?_, (HB.mono (by simp)).trans hc13 (fun x hx => ?_)⟩
  · have := HB.size
    rcases List.mem_append.1 hx with hx | hx
    · exact .inl hx
    · simp at hx
      right; omega
  · simp at hx
    rcases hx with rfl | rfl
    · exact .inl HT.mem.2.1
    · exact .inl (HT.mem.2.2.2 _ hd)

set_option maxHeartbeats 8000000 in
set_option maxRecDepth 100000 in
theorem tmake_any (t : Nat) (S : List Nat) (T : PT) (s : ByteArray) (d : Bool) (w : World) (h : TreeAt w t S T) (hs : s.size ≤ maxLen) :
    Calls Tryz.prog 16 #[.pointer (some ⟨t, 0, none⟩), .string s, .bool d] w (MakePost w t S (tMake T s.data.toList d)) := by
  have hmm := @run_makeMap Tryz.prog
  have H := Lib.hid h
  have HS := Lib.hid hs
  have hok := Lib.hid h.ok
  clear h hs
  obtain ⟨Z, hZ⟩ : ∃ Z, tMake T s.data.toList d = Z := ⟨_, rfl⟩
  have HZ := Lib.hid hZ
  rw [hZ]
  clear hZ
  by_cases hr : s.data.toList = [47]
  · have HE : Hid (Z = ((0, 7), T)) := Lib.hid (by rw [← HZ.out]; unfold tMake; rw [if_pos hr])
    have hb : (s.toList == [47]) = true := by rw [root_str, decide_eq_true hr]
    clear hr
    go_enter Tryz.func16, Tryz.ntmps16
    go_wp2_with fail
    refine (tmade_any t S T w H.out).mono ?_
    rintro e w' ⟨rfl, rfl⟩
    go_wp2
    go_ret2
    rw [HE.out]
    exact ⟨rfl, TDid.same H.out (Chg.refl _ _)⟩
  · have hb : (s.toList == [47]) = false := by rw [root_str, decide_eq_false hr]
    have HX : Hid (Z = if (tPlace T s.data.toList).2.2 ≠ 0 then ((0, (tPlace T s.data.toList).2.2), T) else
        if tKid T (tPlace T s.data.toList).1 (tPlace T s.data.toList).2.1 ≠ 0 then ((0, 7), T) else if 128 ≤ T.length + 1 then ((0, 5), T) else
        ((tLeast 2 T, 0), tIns ⟨tLeast 2 T, (tPlace T s.data.toList).1, (tPlace T s.data.toList).2.1, d⟩ T)) := Lib.hid (by rw [← HZ.out]; unfold tMake; rw [if_neg hr])
    clear hr HZ
    have HP := Lib.hid (tplace_any t S T s w H.out HS.out)
    have HO : Hid ((tPlace T s.data.toList).2.2 = 0 → tIsDir T (tPlace T s.data.toList).1 = true ∧ mayB (tPlace T s.data.toList).2.1 = true ∧ tHas T (tPlace T s.data.toList).1 = true) := Lib.hid place_ok
    generalize tPlace T s.data.toList = r at *
    obtain ⟨a, la, er⟩ := r
    simp only at HX HO
    by_cases h0 : er = 0
    · subst h0
      obtain ⟨o1, o2, o3⟩ := HO.out rfl
      have HD := Lib.hid o1
      have HA := Lib.hid o3
      have hla := may_len o2
      have HM := Lib.hid o2
      have has := has_small hok.out o3
      have HX2 : Hid (Z = if tKid T a la ≠ 0 then ((0, 7), T) else if 128 ≤ T.length + 1 then ((0, 5), T) else ((tLeast 2 T, 0), tIns ⟨tLeast 2 T, a, la, d⟩ T)) := Lib.hid (by rw [HX.out, if_neg (by simp)])
      clear o1 o2 o3 HX HO
      go_enter Tryz.func16, Tryz.ntmps16
      go_wp2_with fail
      refine (tmade_any t S T w H.out).mono ?_
      rintro e w' ⟨rfl, rfl⟩
      go_wp2_with fail
      refine HP.out.mono ?_
      rintro e w1 ⟨rfl, hb1⟩
      have HB := Lib.hid hb1
      obtain ⟨bm, f, g, HT⟩ := H.out.keep0 hb1
      have c0 := blk_cell HT.head 0 _ rfl
      have hlk := HT.at HA.out
      obtain ⟨d0, d1, d2, d3⟩ := HT.cells HA.out
      rw [HD.out] at d3
      have d3' : w1.cell? ⟨f a, 3, none⟩ = some (.map (some (g a))) := d3
      have hkd := HT.kid HD.out la (by unfold maxLen; omega)
      have hln := HT.things.len Tryz.underlying53
      have HTT := Lib.hid HT
      clear d0 d1 d2 d3 hb1 HT
      cases hk : tKidOf T a la with
      | some x =>
        have HE : Hid (Z = ((0, 7), T)) := Lib.hid (by
          rw [HX2.out, if_pos]
          intro h0
          rw [(kid_zero hok.out).1 h0] at hk; cases hk)
        rw [hk] at hkd
        clear hk
        generalize tKid T a la = c at *
        go_wp2
        go_ret2
        rw [HE.out]
        exact ⟨rfl, TDid.same H.out HB.out⟩
      | none =>
        have hk0 : tKid T a la = 0 := (kid_zero hok.out).2 hk
        have HX3 : Hid (Z = if 128 ≤ T.length + 1 then ((0, 5), T) else ((tLeast 2 T, 0), tIns ⟨tLeast 2 T, a, la, d⟩ T)) := Lib.hid (by rw [HX2.out, if_neg (by simp [hk0])])
        have HK := Lib.hid hk
        rw [hk, hk0] at hkd
        clear hk hk0 HX2
        by_cases hfull : 128 ≤ T.length + 1
        · have HE : Hid (Z = ((0, 5), T)) := Lib.hid (by rw [HX3.out, if_pos hfull])
          have hdec : decide (((T.length + 1 : Nat) : Int) ≥ 128) = true := decide_eq_true (by omega)
          clear hfull
          generalize T.length + 1 = n at *
          go_wp2
          go_ret2
          rw [HE.out]
          exact ⟨rfl, TDid.same H.out HB.out⟩
        · have HE : Hid (Z = ((tLeast 2 T, 0), tIns ⟨tLeast 2 T, a, la, d⟩ T)) := Lib.hid (by rw [HX3.out, if_neg hfull])
          have hdec : decide (((T.length + 1 : Nat) : Int) ≥ 128) = false := decide_eq_false (by omega)
          have hle := least_le T 2
          have hge := least_ge T 2
          have hTl : T.length ≤ 126 := by omega
          have HN := Lib.hid hTl
          have HL : Hid (∀ k, 2 ≤ k → k < tLeast 2 T → tHas T k = true) := Lib.hid (fun k h1 h2 => has_iff.2 (.inr (least_taken T 2 k h1 h2)))
          have HF : Hid (∀ x ∈ T, x.ino ≠ tLeast 2 T) := Lib.hid (least_free T 2 hok.out.rise (fun x hx => (hok.out.nums x hx).1))
          have hm128 : tLeast 2 T ≤ 128 := by omega
          clear hfull HX3
          obtain ⟨m, hm⟩ : ∃ m, tLeast 2 T = m := ⟨_, rfl⟩
          rw [hm] at HE HL HF hge hm128
          clear hm hle hTl
          obtain ⟨nn, hnn⟩ : ∃ nn, T.length + 1 = nn := ⟨_, rfl⟩
          rw [hnn] at hln hdec
          have HNN := Lib.hid hnn
          clear hnn
          go_wp2
          go_loop [13] (fun v13 => ∃ k : Nat, v13 = .int .i64 k ∧ 2 ≤ k ∧ k ≤ m) (fun v13 => m - (intOf v13).toNat)
          case atStart => exact ⟨2, rfl, by omega, by omega⟩
          case round =>
            obtain ⟨k, rfl, hk2, hkm⟩ := hrel
            by_cases hlt : k < m
            · have hl2 := HTT.out.at (HL.out k hk2 hlt)
              go_wp2
              go_round
              case rel => exact ⟨k + 1, by go_num, by omega, by omega⟩
              case measure => simp [intOf]; omega
            · obtain rfl : k = m := by omega
              have hno : (Instr.lookup 53 (.map (some bm)) (.int .i64 (k : Int)) false).run Tryz.prog w1 = .ok (.pointer none) w1 := by
                have h1 := HTT.out.things.look keInt Tryz.underlying53 zeroPT (x := (k : Int)) (okI_small (by omega))
                rw [φT_none hk2 HF.out] at h1
                exact h1
              have HOK : Hid (TOk (tIns ⟨k, a, la, d⟩ T)) := Lib.hid (hok.out.ins HF.out ⟨hk2, hm128⟩ HD.out HK.out HM.out)
              clear hlt
              have hla12 := hla.2
              have HLA := Lib.hid hla12
              cases d with
              | false =>
                go_wp2_with fail
                have hc2 : Chg [] w1 (w1.alloc (.cells #[.int .i64 (a : Int), .string ⟨la.toArray⟩, .bool false, .map none] 94)) := (Chg.refl _ _).alloc _
                have hx2 : (w1.alloc (.cells #[.int .i64 (a : Int), .string ⟨la.toArray⟩, .bool false, .map none] 94)).heap[w1.heap.size]? = some (.cells (thCells ⟨k, a, la, false⟩ none) 94 (0, 0)) := (MapKept.heap_alloc _ _).1
                have hsz : w1.heap.size < (w1.alloc (.cells #[.int .i64 (a : Int), .string ⟨la.toArray⟩, .bool false, .map none] 94)).heap.size := blk_lt hx2
                have HH := Lib.hid (And.intro hc2 (And.intro hx2 hsz))
                clear hc2 hx2 hsz
                refine (put_ready HTT.out HH.out.1 HD.out HLA.out HF.out hk2 hm128 HN.out HH.out.2.1).mono ?_
                rintro e w3 ⟨rfl, hp⟩
                have HFIN : Hid (TDid w w3 t S (tIns ⟨k, a, la, false⟩ T)) := Lib.hid (put_done HTT.out HB.out HH.out.1 HF.out HOK.out HD.out HK.out (Nat.le_refl _) (Nat.le_refl _) HH.out.2.2 HH.out.2.1 (fun h => by cases h) hp)
                clear hp
                go_wp2
                go_ret2
                rw [HE.out]
                exact ⟨rfl, HFIN.out⟩
              | true =>
                go_wp2_with fail
                obtain ⟨w2, hw2⟩ : ∃ w2, w1.alloc (.cells #[.int .i64 (a : Int), .string ⟨la.toArray⟩, .bool false, .map none] 94) = w2 := ⟨_, rfl⟩
                have hs2 : w2.heap.size = w1.heap.size + 1 := by rw [← hw2]; simp
                have hc2 : Chg [] w1 w2 := by rw [← hw2]; exact (Chg.refl _ _).alloc _
                rw [hw2]
                have HS2 := Lib.hid hs2
                have HC2 := Lib.hid hc2
                clear hw2 hs2 hc2
                refine (tdirectory_any _ _ w2).mono ?_
                rintro e w3 ⟨rfl, hw3⟩
                have hs3 : w3.heap.size = w2.heap.size + 2 := by rw [hw3]; simp
                have hc3 : Chg [] w1 w3 := by rw [hw3]; exact (HC2.out.alloc _).alloc _
                have hx3 : w3.heap[w2.heap.size + 1]? = some (.cells (thCells ⟨k, a, la, true⟩ (some w2.heap.size)) 94 (0, 0)) := by
                  rw [hw3]
                  have h := (MapKept.heap_alloc (w2.alloc (.map #[] 0)) (.cells #[.int .i64 (a : Int), .string ⟨la.toArray⟩, .bool true, .map (some w2.heap.size)] 94)).1
                  have e2 : (w2.alloc (.map #[] 0)).heap.size = w2.heap.size + 1 := by simp
                  rw [e2] at h
                  exact h
                have hg3 : MapF 9 klS okS w3 w2.heap.size (fun _ => none) 0 := by
                  rw [hw3]
                  exact (MapF.made w2).chg ((Chg.refl [] _).alloc _) (by simp)
                have HH := Lib.hid (And.intro hc3 (And.intro hx3 (And.intro hg3 hs3)))
                clear hc3 hx3 hg3 hs3 hw3
                go_wp2_with fail
                refine (put_ready HTT.out HH.out.1 HD.out HLA.out HF.out hk2 hm128 HN.out HH.out.2.1).mono ?_
                rintro e w4 ⟨rfl, hp⟩
                have HFIN : Hid (TDid w w4 t S (tIns ⟨k, a, la, true⟩ T)) := Lib.hid (put_done HTT.out HB.out HH.out.1 HF.out HOK.out HD.out HK.out (by have := HS2.out; omega) (by have := HS2.out; omega) (by have := HH.out.2.2.2; omega) HH.out.2.1 (fun _ => HH.out.2.2.1) hp)
                clear hp
                go_wp2
                go_ret2
                rw [HE.out]
                exact ⟨rfl, HFIN.out⟩
    · have HE : Hid (Z = ((0, er), T)) := Lib.hid (by rw [HX.out, if_pos h0])
      have hb0 : (er != 0) = true := by simpa using h0
      clear h0 HX HO
      go_enter Tryz.func16, Tryz.ntmps16
      go_wp2_with fail
      refine (tmade_any t S T w H.out).mono ?_
      rintro e w' ⟨rfl, rfl⟩
      go_wp2_with fail
      refine HP.out.mono ?_
      rintro e w1 ⟨rfl, hb1⟩
      have HB := Lib.hid hb1
      clear hb1
      go_wp2
      go_ret2
      rw [HE.out]
      exact ⟨rfl, TDid.same H.out HB.out⟩
end Go.Proofs.YtaiihklfeoeoeaaGreat.W

/- A tree, plainly: a thing less, a thing with another name. -/
namespace Go.Proofs.YtaiihklfeoeoeaaGreat.W
open Go.Proofs.YtaiihklfeoeoeaaGreat.NM
set_option linter.unusedVariables false
set_option linter.unusedSimpArgs false

def tDel (T : PT) (n : Nat) : PT := T.filter (fun x => x.ino != n)
theorem mem_del {T : PT} {n : Nat} {x : Th} : x ∈ tDel T n ↔ x ∈ T ∧ x.ino ≠ n := by
  unfold tDel; rw [List.mem_filter]; simp
theorem del_perm {T : PT} (h : T.Pairwise (fun x y => x.ino < y.ino)) {x : Th} (hx : x ∈ T) : T.Perm (x :: tDel T x.ino) := by
  unfold tDel
  induction T with
  | nil => cases hx
  | cons y r ih =>
    have h' := List.pairwise_cons.1 h
    rcases List.mem_cons.1 hx with rfl | hx'
    · have e : (x :: r).filter (fun z => z.ino != x.ino) = r := by
        rw [List.filter_cons_of_neg (by simp), List.filter_eq_self]
        intro z hz
        have := h'.1 z hz
        simp; omega
      rw [e]
    · have hlt := h'.1 x hx'
      rw [List.filter_cons_of_pos (by simp; omega)]
      exact ((ih h'.2 hx').cons y).trans (.swap ..)
theorem kidOf_iff {T : PT} (h : TOk T) {d : Nat} {s : List UInt8} {x : Th} : tKidOf T d s = some x ↔ x ∈ T ∧ x.dir = d ∧ x.name = s :=
  ⟨kidOf_some, fun ⟨h1, h2, h3⟩ => by rw [← h2, ← h3]; exact kidOf_mem h h1⟩
theorem kidOf_cons {T U : PT} (hT : TOk T) (hU : ∀ x ∈ U, tKidOf U x.dir x.name = some x) {y : Th} (hp : T.Perm (y :: U)) (d : Nat) (s : List UInt8) : tKidOf T d s = if d = y.dir ∧ s = y.name then some y else tKidOf U d s := by
  by_cases e : d = y.dir ∧ s = y.name
  · rw [if_pos e, kidOf_iff hT]
    exact ⟨hp.mem_iff.2 (List.mem_cons_self ..), e.1.symm, e.2.symm⟩
  · rw [if_neg e]
    cases hg : tKidOf U d s with
    | some x =>
      obtain ⟨h1, h2, h3⟩ := kidOf_some hg
      exact (kidOf_iff hT).2 ⟨hp.mem_iff.2 (List.mem_cons_of_mem _ h1), h2, h3⟩
    | none =>
      cases hg2 : tKidOf T d s with
      | none => rfl
      | some z =>
        obtain ⟨h1, h2, h3⟩ := kidOf_some hg2
        rcases List.mem_cons.1 (hp.mem_iff.1 h1) with rfl | h4
        · exact absurd ⟨h2.symm, h3.symm⟩ e
        · exact absurd ⟨h2, h3⟩ (kidOf_none hg z h4)
theorem kidOf_self_del {T : PT} (h : TOk T) (n : Nat) : ∀ x ∈ tDel T n, tKidOf (tDel T n) x.dir x.name = some x := by
  intro x hx
  cases hg : tKidOf (tDel T n) x.dir x.name with
  | none => exact absurd ⟨rfl, rfl⟩ (kidOf_none hg x hx)
  | some z =>
    obtain ⟨h1, h2, h3⟩ := kidOf_some hg
    have e1 := kidOf_mem h (mem_del.1 h1).1
    have e2 := kidOf_mem h (mem_del.1 hx).1
    rw [h2, h3, e2] at e1
    exact e1.symm
theorem ren_perm {T : PT} (h : T.Pairwise (fun x y => x.ino < y.ino)) {x : Th} (hx : x ∈ T) (d : Nat) (s : List UInt8) : (tRename T x.ino d s).Perm ({ x with dir := d, name := s } :: tDel T x.ino) := by
  have h1 := (del_perm h hx).map (fun y => if y.ino = x.ino then { y with dir := d, name := s } else y)
  have h2 : (tDel T x.ino).map (fun y => if y.ino = x.ino then { y with dir := d, name := s } else y) = tDel T x.ino := by
    conv => rhs; rw [← List.map_id (tDel T x.ino)]
    refine List.map_congr_left fun y hy => ?_
    rw [if_neg (mem_del.1 hy).2]; rfl
  rw [List.map_cons, h2, if_pos rfl] at h1
  exact h1
theorem any_kids {T : PT} {a : Nat} : T.any (fun x => x.dir == a) = true ↔ (T.filter (fun x => x.dir == a)).length ≠ 0 := by
  rw [List.any_eq_true]
  constructor
  · rintro ⟨x, hx, h⟩ h0
    have := List.eq_nil_of_length_eq_zero h0
    rw [List.filter_eq_nil_iff] at this
    exact this x hx h
  · intro h
    obtain ⟨x, hx⟩ := List.exists_mem_of_length_pos (Nat.pos_of_ne_zero h)
    obtain ⟨h1, h2⟩ := List.mem_filter.1 hx
    exact ⟨x, h1, h2⟩
end Go.Proofs.YtaiihklfeoeoeaaGreat.W

/- Package tree: Remove. -/
namespace Go.Proofs.YtaiihklfeoeoeaaGreat.W
open Go.RowKit
open Go.Proofs.YtaiihklfeoeoeaaGreat.NM
set_option linter.unusedVariables false
set_option linter.unusedSimpArgs false

theorem kids_cons {T U : PT} {y : Th} (hp : T.Perm (y :: U)) (a : Nat) : nKids T a = nKids U a + if y.dir = a then 1 else 0 := by
  unfold nKids
  rw [(hp.filter _).length_eq, List.filter_cons]
  by_cases e : y.dir = a <;> simp [e]
/-- A name is taken away: what each directory then has. -/
theorem TreeOk.unname {w w' : World} {t : Nat} {S : List Nat} {T : PT} {bm : Nat} {f g : Nat → Nat} (h : TreeOk w t S T bm f g) {x : Th} (hx : x ∈ T)
    (hm : MapF 9 klS okS w' (g x.dir) (delF (φK T x.dir) x.name) (nKids T x.dir - 1)) (hc : Chg [g x.dir] w w') :
    ∀ a, tIsDir T a = true → MapF 9 klS okS w' (g a) (φK (tDel T x.ino) a) (nKids (tDel T x.ino) a) := by
  have hp := del_perm h.ok.rise hx
  have hkk := kidOf_self_del h.ok x.ino
  intro a ha
  by_cases e : a = x.dir
  · subst e
    refine hm.congr (by rw [kids_cons hp, if_pos rfl]; rfl) (fun s _ => ?_)
    by_cases e3 : s = x.name
    · subst e3
      rw [delF_self]; unfold φK
      cases hg : tKidOf (tDel T x.ino) x.dir x.name with
      | none => rfl
      | some z =>
        obtain ⟨h1, h2, h3⟩ := kidOf_some hg
        have e1 := kidOf_mem h.ok (mem_del.1 h1).1
        rw [h2, h3, kidOf_mem h.ok hx] at e1
        cases e1
        exact absurd rfl (mem_del.1 h1).2
    · rw [delF_other _ e3]; unfold φK
      rw [kidOf_cons h.ok hkk hp, if_neg (fun hh => e3 hh.2)]
  · have hne : g a ≠ g x.dir := fun e2 => e (h.ginj _ _ ha (h.ok.dirs x hx) e2)
    refine ((h.ins a ha).chg hc (by simpa using hne)).congr (by rw [kids_cons hp, if_neg (fun hh => e hh.symm)]; rfl) (fun s _ => ?_)
    unfold φK
    rw [kidOf_cons h.ok hkk hp, if_neg (fun hh => e hh.1)]
theorem isDir_del {T : PT} {n a : Nat} (h : tIsDir (tDel T n) a = true) : tIsDir T a = true ∧ (a = 1 ∨ a ≠ n) := by
  unfold tIsDir tDel at h
  unfold tIsDir
  rw [get_del] at h
  by_cases e1 : a = 1
  · subst e1; exact ⟨rfl, .inl rfl⟩
  · have e1' : (a == 1) = false := by simpa using e1
    rw [e1', Bool.false_or] at h
    rw [e1', Bool.false_or]
    by_cases e : a = n
    · rw [if_pos e] at h; cases h
    · rw [if_neg e] at h
      exact ⟨h, .inr e⟩
theorem has_del {T : PT} {n a : Nat} (h : tHas (tDel T n) a = true) : tHas T a = true ∧ (a = 1 ∨ a ≠ n) := by
  rcases has_iff.1 h with h1 | ⟨x, hx, rfl⟩
  · exact ⟨has_iff.2 (.inl h1), .inl h1⟩
  · exact ⟨has_iff.2 (.inr ⟨x, (mem_del.1 hx).1, rfl⟩), .inr (mem_del.1 hx).2⟩
/-- A thing less. -/
theorem TreeOk.shrink {w w' : World} {t : Nat} {S : List Nat} {T : PT} {bm : Nat} {f g : Nat → Nat} (h : TreeOk w t S T bm f g) {x : Th} (hx : x ∈ T) (hno : ∀ y ∈ T, y.dir ≠ x.ino)
    (hm : MapF 3 klI okI w' bm (delF (φT T f) (x.ino : Int)) T.length) (hi : ∀ a, tIsDir T a = true → MapF 9 klS okS w' (g a) (φK (tDel T x.ino) a) (nKids (tDel T x.ino) a)) (hc : Chg [bm, g x.dir] w w') :
    TreeAt w' t S (tDel T x.ino) := by
  have hp := del_perm h.ok.rise hx
  have hx2 := (h.ok.nums x hx).1
  have hd := h.ok.dirs x hx
  have hok : TOk (tDel T x.ino) := h.ok.del (by omega) hno
  refine ⟨bm, f, g, ?_⟩
  exact {
    head := hc.keep h.head (by
      have := ne_map h.things (blk_cell h.head 0 _ rfl)
      have h2 := ne_map (h.ins _ hd) (blk_cell h.head 0 _ rfl)
      simp at this h2 ⊢; exact ⟨this, h2⟩)
    things := hm.congr (by have := hp.length_eq; simpa using this) (fun z hz => by
      by_cases e : z = (x.ino : Int)
      · subst e
        rw [delF_self]
        unfold φT
        rw [if_neg]
        rintro ⟨_, hh⟩
        rcases (has_del hh).2 with h1 | h1
        · omega
        · simp at h1
      · rw [delF_other _ e]
        unfold φT
        by_cases e0 : 0 ≤ z ∧ tHas T z.toNat = true
        · rw [if_pos e0, if_pos]
          refine ⟨e0.1, ?_⟩
          rcases has_iff.1 e0.2 with h1 | ⟨y, hy, h1⟩
          · exact has_iff.2 (.inl h1)
          · exact has_iff.2 (.inr ⟨y, mem_del.2 ⟨hy, by omega⟩, h1⟩)
        · rw [if_neg e0, if_neg (fun hh => e0 ⟨hh.1, (has_del hh.2).1⟩)])
    each := fun a ha => by
      obtain ⟨h1, h2⟩ := has_del ha
      have e1 : thOf (tDel T x.ino) a = thOf T a := by
        unfold thOf
        by_cases e : a = 1
        · rw [if_pos e, if_pos e]
        · rw [if_neg e, if_neg e]
          unfold tDel
          rw [get_del, if_neg (h2.resolve_left e)]
      have e2 : tIsDir (tDel T x.ino) a = tIsDir T a := by rw [isDir_thOf a ha, isDir_thOf a h1, e1]
      rw [e1, e2]
      have hc0 := (h.cells h1).1
      exact hc.keep (h.each a h1) (by
        have h3 := ne_map h.things hc0
        have h4 := ne_map (h.ins _ hd) hc0
        simp at h3 h4 ⊢; exact ⟨h3, h4⟩)
    ins := fun a ha => hi a (isDir_del ha).1
    finj := fun a b ha hb e => h.finj a b (has_del ha).1 (has_del hb).1 e
    ginj := fun a b ha hb e => h.ginj a b (isDir_del ha).1 (isDir_del hb).1 e
    gm := fun a ha => h.gm a (isDir_del ha).1
    mem := ⟨h.mem.1, h.mem.2.1, fun a ha => h.mem.2.2.1 a (has_del ha).1, fun a ha => h.mem.2.2.2 a (isDir_del ha).1⟩
    lim := fun z hz => Nat.lt_of_lt_of_le (h.lim z hz) hc.size
    ok := hok }
theorem look_ok {T : PT} {p : List UInt8} (h : (tLook T p).2.2 = 0) : tHas T (tLook T p).1 = true ∧ (tLook T p).2.1 = tIsDir T (tLook T p).1 := by
  unfold tLook at h ⊢
  cases hs : splitB p with
  | none => rw [hs] at h; cases h
  | some l =>
    rw [hs] at h
    simp only at h ⊢
    by_cases h1 : (tWalk T l 1).2 ≠ 0
    · rw [if_pos h1] at h; exact absurd h h1
    · rw [if_neg h1]
      exact ⟨walk_has l 1 rfl (by simpa using h1), rfl⟩
theorem has_mem {T : PT} {a : Nat} (h : tHas T a = true) (h1 : a ≠ 1) : ∃ x ∈ T, x.ino = a := (has_iff.1 h).resolve_left h1

set_option maxHeartbeats 8000000 in
set_option maxRecDepth 100000 in
theorem tremove_any (t : Nat) (S : List Nat) (T : PT) (s : ByteArray) (d : Bool) (w : World) (h : TreeAt w t S T) (hs : s.size ≤ maxLen) :
    Calls Tryz.prog 20 #[.pointer (some ⟨t, 0, none⟩), .string s, .bool d] w (MakePost w t S (tRemove T s.data.toList d)) := by
  have H := Lib.hid h
  have HS := Lib.hid hs
  have hok := Lib.hid h.ok
  have hl0 : ∀ ty w, (Builtin.len_ #[92] ty #[.map none]).run Tryz.prog w = .ok (.int .i64 0) w := fun ty w => Maps.len_nil Tryz.underlying92 ty
  clear h hs
  obtain ⟨Z, hZ⟩ : ∃ Z, tRemove T s.data.toList d = Z := ⟨_, rfl⟩
  have HX : Hid (Z = if (tLook T s.data.toList).2.2 ≠ 0 then ((0, (tLook T s.data.toList).2.2), T) else if (tLook T s.data.toList).1 = 1 then ((0, 8), T) else
      if (d && !(tLook T s.data.toList).2.1) = true then ((0, 10), T) else if (!d && (tLook T s.data.toList).2.1) = true then ((0, 9), T) else
      if T.any (fun x => x.dir == (tLook T s.data.toList).1) = true then ((0, 11), T) else
      (((tLook T s.data.toList).1, 0), tDel T (tLook T s.data.toList).1)) := Lib.hid (by rw [← hZ]; rfl)
  rw [hZ]
  clear hZ
  have HP := Lib.hid (tlook_any t S T s w H.out HS.out)
  have HO : Hid ((tLook T s.data.toList).2.2 = 0 → tHas T (tLook T s.data.toList).1 = true ∧ (tLook T s.data.toList).2.1 = tIsDir T (tLook T s.data.toList).1) := Lib.hid look_ok
  generalize tLook T s.data.toList = r at *
  obtain ⟨a, isd, er⟩ := r
  simp only at HX HO
  by_cases h0 : er = 0
  · subst h0
    obtain ⟨o1, rfl⟩ := HO.out rfl
    have HA := Lib.hid o1
    have has := has_small hok.out o1
    have HX1 : Hid (Z = if a = 1 then ((0, 8), T) else if (d && !tIsDir T a) = true then ((0, 10), T) else if (!d && tIsDir T a) = true then ((0, 9), T) else
        if T.any (fun x => x.dir == a) = true then ((0, 11), T) else ((a, 0), tDel T a)) := Lib.hid (by rw [HX.out, if_neg (by simp)])
    clear o1 HX HO
    by_cases h1 : a = 1
    · have HE : Hid (Z = ((0, 8), T)) := Lib.hid (by rw [HX1.out, if_pos h1])
      have hb1 : ((a : Int) == 1) = true := by rw [h1]; rfl
      clear h1 HX1
      generalize tIsDir T a = dd at *
      go_enter Tryz.func20, Tryz.ntmps20
      go_wp2_with fail
      refine HP.out.mono ?_
      rintro e w1 ⟨rfl, hb⟩
      have HB := Lib.hid hb
      clear hb
      go_wp2
      go_ret2
      rw [HE.out]
      exact ⟨rfl, TDid.same H.out HB.out⟩
    · have hb1 : ((a : Int) == 1) = false := by simp; omega
      have HX2 : Hid (Z = if (d && !tIsDir T a) = true then ((0, 10), T) else if (!d && tIsDir T a) = true then ((0, 9), T) else
        if T.any (fun x => x.dir == a) = true then ((0, 11), T) else ((a, 0), tDel T a)) := Lib.hid (by rw [HX1.out, if_neg h1])
      obtain ⟨x, hx, rfl⟩ := has_mem HA.out h1
      have HXM := Lib.hid hx
      clear h1 HX1 hx
      by_cases hdd : d = tIsDir T x.ino
      · have HX3 : Hid (Z = if T.any (fun y => y.dir == x.ino) = true then ((0, 11), T) else ((x.ino, 0), tDel T x.ino)) := Lib.hid (by
          rw [HX2.out, if_neg, if_neg]
          · rw [hdd]; cases tIsDir T x.ino <;> simp
          · rw [hdd]; cases tIsDir T x.ino <;> simp)
        have HDE := Lib.hid hdd
        clear HX2
        have hany : (T.any (fun y => y.dir == x.ino) = true) ↔ nKids T x.ino ≠ 0 := any_kids
        have HLEN : ∀ (w1 : World) (bm : Nat) (f g : Nat → Nat), TreeOk w1 t S T bm f g → ∃ mv, w1.cell? ⟨f x.ino, 3, none⟩ = some mv ∧ ∀ ty, (Builtin.len_ #[92] ty #[mv]).run Tryz.prog w1 = .ok (.int .i64 (nKids T x.ino : Int)) w1 := fun w1 bm f g HT => by
          have d3 := (HT.cells HA.out).2.2.2
          cases hd : tIsDir T x.ino with
          | true =>
            rw [hd] at d3
            exact ⟨_, d3, (HT.ins _ hd).len Tryz.underlying92⟩
          | false =>
            rw [hd] at d3
            refine ⟨_, d3, fun ty => ?_⟩
            have h0 : nKids T x.ino = 0 := by
              unfold nKids
              rw [List.filter_eq_nil_iff.2 (fun y hy => ?_)]
              · rfl
              · have := hok.out.dirs y hy
                simp
                intro e
                rw [e, hd] at this; cases this
            rw [h0]
            exact hl0 ty w1
        have HLL := Lib.hid HLEN
        rw [← hdd] at HP
        clear HLEN hl0 hdd HDE
        by_cases hk : nKids T x.ino = 0
        · have HE : Hid (Z = ((x.ino, 0), tDel T x.ino)) := Lib.hid (by rw [HX3.out, if_neg (fun h => hany.1 h hk)])
          have HNO : Hid (∀ y ∈ T, y.dir ≠ x.ino) := Lib.hid (fun y hy e => by
            have : T.any (fun y => y.dir == x.ino) = true := List.any_eq_true.2 ⟨y, hy, by simpa using e⟩
            exact hany.1 this hk)
          have HK := Lib.hid hk
          clear hk hany HX3
          have HOS : Hid (okS x.name) := Lib.hid (by have := may_len (hok.out.may x HXM.out); unfold okS maxLen; omega)
          have HOI : Hid (okI (x.ino : Int)) := Lib.hid (okI_small (by omega))
          have HNE : Hid (∀ (bm : Nat) (f g : Nat → Nat) (w2 : World), TreeOk w2 t S T bm f g → t ≠ g x.dir) := Lib.hid (fun bm f g w2 h => ne_map (h.ins _ (hok.out.dirs x HXM.out)) (blk_cell h.head 0 _ rfl))
          have HNG : Hid (∀ (bm : Nat) (f g : Nat → Nat) (w2 : World), TreeOk w2 t S T bm f g → bm ∉ [g x.dir]) := Lib.hid (fun bm f g w2 h => by
            have := h.gm _ (hok.out.dirs x HXM.out)
            simp; exact fun e => this e.symm)
          have HFIN : Hid (∀ (bm : Nat) (f g : Nat → Nat) (w2 w3 w4 : World), TreeOk w2 t S T bm f g → Chg [] w w2 → MapF 9 klS okS w3 (g x.dir) (delF (φK T x.dir) x.name) (if (φK T x.dir x.name).isSome then nKids T x.dir - 1 else nKids T x.dir) → Chg [g x.dir] w2 w3 →
              MapF 3 klI okI w4 bm (delF (φT T f) (x.ino : Int)) (if (φT T f (x.ino : Int)).isSome then T.length + 1 - 1 else T.length + 1) → Chg [bm] w3 w4 → TDid w w4 t S (tDel T x.ino)) := Lib.hid (fun bm f g w2 w3 w4 h hc hm3 hc3 hm4 hc4 => by
            have hd := hok.out.dirs x HXM.out
            have e1 : φK T x.dir x.name = some (.int .i64 (x.ino : Int)) := by unfold φK; rw [kidOf_mem hok.out HXM.out]; rfl
            rw [e1] at hm3
            rw [φT_has HA.out] at hm4
            have h3 := h.unname HXM.out hm3 hc3
            have hc24 : Chg [bm, g x.dir] w2 w4 := (hc3.mono (by simp)).trans hc4 (by simp)
            refine ⟨S, h.shrink HXM.out HNO.out hm4 (fun a ha => (h3 a ha).chg hc4 (by have := h.gm a ha; simpa using this)) hc24, fun z hz => .inl hz, (hc.mono (by simp)).trans hc24 (fun z hz => ?_)⟩
            simp at hz
            rcases hz with rfl | rfl
            · exact .inl h.mem.2.1
            · exact .inl (h.mem.2.2.2 _ hd))
          cases d
          all_goals
            go_enter Tryz.func20, Tryz.ntmps20
            go_wp2_with fail
            refine HP.out.mono ?_
            rintro e w1 ⟨rfl, hb⟩
            have HB := Lib.hid hb
            obtain ⟨bm, f, g, HT⟩ := H.out.keep0 hb
            obtain ⟨mv, d3, hln⟩ := HLL.out w1 bm f g HT
            rw [HK.out] at hln
            have hth := thOf_mem hok.out HXM.out
            have hxd := hok.out.dirs x HXM.out
            have c0 := blk_cell HT.head 0 _ rfl
            have hlk := HT.at HA.out
            obtain ⟨d0, d1, d2, d9⟩ := HT.cells HA.out
            rw [hth] at d0 d1
            have hlp := HT.at (dir_has hxd)
            have p3 := (HT.cells (dir_has hxd)).2.2.2
            rw [if_pos hxd] at p3
            have HTT := Lib.hid HT
            have HD := Lib.hid hxd
            have hlp2 : (Instr.lookup 53 (.map (some bm)) (.int .i64 (x.dir : Int)) false).run Tryz.prog w1.drew = .ok (.pointer (some ⟨f x.dir, 0, none⟩)) w1.drew := (HT.keep ((Chg.refl [] w1).drew) (by simp)).at (dir_has hxd)
            clear hb HT d2 d9 hth hxd
            go_wp2
            go_still_tail 16, (by kernel_rfl)
            change wpList _ _ _ _ _ w1.drew
            have HG2 : Hid (MapF 9 klS okS w1.drew (g x.dir) (φK T x.dir) (nKids T x.dir)) := Lib.hid (HTT.out.ins _ HD.out)
            have HC2 : Hid (Chg [] w w1.drew) := Lib.hid HB.out.drew
            have HT2 : Hid (TreeOk w1.drew t S T bm f g) := Lib.hid (HTT.out.keep ((Chg.refl [] w1).drew) (by simp))
            have c02 : w1.drew.cell? ⟨t, 0, none⟩ = some (.map (some bm)) := c0
            clear hlk hlp hln hlp2 c0 d0 d1 d3 p3
            generalize w1.drew = w2 at *
            go_wp2_with (first
              | (refine wpList_del keStr _ rfl _ _ _ rfl 3 Tryz.underlying92 (g x.dir) (nKids T x.dir) (φK T x.dir) rfl HG2.out x.name rfl (HOS.out) ?_
                 intro w3 hm3 hc3 hs3
                 have c03 := hc3.cell c02 (by simpa using HNE.out bm f g w2 HT2.out)
                 have HB3 := Lib.hid (And.intro hm3 (And.intro hc3 hs3))
                 clear hm3 hc3 hs3)
              | (refine wpList_del keInt _ rfl _ _ _ rfl 51 Tryz.underlying53 bm (T.length + 1) (φT T f) rfl (HT2.out.things.chg HB3.out.2.1 (HNG.out bm f g w2 HT2.out)) (x.ino : Int) rfl (HOI.out) ?_
                 intro w4 hm4 hc4 hs4
                 have HB4 := Lib.hid (And.intro hm4 (And.intro hc4 hs4))
                 clear hm4 hc4 hs4))
            go_ret2
            rw [HE.out]
            exact ⟨rfl, HFIN.out bm f g w2 w3 w4 HT2.out HC2.out HB3.out.1 HB3.out.2.1 HB4.out.1 HB4.out.2.1⟩
        · have HE : Hid (Z = ((0, 11), T)) := Lib.hid (by rw [HX3.out, if_pos (hany.2 hk)])
          have hpos : 0 < nKids T x.ino := by omega
          clear hk hany HX3
          cases d
          all_goals
            go_enter Tryz.func20, Tryz.ntmps20
            go_wp2_with fail
            refine HP.out.mono ?_
            rintro e w1 ⟨rfl, hb⟩
            have HB := Lib.hid hb
            obtain ⟨bm, f, g, HT⟩ := H.out.keep0 hb
            obtain ⟨mv, d3, hln⟩ := HLL.out w1 bm f g HT
            have c0 := blk_cell HT.head 0 _ rfl
            have hlk := HT.at HA.out
            clear hb HT
            generalize nKids T x.ino = nk at *
            go_wp2
            go_ret2
            rw [HE.out]
            exact ⟨rfl, TDid.same H.out HB.out⟩
      · have hdd2 : tIsDir T x.ino = !d := by cases d <;> cases h : tIsDir T x.ino <;> simp_all
        rw [hdd2] at HX2 HP
        have HX3 : Hid (Z = ((0, if d then 10 else 9), T)) := Lib.hid (by
          rw [HX2.out]; cases d <;> simp)
        clear hdd hdd2 HX2
        cases d
        all_goals
          go_enter Tryz.func20, Tryz.ntmps20
          go_wp2_with fail
          refine HP.out.mono ?_
          rintro e w1 ⟨rfl, hb⟩
          have HB := Lib.hid hb
          clear hb
          go_wp2
          go_ret2
          rw [HX3.out]
          exact ⟨rfl, TDid.same H.out HB.out⟩
  · have HE : Hid (Z = ((0, er), T)) := Lib.hid (by rw [HX.out, if_pos h0])
    have hb0 : (er != 0) = true := by simpa using h0
    clear h0 HX HO
    go_enter Tryz.func20, Tryz.ntmps20
    go_wp2_with fail
    refine HP.out.mono ?_
    rintro e w1 ⟨rfl, hb⟩
    have HB := Lib.hid hb
    clear hb
    go_wp2
    go_ret2
    rw [HE.out]
    exact ⟨rfl, TDid.same H.out HB.out⟩
end Go.Proofs.YtaiihklfeoeoeaaGreat.W

/- Package tree: Move. -/
namespace Go.Proofs.YtaiihklfeoeoeaaGreat.W
open Go.RowKit
open Go.Proofs.YtaiihklfeoeoeaaGreat.NM
set_option linter.unusedVariables false
set_option linter.unusedSimpArgs false

theorem tree_thing {w : World} {a b : Nat} {cs cs' : Array Value} (h1 : w.heap[a]? = some (.cells cs 55 (0, 0))) (h2 : w.heap[b]? = some (.cells cs' 94 (0, 0))) : a ≠ b := by
  rintro rfl
  rw [h1] at h2
  simp at h2
/-- A thing has another name. -/
theorem TreeOk.renamed {w w' : World} {t : Nat} {S : List Nat} {T : PT} {bm : Nat} {f g : Nat → Nat} (h : TreeOk w t S T bm f g) {x : Th} (hx : x ∈ T) {q : Nat} {la : List UInt8} (hd : tIsDir T q = true) (hk : tKidOf T q la = none) (hmay : mayB la = true)
    (hm : MapF 3 klI okI w' bm (φT T f) (T.length + 1)) (hi : ∀ a, tIsDir T a = true → a ≠ q → MapF 9 klS okS w' (g a) (φK (tDel T x.ino) a) (nKids (tDel T x.ino) a))
    (hq : MapF 9 klS okS w' (g q) (updF (φK (tDel T x.ino) q) la (.int .i64 (x.ino : Int))) (nKids (tDel T x.ino) q + 1))
    (hb : w'.heap[f x.ino]? = some (.cells (thCells { x with dir := q, name := la } (if tIsDir T x.ino then some (g x.ino) else none)) 94 (0, 0))) (hc : Chg [bm, g x.dir, g q, f x.ino] w w') :
    TreeAt w' t S (tRename T x.ino q la) := by
  have hp := ren_perm h.ok.rise hx q la
  have hx2 := (h.ok.nums x hx).1
  have hxh : tHas T x.ino = true := has_iff.2 (.inr ⟨x, hx, rfl⟩)
  have hdx := h.ok.dirs x hx
  have hok : TOk (tRename T x.ino q la) := h.ok.ren hd hk hmay
  have hkk := kidOf_self_del h.ok x.ino
  refine ⟨bm, f, g, ?_⟩
  have hxm : { x with dir := q, name := la } ∈ tRename T x.ino q la := hp.mem_iff.2 (List.mem_cons_self ..)
  exact {
    head := hc.keep h.head (by
      have h1 := ne_map h.things (blk_cell h.head 0 _ rfl)
      have h2 := ne_map (h.ins _ hd) (blk_cell h.head 0 _ rfl)
      have h3 := ne_map (h.ins _ hdx) (blk_cell h.head 0 _ rfl)
      have h4 := tree_thing h.head (h.each _ hxh)
      simp at h1 h2 h3 ⊢; exact ⟨h1, h3, h2, h4⟩)
    things := hm.congr (by unfold tRename; simp) (fun z hz => by unfold φT; simp only [has_ren])
    each := fun a ha => by
      rw [has_ren] at ha
      rw [isDir_ren]
      by_cases e : a = x.ino
      · subst e
        have e1 : thOf (tRename T x.ino q la) x.ino = { x with dir := q, name := la } := thOf_mem hok hxm
        rw [e1]; exact hb
      · have e1 : thOf (tRename T x.ino q la) a = thOf T a := by
          unfold thOf
          by_cases e1 : a = 1
          · rw [if_pos e1, if_pos e1]
          · rw [if_neg e1, if_neg e1, get_ren]
            cases hg : tGet T a with
            | none => rfl
            | some y =>
              have := (get_some hg).2
              simp only [Option.map_some, Option.getD_some]
              rw [if_neg (by omega)]
        rw [e1]
        have hc0 := (h.cells ha).1
        exact hc.keep (h.each a ha) (by
          have h1 := ne_map h.things hc0
          have h2 := ne_map (h.ins _ hd) hc0
          have h3 := ne_map (h.ins _ hdx) hc0
          have h4 : f a ≠ f x.ino := fun e2 => e (h.finj _ _ ha hxh e2)
          simp at h1 h2 h3 ⊢; exact ⟨h1, h3, h2, h4⟩)
    ins := fun a ha => by
      rw [isDir_ren] at ha
      by_cases e : a = q
      · subst e
        refine hq.congr (by rw [kids_cons hp, if_pos rfl]) (fun s _ => ?_)
        by_cases e3 : s = la
        · subst e3
          rw [updF_self]; unfold φK
          rw [kidOf_cons hok hkk hp, if_pos ⟨rfl, rfl⟩]; rfl
        · rw [updF_other _ _ e3]; unfold φK
          rw [kidOf_cons hok hkk hp, if_neg (fun hh => e3 hh.2)]
      · refine (hi a ha e).congr (by rw [kids_cons hp, if_neg (fun hh => e hh.symm)]; rfl) (fun s _ => ?_)
        unfold φK
        rw [kidOf_cons hok hkk hp, if_neg (fun hh => e hh.1)]
    finj := fun a b ha hb e => by rw [has_ren] at ha hb; exact h.finj a b ha hb e
    ginj := fun a b ha hb e => by rw [isDir_ren] at ha hb; exact h.ginj a b ha hb e
    gm := fun a ha => by rw [isDir_ren] at ha; exact h.gm a ha
    mem := ⟨h.mem.1, h.mem.2.1, fun a ha => by rw [has_ren] at ha; exact h.mem.2.2.1 a ha, fun a ha => by rw [isDir_ren] at ha; exact h.mem.2.2.2 a ha⟩
    lim := fun z hz => Nat.lt_of_lt_of_le (h.lim z hz) hc.size
    ok := hok }

def MovePost (w : World) (t : Nat) (S : List Nat) (r : Int × PT) (e : Ending) (w' : World) : Prop := e = .returned (.int .i64 r.1) ∧ TDid w w' t S r.2
/-- What becomes of it all, from the state behind the draw. -/
theorem move_done {w w2 w3 w5 : World} {t : Nat} {S : List Nat} {T : PT} {bm : Nat} {f g : Nat → Nat} {x : Th} {q : Nat} {la : List UInt8} (h : TreeOk w2 t S T bm f g) (hc : Chg [] w w2) (hx : x ∈ T) (hd : tIsDir T q = true) (hk : tKidOf T q la = none) (hmay : mayB la = true)
    (hm3 : MapF 9 klS okS w3 (g x.dir) (delF (φK T x.dir) x.name) (nKids T x.dir - 1)) (hc3 : Chg [g x.dir] w2 w3)
    (hp : PutsTh ((w3.setCell ⟨f x.ino, 0, none⟩ (.int .i64 (q : Int))).setCell ⟨f x.ino, 1, none⟩ (.string ⟨la.toArray⟩)) bm (g q) (φT T f) (T.length + 1) (φK (tDel T x.ino) q) (nKids (tDel T x.ino) q) (x.ino : Int) (f x.ino) la w5) : TDid w w5 t S (tRename T x.ino q la) := by
  have hxh : tHas T x.ino = true := has_iff.2 (.inr ⟨x, hx, rfl⟩)
  have hdx := h.ok.dirs x hx
  obtain ⟨p1, p2, p3, p4⟩ := hp
  have hfl := blk_lt (h.each _ hxh)
  have hc4 : Chg [f x.ino] w3 ((w3.setCell ⟨f x.ino, 0, none⟩ (.int .i64 (q : Int))).setCell ⟨f x.ino, 1, none⟩ (.string ⟨la.toArray⟩)) := ((Chg.refl _ _).setCell (.inl (by simp)) _).setCell (.inl (by simp)) _
  rw [φT_has hxh] at p1
  have e2 : φK (tDel T x.ino) q la = none := by
    unfold φK
    cases hg : tKidOf (tDel T x.ino) q la with
    | none => rfl
    | some z =>
      obtain ⟨h1, h2⟩ := kidOf_some hg
      exact absurd h2 (kidOf_none hk z (mem_del.1 h1).1)
  rw [e2] at p2
  have hm5 : MapF 3 klI okI w5 bm (φT T f) (T.length + 1) := p1.congr rfl (fun z hz => by
    by_cases e : z = (x.ino : Int)
    · subst e; rw [updF_self, φT_has hxh]
    · rw [updF_other _ _ e])
  have h3 := h.unname hx hm3 hc3
  have fcell := (h.cells hxh).1
  have hfm : ∀ a, tIsDir T a = true → f x.ino ≠ g a := fun a ha => ne_map (h.ins a ha) fcell
  have hfbm : f x.ino ≠ bm := ne_map h.things fcell
  have hc25 : Chg [bm, g x.dir, g q, f x.ino] w2 w5 := ((hc3.mono (by simp)).trans hc4 (by simp)).trans p3 (by simp)
  refine ⟨S, h.renamed hx hd hk hmay hm5 (fun a ha hne => ?_) p2 ?_ hc25, fun z hz => .inl hz, (hc.mono (by simp)).trans hc25 (fun z hz => ?_)⟩
  · refine ((h3 a ha).chg hc4 (by have := hfm a ha; simp; exact fun e => this e.symm)).chg p3 ?_
    have h1 := h.gm a ha
    have h2 : g a ≠ g q := fun e => hne (h.ginj _ _ ha hd e)
    simp; exact ⟨h1, h2⟩
  · refine p3.keep ?_ (by simp; exact ⟨hfbm, hfm q hd⟩)
    have hb3 := hc3.keep (h.each _ hxh) (by simpa using hfm _ hdx)
    have hs := set_blk (j := 1) (u := .string ⟨la.toArray⟩) (set_blk (j := 0) (u := .int .i64 (q : Int)) hb3)
    rw [hs, thOf_mem h.ok hx]
    rfl
  · simp at hz
    rcases hz with rfl | rfl | rfl | rfl
    · exact .inl h.mem.2.1
    · exact .inl (h.mem.2.2.2 _ hdx)
    · exact .inl (h.mem.2.2.2 _ hd)
    · exact .inl (h.mem.2.2.1 _ hxh)
/-- What 'put' asks. -/
theorem move_ready {w2 w3 : World} {t : Nat} {S : List Nat} {T : PT} {bm : Nat} {f g : Nat → Nat} {x : Th} {q : Nat} {la : List UInt8} (h : TreeOk w2 t S T bm f g) (hx : x ∈ T) (hd : tIsDir T q = true) (hla : la.length ≤ 12) (hT : T.length ≤ 1000)
    (hm3 : MapF 9 klS okS w3 (g x.dir) (delF (φK T x.dir) x.name) (nKids T x.dir - 1)) (hc3 : Chg [g x.dir] w2 w3) :
    Calls Tryz.prog 40 #[.pointer (some ⟨t, 0, none⟩), .int .i64 (q : Int), .int .i64 (x.ino : Int), .pointer (some ⟨f x.ino, 0, none⟩)] ((w3.setCell ⟨f x.ino, 0, none⟩ (.int .i64 (q : Int))).setCell ⟨f x.ino, 1, none⟩ (.string ⟨la.toArray⟩)) fun e w' => e = .returned (.tuple #[]) ∧
      PutsTh ((w3.setCell ⟨f x.ino, 0, none⟩ (.int .i64 (q : Int))).setCell ⟨f x.ino, 1, none⟩ (.string ⟨la.toArray⟩)) bm (g q) (φT T f) (T.length + 1) (φK (tDel T x.ino) q) (nKids (tDel T x.ino) q) (x.ino : Int) (f x.ino) la w' := by
  have hxh : tHas T x.ino = true := has_iff.2 (.inr ⟨x, hx, rfl⟩)
  have hdx := h.ok.dirs x hx
  have hc4 : Chg [f x.ino] w3 ((w3.setCell ⟨f x.ino, 0, none⟩ (.int .i64 (q : Int))).setCell ⟨f x.ino, 1, none⟩ (.string ⟨la.toArray⟩)) := ((Chg.refl _ _).setCell (.inl (by simp)) _).setCell (.inl (by simp)) _
  have hc24 : Chg [g x.dir, f x.ino] w2 ((w3.setCell ⟨f x.ino, 0, none⟩ (.int .i64 (q : Int))).setCell ⟨f x.ino, 1, none⟩ (.string ⟨la.toArray⟩)) := (hc3.mono (by simp)).trans hc4 (by simp)
  have fcell := (h.cells hxh).1
  have hfm : ∀ a, tIsDir T a = true → f x.ino ≠ g a := fun a ha => ne_map (h.ins a ha) fcell
  have hfbm : f x.ino ≠ bm := ne_map h.things fcell
  have h1 := has_small h.ok hxh
  have h2 := has_small h.ok (dir_has hd)
  have hb3 := hc3.keep (h.each _ hxh) (by simpa using hfm _ hdx)
  have hs := set_blk (j := 1) (u := .string ⟨la.toArray⟩) (set_blk (j := 0) (u := .int .i64 (q : Int)) hb3)
  have hkl : nKids (tDel T x.ino) q ≤ 1000 := Nat.le_trans (kids_le _ _) (by
    unfold tDel; exact Nat.le_trans (List.length_filter_le _ _) hT)
  refine tput_any t bm q x.ino (f x.ino) (f q) (g q) (φT T f) (T.length + 1) (φK (tDel T x.ino) q) (nKids (tDel T x.ino) q) la _ ?_ ?_ (by unfold maxLen; omega) (okI_small (by omega)) (okI_small (by omega)) ?_ ?_ ?_ ?_ (by unfold maxLen; omega) (by unfold okS maxLen; omega) (h.gm q hd)
  · refine hc24.keep h.head ?_
    have h3 := ne_map (h.ins _ hdx) (blk_cell h.head 0 _ rfl)
    have h4 := tree_thing h.head (h.each _ hxh)
    simp at h3 ⊢; exact ⟨h3, h4⟩
  · refine h.things.chg hc24 ?_
    have := h.gm _ hdx
    simp; exact ⟨fun e => this e.symm, fun e => hfbm e.symm⟩
  · by_cases e : q = x.ino
    · subst e; rw [updF_self]
    · rw [updF_other _ _ (by omega), φT_has (dir_has hd)]
  · by_cases e : q = x.ino
    · subst e
      have := blk_cell hs 3 (.map (some (g x.ino))) (by rw [if_pos hd]; rfl)
      exact this
    · have d3 := (h.cells (dir_has hd)).2.2.2
      rw [if_pos hd] at d3
      refine hc24.cell d3 ?_
      have h5 := ne_map (h.ins _ hdx) d3
      have h6 : f q ≠ f x.ino := fun e2 => e (h.finj _ _ (dir_has hd) hxh e2)
      simp at h5 ⊢; exact ⟨h5, h6⟩
  · exact blk_cell hs 1 _ rfl
  · exact (h.unname hx hm3 hc3 q hd).chg hc4 (by simpa using fun e => hfm q hd e.symm)
end Go.Proofs.YtaiihklfeoeoeaaGreat.W

/- Package tree: Move, its walk. -/
namespace Go.Proofs.YtaiihklfeoeoeaaGreat.W
open Go.RowKit
open Go.Proofs.YtaiihklfeoeoeaaGreat.NM
set_option linter.unusedVariables false
set_option linter.unusedSimpArgs false

theorem not_none {l : List (List UInt8)} {s : List UInt8} (h : splitB s = some l) : splitB s ≠ none := by rw [h]; simp

set_option maxHeartbeats 8000000 in
set_option maxRecDepth 100000 in
theorem tmove_any (t : Nat) (S : List Nat) (T : PT) (s s2 : ByteArray) (w : World) (h : TreeAt w t S T) (hs : s.size ≤ maxLen) (hs2 : s2.size ≤ maxLen) (hT : T.length ≤ 1000) :
    Calls Tryz.prog 22 #[.pointer (some ⟨t, 0, none⟩), .string s, .string s2] w (MovePost w t S (tMove T s.data.toList s2.data.toList)) := by
  have H := Lib.hid h
  have HS := Lib.hid hs
  have HS2 := Lib.hid hs2
  have hok := Lib.hid h.ok
  have HTL := Lib.hid hT
  clear h hs hs2 hT
  obtain ⟨Z, hZ⟩ : ∃ Z, tMove T s.data.toList s2.data.toList = Z := ⟨_, rfl⟩
  have HX : Hid (Z = if (tLook T s.data.toList).2.2 ≠ 0 then ((tLook T s.data.toList).2.2, T) else if (tLook T s.data.toList).1 = 1 then (8, T) else
      if splitB s2.data.toList = none then (12, T) else if (withinB s2.data.toList s.data.toList || withinB s.data.toList s2.data.toList) = true then (1, T) else
      if (tPlace T s2.data.toList).2.2 ≠ 0 then ((tPlace T s2.data.toList).2.2, T) else
      if tKid T (tPlace T s2.data.toList).1 (tPlace T s2.data.toList).2.1 ≠ 0 then (7, T) else
      (0, tRename T (tLook T s.data.toList).1 (tPlace T s2.data.toList).1 (tPlace T s2.data.toList).2.1)) := Lib.hid (by rw [← hZ]; rfl)
  rw [hZ]
  clear hZ
  have HP := Lib.hid (tlook_any t S T s w H.out HS.out)
  have HO : Hid ((tLook T s.data.toList).2.2 = 0 → tHas T (tLook T s.data.toList).1 = true ∧ (tLook T s.data.toList).2.1 = tIsDir T (tLook T s.data.toList).1) := Lib.hid look_ok
  generalize tLook T s.data.toList = r at *
  obtain ⟨a, isd, er⟩ := r
  simp only at HX HO
  by_cases h0 : er = 0
  · subst h0
    obtain ⟨o1, _⟩ := HO.out rfl
    have HA := Lib.hid o1
    have has := has_small hok.out o1
    have HX1 : Hid (Z = if a = 1 then (8, T) else
      if splitB s2.data.toList = none then (12, T) else if (withinB s2.data.toList s.data.toList || withinB s.data.toList s2.data.toList) = true then (1, T) else
      if (tPlace T s2.data.toList).2.2 ≠ 0 then ((tPlace T s2.data.toList).2.2, T) else
      if tKid T (tPlace T s2.data.toList).1 (tPlace T s2.data.toList).2.1 ≠ 0 then (7, T) else
      (0, tRename T a (tPlace T s2.data.toList).1 (tPlace T s2.data.toList).2.1)) := Lib.hid (by rw [HX.out, if_neg (by simp)])
    clear o1 HX HO
    by_cases h1 : a = 1
    · have HE : Hid (Z = (8, T)) := Lib.hid (by rw [HX1.out, if_pos h1])
      have hb1 : ((a : Int) == 1) = true := by rw [h1]; rfl
      clear h1 HX1
      go_enter Tryz.func22, Tryz.ntmps22
      go_wp2_with fail
      refine HP.out.mono ?_
      rintro e w1 ⟨rfl, hb⟩
      have HB := Lib.hid hb
      clear hb
      go_wp2
      go_ret
      rw [HE.out]
      exact ⟨rfl, TDid.same H.out HB.out⟩
    · have hb1 : ((a : Int) == 1) = false := by simp; omega
      have HX2 : Hid (Z = if splitB s2.data.toList = none then (12, T) else if (withinB s2.data.toList s.data.toList || withinB s.data.toList s2.data.toList) = true then (1, T) else
        if (tPlace T s2.data.toList).2.2 ≠ 0 then ((tPlace T s2.data.toList).2.2, T) else
        if tKid T (tPlace T s2.data.toList).1 (tPlace T s2.data.toList).2.1 ≠ 0 then (7, T) else
        (0, tRename T a (tPlace T s2.data.toList).1 (tPlace T s2.data.toList).2.1)) := Lib.hid (by rw [HX1.out, if_neg h1])
      obtain ⟨x, hx, rfl⟩ := has_mem HA.out h1
      have HXM := Lib.hid hx
      clear h1 HX1 hx
      cases hsp : splitB s2.data.toList with
      | none =>
        have HE : Hid (Z = (12, T)) := Lib.hid (by rw [HX2.out, if_pos hsp])
        have HSP := Lib.hid hsp
        clear hsp HX2
        go_enter Tryz.func22, Tryz.ntmps22
        go_wp2_with fail
        refine HP.out.mono ?_
        rintro e w1 ⟨rfl, hb⟩
        have HB := Lib.hid hb
        clear hb
        go_wp2_with fail
        refine (split_any s2 w1 HS2.out).mono ?_
        rintro e w2 ⟨hb, h2⟩
        rw [HSP.out] at h2
        subst h2
        have HB2 := Lib.hid (chg_tr HB.out (chg_below hb))
        clear hb
        go_wp2
        go_ret
        rw [HE.out]
        exact ⟨rfl, TDid.same H.out HB2.out⟩
      | some l2 =>
        have HX3 : Hid (Z = if (withinB s2.data.toList s.data.toList || withinB s.data.toList s2.data.toList) = true then (1, T) else
          if (tPlace T s2.data.toList).2.2 ≠ 0 then ((tPlace T s2.data.toList).2.2, T) else
          if tKid T (tPlace T s2.data.toList).1 (tPlace T s2.data.toList).2.1 ≠ 0 then (7, T) else
          (0, tRename T x.ino (tPlace T s2.data.toList).1 (tPlace T s2.data.toList).2.1)) := Lib.hid (by rw [HX2.out, if_neg (by rw [hsp]; simp)])
        have HSPL : Hid (∀ w, Calls Tryz.prog 41 #[.string s2] w (fun e w' => (∃ v, e = .returned (.tuple #[v, .int .i64 0])) ∧ Chg [] w w')) := Lib.hid (fun w => (split_any s2 w HS2.out).mono fun e w' ⟨hb, h2⟩ => by
          rw [hsp] at h2
          obtain ⟨v, h2, _⟩ := h2
          exact ⟨⟨v, h2⟩, chg_below hb⟩)
        have HW1 : Hid (∀ w, Calls Tryz.prog 46 #[.string s2, .string s] w (fun e w' => e = .returned (.bool (withinB s2.data.toList s.data.toList)) ∧ Chg [] w w')) := Lib.hid (fun w => (within_any s2 s w HS2.out HS.out).mono fun e w' ⟨h, hb⟩ => ⟨h, chg_below hb⟩)
        have HW2 : Hid (∀ w, Calls Tryz.prog 46 #[.string s, .string s2] w (fun e w' => e = .returned (.bool (withinB s.data.toList s2.data.toList)) ∧ Chg [] w w')) := Lib.hid (fun w => (within_any s s2 w HS.out HS2.out).mono fun e w' ⟨h, hb⟩ => ⟨h, chg_below hb⟩)
        clear hsp HX2
        generalize withinB s2.data.toList s.data.toList = b1 at *
        generalize withinB s.data.toList s2.data.toList = b2 at *
        cases b1 with
        | true =>
          have HE : Hid (Z = (1, T)) := Lib.hid (by rw [HX3.out, if_pos (by simp)])
          clear HX3
          go_enter Tryz.func22, Tryz.ntmps22
          go_wp2_with fail
          refine HP.out.mono ?_
          rintro e w1 ⟨rfl, hb⟩
          have HB := Lib.hid hb
          clear hb
          go_wp2_with fail
          refine (HSPL.out w1).mono ?_
          rintro e w2 ⟨⟨v, rfl⟩, hb⟩
          have HB2 := Lib.hid (chg_tr HB.out hb)
          clear hb
          go_wp2_with fail
          refine (HW1.out w2).mono ?_
          rintro e w3 ⟨rfl, hb⟩
          have HB3 := Lib.hid (chg_tr HB2.out hb)
          clear hb
          go_wp2
          go_ret
          rw [HE.out]
          exact ⟨rfl, TDid.same H.out HB3.out⟩
        | false =>
          cases b2 with
          | true =>
            have HE : Hid (Z = (1, T)) := Lib.hid (by rw [HX3.out, if_pos (by simp)])
            clear HX3
            go_enter Tryz.func22, Tryz.ntmps22
            go_wp2_with fail
            refine HP.out.mono ?_
            rintro e w1 ⟨rfl, hb⟩
            have HB := Lib.hid hb
            clear hb
            go_wp2_with fail
            refine (HSPL.out w1).mono ?_
            rintro e w2 ⟨⟨v, rfl⟩, hb⟩
            have HB2 := Lib.hid (chg_tr HB.out hb)
            clear hb
            go_wp2_with fail
            refine (HW1.out w2).mono ?_
            rintro e w3 ⟨rfl, hb⟩
            have HB3 := Lib.hid (chg_tr HB2.out hb)
            clear hb
            go_wp2_with fail
            refine (HW2.out w3).mono ?_
            rintro e w4 ⟨rfl, hb⟩
            have HB4 := Lib.hid (chg_tr HB3.out hb)
            clear hb
            go_wp2
            go_ret
            rw [HE.out]
            exact ⟨rfl, TDid.same H.out HB4.out⟩
          | false =>
            have HX4 : Hid (Z = if (tPlace T s2.data.toList).2.2 ≠ 0 then ((tPlace T s2.data.toList).2.2, T) else
              if tKid T (tPlace T s2.data.toList).1 (tPlace T s2.data.toList).2.1 ≠ 0 then (7, T) else
              (0, tRename T x.ino (tPlace T s2.data.toList).1 (tPlace T s2.data.toList).2.1)) := Lib.hid (by rw [HX3.out, if_neg (by simp)])
            have HPL : Hid (∀ w1, Chg [] w w1 → Calls Tryz.prog 39 #[.pointer (some ⟨t, 0, none⟩), .string s2] w1 (PlacePost w1 (tPlace T s2.data.toList))) := Lib.hid (fun w1 hc => tplace_any t S T s2 w1 (H.out.keep0 hc) HS2.out)
            have HPO : Hid ((tPlace T s2.data.toList).2.2 = 0 → tIsDir T (tPlace T s2.data.toList).1 = true ∧ mayB (tPlace T s2.data.toList).2.1 = true ∧ tHas T (tPlace T s2.data.toList).1 = true) := Lib.hid place_ok
            clear HX3
            generalize tPlace T s2.data.toList = pl at *
            obtain ⟨q, la, e2⟩ := pl
            simp only at HX4 HPO
            go_enter Tryz.func22, Tryz.ntmps22
            go_wp2_with fail
            refine HP.out.mono ?_
            rintro e w1 ⟨rfl, hb⟩
            have HB := Lib.hid hb
            clear hb
            go_wp2_with fail
            refine (HSPL.out w1).mono ?_
            rintro e w2 ⟨⟨v, rfl⟩, hb⟩
            have HB2 := Lib.hid (chg_tr HB.out hb)
            clear hb
            go_wp2_with fail
            refine (HW1.out w2).mono ?_
            rintro e w3 ⟨rfl, hb⟩
            have HB3 := Lib.hid (chg_tr HB2.out hb)
            clear hb
            go_wp2_with fail
            refine (HW2.out w3).mono ?_
            rintro e w4 ⟨rfl, hb⟩
            have HB4 := Lib.hid (chg_tr HB3.out hb)
            clear hb
            go_wp2_with fail
            refine (HPL.out w4 HB4.out).mono ?_
            rintro e w5 ⟨rfl, hb⟩
            have HB5 := Lib.hid (chg_tr HB4.out hb)
            clear hb
            by_cases he : e2 = 0
            · subst he
              obtain ⟨o1, o2, o3⟩ := HPO.out rfl
              have HD := Lib.hid o1
              have hla := may_len o2
              have HM := Lib.hid o2
              have hqs := has_small hok.out o3
              have HX5 : Hid (Z = if tKid T q la ≠ 0 then (7, T) else (0, tRename T x.ino q la)) := Lib.hid (by rw [HX4.out, if_neg (by simp)])
              clear HX4 HPO o2
              obtain ⟨bm, f, g, HT⟩ := H.out.keep0 HB5.out
              have c0 := blk_cell HT.head 0 _ rfl
              have hlk := HT.at o3
              have d3 := (HT.cells o3).2.2.2
              rw [if_pos o1] at d3
              have hkd := HT.kid o1 la (by unfold maxLen; omega)
              have HTT := Lib.hid HT
              have HQ := Lib.hid o3
              clear HT o1 o3
              cases hk : tKidOf T q la with
              | some y =>
                have HE : Hid (Z = (7, T)) := Lib.hid (by
                  rw [HX5.out, if_pos]
                  intro h0
                  rw [(kid_zero hok.out).1 h0] at hk; cases hk)
                rw [hk] at hkd
                clear hk
                generalize tKid T q la = c at *
                go_wp2
                go_ret
                rw [HE.out]
                exact ⟨rfl, TDid.same H.out HB5.out⟩
              | none =>
                have hk0 : tKid T q la = 0 := (kid_zero hok.out).2 hk
                have HE : Hid (Z = (0, tRename T x.ino q la)) := Lib.hid (by rw [HX5.out, if_neg (by simp [hk0])])
                have HK := Lib.hid hk
                rw [hk, hk0] at hkd
                clear hk hk0 HX5
                have hxd := hok.out.dirs x HXM.out
                have hlx := HTT.out.at HA.out
                obtain ⟨x0, x1, x2, x3⟩ := HTT.out.cells HA.out
                rw [thOf_mem hok.out HXM.out] at x0 x1
                have hlp := HTT.out.at (dir_has hxd)
                have p3 := (HTT.out.cells (dir_has hxd)).2.2.2
                rw [if_pos hxd] at p3
                have HXD := Lib.hid hxd
                have hlp2 : (Instr.lookup 53 (.map (some bm)) (.int .i64 (x.dir : Int)) false).run Tryz.prog w5.drew = .ok (.pointer (some ⟨f x.dir, 0, none⟩)) w5.drew := (HTT.out.keep ((Chg.refl [] w5).drew) (by simp)).at (dir_has hxd)
                have HOS : Hid (okS x.name) := Lib.hid (by have := may_len (hok.out.may x HXM.out); unfold okS maxLen; omega)
                clear x2 x3 hxd
                go_wp2
                go_still_tail 16, (by kernel_rfl)
                change wpList _ _ _ _ _ w5.drew
                have HC2 : Hid (Chg [] w w5.drew) := Lib.hid HB5.out.drew
                have HT2 : Hid (TreeOk w5.drew t S T bm f g) := Lib.hid (HTT.out.keep ((Chg.refl [] w5).drew) (by simp))
                clear hlk hlp hlx hlp2 hkd c0 d3 x0 x1 p3
                generalize w5.drew = w6 at *
                have HG2 : Hid (MapF 9 klS okS w6 (g x.dir) (φK T x.dir) (nKids T x.dir)) := Lib.hid (HT2.out.ins _ HXD.out)
                go_wp2_with (refine wpList_del keStr _ rfl _ _ _ rfl 3 Tryz.underlying92 (g x.dir) (nKids T x.dir) (φK T x.dir) rfl HG2.out x.name rfl (HOS.out) ?_
                             intro w7 hm3 hc3 hs3
                             have e1 : φK T x.dir x.name = some (.int .i64 (x.ino : Int)) := by unfold φK; rw [kidOf_mem hok.out HXM.out]; rfl
                             rw [e1] at hm3
                             have hbx := hc3.keep (HT2.out.each _ HA.out) (by simpa using ne_map (HT2.out.ins _ HXD.out) (HT2.out.cells HA.out).1)
                             have x0 := blk_cell hbx 0 _ rfl
                             have x1 := blk_cell hbx 1 _ rfl
                             have f0 := blk_frozen hbx 0
                             have f1 := blk_frozen hbx 1
                             have hfl := blk_lt hbx
                             have HB7 := Lib.hid (And.intro hm3 hc3)
                             clear hm3 hc3 hs3 e1 hbx)
                refine (move_ready HT2.out HXM.out HD.out hla.2 HTL.out HB7.out.1 HB7.out.2).mono ?_
                rintro e w8 ⟨rfl, hp⟩
                have HFIN := Lib.hid (move_done HT2.out HC2.out HXM.out HD.out HK.out HM.out HB7.out.1 HB7.out.2 hp)
                clear hp
                go_wp2
                go_ret
                rw [HE.out]
                exact ⟨rfl, HFIN.out⟩
            · have HE : Hid (Z = (e2, T)) := Lib.hid (by rw [HX4.out, if_pos he])
              have hb0 : (e2 != 0) = true := by simpa using he
              clear he HX4 HPO
              go_wp2
              go_ret
              rw [HE.out]
              exact ⟨rfl, TDid.same H.out HB5.out⟩
  · have HE : Hid (Z = (er, T)) := Lib.hid (by rw [HX.out, if_pos h0])
    have hb0 : (er != 0) = true := by simpa using h0
    clear h0 HX HO
    go_enter Tryz.func22, Tryz.ntmps22
    go_wp2_with fail
    refine HP.out.mono ?_
    rintro e w1 ⟨rfl, hb⟩
    have HB := Lib.hid hb
    clear hb
    go_wp2
    go_ret
    rw [HE.out]
    exact ⟨rfl, TDid.same H.out HB.out⟩
end Go.Proofs.YtaiihklfeoeoeaaGreat.W

/- Package tree: Inos. -/
namespace Go.Proofs.YtaiihklfeoeoeaaGreat.W
open Go.RowKit
open Go.Proofs.YtaiihklfeoeoeaaGreat.NM
set_option linter.unusedVariables false
set_option linter.unusedSimpArgs false

def inosL (T : PT) : List Int := 1 :: T.map (fun x => (x.ino : Int))
theorem inosL_len (T : PT) : (inosL T).length = T.length + 1 := by simp [inosL]
theorem inosL_rise {T : PT} (h : TOk T) : (inosL T).Pairwise (· < ·) := by
  unfold inosL
  refine List.pairwise_cons.2 ⟨fun a ha => ?_, ?_⟩
  · obtain ⟨x, hx, rfl⟩ := List.mem_map.1 ha
    have := (h.nums x hx).1; omega
  · rw [List.pairwise_map]
    exact h.rise.imp fun {a b} hab => by omega
theorem inosL_mem {T : PT} (k : Int) : k ∈ inosL T ↔ 0 ≤ k ∧ tHas T k.toNat = true := by
  unfold inosL
  rw [List.mem_cons, List.mem_map]
  constructor
  · rintro (rfl | ⟨x, hx, rfl⟩)
    · exact ⟨by omega, rfl⟩
    · exact ⟨by omega, has_iff.2 (.inr ⟨x, hx, by simp⟩)⟩
  · rintro ⟨h0, h⟩
    rcases has_iff.1 h with h1 | ⟨x, hx, h1⟩
    · left; omega
    · right; exact ⟨x, hx, by omega⟩
theorem φT_some {T : PT} {f : Nat → Nat} (k : Int) : (φT T f k).isSome = true ↔ k ∈ inosL T := by
  rw [inosL_mem]
  unfold φT
  by_cases h : 0 ≤ k ∧ tHas T k.toNat = true
  · rw [if_pos h]; simp [h]
  · rw [if_neg h]; exact ⟨(fun hh => by cases hh), (fun hh => absurd hh h)⟩
/-- What was met, sorted. -/
theorem sorted_inos {T : PT} (h : TOk T) {ks : List Int} (hn : ks.Nodup) (hm : ∀ k, k ∈ ks ↔ k ∈ inosL T) : ks.mergeSort (fun x y => decide (x ≤ y)) = inosL T := by
  have hr := inosL_rise h
  have hp : ks.Perm (inosL T) := (List.perm_ext_iff_of_nodup hn (hr.imp fun {a b} hab => by omega)).2 hm
  refine List.Perm.eq_of_pairwise (le := fun x y : Int => x ≤ y) ?_ ?_ (hr.imp fun {a b} hab => by omega) ((List.mergeSort_perm _ _).trans hp)
  · intro a b _ _ h1 h2; omega
  · have := List.pairwise_mergeSort (le := fun x y : Int => decide (x ≤ y)) (fun a b c h1 h2 => by simp at *; omega) (fun a b => by simp; omega) ks
    exact this.imp fun {a b} hab => by simpa using hab

def InosPost (w : World) (l : List Int) (e : Ending) (w' : World) : Prop := ∃ v, e = .returned v ∧ w'.ownsRow w.heap.size 3 1 v l.length (l.map (Value.int .i64)) ∧ Chg [] w w'
theorem elInts : El Tryz.prog 35 3 (.int .i64 0) 1 8 := El.mk Tryz.underlying35 (by kernel_rfl) rfl (by decide)

set_option maxHeartbeats 4000000 in
set_option maxRecDepth 100000 in
theorem tinos_any (t : Nat) (S : List Nat) (T : PT) (w : World) (h : TreeAt w t S T) : Calls Tryz.prog 10 #[.pointer (some ⟨t, 0, none⟩)] w (InosPost w (inosL T)) := by
  have hok := Lib.hid h.ok
  have hlim := Lib.hid h.lim
  have hlen : T.length ≤ 127 := by
    have h1 := least_le T 2
    have h2 := h.ok.nums
    have h3 := h.ok.rise
    have : ∀ (U : PT) (n : Nat), U.Pairwise (fun x y => x.ino < y.ino) → (∀ x ∈ U, n ≤ x.ino ∧ x.ino ≤ 128) → U = [] ∨ n + U.length ≤ 129 := by
      intro U
      induction U with
      | nil => intro n _ _; exact .inl rfl
      | cons y r ih =>
        intro n hp hm
        right
        have hp' := List.pairwise_cons.1 hp
        have hy := hm y (List.mem_cons_self ..)
        rcases ih (n + 1) hp'.2 (fun x hx => ⟨by have := hp'.1 x hx; omega, (hm x (List.mem_cons_of_mem _ hx)).2⟩) with h4 | h4
        · subst h4; simp; omega
        · simp; omega
    rcases this T 2 h3 h2 with h4 | h4
    · rw [h4]; simp
    · omega
  have H := Lib.hid h
  obtain ⟨bm, f, g, HT⟩ := h
  have c0 := blk_cell HT.head 0 _ rfl
  have hbl := HT.things.lt
  have htl := blk_lt HT.head
  have HM := Lib.hid HT.things
  have htb : t ≠ bm := ne_map HT.things (blk_cell HT.head 0 _ rfl)
  clear HT
  go_enter Tryz.func10, Tryz.ntmps10
  go_wp2_with fail
  refine (tmade_any t S T w H.out).mono ?_
  rintro e w' ⟨rfl, rfl⟩
  go_wp2_with (refine wpList_rng keInt _ rfl _ _ rfl 51 Tryz.underlying53 bm (T.length + 1) (φT T f) rfl HM.out ?_; intro w1 hr1 hc1 hs1; have HR1 := Lib.hid (And.intro hr1 (And.intro hc1 hs1)); clear hr1 hc1 hs1)
  go_frame
  go_loopg [3] (T.length + 1) (fun gh v3 wr => ∃ (v : Value) (ks : List Int) (left : Int → Bool) (cnt : Nat), v = v3 ∧ cnt ≤ gh ∧ ks.length + cnt ≤ T.length + 1 ∧ wr.ownsRow w.heap.size 3 1 v ks.length (ks.map (Value.int .i64)) ∧ Hid (Rng 3 klI okI wr bm w.heap.size (φT T f) (T.length + 1) left cnt) ∧
    Hid (ks.Nodup ∧ ∀ k, okI k → (k ∈ ks ↔ k ∈ inosL T ∧ left k = false)) ∧ Hid (∀ k ∈ ks, okI k) ∧ Hid (Chg [] w wr))
  case atStart =>
    refine ⟨_, [], _, _, rfl, Nat.le_refl _, by simp, World.ownsRow_nil _ _ _ _, Lib.hid HR1.out.1, Lib.hid ⟨List.nodup_nil, fun k hk => ?_⟩, Lib.hid (by simp), Lib.hid HR1.out.2.1⟩
    constructor
    · intro h; cases h
    · rintro ⟨h1, h2⟩
      rw [(φT_some (f := f) k).2 h1] at h2; cases h2
  case round =>
    obtain ⟨v3, ks, left, cnt, rfl, hcg, hkc, hown, HR, HK, HO, HC⟩ := hrel
    have hrne : some w.heap.size ≠ v3.ownBlock := by
      obtain ⟨D, lf, hr, _⟩ := HR.out
      exact row_ne_iter hown hr
    have HOWN := Lib.hid hown
    clear hown
    go_wp2_with (refine wpList_nxtI _ rfl _ rfl bm w.heap.size (T.length + 1) (φT T f) left cnt rfl HR.out ?_ ?_)
    · intro hc0 hl0
      have HALL : Hid (∀ k, k ∈ ks ↔ k ∈ inosL T) := Lib.hid (fun k => by
        constructor
        · intro hk
          exact ((HK.out.2 k (HO.out k hk)).1 hk).1
        · intro hk
          have hki : okI k := by
            rw [inosL_mem] at hk
            have := has_small hok.out hk.2
            exact i64_ok (by omega) (by omega)
          exact (HK.out.2 k hki).2 ⟨hk, hl0 k hki⟩)
      have HS : Hid (ks.mergeSort (fun x y => decide (x ≤ y)) = inosL T) := Lib.hid (sorted_inos hok.out HK.out.1 HALL.out)
      have HL : Hid (ks.length = T.length + 1) := Lib.hid (by
        have := congrArg List.length HS.out
        rw [List.length_mergeSort, inosL_len] at this; exact this)
      clear hc0 hl0
      obtain ⟨hl, hrow⟩ := HOWN.out
      rcases hrow with ⟨rfl, h0⟩ | ⟨gb, cap, cur, rfl, hbg, hgb, hnc, hcm, hcs, htake⟩
      · have := HL.out; omega
      · have hH := holds_of_blockI (ss := ks) hgb (by rw [Nat.mul_one] at htake; exact htake)
        have hlt := blk_lt hgb
        have HH := Lib.hid (And.intro hH (And.intro hgb (And.intro hnc (And.intro hcm hcs))))
        have hbase := hbg
        clear hl hH hgb hnc hcm hcs htake hbg hrne
        go_wp2_with fail
        refine (Tryz.slices_Sort_int gb 0 cap ks wr HH.out.1 hlt (by omega)).mono ?_
        rintro e w2 ⟨rfl, n, os, hw2⟩
        have HF : Hid (w2.ownsRow w.heap.size 3 1 (.slice (some ⟨gb, 0, none⟩) ks.length cap) ks.length ((inosL T).map (Value.int .i64)) ∧ Chg [] w w2) := Lib.hid (by
          rw [hw2, HS.out]
          refine ⟨ownsRow_sortedI (by rw [inosL_len, HL.out]) hbase HH.out.2.1 HH.out.2.2.1 HH.out.2.2.2.1 HH.out.2.2.2.2, ?_⟩
          exact (HC.out.grown (grownBy_sortedI _) (fun k hk => by cases hk; exact .inr hbase)))
        clear hw2
        go_wp2
        go_ret
        refine ⟨_, rfl, ?_, HF.out.2⟩
        have := HF.out.1
        rw [HL.out] at this
        rw [inosL_len, HL.out]
        exact this
    · intro x v w2 cnt2 hox hlx hvx hr2 hlt hc2 hs2 hen
      have HX : Hid (x ∈ inosL T ∧ x ∉ ks ∧ okI x) := Lib.hid (by
        have h1 := (φT_some (f := f) x).1 (by rw [hvx]; rfl)
        refine ⟨h1, fun hk => ?_, hox⟩
        have := ((HK.out.2 x hox).1 hk).2
        rw [hlx] at this; cases this)
      have HW2 := Lib.hid (And.intro hr2 (And.intro hc2 hs2))
      have hown2 := row_keep HOWN.out (w' := w2) (fun gq hq => hc2.block gq (World.ownsRow.lt HOWN.out gq hq).2 (by
        simp
        rintro rfl
        exact hrne hq.symm))
      have hbase : w.heap.size ≤ w2.heap.size := by
        have := HC.out.size
        rw [hs2]; omega
      clear hox hlx hvx hr2 hc2 hs2
      go_wp2_with (at_builtin; refine wpList_app1 rfl _ _ _ rfl w.heap.size elInts _ _ _ rfl hown2 _ #[.int .i64 x] rfl rfl (one1 rfl) (by unfold maxLen; omega) (by omega) hbase ?_; intro v4 w4 hown4 hg4)
      have HEND : Hid (Rng 3 klI okI w4 bm w.heap.size (φT T f) (T.length + 1) (fun y => !decide (y = x) && left y) cnt2 ∧ Chg [] w w4) := Lib.hid (by
        have hc24 : Chg (match v3.ownBlock with | some k => [k] | none => []) w2 w4 := by
          exact (Chg.refl (match v3.ownBlock with | some k => [k] | none => []) w2).grown hg4 (fun k hk => by
            have hk' : v3.ownBlock = some k := hk
            rw [hk']; exact .inl (by simp))
        have hrb : ∀ k, v3.ownBlock = some k → w.heap.size ≤ k ∧ k ≠ w.heap.size := fun k hk => ⟨(World.ownsRow.lt HOWN.out k hk).1, fun e => hrne (by rw [hk, e])⟩
        refine ⟨HW2.out.1.kept hc24 ?_ ?_, (HC.out.trans HW2.out.2.1 (fun z hz => ?_)).trans hc24 (fun z hz => ?_)⟩
        · cases hv : v3.ownBlock with
          | none => simp
          | some k => have := hrb k hv; simp; omega
        · cases hv : v3.ownBlock with
          | none => simp
          | some k => have := hrb k hv; simp; omega
        · simp at hz; right; omega
        · cases hv : v3.ownBlock with
          | none => rw [hv] at hz; simp at hz
          | some k => rw [hv] at hz; simp at hz; have := hrb k hv; right; omega)
      clear hg4
      go_roundg cnt2
      case measure => omega
      case rel =>
        refine ⟨_, ks ++ [x], _, cnt2, rfl, Nat.le_refl _, by simp; omega, by simpa using hown4, Lib.hid HEND.out.1, Lib.hid ⟨?_, fun k hk => ?_⟩, Lib.hid (fun k hk => ?_), Lib.hid HEND.out.2⟩
        · refine List.nodup_append.2 ⟨HK.out.1, by simp, fun a ha b hb => ?_⟩
          simp at hb
          rintro rfl
          subst hb
          exact HX.out.2.1 ha
        · rw [List.mem_append, HK.out.2 k hk]
          by_cases e : k = x
          · subst e; simp [HX.out.1]
          · simp [e]
        · rcases List.mem_append.1 hk with hk | hk
          · exact HO.out k hk
          · simp at hk; subst hk; exact HX.out.2.2
end Go.Proofs.YtaiihklfeoeoeaaGreat.W

/- A row of elements of several cells, sorted by slices.SortFunc: what it owns behind it. -/
namespace Go.Proofs.YtaiihklfeoeoeaaGreat.W
open Go.RowKit Go.Sort Go.Lib
set_option linter.unusedVariables false
set_option linter.unusedSimpArgs false

theorem flatMap_len {α : Type} (enc : α → List Value) {k : Nat} (hk : ∀ x, (enc x).length = k) : ∀ l : List α, (l.flatMap enc).length = l.length * k
  | [] => by simp
  | x :: r => by rw [List.flatMap_cons, List.length_append, hk, flatMap_len enc hk r, List.length_cons, Nat.add_mul]; omega
theorem flatMap_at {α : Type} [Inhabited α] (enc : α → List Value) {k : Nat} (hk : ∀ x, (enc x).length = k) : ∀ (l : List α) (i j : Nat), i < l.length → j < k → (l.flatMap enc)[i * k + j]? = (enc l[i]!)[j]?
  | [], i, j, h, _ => by simp at h
  | x :: r, 0, j, h, hj => by
    rw [List.flatMap_cons, Nat.zero_mul, Nat.zero_add, List.getElem?_append_left (by rw [hk]; exact hj)]; rfl
  | x :: r, i + 1, j, h, hj => by
    rw [List.flatMap_cons, List.getElem?_append_right (by rw [hk, Nat.add_mul]; omega), hk, show (i + 1) * k + j - k = i * k + j by rw [Nat.add_mul]; omega]
    exact flatMap_at enc hk r i j (by simpa using h) hj
theorem flat_eq {α : Type} [Inhabited α] (enc : α → List Value) {k : Nat} (hk : ∀ x, (enc x).length = k) (l : List α) : (flatK enc k l.toArray).toList = l.flatMap enc := by
  apply List.ext_getElem?
  intro t
  by_cases ht : t < l.length * k
  · have k0 : 0 < k := by
      rcases Nat.eq_zero_or_pos k with h | h
      · subst h; simp at ht
      · exact h
    have hi : t / k < l.length := (Nat.div_lt_iff_lt_mul k0).2 ht
    have hj : t % k < k := Nat.mod_lt _ k0
    have e : t = t / k * k + t % k := by rw [Nat.mul_comm]; exact (Nat.div_add_mod t k).symm
    rw [Array.getElem?_toList, Array.getElem?_eq_getElem (by simpa using ht)]
    have h1 := get_flatK enc k l.toArray t (by simpa using ht)
    rw [getElem!_pos _ t (by simpa using ht)] at h1
    rw [h1]
    conv => rhs; rw [e]
    rw [flatMap_at enc hk l _ _ hi hj]
    have h2 : l.toArray[t / k]! = l[t / k]! := by simp
    rw [h2, getElem!_pos _ (t % k) (by rw [hk]; exact hj), List.getElem?_eq_getElem]
  · rw [List.getElem?_eq_none (by simp; omega), List.getElem?_eq_none (by rw [flatMap_len enc hk]; omega)]

theorem holds_row {α : Type} [Inhabited α] (enc : α → List Value) {k : Nat} (hk : ∀ x, (enc x).length = k) {w : World} {g : Nat} {cur : Array Value} {e : TypeId} {ss : List α} (hb : w.heap[g]? = some (.cells cur e (0, 0))) (ht : cur.toList.take (ss.length * k) = ss.flatMap enc) : HoldsK enc k w g 0 ss.toArray := by
  intro j hj
  have hj' : j < ss.length * k := by simpa using hj
  rw [Nat.zero_add]
  have h1 : (flatK enc k ss.toArray)[j]! = (ss.flatMap enc)[j]'(by rw [flatMap_len enc hk]; exact hj') := by
    rw [getElem!_pos _ j hj]
    have := flat_eq enc hk ss
    rw [← Array.getElem_toList]
    simp only [this]
  have h2 : cur[j]? = some ((ss.flatMap enc)[j]'(by rw [flatMap_len enc hk]; exact hj')) := by
    rw [← Array.getElem?_toList, ← List.getElem?_take_of_lt hj', ht, List.getElem?_eq_getElem]
  refine ⟨?_, blk_frozen hb j⟩
  rw [blk_cell hb j _ h2, h1]; rfl
theorem heap_sortedK {w : World} {g n : Nat} {os : Array Obj} {cur : Array Value} {e : TypeId} {fr : Nat × Nat} (d : Array Value) (hb : w.heap[g]? = some (.cells cur e fr)) :
    (grow (putRow id (Sort.ahead w n) g 0 d) os).heap[g]? = some (.cells (putCells id 0 d cur) e fr) := by
  have hg : g < w.heap.size := (Array.getElem?_eq_some_iff.1 hb).1
  rw [heap_grow_old _ _ (by simpa using hg)]
  simp [putRow, mapBlock, Sort.ahead, Array.getElem?_modify, hb, onCells]
theorem chg_sortedK {α : Type} [Inhabited α] (enc : α → List Value) (k : Nat) {w : World} {g n : Nat} {os : Array Obj} (d : Array α) : Chg [g] w (sortWorldK enc k w g 0 n d os) := by
  refine ⟨rfl, rfl, rfl, by simp [sortWorldK, putRowK], fun j hj hne => ?_⟩
  unfold sortWorldK putRowK
  rw [heap_grow_old _ _ (by simpa using hj)]
  have : g ≠ j := fun e => hne (by simp [e])
  simp [putRow, mapBlock, Sort.ahead, Array.getElem?_modify, this]
theorem take_putK (cur : Array Value) (F : Array Value) (h : F.size ≤ cur.size) : (putCells id 0 F cur).toList.take F.size = F.toList := by
  apply List.ext_getElem?
  intro j
  by_cases hj : j < F.size
  · rw [List.getElem?_take_of_lt hj, Array.getElem?_toList, Array.getElem?_toList]
    simp [putCells, hj, show j < cur.size by omega]
  · rw [List.getElem?_take_eq_none (by omega), List.getElem?_eq_none (by simp; omega)]
theorem ownsRow_sortedK {α : Type} [Inhabited α] (enc : α → List Value) {k : Nat} (hk : ∀ x, (enc x).length = k) {w : World} {base g cap n : Nat} {e : TypeId} {os : Array Obj} {cur : Array Value} {m : Nat} {ts : List α} (hl : ts.length = m) (hbase : base ≤ g) (hb : w.heap[g]? = some (.cells cur e (0, 0)))
    (h1 : m ≤ cap) (h2 : cap ≤ maxLen) (h3 : cur.size = cap * k) :
    (sortWorldK enc k w g 0 n ts.toArray os).ownsRow base e k (.slice (some ⟨g, 0, none⟩) m cap) m (ts.flatMap enc) := by
  refine ⟨by rw [flatMap_len enc hk, hl], .inr ⟨g, cap, _, rfl, hbase, heap_sortedK _ hb, h1, h2, by simp [putCells, h3], ?_⟩⟩
  have hs : (flatK enc k ts.toArray).size = m * k := by simp [hl]
  rw [← hs, take_putK _ _ (by rw [hs, h3]; exact Nat.mul_le_mul_right k h1), flat_eq enc hk]

/-! ### Bytes in their order -/
theorem cmpB_self : ∀ a : List UInt8, compareBytes a a = 0
  | [] => rfl
  | x :: r => by
    unfold compareBytes
    rw [if_neg (by simp), if_neg (by simp), cmpB_self r]
theorem cmpB_zero : ∀ a b : List UInt8, compareBytes a b = 0 → a = b
  | [], [], _ => rfl
  | [], _ :: _, h => by simp [compareBytes] at h
  | _ :: _, [], h => by simp [compareBytes] at h
  | x :: r, y :: s, h => by
    unfold compareBytes at h
    by_cases h1 : x < y
    · rw [if_pos h1] at h; cases h
    · by_cases h2 : y < x
      · rw [if_neg h1, if_pos h2] at h; cases h
      · rw [if_neg h1, if_neg h2] at h
        have e : x = y := by
          have h3 := UInt8.not_lt.1 h1
          have h4 := UInt8.not_lt.1 h2
          exact UInt8.le_antisymm h4 h3
        rw [e, cmpB_zero r s h]
theorem cmpB_lt : ∀ a b : List UInt8, compareBytes a b < 0 ↔ a < b
  | [], [] => by simp [compareBytes]
  | [], _ :: _ => by simp [compareBytes]
  | _ :: _, [] => by simp [compareBytes]
  | x :: r, y :: s => by
    unfold compareBytes
    rw [List.cons_lt_cons_iff]
    by_cases h1 : x < y
    · rw [if_pos h1]; simp [h1]
    · by_cases h2 : y < x
      · rw [if_neg h1, if_pos h2]
        have : x ≠ y := fun e => by subst e; exact h1 h2
        simp [h1, this]
      · rw [if_neg h1, if_neg h2]
        have e : x = y := UInt8.le_antisymm (UInt8.not_lt.1 h2) (UInt8.not_lt.1 h1)
        subst e
        rw [cmpB_lt r s]; simp
theorem ltB (x y : List UInt8) : ltOf compareBytes x y = decide (x < y) := by
  unfold ltOf
  rw [Bool.eq_iff_iff]; simp [cmpB_lt]
theorem swoB : SWO (ltOf compareBytes) where
  irrefl x := by rw [ltB]; simp [List.lt_irrefl]
  trans x y z h1 h2 := by
    rw [ltB, decide_eq_true_eq] at *
    exact List.lt_trans h1 h2
  ntrans x y z h1 h2 := by
    rw [ltB, decide_eq_false_iff_not] at *
    rw [List.not_lt] at *
    exact List.le_trans h2 h1
theorem totB (x y : List UInt8) (h1 : ltOf compareBytes x y = false) (h2 : ltOf compareBytes y x = false) : x = y := by
  rw [ltB, decide_eq_false_iff_not, List.not_lt] at *
  exact List.le_antisymm h2 h1
theorem leB : (fun x y : List UInt8 => !ltOf compareBytes y x) = fun x y => decide (x ≤ y) := by
  funext x y
  rw [ltB, Bool.eq_iff_iff]
  simp [List.not_lt]
end Go.Proofs.YtaiihklfeoeoeaaGreat.W

/- Package tree: List. -/
namespace Go.Proofs.YtaiihklfeoeoeaaGreat.W
open Go.RowKit
open Go.Proofs.YtaiihklfeoeoeaaGreat.NM
set_option linter.unusedVariables false
set_option linter.unusedSimpArgs false

abbrev Ent := List UInt8 × Nat × Bool
def entC (x : Ent) : List Value := [.string ⟨x.1.toArray⟩, .int .i64 (x.2.1 : Int), .bool x.2.2]
def entOf (T : PT) (a : Nat) (s : List UInt8) : Ent := (s, tKid T a s, tIsDir T (tKid T a s))
def namesOf (T : PT) (a : Nat) : List (List UInt8) := ((T.filter (fun x => x.dir == a)).map (fun x => x.name)).mergeSort (fun x y => decide (x ≤ y))
def entsOf (T : PT) (a : Nat) : List Ent := (namesOf T a).map (entOf T a)
def tList (T : PT) (p : List UInt8) : List Ent × Int :=
  if (tLook T p).2.2 ≠ 0 then ([], (tLook T p).2.2) else if (tLook T p).2.1 = false then ([], 10) else (entsOf T (tLook T p).1, 0)
def ListPost (w : World) (r : List Ent × Int) (e : Ending) (w' : World) : Prop := ∃ v, e = .returned (.tuple #[v, .int .i64 r.2]) ∧ w'.ownsRow w.heap.size 109 3 v r.1.length (r.1.flatMap entC) ∧ Chg [] w w'

theorem kid_names {T : PT} {a : Nat} (s : List UInt8) : (φK T a s).isSome = true ↔ s ∈ (T.filter (fun x => x.dir == a)).map (fun x => x.name) := by
  unfold φK
  rw [List.mem_map]
  constructor
  · intro h
    cases hg : tKidOf T a s with
    | none => rw [hg] at h; cases h
    | some x =>
      obtain ⟨h1, h2, h3⟩ := kidOf_some hg
      exact ⟨x, List.mem_filter.2 ⟨h1, by simpa using h2⟩, h3⟩
  · rintro ⟨x, hx, rfl⟩
    obtain ⟨h1, h2⟩ := List.mem_filter.1 hx
    cases hg : tKidOf T a x.name with
    | none => exact absurd ⟨by simpa using h2, rfl⟩ (kidOf_none hg x h1)
    | some y => rfl
theorem names_nodup {T : PT} (h : TOk T) (a : Nat) : ((T.filter (fun x => x.dir == a)).map (fun x => x.name)).Nodup := by
  unfold List.Nodup
  rw [List.pairwise_map]
  refine List.Pairwise.imp_of_mem ?_ (h.apart.filter (fun x => x.dir == a))
  intro x y hx hy hxy e
  have h1 := (List.mem_filter.1 hx).2
  have h2 := (List.mem_filter.1 hy).2
  exact hxy ⟨by simp at h1 h2; omega, e⟩
theorem leB_trans (a b c : List UInt8) (h1 : decide (a ≤ b) = true) (h2 : decide (b ≤ c) = true) : decide (a ≤ c) = true := by
  rw [decide_eq_true_eq] at *; exact List.le_trans h1 h2
theorem leB_total (a b : List UInt8) : (decide (a ≤ b) || decide (b ≤ a)) = true := by
  rcases List.le_total a b with h | h <;> simp [h]
/-- What was met, sorted. -/
theorem sorted_names {T : PT} (h : TOk T) {a : Nat} {ss : List (List UInt8)} (hn : ss.Nodup) (hm : ∀ s, s ∈ ss ↔ (φK T a s).isSome = true) : ss.mergeSort (fun x y => decide (x ≤ y)) = namesOf T a := by
  have hp : ss.Perm ((T.filter (fun x => x.dir == a)).map (fun x => x.name)) := (List.perm_ext_iff_of_nodup hn (names_nodup h a)).2 (fun s => (hm s).trans (kid_names s))
  have hs : ∀ l : List (List UInt8), (l.mergeSort (fun x y => decide (x ≤ y))).Pairwise (fun x y => x ≤ y) := fun l =>
    (List.pairwise_mergeSort (le := fun x y : List UInt8 => decide (x ≤ y)) leB_trans leB_total l).imp fun {a b} hab => by simpa using hab
  exact List.Perm.eq_of_pairwise (le := fun x y : List UInt8 => x ≤ y) (fun a b _ _ h1 h2 => List.le_antisymm h1 h2) (hs _) (hs _) ((List.mergeSort_perm _ _).trans (hp.trans (List.mergeSort_perm _ _).symm))

theorem elEntries : El Tryz.prog 62 109 (.agg #[.string ByteArray.empty, .int .i64 0, .bool false]) 3 32 := El.mk Tryz.underlying62 (by kernel_rfl) rfl (by decide)
def entE (T : PT) (a : Nat) (s : List UInt8) : List Value := entC (entOf T a s)
theorem entE_len (T : PT) (a : Nat) (s : List UInt8) : (entE T a s).length = 3 := rfl
theorem entE_one (T : PT) (a : Nat) (s : List UInt8) : ∀ v ∈ entE T a s, v.oneCell' = true := by
  intro v hv
  simp [entE, entC] at hv
  rcases hv with rfl | rfl | rfl <;> rfl

set_option maxHeartbeats 2000000 in
set_option maxRecDepth 100000 in
theorem closureE (x y : List UInt8) (i j : Int) (b c : Bool) (W : World) : Calls Tryz.prog 52 #[.agg #[.string ⟨x.toArray⟩, .int .i64 i, .bool b], .agg #[.string ⟨y.toArray⟩, .int .i64 j, .bool c]] W fun e w' =>
    e = .returned (.int .i64 (Lib.compareBytes x y)) ∧ ∃ q os', w' = Go.Sort.grow (W.drewN q) os' := by
  have hcon := fun W' => Tryz.strings_Compare ⟨x.toArray⟩ ⟨y.toArray⟩ W'
  have HC : Hid (∀ W', Calls Tryz.prog 53 #[.string ⟨x.toArray⟩, .string ⟨y.toArray⟩] W' fun e w' => e = .returned (.int .i64 (Lib.compareBytes x y)) ∧ w' = W') := Lib.hid hcon
  clear hcon
  generalize Lib.compareBytes x y = r at HC ⊢
  go_enter Tryz.func52, Tryz.ntmps52
  go_wp2_with fail
  refine (HC.out _).mono ?_
  rintro e w' ⟨rfl, rfl⟩
  go_wp2
  go_ret
  exact ⟨rfl, 0, _, by rw [Go.Sort.alloc_eq_grow, Go.Sort.alloc_eq_grow, Go.Sort.grow_grow]; rfl⟩
theorem cmpLaysE (T : PT) (a : Nat) (blk off size : Nat) (w : World) : CmpLays Tryz.prog 52 #[] (entE T a) 3 Lib.compareBytes blk off size w :=
  fun _ _ _ _ x y => closureE x y _ _ _ _ _
theorem kids_le' (T : PT) (a : Nat) : nKids T a ≤ T.length := List.length_filter_le _ _
theorem look_okL {T : PT} {p : List UInt8} (h : (tLook T p).2.2 = 0) : tHas T (tLook T p).1 = true ∧ (tLook T p).2.1 = tIsDir T (tLook T p).1 := by
  unfold tLook at h ⊢
  cases hs : splitB p with
  | none => rw [hs] at h; cases h
  | some l =>
    rw [hs] at h
    simp only at h ⊢
    by_cases h1 : (tWalk T l 1).2 ≠ 0
    · rw [if_pos h1] at h; exact absurd h h1
    · rw [if_neg h1]
      exact ⟨walk_has l 1 rfl (by simpa using h1), rfl⟩
/-- The sort, at a row of entries of the call's own. -/
theorem sortE_any {w : World} {base : Nat} {v : Value} {T : PT} {a : Nat} {ss : List (List UInt8)} (hown : w.ownsRow base 109 3 v ss.length (ss.flatMap (entE T a))) (hl : ss.length ≤ 1000000) :
    Calls Tryz.prog 51 #[v, .func (.func 52) #[] #[]] w fun e w' => e = .returned (.tuple #[]) ∧ w'.ownsRow base 109 3 v ss.length ((ss.mergeSort (fun x y => decide (x ≤ y))).flatMap (entE T a)) ∧ ∀ S : List Nat, (∀ k, v.ownBlock = some k → k ∈ S) → Chg S w w' := by
  obtain ⟨hlen, hrow⟩ := hown
  rcases hrow with ⟨rfl, h0⟩ | ⟨gb, cap, cur, rfl, hbg, hgb, hnc, hcm, hcs, htake⟩
  · have hnil : ss = [] := List.eq_nil_of_length_eq_zero h0
    subst hnil
    have hS := AnyF.slices_SortFunc_none (P := Tryz.prog) (ρ := Tryz.laysSortE_ren) { Tryz.laysSortE with } none 0 (.func (.func 52) #[] #[]) w
    change Calls Tryz.prog 51 _ _ _ at hS
    refine hS.mono fun e w' ⟨h1, h2⟩ => ⟨h1, ?_, ?_⟩
    · rw [h2]; simpa using World.ownsRow_nil w base 109 3
    · rw [h2]; exact fun S _ => Chg.refl _ _
  · have hH := holds_row (entE T a) (entE_len T a) hgb htake
    have eg : ∀ args w, (callFunc 52 args).run Tryz.prog w = .ok (.enter 52 args) w := enters_of Tryz.func52 (by kernel_rfl) rfl
    have hS := AnyQ.slices_SortFunc_total Tryz.laysSortE 3 Tryz.isAgg109 Tryz.sizeOf109 (entE T a) (entE_len T a) (entE_one T a) Lib.compareBytes swoB 52 #[] gb 0 cap ss.toArray w eg (cmpLaysE T a gb 0 _ w) hH (blk_lt hgb) (by simp; omega) totB
    rw [leB] at hS
    change Calls Tryz.prog 51 _ _ _ at hS
    have hsz : ss.toArray.size = ss.length := by simp
    rw [hsz] at hS
    refine hS.mono fun e w' ⟨h1, n, os, h2⟩ => ⟨h1, ?_, fun S hS => ?_⟩
    · rw [h2]
      exact ownsRow_sortedK (entE T a) (entE_len T a) (by rw [List.length_mergeSort]) hbg hgb hnc hcm hcs
    · rw [h2]
      exact (chg_sortedK _ _ _).mono (fun x hx => .inl (by rw [List.mem_singleton.1 hx]; exact hS gb rfl))

set_option maxHeartbeats 8000000 in
set_option maxRecDepth 100000 in
theorem tlist_any (t : Nat) (S : List Nat) (T : PT) (s : ByteArray) (w : World) (h : TreeAt w t S T) (hs : s.size ≤ maxLen) (hTl : T.length ≤ 1000) :
    Calls Tryz.prog 25 #[.pointer (some ⟨t, 0, none⟩), .string s] w (ListPost w (tList T s.data.toList)) := by
  have H := Lib.hid h
  have HS := Lib.hid hs
  have hok := Lib.hid h.ok
  have hlim := Lib.hid h.lim
  clear h hs
  obtain ⟨Z, hZ⟩ : ∃ Z, tList T s.data.toList = Z := ⟨_, rfl⟩
  have HX : Hid (Z = if (tLook T s.data.toList).2.2 ≠ 0 then ([], (tLook T s.data.toList).2.2) else if (tLook T s.data.toList).2.1 = false then ([], 10) else (entsOf T (tLook T s.data.toList).1, 0)) := Lib.hid (by rw [← hZ]; rfl)
  rw [hZ]
  clear hZ
  have HP := Lib.hid (tlook_any t S T s w H.out HS.out)
  have HO : Hid ((tLook T s.data.toList).2.2 = 0 → tHas T (tLook T s.data.toList).1 = true ∧ (tLook T s.data.toList).2.1 = tIsDir T (tLook T s.data.toList).1) := Lib.hid (fun h => look_okL h)
  generalize tLook T s.data.toList = r at *
  obtain ⟨a, isd, er⟩ := r
  simp only at HX HO
  by_cases h0 : er = 0
  · subst h0
    obtain ⟨o1, o2⟩ := HO.out rfl
    have HX1 : Hid (Z = if isd = false then ([], 10) else (entsOf T a, 0)) := Lib.hid (by rw [HX.out, if_neg (by simp)])
    have HA := Lib.hid o1
    have HD := Lib.hid o2
    have has := has_small hok.out o1
    clear o1 o2 HX HO
    cases isd with
    | false =>
      have HE : Hid (Z = ([], 10)) := Lib.hid (by rw [HX1.out, if_pos rfl])
      go_enter Tryz.func25, Tryz.ntmps25
      go_wp2_with fail
      refine HP.out.mono ?_
      rintro e w1 ⟨rfl, hb⟩
      have HB := Lib.hid hb
      clear hb
      go_wp2
      go_ret2
      rw [HE.out]
      exact ⟨_, rfl, World.ownsRow_nil _ _ _ _, HB.out⟩
    | true =>
      have HE : Hid (Z = (entsOf T a, 0)) := Lib.hid (by rw [HX1.out, if_neg (by simp)])
      have hd : tIsDir T a = true := HD.out.symm
      have HD2 := Lib.hid hd
      have hkl : nKids T a ≤ 1000 := Nat.le_trans (kids_le' T a) hTl
      clear hd HX1 HD
      go_enter Tryz.func25, Tryz.ntmps25
      go_wp2_with fail
      refine HP.out.mono ?_
      rintro e w1 ⟨rfl, hb⟩
      have HB := Lib.hid hb
      obtain ⟨bm, f, g, HT⟩ := H.out.keep0 hb
      have c0 := blk_cell HT.head 0 _ rfl
      have hlk := HT.at HA.out
      have d3 := (HT.cells HA.out).2.2.2
      rw [if_pos HD2.out] at d3
      have HTT := Lib.hid HT
      have hgl := (HT.ins a HD2.out).lt
      clear hb HT
      go_wp2_with (refine wpList_rng keStr _ rfl _ _ rfl 3 Tryz.underlying92 (g a) (nKids T a) (φK T a) rfl (HTT.out.ins a HD2.out) ?_; intro w2 hr1 hc1 hs1; have HR1 := Lib.hid (And.intro hr1 (And.intro hc1 hs1)); clear hr1 hc1 hs1)
      go_frame
      clear hlk
      go_loopg [9] (nKids T a) (fun gh v9 wr => ∃ (v : Value) (ss : List (List UInt8)) (left : List UInt8 → Bool) (cnt : Nat), v = v9 ∧ cnt ≤ gh ∧ ss.length + cnt ≤ nKids T a ∧ wr.ownsRow w1.heap.size 109 3 v ss.length (ss.flatMap (entE T a)) ∧ Hid (Rng 9 klS okS wr (g a) w1.heap.size (φK T a) (nKids T a) left cnt) ∧
        Hid (ss.Nodup ∧ ∀ s, okS s → (s ∈ ss ↔ (φK T a s).isSome = true ∧ left s = false)) ∧ Hid (∀ s ∈ ss, okS s) ∧ Hid (Chg [] w1 wr))
      case atStart =>
        refine ⟨_, [], _, _, rfl, Nat.le_refl _, by simp, World.ownsRow_nil _ _ _ _, Lib.hid HR1.out.1, Lib.hid ⟨List.nodup_nil, fun k hk => ?_⟩, Lib.hid (by simp), Lib.hid HR1.out.2.1⟩
        constructor
        · intro h; cases h
        · rintro ⟨h1, h2⟩
          rw [h1] at h2; cases h2
      case round =>
        obtain ⟨v9, ss, left, cnt, rfl, hcg, hkc, hown, HR, HK, HO, HC⟩ := hrel
        have hrne : some w1.heap.size ≠ v9.ownBlock := by
          obtain ⟨D, lf, hr, _⟩ := HR.out
          exact row_ne_iter hown hr
        have HOWN := Lib.hid hown
        clear hown
        go_wp2_with (refine wpList_nxtS _ rfl _ rfl (g a) w1.heap.size (nKids T a) (φK T a) left cnt rfl HR.out ?_ ?_)
        · intro hc0 hl0
          have HALL : Hid (∀ k, k ∈ ss ↔ (φK T a k).isSome = true) := Lib.hid (fun k => by
            constructor
            · intro hk
              exact ((HK.out.2 k (HO.out k hk)).1 hk).1
            · intro hk
              have hki : okS k := by
                obtain ⟨x, hx, rfl⟩ := List.mem_map.1 ((kid_names k).1 hk)
                have := may_len (hok.out.may x (List.mem_filter.1 hx).1)
                unfold okS maxLen; omega
              exact (HK.out.2 k hki).2 ⟨hk, hl0 k hki⟩)
          have HS : Hid (ss.mergeSort (fun x y => decide (x ≤ y)) = namesOf T a) := Lib.hid (sorted_names hok.out HK.out.1 HALL.out)
          have HL : Hid (ss.length = (entsOf T a).length) := Lib.hid (by
            have := congrArg List.length HS.out
            rw [List.length_mergeSort] at this
            rw [this]; unfold entsOf; simp)
          clear hc0 hl0
          go_wp2_with fail
          refine (sortE_any HOWN.out (by omega)).mono ?_
          rintro e w5 ⟨rfl, hrow, hch⟩
          have HF : Hid (w5.ownsRow w.heap.size 109 3 v9 (entsOf T a).length ((entsOf T a).flatMap entC) ∧ Chg [] w w5) := Lib.hid (by
            rw [HS.out, HL.out] at hrow
            refine ⟨?_, ?_⟩
            · have e1 : (namesOf T a).flatMap (entE T a) = (entsOf T a).flatMap entC := by
                unfold entsOf
                rw [List.flatMap_map]; rfl
              rw [← e1]
              exact row_base hrow w.heap.size (fun k hk => Nat.le_trans HB.out.size (World.ownsRow.lt hrow k hk).1)
            · cases hv : v9.ownBlock with
              | none => exact (chg_tr HB.out HC.out).trans (hch [] (by rw [hv]; simp)) (by simp)
              | some k =>
                have hlt := (World.ownsRow.lt HOWN.out k hv).1
                exact (chg_tr HB.out HC.out).trans (hch [k] (by rw [hv]; simp)) (by have := HB.out.size; simp; omega))
          clear hrow hch
          go_wp2
          go_ret2
          rw [HE.out]
          exact ⟨_, rfl, HF.out⟩
        · intro x v w3 cnt2 hox hlx hvx hr2 hlt hc2 hs2 hen
          obtain ⟨y, hy, rfl⟩ : ∃ y, tKidOf T a x = some y ∧ .int .i64 (y.ino : Int) = v := by
            unfold φK at hvx
            cases hg : tKidOf T a x with
            | none => rw [hg] at hvx; cases hvx
            | some y =>
              rw [hg] at hvx
              exact ⟨y, rfl, by simpa using hvx⟩
          have HX : Hid ((φK T a x).isSome = true ∧ x ∉ ss ∧ okS x) := Lib.hid (by
            refine ⟨by rw [hvx]; rfl, fun hk => ?_, hox⟩
            have := ((HK.out.2 x hox).1 hk).2
            rw [hlx] at this; cases this)
          have hyk : tKid T a x = y.ino := by unfold tKid; rw [hy]
          have hyh : tHas T y.ino = true := has_iff.2 (.inr ⟨y, (kidOf_some hy).1, rfl⟩)
          have HT3 := Lib.hid (HTT.out.keep (HC.out.trans hc2 (fun z hz => by simp at hz; subst hz; exact .inr (Nat.le_refl _))) (by simp))
          have c03 := blk_cell HT3.out.head 0 _ rfl
          have hlk3 := HT3.out.at hyh
          have y2 := (HT3.out.cells hyh).2.2.1
          have HENC : Hid (entE T a x = [.string ⟨x.toArray⟩, .int .i64 (y.ino : Int), .bool (tIsDir T y.ino)]) := Lib.hid (by unfold entE entC entOf; rw [hyk])
          have HW2 := Lib.hid (And.intro hr2 (And.intro hc2 hs2))
          have hown2 := row_keep HOWN.out (w' := w3) (fun gq hq => hc2.block gq (World.ownsRow.lt HOWN.out gq hq).2 (by
            simp
            rintro rfl
            exact hrne hq.symm))
          have hbase : w1.heap.size ≤ w3.heap.size := by
            have h1 := HC.out.size
            rw [hs2]; omega
          clear hox hlx hvx hr2 hc2 hs2 hy hyk hyh c0 d3
          generalize tIsDir T y.ino = yd at *
          go_wp2_with (at_builtin; refine wpList_app1 rfl _ _ _ rfl w1.heap.size elEntries _ _ _ rfl hown2 _ #[.string ⟨x.toArray⟩, .int .i64 (y.ino : Int), .bool yd] rfl rfl (by intro u hu; simp at hu; rcases hu with rfl | rfl | rfl <;> rfl) (by unfold maxLen; omega) (by omega) hbase ?_; intro v4 w4 hown4 hg4)
          have HEND : Hid (Rng 9 klS okS w4 (g a) w1.heap.size (φK T a) (nKids T a) (fun y => !decide (y = x) && left y) cnt2 ∧ Chg [] w1 w4) := Lib.hid (by
            have hc24 : Chg (match v9.ownBlock with | some k => [k] | none => []) w3 w4 := by
              exact (Chg.refl (match v9.ownBlock with | some k => [k] | none => []) w3).grown hg4 (fun k hk => by
                have hk' : v9.ownBlock = some k := hk
                rw [hk']; exact .inl (by simp))
            have hrb : ∀ k, v9.ownBlock = some k → w1.heap.size ≤ k ∧ k ≠ w1.heap.size := fun k hk => ⟨(World.ownsRow.lt HOWN.out k hk).1, fun e => hrne (by rw [hk, e])⟩
            refine ⟨HW2.out.1.kept hc24 ?_ ?_, (HC.out.trans HW2.out.2.1 (fun z hz => ?_)).trans hc24 (fun z hz => ?_)⟩
            · cases hv : v9.ownBlock with
              | none => simp
              | some k => have := hrb k hv; simp; omega
            · cases hv : v9.ownBlock with
              | none => simp
              | some k => have := hrb k hv; simp; omega
            · simp at hz; right; omega
            · cases hv : v9.ownBlock with
              | none => rw [hv] at hz; simp at hz
              | some k => rw [hv] at hz; simp at hz; have := hrb k hv; right; omega)
          clear hg4
          go_roundg cnt2
          case measure => omega
          case rel =>
            refine ⟨_, ss ++ [x], _, cnt2, rfl, Nat.le_refl _, by simp; omega, ?_, Lib.hid HEND.out.1, Lib.hid ⟨?_, fun k hk => ?_⟩, Lib.hid (fun k hk => ?_), Lib.hid HEND.out.2⟩
            · rw [List.flatMap_append, List.flatMap_cons, List.flatMap_nil, List.append_nil, HENC.out, List.length_append]
              exact hown4
            · refine List.nodup_append.2 ⟨HK.out.1, by simp, fun a ha b hb => ?_⟩
              simp at hb
              rintro rfl
              subst hb
              exact HX.out.2.1 ha
            · rw [List.mem_append, HK.out.2 k hk]
              by_cases e : k = x
              · subst e; simp [HX.out.1]
              · simp [e]
            · rcases List.mem_append.1 hk with hk | hk
              · exact HO.out k hk
              · simp at hk; subst hk; exact HX.out.2.2
  · have HE : Hid (Z = ([], er)) := Lib.hid (by rw [HX.out, if_pos h0])
    have hb0 : (er != 0) = true := by simpa using h0
    clear h0 HX HO
    go_enter Tryz.func25, Tryz.ntmps25
    go_wp2_with fail
    refine HP.out.mono ?_
    rintro e w1 ⟨rfl, hb⟩
    have HB := Lib.hid hb
    clear hb
    go_wp2
    go_ret2
    rw [HE.out]
    exact ⟨_, rfl, World.ownsRow_nil _ _ _ _, HB.out⟩
end Go.Proofs.YtaiihklfeoeoeaaGreat.W

/- A tree of one's own; awake. -/
namespace Go.Proofs.YtaiihklfeoeoeaaGreat.W
open Go.RowKit
open Go.Proofs.YtaiihklfeoeoeaaGreat.NM
set_option linter.unusedVariables false
set_option linter.unusedSimpArgs false

/-- What was done to a tree of our own, from the outside. -/
def Own (w w' : World) (t : Nat) (T : PT) : Prop := ∃ S, TreeAt w' t S T ∧ (∀ x ∈ S, w.heap.size ≤ x) ∧ Chg [] w w'
theorem own_did {w w1 w2 : World} {t : Nat} {S : List Nat} {T' : PT} (h2 : ∀ x ∈ S, w.heap.size ≤ x) (h3 : Chg [] w w1) (hd : TDid w1 w2 t S T') : Own w w2 t T' := by
  obtain ⟨S', d1, d2, d3⟩ := hd
  refine ⟨S', d1, fun x hx => ?_, h3.trans d3 (fun x hx => .inr (h2 x hx))⟩
  rcases d2 x hx with h | h
  · exact h2 x h
  · exact Nat.le_trans h3.size h
theorem Own.keep {w w1 w2 : World} {t : Nat} {T : PT} (h : Own w w1 t T) (hc : Chg [] w1 w2) : Own w w2 t T := by
  obtain ⟨S, h1, h2, h3⟩ := h
  exact ⟨S, h1.keep0 hc, h2, chg_tr h3 hc⟩
theorem Own.chg {w w' : World} {t : Nat} {T : PT} (h : Own w w' t T) : Chg [] w w' := by obtain ⟨S, h1, h2, h3⟩ := h; exact h3
theorem Own.ok {w w' : World} {t : Nat} {T : PT} (h : Own w w' t T) : TOk T := by obtain ⟨S, h1, h2, h3⟩ := h; exact h1.ok
theorem tok_len {T : PT} (h : TOk T) : T.length ≤ 127 := by
  have h2 := h.nums
  have h3 := h.rise
  have : ∀ (U : PT) (n : Nat), U.Pairwise (fun x y => x.ino < y.ino) → (∀ x ∈ U, n ≤ x.ino ∧ x.ino ≤ 128) → U = [] ∨ n + U.length ≤ 129 := by
    intro U
    induction U with
    | nil => intro n _ _; exact .inl rfl
    | cons y r ih =>
      intro n hp hm
      right
      have hp' := List.pairwise_cons.1 hp
      have hy := hm y (List.mem_cons_self ..)
      rcases ih (n + 1) hp'.2 (fun x hx => ⟨by have := hp'.1 x hx; omega, (hm x (List.mem_cons_of_mem _ hx)).2⟩) with h4 | h4
      · subst h4; simp; omega
      · simp; omega
  rcases this T 2 h3 h2 with h4 | h4
  · rw [h4]; simp
  · omega
theorem mk_size (s : List UInt8) (h : s.length ≤ maxLen) : (mk s).size ≤ maxLen := by rw [size_len, data_mk]; exact h

def ONewPost (w0 : World) (e : Ending) (w' : World) : Prop := ∃ t, e = .returned (.pointer (some ⟨t, 0, none⟩)) ∧ Own w0 w' t []
theorem onew_any {w0 w : World} (hc : Chg [] w0 w) : Calls Tryz.prog 7 #[] w (ONewPost w0) :=
  (tnew_any w).mono fun e w' ⟨t, S, h1, h2, h3, h4⟩ => ⟨t, h1, S, h2, fun x hx => Nat.le_trans hc.size (h3 x hx), chg_tr hc h4⟩
def OMakePost (w0 : World) (t : Nat) (r : (Nat × Int) × PT) (e : Ending) (w' : World) : Prop := e = .returned (.tuple #[.int .i64 (r.1.1 : Int), .int .i64 r.1.2]) ∧ Own w0 w' t r.2
theorem omake_any {w0 w : World} {t : Nat} {T : PT} (h : Own w0 w t T) (s : List UInt8) (d : Bool) (r : (Nat × Int) × PT) (hr : tMake T s d = r) (hs : s.length ≤ maxLen) : Calls Tryz.prog 16 #[.pointer (some ⟨t, 0, none⟩), .string (mk s), .bool d] w (OMakePost w0 t r) := by
  obtain ⟨S, h1, h2, h3⟩ := h
  have := tmake_any t S T (mk s) d w h1 (mk_size s hs)
  rw [data_mk, hr] at this
  exact this.mono fun e w' ⟨he, hd⟩ => ⟨he, own_did h2 h3 hd⟩
theorem oremove_any {w0 w : World} {t : Nat} {T : PT} (h : Own w0 w t T) (s : List UInt8) (d : Bool) (r : (Nat × Int) × PT) (hr : tRemove T s d = r) (hs : s.length ≤ maxLen) : Calls Tryz.prog 20 #[.pointer (some ⟨t, 0, none⟩), .string (mk s), .bool d] w (OMakePost w0 t r) := by
  obtain ⟨S, h1, h2, h3⟩ := h
  have := tremove_any t S T (mk s) d w h1 (mk_size s hs)
  rw [data_mk, hr] at this
  exact this.mono fun e w' ⟨he, hd⟩ => ⟨he, own_did h2 h3 hd⟩
def OMovePost (w0 : World) (t : Nat) (r : Int × PT) (e : Ending) (w' : World) : Prop := e = .returned (.int .i64 r.1) ∧ Own w0 w' t r.2
theorem omove_any {w0 w : World} {t : Nat} {T : PT} (h : Own w0 w t T) (s s2 : List UInt8) (r : Int × PT) (hr : tMove T s s2 = r) (hs : s.length ≤ maxLen) (hs2 : s2.length ≤ maxLen) : Calls Tryz.prog 22 #[.pointer (some ⟨t, 0, none⟩), .string (mk s), .string (mk s2)] w (OMovePost w0 t r) := by
  have hl := tok_len h.ok
  obtain ⟨S, h1, h2, h3⟩ := h
  have := tmove_any t S T (mk s) (mk s2) w h1 (mk_size s hs) (mk_size s2 hs2) (by omega)
  rw [data_mk, data_mk, hr] at this
  exact this.mono fun e w' ⟨he, hd⟩ => ⟨he, own_did h2 h3 hd⟩
def OLookPost (w0 : World) (t : Nat) (T : PT) (r : Nat × Bool × Int) (e : Ending) (w' : World) : Prop := e = .returned (.tuple #[.int .i64 (r.1 : Int), .bool r.2.1, .int .i64 r.2.2]) ∧ Own w0 w' t T
theorem olook_any {w0 w : World} {t : Nat} {T : PT} (h : Own w0 w t T) (s : List UInt8) (r : Nat × Bool × Int) (hr : tLook T s = r) (hs : s.length ≤ maxLen) : Calls Tryz.prog 17 #[.pointer (some ⟨t, 0, none⟩), .string (mk s)] w (OLookPost w0 t T r) := by
  have h' := h
  obtain ⟨S, h1, h2, h3⟩ := h
  have := tlook_any t S T (mk s) w h1 (mk_size s hs)
  rw [data_mk, hr] at this
  exact this.mono fun e w' ⟨he, hd⟩ => ⟨he, h'.keep hd⟩
def OListPost (w0 w : World) (t : Nat) (T : PT) (r : List Ent × Int) (e : Ending) (w' : World) : Prop := ∃ v, e = .returned (.tuple #[v, .int .i64 r.2]) ∧ w'.ownsRow w.heap.size 109 3 v r.1.length (r.1.flatMap entC) ∧ Chg [] w w' ∧ Own w0 w' t T
theorem olist_any {w0 w : World} {t : Nat} {T : PT} (h : Own w0 w t T) (s : List UInt8) (r : List Ent × Int) (hr : tList T s = r) (hs : s.length ≤ maxLen) : Calls Tryz.prog 25 #[.pointer (some ⟨t, 0, none⟩), .string (mk s)] w (OListPost w0 w t T r) := by
  have hl := tok_len h.ok
  have h' := h
  obtain ⟨S, h1, h2, h3⟩ := h
  have := tlist_any t S T (mk s) w h1 (mk_size s hs) (by omega)
  rw [data_mk, hr] at this
  exact this.mono fun e w' ⟨v, he, hr, hc⟩ => ⟨v, he, hr, hc, h'.keep hc⟩

def kT0 : PT := [⟨2, 1, [97], true⟩]
theorem k01 : tMake [] [47, 97] true = ((2, 0), kT0) := by kernel_rfl
theorem k02 : tLook kT0 [47, 97] = (2, true, 0) := by kernel_rfl

set_option maxHeartbeats 4000000 in
set_option maxRecDepth 100000 in
theorem tawake_any (w : World) : Calls Tryz.prog 5 #[] w fun e w' => e = .returned (.bool true) ∧ Chg [] w w' := by
  have H0 := Lib.hid (Chg.refl [] w)
  go_enter Tryz.func5, Tryz.ntmps5
  go_wp2_with fail
  refine (onew_any H0.out).mono ?_
  rintro e w1 ⟨t, rfl, h1⟩
  have H1 := Lib.hid h1
  clear h1
  go_wp2_with fail
  refine (omake_any H1.out [47, 97] true _ k01 (by decide)).mono ?_
  rintro e w2 ⟨rfl, h2⟩
  have H2 := Lib.hid h2
  clear h2
  go_wp2_with fail
  refine (olook_any H2.out [47, 97] _ k02 (by decide)).mono ?_
  rintro e w3 ⟨rfl, h3⟩
  have H3 := Lib.hid h3.chg
  clear h3
  go_wp2
  go_ret
  exact ⟨rfl, H3.out⟩
end Go.Proofs.YtaiihklfeoeoeaaGreat.W

/- A slice of deeds that came in: rows of four cells, two of them strings; Room. -/
namespace Go.Proofs.YtaiihklfeoeoeaaGreat.W
open Go.RowKit Go.ChangeShapes Go.WideShapes
open Go.Proofs.YtaiihklfeoeoeaaGreat.NM
set_option linter.unusedVariables false
set_option linter.unusedSimpArgs false

/-- A deed. -/
structure Dd where
  c : Int
  p : List UInt8
  q : List UInt8
  d : Bool
instance : Inhabited Dd := ⟨⟨0, [], [], false⟩⟩
def DeedsAt (w : World) (a : Option Addr) (n : Nat) (f : Nat → Dd) : Prop :=
  n = 0 ∨ ∃ g o, a = some ⟨g, o, none⟩ ∧ ∀ i, i < n → w.cell? ⟨g, o + i * 4, none⟩ = some (.int .i64 (f i).c) ∧ w.cell? ⟨g, o + i * 4 + 1, none⟩ = some (.string (mk (f i).p)) ∧ w.cell? ⟨g, o + i * 4 + 2, none⟩ = some (.string (mk (f i).q)) ∧
    w.cell? ⟨g, o + i * 4 + 3, none⟩ = some (.bool (f i).d) ∧ (Lit.int .i64 (f i).c).wf = true ∧ (f i).p.length ≤ maxLen ∧ (f i).q.length ≤ maxLen
theorem DeedsAt.keep {w w' : World} {a : Option Addr} {n : Nat} {f : Nat → Dd} (h : DeedsAt w a n f) (hc : Chg [] w w') : DeedsAt w' a n f := by
  rcases h with h | ⟨g, o, rfl, h⟩
  · exact .inl h
  · refine .inr ⟨g, o, rfl, fun i hi => ?_⟩
    obtain ⟨h1, h2, h3, h4, h5⟩ := h i hi
    exact ⟨hc.cell h1 (by simp), hc.cell h2 (by simp), hc.cell h3 (by simp), hc.cell h4 (by simp), h5⟩

section
variable {H : Type} {enc : TypeId × Value → H} {w : World} {base : Nat} {held : Bool}
theorem fieldsD : ∃ f0 f1 f2 f3 : Field, Tryz.prog.underlying 33 = some (.struct #[f0, f1, f2, f3]) ∧ f0.offset = 0 ∧ f1.offset = 1 ∧ f2.offset = 2 ∧ f3.offset = 3 ∧
    Tryz.prog.underlying f0.type = some (.int .i64) ∧ Tryz.prog.underlying f1.type = some .string ∧ Tryz.prog.underlying f2.type = some .string ∧ Tryz.prog.underlying f3.type = some .bool ∧
    Tryz.prog.cellsOf f0.type = 1 ∧ Tryz.prog.cellsOf f1.type = 1 ∧ Tryz.prog.cellsOf f2.type = 1 ∧ Tryz.prog.cellsOf f3.type = 1 :=
  ⟨_, _, _, _, Tryz.underlying33, rfl, rfl, rfl, rfl, by kernel_rfl, by kernel_rfl, by kernel_rfl, by kernel_rfl, by kernel_rfl, by kernel_rfl, by kernel_rfl, by kernel_rfl⟩
theorem cellsD : Tryz.prog.cellsOf 33 = 4 := by kernel_rfl

set_option maxRecDepth 100000 in
theorem open_deeds {fuel : Nat} {cs : List Value} {x : DataW H × List MemPlace} (h : DataW.trod enc Tryz.prog w base (fun _ => true) held fuel 22 cs = some x) :
    (cs = [.slice none 0 0]) ∨ ∃ (a : Addr) (len cap : Nat) (f : Nat → Dd), cs = [.slice (some a) len cap] ∧ len ≤ cap ∧ cap ≤ maxLen ∧ DeedsAt w (some a) len f := by
  rcases Go.Deep.open_slice Tryz.underlying22 h with ⟨h0, _⟩ | ⟨a, len, cap, m, n, D, Pl, rfl, hb, hl, hm, hmm, hx, hel⟩
  · exact .inl h0
  · right
    have hlm : len ≤ m := by rw [hmm]; split <;> omega
    obtain ⟨f0, f1, f2, f3, hs, o0, o1, o2, o3, t0, t1, t2, t3, c0, c1, c2, c3⟩ := fieldsD
    have each : ∀ i, i < len → ∃ r : Dd, w.cell? (a.add (i * 4)) = some (.int .i64 r.c) ∧ w.cell? (a.add (i * 4 + 1)) = some (.string (mk r.p)) ∧ w.cell? (a.add (i * 4 + 2)) = some (.string (mk r.q)) ∧ w.cell? (a.add (i * 4 + 3)) = some (.bool r.d) ∧
        (Lit.int .i64 r.c).wf = true ∧ r.p.length ≤ maxLen ∧ r.q.length ≤ maxLen := by
      intro i hi
      obtain ⟨cs', h1, h2⟩ := hel i (by omega)
      rw [cellsD] at h1
      obtain ⟨_, hlen, hcell⟩ := World.cells?_some h1
      obtain ⟨xs, k, hk, hxy, _, hxl, hf⟩ := DataW.trod_struct hs h2
      match xs, hxl, cs', hlen with
      | [y0, y1, y2, y3], _, [v0, v1, v2, v3], _ =>
        have g0 := hf 0 f0 rfl
        have g1 := hf 1 f1 rfl
        have g2 := hf 2 f2 rfl
        have g3 := hf 3 f3 rfl
        simp [o0, o1, o2, o3, c0, c1, c2, c3] at g0 g1 g2 g3
        have e0 := hcell 0 (by omega)
        have e1 := hcell 1 (by omega)
        have e2 := hcell 2 (by omega)
        have e3 := hcell 3 (by omega)
        rw [Go.Deep.add_add] at e0 e1 e2 e3
        obtain ⟨z0, q0, _, z0w⟩ := DataW.trod_int t0 g0
        obtain ⟨z1, q1, _, z1w⟩ := DataW.trod_string t1 g1
        obtain ⟨z2, q2, _, z2w⟩ := DataW.trod_string t2 g2
        obtain ⟨z3, q3, _⟩ := DataW.trod_bool t3 g3
        simp at q0 q1 q2 q3
        subst q0; subst q1; subst q2; subst q3
        refine ⟨⟨z0, z1.data.toList, z2.data.toList, z3⟩, by simpa using e0, by simpa [mk_data] using e1, by simpa [mk_data] using e2, by simpa using e3, ?_, by rw [← size_len]; exact z1w, by rw [← size_len]; exact z2w⟩
        first | exact z0w | exact z0w.1
    obtain ⟨f, hf⟩ := Go.Deep.choose_lt each
    refine ⟨a, len, cap, f, rfl, hl, hm, ?_⟩
    by_cases h0 : len = 0
    · exact .inl h0
    · right
      obtain ⟨g, o, spot⟩ := a
      have hc := (hf 0 (by omega)).1
      have hspot : spot = none := by simpa [Addr.add] using World.cell?_spot hc
      subst hspot
      refine ⟨g, o, rfl, fun i hi => ?_⟩
      obtain ⟨c0, c1, c2, c3, c4⟩ := hf i hi
      rw [add_none] at c0 c1 c2 c3
      exact ⟨c0, by simpa [Nat.add_assoc] using c1, by simpa [Nat.add_assoc] using c2, by simpa [Nat.add_assoc] using c3, c4⟩
end

/-! ### Room -/
def roomB (n : Nat) (f : Nat → Dd) (most : Int) : Bool := decide ((n : Int) ≤ most) && (List.range n).all (fun i => decide ((f i).p.length ≤ 300) && decide ((f i).q.length ≤ 300))
theorem room_true {n : Nat} {f : Nat → Dd} {most : Int} (h : roomB n f most = true) : (n : Int) ≤ most ∧ ∀ i, i < n → (f i).p.length ≤ 300 ∧ (f i).q.length ≤ 300 := by
  unfold roomB at h
  simp at h
  exact h
theorem room_far {n : Nat} {f : Nat → Dd} {most : Int} (h : ¬ (n : Int) ≤ most) : roomB n f most = false := by unfold roomB; rw [decide_eq_false h]; rfl
theorem room_long {n i : Nat} {f : Nat → Dd} {most : Int} (hi : i < n) (h : ¬ ((f i).p.length ≤ 300 ∧ (f i).q.length ≤ 300)) : roomB n f most = false := by
  cases hr : roomB n f most with
  | false => rfl
  | true => exact absurd ((room_true hr).2 i hi) h
theorem room_ok {n : Nat} {f : Nat → Dd} {most : Int} (h1 : (n : Int) ≤ most) (h2 : ∀ i, i < n → (f i).p.length ≤ 300 ∧ (f i).q.length ≤ 300) : roomB n f most = true := by
  unfold roomB
  rw [decide_eq_true h1]
  simp
  exact h2

set_option maxHeartbeats 2000000 in
set_option maxRecDepth 100000 in
theorem room_any (a : Option Addr) (n cap : Nat) (f : Nat → Dd) (most : Int) (w : World) (h : DeedsAt w a n f) (hn : n ≤ maxLen) :
    Calls Tryz.prog 6 #[.slice a n cap, .int .i64 most] w fun e w' => e = .returned (.bool (roomB n f most)) ∧ w = w' := by
  unfold maxLen at hn
  have H := Lib.hid h
  obtain ⟨R, hR⟩ : ∃ R, R = roomB n f most := ⟨_, rfl⟩
  have HR := Lib.hid hR
  rw [← hR]
  clear h hR
  by_cases hm : (n : Int) ≤ most
  · have HM := Lib.hid hm
    go_enter Tryz.func6, Tryz.ntmps6
    go_wp2
    go_loop [5] (fun v5 => ∃ k : Nat, v5 = .int .i64 k ∧ k ≤ n ∧ Hid (∀ i, i < k → (f i).p.length ≤ 300 ∧ (f i).q.length ≤ 300)) (fun v5 => n - (intOf v5).toNat)
    case atStart => exact ⟨0, rfl, by omega, Lib.hid (fun i hi => by omega)⟩
    case round =>
      obtain ⟨k, rfl, hk, HQ⟩ := hrel
      by_cases hlt : k < n
      · obtain ⟨g, o, rfl, hc1, hc2, hl1, hl2⟩ : ∃ g o, a = some ⟨g, o, none⟩ ∧ w.cell? ⟨g, o + k * 4 + 1, none⟩ = some (.string (mk (f k).p)) ∧ w.cell? ⟨g, o + k * 4 + 2, none⟩ = some (.string (mk (f k).q)) ∧ (f k).p.length ≤ maxLen ∧ (f k).q.length ≤ maxLen := by
          rcases H.out with h0 | ⟨g, o, h1, h2⟩
          · omega
          · obtain ⟨c0, c1, c2, c3, c4, c5, c6⟩ := h2 k hlt
            exact ⟨g, o, h1, c1, c2, c5, c6⟩
        unfold maxLen at hl1 hl2
        have hkz : (k : Int) < (n : Int) := by omega
        have HP : Hid ((mk (f k).p).size = (f k).p.length ∧ (mk (f k).q).size = (f k).q.length) := Lib.hid ⟨by rw [size_len], by rw [size_len]⟩
        by_cases h1 : (f k).p.length ≤ 300
        · by_cases h2 : (f k).q.length ≤ 300
          · have HN : Hid (∀ i, i < k + 1 → (f i).p.length ≤ 300 ∧ (f i).q.length ≤ 300) := Lib.hid (fun i hi => by
              rcases Nat.lt_or_ge i k with h | h
              · exact HQ.out i h
              · obtain rfl : i = k := by omega
                exact ⟨h1, h2⟩)
            generalize (f k).p = P at *
            generalize (f k).q = Q at *
            go_wp2
            go_round
            case rel => exact ⟨k + 1, by go_num, by omega, HN⟩
            case measure => simp [intOf]; omega
          · have HA : Hid (R = false) := Lib.hid (by rw [HR.out]; exact room_long hlt (fun h => h2 h.2))
            generalize (f k).p = P at *
            generalize (f k).q = Q at *
            go_wp2
            go_ret
            rw [HA.out]
            exact ⟨rfl, rfl⟩
        · have HA : Hid (R = false) := Lib.hid (by rw [HR.out]; exact room_long hlt (fun h => h1 h.1))
          generalize (f k).p = P at *
          go_wp2
          go_ret
          rw [HA.out]
          exact ⟨rfl, rfl⟩
      · have HA : Hid (R = true) := Lib.hid (by rw [HR.out]; exact room_ok HM.out (fun i hi => HQ.out i (by omega)))
        go_wp2
        go_ret
        rw [HA.out]
        exact ⟨rfl, rfl⟩
  · have HA : Hid (R = false) := Lib.hid (by rw [HR.out]; exact room_far hm)
    go_enter Tryz.func6, Tryz.ntmps6
    go_wp2
    go_ret
    rw [HA.out]
    exact ⟨rfl, rfl⟩
end Go.Proofs.YtaiihklfeoeoeaaGreat.W

/- The walks of the reference's Join, Parent, Within. -/
namespace Go.Proofs.YtaiihklfeoeoeaaGreat.NM
open Go.RowKit
set_option linter.unusedVariables false

set_option maxHeartbeats 4000000 in
set_option maxRecDepth 100000 in
theorem rwithin_any (a b : ByteArray) (w : World) (ha : a.size ≤ 1000) (hb : b.size ≤ 1000) :
    Calls Tryz.prog 48 #[.string a, .string b] w fun e w' => e = .returned (.bool (withinB a.data.toList b.data.toList)) ∧ Below w.heap.size w w' := by
  cases hsa : splitB a.data.toList with
  | none =>
    have hres : withinB a.data.toList b.data.toList = false := by simp [withinB, hsa]
    rw [hres]
    go_enter Tryz.func48, Tryz.ntmps48
    go_wp2_with fail
    refine (rsplit_any a w ha).mono ?_
    rintro e w1 ⟨hb1, he⟩
    rw [hsa] at he
    subst he
    have HS := Lib.hid hsa
    clear hres hsa
    go_wp2_with fail
    refine (rsplit_any b _ hb).mono ?_
    rintro e w2 ⟨hb2, he⟩
    have hbel : Below w.heap.size w w2 := hb1.trans (hb2.mono hb1.size)
    cases hsb : splitB b.data.toList with
    | none =>
      rw [hsb] at he; subst he
      clear hsb
      go_wp2
      go_ret
      exact ⟨rfl, hbel⟩
    | some k =>
      rw [hsb] at he
      obtain ⟨v, rfl, hv⟩ := he
      clear hsb
      go_wp2
      go_ret
      exact ⟨rfl, hbel⟩
  | some l =>
    have HRES : Hid (withinB a.data.toList b.data.toList = match splitB b.data.toList with | some k => k.isPrefixOf l | none => false) := by
      show _ = _
      unfold withinB
      rw [hsa]
      cases splitB b.data.toList <;> rfl
    go_enter Tryz.func48, Tryz.ntmps48
    go_wp2_with fail
    refine (rsplit_any a w ha).mono ?_
    rintro e w1 ⟨hb1, he⟩
    rw [hsa] at he
    obtain ⟨v1, rfl, hv1⟩ := he
    have h8 := (split_some hsa).2.1
    clear hsa
    go_wp2_with fail
    refine (rsplit_any b _ hb).mono ?_
    rintro e w2 ⟨hb2, he⟩
    have hbel : Below w.heap.size w w2 := hb1.trans (hb2.mono hb1.size)
    cases hsb : splitB b.data.toList with
    | none =>
      rw [hsb] at he; subst he
      have HB := Lib.hid hsb
      clear hsb
      go_wp2
      go_ret
      rw [HRES.out, HB.out]
      exact ⟨rfl, hbel⟩
    | some k =>
      rw [hsb] at he
      obtain ⟨v2, rfl, hv2⟩ := he
      have h8k := (split_some hsb).2.1
      have HB := Lib.hid hsb
      clear hsb
      obtain ⟨a1, c1, rfl, hcap1, hr1⟩ := hv1.below hb2
      obtain ⟨a2, c2, rfl, hcap2, hr2⟩ := hv2
      by_cases hlen : l.length < k.length
      · have hpf : k.isPrefixOf l = false := by
          rw [← Bool.not_eq_true, List.isPrefixOf_iff_prefix]
          intro h
          have := h.length_le; omega
        have HP := Lib.hid hpf
        clear hpf hr1 hr2
        go_wp2
        go_ret
        rw [HRES.out, HB.out]
        simp only [HP.out]
        exact ⟨rfl, hbel⟩
      · have hle : k.length ≤ l.length := by omega
        by_cases hk0 : k.length = 0
        · have HP : Hid (k.isPrefixOf l = true) := by
            have : k = [] := List.eq_nil_of_length_eq_zero hk0
            subst this; rfl
          have hz : ¬ (0 : Int) < (k.length : Int) := by omega
          clear hr1 hr2 hk0
          go_wp2
          refine wp_loop_rounds 1 ?_
          rw [rounds_succ]
          go_wp2
          go_ret
          rw [HRES.out, HB.out]
          simp only [HP.out]
          exact ⟨rfl, hbel⟩
        · rcases hr1 with h0 | ⟨x1, o1, rfl, hx1, hc1⟩
          · exact absurd h0 (by omega)
          · rcases hr2 with h0 | ⟨x2, o2, rfl, hx2, hc2⟩
            · exact absurd h0 (by omega)
            · have H1 := Lib.hid hc1
              have H2 := Lib.hid hc2
              clear hc1 hc2
              go_wp2
              go_loopw [9] (fun i wr => ∃ j n : Nat, j ≤ k.length ∧ i = .int .i64 j ∧ Hid (sameTo k l j) ∧ wr = w2.drewN n) (fun i _ => k.length - (intOf i).toNat)
              case atStart => exact ⟨0, 0, Nat.zero_le _, rfl, fun i hi => absurd hi (by omega), rfl⟩
              case round =>
                obtain ⟨j, n, hj, rfl, HS, rfl⟩ := hrel
                by_cases hlt : j < k.length
                · have hlt2 : j < l.length := by omega
                  obtain ⟨y, hy, hcy⟩ : ∃ y, k.getD j [] = y ∧ w2.cell? ⟨x2, o2 + j, none⟩ = some (.string (mk y)) := ⟨_, rfl, H2.out j hlt⟩
                  obtain ⟨x, hx, hcx⟩ : ∃ x, l.getD j [] = x ∧ w2.cell? ⟨x1, o1 + j, none⟩ = some (.string (mk x)) := ⟨_, rfl, H1.out j hlt2⟩
                  have HY := Lib.hid hy
                  have HX := Lib.hid hx
                  clear hy hx
                  by_cases hxy : x = y
                  · have hne : ((mk x).toList == (mk y).toList) = true := by rw [str_ne]; simp [hxy]
                    have HXY := Lib.hid hxy
                    clear hxy
                    generalize mk x = X at *
                    generalize mk y = Y at *
                    go_wp2
                    go_quiet (fail)
                    go_wp2
                    go_roundw
                    case rel =>
                      refine ⟨j + 1, _, by omega, by go_num, fun i hi => ?_, rfl⟩
                      by_cases e : i = j
                      · subst e; rw [HY.out, HX.out, HXY.out]
                      · exact HS.out i (by omega)
                    case measure => simp [intOf]; omega
                  · have hne : ((mk x).toList == (mk y).toList) = false := by rw [str_ne]; simp [hxy]
                    have HP : Hid (k.isPrefixOf l = false) := by
                      show _ = _
                      rw [← Bool.not_eq_true, prefix_iff hle]
                      intro h
                      have := h j hlt
                      rw [HY.out, HX.out] at this
                      exact hxy this.symm
                    clear hxy
                    generalize mk x = X at *
                    generalize mk y = Y at *
                    go_wp2
                    go_quiet (fail)
                    go_wp2
                    go_ret
                    rw [HRES.out, HB.out]
                    simp only [HP.out]
                    exact ⟨rfl, below_drewN (below_drewN hbel _) _⟩
                · have HP : Hid (k.isPrefixOf l = true) := by
                    show _ = _
                    rw [prefix_iff hle]
                    intro i hi
                    exact HS.out i (by omega)
                  go_wp2
                  go_ret
                  rw [HRES.out, HB.out]
                  simp only [HP.out]
                  exact ⟨rfl, below_drewN hbel _⟩
end Go.Proofs.YtaiihklfeoeoeaaGreat.NM

/- The reference's tree in memory; find, kid, isDir, walk, Look, place. -/
namespace Go.Proofs.YtaiihklfeoeoeaaGreat.W
open Go.RowKit
open Go.Proofs.YtaiihklfeoeoeaaGreat.NM
set_option linter.unusedVariables false
set_option linter.unusedSimpArgs false

instance : Inhabited Th := ⟨rootTh⟩
def thE (x : Th) : List Value := [.int .i64 (x.ino : Int), .int .i64 (x.dir : Int), .string ⟨x.name.toArray⟩, .bool x.isDir]
def thEs (T : PT) : List Value := T.flatMap thE
theorem thE_len (x : Th) : (thE x).length = 4 := rfl
theorem thE_one (x : Th) : ∀ v ∈ thE x, v.oneCell' = true := by
  intro v hv
  simp [thE] at hv
  rcases hv with rfl | rfl | rfl | rfl <;> rfl
theorem thEs_app (T U : PT) : thEs (T ++ U) = thEs T ++ thEs U := List.flatMap_append
theorem thEs_one (x : Th) : thEs [x] = thE x := by simp [thEs]
theorem thEs_len (T : PT) : (thEs T).length = T.length * 4 := flatMap_len thE thE_len T
theorem thEs_at {T : PT} {i j : Nat} {x : Th} (h : T[i]? = some x) (hj : j < 4) : (thEs T)[i * 4 + j]? = (thE x)[j]? := by
  have hi := (List.getElem?_eq_some_iff.1 h).1
  have := flatMap_at thE thE_len T i j hi hj
  rw [show T[i]! = x by simp [List.getElem!_eq_getElem?_getD, h]] at this
  exact this
/-- A row of things of the reference's: how it reads. -/
def ThRow (w : World) (a : Option Addr) (T : PT) : Prop :=
  T = [] ∨ ∃ g, a = some ⟨g, 0, none⟩ ∧ g < w.heap.size ∧ ∀ i x, T[i]? = some x → w.cell? ⟨g, i * 4, none⟩ = some (.int .i64 (x.ino : Int)) ∧ w.cell? ⟨g, i * 4 + 1, none⟩ = some (.int .i64 (x.dir : Int)) ∧
    w.cell? ⟨g, i * 4 + 2, none⟩ = some (.string ⟨x.name.toArray⟩) ∧ w.cell? ⟨g, i * 4 + 3, none⟩ = some (.bool x.isDir)
theorem throw_own {w : World} {base : Nat} {v : Value} {T : PT} (h : w.ownsRow base 75 4 v T.length (thEs T)) : ∃ a c, v = .slice a T.length c ∧ T.length ≤ c ∧ ThRow w a T := by
  rcases h.2 with ⟨rfl, h0⟩ | ⟨g, cap, cur, rfl, hbg, hg, hnc, hcm, hcs, htake⟩
  · rw [h0]; exact ⟨none, 0, rfl, Nat.le_refl _, .inl (List.eq_nil_of_length_eq_zero h0)⟩
  · refine ⟨_, _, rfl, hnc, .inr ⟨g, rfl, (Array.getElem?_eq_some_iff.1 hg).1, fun i x hx => ?_⟩⟩
    have key : ∀ j, j < 4 → ∀ u, (thE x)[j]? = some u → w.cell? ⟨g, i * 4 + j, none⟩ = some u := by
      intro j hj u hu
      have := h.cells (g := g) rfl (i * 4 + j) u (by rw [thEs_at hx hj]; exact hu)
      rw [add_none] at this
      simpa using this
    exact ⟨by simpa using key 0 (by omega) _ rfl, key 1 (by omega) _ rfl, key 2 (by omega) _ rfl, key 3 (by omega) _ rfl⟩
/-- The reference's tree: the struct in block b. -/
structure RTOk (w : World) (b : Nat) (v : Value) (base : Nat) (T : PT) : Prop where
  head : w.heap[b]? = some (.cells #[v] 30 (0, 0))
  rows : w.ownsRow base 75 4 v T.length (thEs T)
  apart : v.ownBlock ≠ some b
  ok : TOk T
theorem RTOk.lt {w : World} {b base : Nat} {v : Value} {T : PT} (h : RTOk w b v base T) : b < w.heap.size := blk_lt h.head
theorem RTOk.keep {S : List Nat} {w w' : World} {b base : Nat} {v : Value} {T : PT} (h : RTOk w b v base T) (hc : Chg S w w') (hb : b ∉ S) (hv : ∀ g, v.ownBlock = some g → g ∉ S) : RTOk w' b v base T :=
  ⟨hc.keep h.head hb, row_keep h.rows (fun g hg => hc.block g (World.ownsRow.lt h.rows g hg).2 (hv g hg)), h.apart, h.ok⟩
theorem RTOk.keep0 {w w' : World} {b base : Nat} {v : Value} {T : PT} (h : RTOk w b v base T) (hc : Chg [] w w') : RTOk w' b v base T := h.keep hc (by simp) (by simp)
theorem tok_len' {T : PT} (h : TOk T) : T.length ≤ 127 := by
  have h2 := h.nums
  have h3 := h.rise
  have : ∀ (U : PT) (n : Nat), U.Pairwise (fun x y => x.ino < y.ino) → (∀ x ∈ U, n ≤ x.ino ∧ x.ino ≤ 128) → U = [] ∨ n + U.length ≤ 129 := by
    intro U
    induction U with
    | nil => intro n _ _; exact .inl rfl
    | cons y r ih =>
      intro n hp hm
      right
      have hp' := List.pairwise_cons.1 hp
      have hy := hm y (List.mem_cons_self ..)
      rcases ih (n + 1) hp'.2 (fun x hx => ⟨by have := hp'.1 x hx; omega, (hm x (List.mem_cons_of_mem _ hx)).2⟩) with h4 | h4
      · subst h4; simp; omega
      · simp; omega
  rcases this T 2 h3 h2 with h4 | h4
  · rw [h4]; simp
  · omega

/-! ### find -/
def fiI (T : PT) (z : Int) : Int := match T.findIdx? (fun x => (x.ino : Int) == z) with | some i => (i : Int) | none => -1
def fiAt (T : PT) (z : Int) (k : Nat) : Prop := T.findIdx? (fun x => (x.ino : Int) == z) = ((T.drop k).findIdx? (fun x => (x.ino : Int) == z)).map (· + k)
theorem fi_zero (T : PT) (z : Int) : fiAt T z 0 := by unfold fiAt; simp
theorem drop_at {T : PT} {k : Nat} {x : Th} (h : T[k]? = some x) : T.drop k = x :: T.drop (k + 1) := by
  obtain ⟨h1, h2⟩ := List.getElem?_eq_some_iff.1 h
  rw [List.drop_eq_getElem_cons h1, h2]
theorem fi_hit {T : PT} {z : Int} {k : Nat} {x : Th} (h : fiAt T z k) (hx : T[k]? = some x) (he : ((x.ino : Int) == z) = true) : fiI T z = k := by
  unfold fiAt at h
  rw [drop_at hx, List.findIdx?_cons, he] at h
  unfold fiI
  rw [h]
  simp
theorem fi_miss {T : PT} {z : Int} {k : Nat} {x : Th} (h : fiAt T z k) (hx : T[k]? = some x) (he : ((x.ino : Int) == z) = false) : fiAt T z (k + 1) := by
  unfold fiAt at h ⊢
  rw [drop_at hx, List.findIdx?_cons, he] at h
  rw [h]
  cases (T.drop (k + 1)).findIdx? (fun x => (x.ino : Int) == z) with
  | none => rfl
  | some i => simp; omega
theorem fi_end {T : PT} {z : Int} (h : fiAt T z T.length) : fiI T z = -1 := by
  unfold fiAt at h
  unfold fiI
  rw [h]
  simp
theorem fi_get (a : Nat) : ∀ T : PT, (T.findIdx? (fun x => (x.ino : Int) == (a : Int)) = none ∧ tGet T a = none) ∨ ∃ i x, T.findIdx? (fun x => (x.ino : Int) == (a : Int)) = some i ∧ T[i]? = some x ∧ tGet T a = some x
  | [] => .inl ⟨rfl, rfl⟩
  | y :: r => by
    rw [List.findIdx?_cons]
    unfold tGet
    by_cases h : y.ino = a
    · right
      exact ⟨0, y, by simp [h], rfl, by simp [h]⟩
    · have h1 : ((y.ino : Int) == (a : Int)) = false := by simp; omega
      have h2 : (y.ino == a) = false := by simpa using h
      rw [h1, List.find?_cons, h2]
      rcases fi_get a r with ⟨h3, h4⟩ | ⟨i, x, h3, h4, h5⟩
      · left
        rw [h3]; exact ⟨rfl, h4⟩
      · right
        rw [h3]
        exact ⟨i + 1, x, rfl, by simpa using h4, h5⟩
theorem fiI_cases (T : PT) (a : Nat) : (fiI T a = -1 ∧ tGet T a = none) ∨ ∃ (i : Nat) (x : Th), fiI T a = i ∧ T[i]? = some x ∧ tGet T a = some x := by
  unfold fiI
  rcases fi_get a T with ⟨h3, h4⟩ | ⟨i, x, h3, h4, h5⟩
  · left; rw [h3]; exact ⟨rfl, h4⟩
  · right; exact ⟨i, x, by rw [h3], h4, h5⟩

set_option maxHeartbeats 2000000 in
set_option maxRecDepth 100000 in
theorem rfind_any (b base : Nat) (v : Value) (T : PT) (z : Int) (w : World) (h : RTOk w b v base T) : Calls Tryz.prog 45 #[.pointer (some ⟨b, 0, none⟩), .int .i64 z] w fun e w' => e = .returned (.int .i64 (fiI T z)) ∧ w = w' := by
  have hl := tok_len' h.ok
  obtain ⟨a, cap, rfl, hcap, hr⟩ := throw_own h.rows
  have t0 : w.cell? ⟨b, 0, none⟩ = some (.slice a T.length cap) := blk_cell h.head 0 _ rfl
  have HR := Lib.hid hr
  clear hr h
  go_enter Tryz.func45, Tryz.ntmps45
  go_wp2
  go_loop [5] (fun v5 => ∃ k : Nat, v5 = .int .i64 k ∧ k ≤ T.length ∧ Hid (fiAt T z k)) (fun v5 => T.length - (intOf v5).toNat)
  case atStart => exact ⟨0, rfl, by omega, Lib.hid (fi_zero T z)⟩
  case round =>
    obtain ⟨k, rfl, hk, HQ⟩ := hrel
    by_cases hlt : k < T.length
    · obtain ⟨x, hx⟩ : ∃ x, T[k]? = some x := ⟨_, List.getElem?_eq_getElem hlt⟩
      obtain ⟨g, rfl, hg, hc⟩ : ∃ g, a = some ⟨g, 0, none⟩ ∧ g < w.heap.size ∧ w.cell? ⟨g, k * 4, none⟩ = some (.int .i64 (x.ino : Int)) := by
        rcases HR.out with h0 | ⟨g, h1, h2, h3⟩
        · rw [h0] at hlt; simp at hlt
        · exact ⟨g, h1, h2, (h3 k x hx).1⟩
      have HX := Lib.hid hx
      clear hx
      obtain ⟨y, hy⟩ : ∃ y : Int, y = x.ino := ⟨_, rfl⟩
      rw [← hy] at hc
      have HY := Lib.hid hy
      clear hy
      have hkz : (k : Int) < (T.length : Int) := by omega
      cases hq : (y == z) with
      | true =>
        have HA : Hid (fiI T z = k) := Lib.hid (fi_hit HQ.out HX.out (by rw [← HY.out]; exact hq))
        go_wp2
        go_ret
        rw [HA.out]
        exact ⟨rfl, rfl⟩
      | false =>
        have HN := Lib.hid (fi_miss HQ.out HX.out (by rw [← HY.out]; exact hq))
        go_wp2
        go_round
        case rel => exact ⟨k + 1, by go_num, by omega, HN⟩
        case measure => simp [intOf]; omega
    · have HA : Hid (fiI T z = -1) := Lib.hid (by
        obtain rfl : k = T.length := by omega
        exact fi_end HQ.out)
      go_wp2
      go_ret
      rw [HA.out]
      exact ⟨rfl, rfl⟩

/-! ### kid -/
def kdP (z : Int) (s : List UInt8) (x : Th) : Bool := (x.dir : Int) == z && x.name == s
def kdI (T : PT) (z : Int) (s : List UInt8) : Nat := match T.find? (kdP z s) with | some x => x.ino | none => 0
def kdAt (T : PT) (z : Int) (s : List UInt8) (k : Nat) : Prop := T.find? (kdP z s) = (T.drop k).find? (kdP z s)
theorem kd_zero (T : PT) (z : Int) (s : List UInt8) : kdAt T z s 0 := by unfold kdAt; simp
theorem kd_hit {T : PT} {z : Int} {s : List UInt8} {k : Nat} {x : Th} (h : kdAt T z s k) (hx : T[k]? = some x) (he : kdP z s x = true) : kdI T z s = x.ino := by
  unfold kdAt at h
  rw [drop_at hx, List.find?_cons, he] at h
  unfold kdI
  rw [h]
theorem kd_miss {T : PT} {z : Int} {s : List UInt8} {k : Nat} {x : Th} (h : kdAt T z s k) (hx : T[k]? = some x) (he : kdP z s x = false) : kdAt T z s (k + 1) := by
  unfold kdAt at h ⊢
  rw [drop_at hx, List.find?_cons, he] at h
  exact h
theorem kd_end {T : PT} {z : Int} {s : List UInt8} (h : kdAt T z s T.length) : kdI T z s = 0 := by
  unfold kdAt at h
  unfold kdI
  rw [h]
  simp
theorem kdI_nat (T : PT) (a : Nat) (s : List UInt8) : kdI T a s = tKid T a s := by
  unfold kdI tKid tKidOf
  have : kdP (a : Int) s = fun x => x.dir == a && x.name == s := by
    funext x
    unfold kdP
    congr 1
    by_cases h : x.dir = a
    · simp [h]
    · have h1 : ((x.dir : Int) == (a : Int)) = false := by simp; omega
      have h2 : (x.dir == a) = false := by simpa using h
      rw [h1, h2]
  rw [this]
  cases T.find? (fun x => x.dir == a && x.name == s) <;> rfl

set_option maxHeartbeats 2000000 in
set_option maxRecDepth 100000 in
theorem rkid_any (b base : Nat) (v : Value) (T : PT) (z : Int) (s : List UInt8) (w : World) (h : RTOk w b v base T) : Calls Tryz.prog 44 #[.pointer (some ⟨b, 0, none⟩), .int .i64 z, .string (mk s)] w fun e w' => e = .returned (.int .i64 (kdI T z s : Int)) ∧ w = w' := by
  have hl := tok_len' h.ok
  obtain ⟨a, cap, rfl, hcap, hr⟩ := throw_own h.rows
  have t0 : w.cell? ⟨b, 0, none⟩ = some (.slice a T.length cap) := blk_cell h.head 0 _ rfl
  have HR := Lib.hid hr
  obtain ⟨sb, hsb⟩ : ∃ sb, sb = mk s := ⟨_, rfl⟩
  rw [← hsb]
  have HSB := Lib.hid hsb
  clear hr h hsb
  go_enter Tryz.func44, Tryz.ntmps44
  go_wp2
  go_loop [7] (fun v7 => ∃ k : Nat, v7 = .int .i64 k ∧ k ≤ T.length ∧ Hid (kdAt T z s k)) (fun v7 => T.length - (intOf v7).toNat)
  case atStart => exact ⟨0, rfl, by omega, Lib.hid (kd_zero T z s)⟩
  case round =>
    obtain ⟨k, rfl, hk, HQ⟩ := hrel
    by_cases hlt : k < T.length
    · obtain ⟨x, hx⟩ : ∃ x, T[k]? = some x := ⟨_, List.getElem?_eq_getElem hlt⟩
      obtain ⟨g, rfl, hg, hc0, hc1, hc2⟩ : ∃ g, a = some ⟨g, 0, none⟩ ∧ g < w.heap.size ∧ w.cell? ⟨g, k * 4, none⟩ = some (.int .i64 (x.ino : Int)) ∧ w.cell? ⟨g, k * 4 + 1, none⟩ = some (.int .i64 (x.dir : Int)) ∧ w.cell? ⟨g, k * 4 + 2, none⟩ = some (.string (mk x.name)) := by
        rcases HR.out with h0 | ⟨g, h1, h2, h3⟩
        · rw [h0] at hlt; simp at hlt
        · exact ⟨g, h1, h2, (h3 k x hx).1, (h3 k x hx).2.1, (h3 k x hx).2.2.1⟩
      have HX := Lib.hid hx
      clear hx
      obtain ⟨y, hy⟩ : ∃ y : Int, y = x.dir := ⟨_, rfl⟩
      rw [← hy] at hc1
      obtain ⟨nb, hnb⟩ : ∃ nb, nb = mk x.name := ⟨_, rfl⟩
      rw [← hnb] at hc2
      have HE : Hid ((nb.toList == sb.toList) = (x.name == s)) := Lib.hid (by
        have h1 := str_ne (x := x.name) (y := s)
        rw [hnb, HSB.out, h1, Bool.eq_iff_iff]; simp)
      have HY := Lib.hid hy
      clear hy hnb
      have hkz : (k : Int) < (T.length : Int) := by omega
      cases hq : (y == z) with
      | false =>
        have HN := Lib.hid (kd_miss HQ.out HX.out (by unfold kdP; rw [← HY.out, hq]; rfl))
        go_wp2
        go_round
        case rel => exact ⟨k + 1, by go_num, by omega, HN⟩
        case measure => simp [intOf]; omega
      | true =>
        cases hq2 : (nb.toList == sb.toList) with
        | false =>
          have HN := Lib.hid (kd_miss HQ.out HX.out (by unfold kdP; rw [← HY.out, hq, ← HE.out, hq2]; rfl))
          go_wp2
          go_round
          case rel => exact ⟨k + 1, by go_num, by omega, HN⟩
          case measure => simp [intOf]; omega
        | true =>
          have HA : Hid (kdI T z s = x.ino) := Lib.hid (kd_hit HQ.out HX.out (by unfold kdP; rw [← HY.out, hq, ← HE.out, hq2]; rfl))
          go_wp2
          go_ret
          rw [HA.out]
          exact ⟨rfl, rfl⟩
    · have HA : Hid (kdI T z s = 0) := Lib.hid (by
        obtain rfl : k = T.length := by omega
        exact kd_end HQ.out)
      go_wp2
      go_ret
      rw [HA.out]
      exact ⟨rfl, rfl⟩

/-! ### isDir -/
set_option maxHeartbeats 2000000 in
set_option maxRecDepth 100000 in
theorem risdir_any (b base : Nat) (v : Value) (T : PT) (n : Nat) (w : World) (h : RTOk w b v base T) : Calls Tryz.prog 50 #[.pointer (some ⟨b, 0, none⟩), .int .i64 (n : Int)] w fun e w' => e = .returned (.bool (tIsDir T n)) ∧ w = w' := by
  have hl := tok_len' h.ok
  have HF := Lib.hid (rfind_any b base v T n w h)
  obtain ⟨a, cap, rfl, hcap, hr⟩ := throw_own h.rows
  have t0 : w.cell? ⟨b, 0, none⟩ = some (.slice a T.length cap) := blk_cell h.head 0 _ rfl
  have HR := Lib.hid hr
  have HC := Lib.hid (fiI_cases T n)
  clear hr h
  by_cases h1 : n = 1
  · subst h1
    clear t0
    go_enter Tryz.func50, Tryz.ntmps50
    go_wp2
    go_ret
    exact ⟨rfl, rfl⟩
  · have e1 : (n == 1) = false := by simpa using h1
    have hn : ((n : Int) == 1) = false := by simp; omega
    rcases HC.out with ⟨h2, h3⟩ | ⟨i, x, h2, h3, h4⟩
    · have HA : Hid (tIsDir T n = false) := Lib.hid (by unfold tIsDir; rw [e1, h3]; rfl)
      rw [h2] at HF
      clear h2 h3 e1 h1
      go_enter Tryz.func50, Tryz.ntmps50
      go_wp2_with fail
      refine HF.out.mono ?_
      rintro e w' ⟨rfl, rfl⟩
      go_wp2
      go_ret
      rw [HA.out]
      exact ⟨rfl, rfl⟩
    · have HA : Hid (tIsDir T n = x.isDir) := Lib.hid (by unfold tIsDir; rw [e1, h4]; rfl)
      have hlt := (List.getElem?_eq_some_iff.1 h3).1
      obtain ⟨g, rfl, hg, hc⟩ : ∃ g, a = some ⟨g, 0, none⟩ ∧ g < w.heap.size ∧ w.cell? ⟨g, i * 4 + 3, none⟩ = some (.bool x.isDir) := by
        rcases HR.out with h0 | ⟨g, h5, h6, h7⟩
        · rw [h0] at hlt; simp at hlt
        · exact ⟨g, h5, h6, (h7 i x h3).2.2.2⟩
      rw [h2] at HF
      have hkz : (i : Int) < (T.length : Int) := by omega
      clear h2 h3 h4 e1 h1
      go_enter Tryz.func50, Tryz.ntmps50
      go_wp2_with fail
      refine HF.out.mono ?_
      rintro e w' ⟨rfl, rfl⟩
      go_wp2
      go_ret
      rw [HA.out]
      exact ⟨rfl, rfl⟩

/-! ### walk -/
set_option maxHeartbeats 4000000 in
set_option maxRecDepth 100000 in
theorem rwalk_any (b base : Nat) (v : Value) (T : PT) (u : Value) (l : List (List UInt8)) (w : World) (h : RTOk w b v base T) (hv : IsStrs w u l) (hl : l.length ≤ 1000) :
    Calls Tryz.prog 49 #[.pointer (some ⟨b, 0, none⟩), u] w (WalkPost w (tWalk T l 1)) := by
  have HH := Lib.hid h
  obtain ⟨va, vc, rfl, hlc, hrow⟩ := hv
  have HR := Lib.hid hrow
  clear h hrow
  go_enter Tryz.func49, Tryz.ntmps49
  go_wp2
  go_loop [6, 7] (fun v6 v7 => ∃ (k a : Nat), v7 = .int .i64 k ∧ v6 = .int .i64 a ∧ k ≤ l.length ∧ a ≤ 128 ∧ Hid (tHas T a = true) ∧ Hid (tWalk T l 1 = tWalk T (l.drop k) a)) (fun _ v7 => l.length - (intOf v7).toNat)
  case atStart => exact ⟨0, 1, rfl, rfl, by omega, by omega, Lib.hid rfl, Lib.hid rfl⟩
  case round =>
    obtain ⟨k, a, rfl, rfl, hk, ha, HA, HW⟩ := hrel
    by_cases hlt : k < l.length
    · obtain ⟨gb, off, rfl, hb, hcs⟩ : ∃ b off, va = some ⟨b, off, none⟩ ∧ b < w.heap.size ∧ ∀ i, i < l.length → w.cell? ⟨b, off + i, none⟩ = some (.string (mk (l.getD i []))) := by
        rcases HR.out with h0 | h0
        · omega
        · exact h0
      have ck := hcs k hlt
      have HD : Hid (l.drop k = l.getD k [] :: l.drop (k + 1)) := Lib.hid (by
        rw [List.drop_eq_getElem_cons hlt]
        simp [List.getD_eq_getElem?_getD, List.getElem?_eq_getElem hlt])
      generalize hs : l.getD k [] = s at ck HD
      clear hs hcs
      have HX : Hid (tWalk T l 1 = if tIsDir T a = false then (0, 10) else if tKid T a s = 0 then (0, 6) else tWalk T (l.drop (k + 1)) (tKid T a s)) := Lib.hid (by rw [HW.out, HD.out, walk_cons])
      have CD := Lib.hid (risdir_any b base v T a w HH.out)
      have CK := rkid_any b base v T a s w HH.out
      rw [kdI_nat] at CK
      have HCK := Lib.hid CK
      clear CK
      cases hd : tIsDir T a with
      | false =>
        have HE : Hid (tWalk T l 1 = (0, 10)) := Lib.hid (by rw [HX.out, if_pos hd])
        rw [hd] at CD
        clear hd
        go_wp2_with fail
        refine CD.out.mono ?_
        rintro e w' ⟨rfl, rfl⟩
        go_wp2
        go_ret2
        rw [HE.out]
        exact ⟨rfl, rfl⟩
      | true =>
        have HX' : Hid (tWalk T l 1 = if tKid T a s = 0 then (0, 6) else tWalk T (l.drop (k + 1)) (tKid T a s)) := Lib.hid (by rw [HX.out, if_neg (by rw [hd]; simp)])
        rw [hd] at CD
        clear hd
        go_wp2_with fail
        refine CD.out.mono ?_
        rintro e w' ⟨rfl, rfl⟩
        go_wp2_with fail
        refine HCK.out.mono ?_
        rintro e w' ⟨rfl, rfl⟩
        by_cases hk0 : tKid T a s = 0
        · have HE : Hid (tWalk T l 1 = (0, 6)) := Lib.hid (by rw [HX'.out, if_pos hk0])
          rw [hk0]
          clear hk0
          go_wp2
          go_ret2
          rw [HE.out]
          exact ⟨rfl, rfl⟩
        · have HE : Hid (tWalk T l 1 = tWalk T (l.drop (k + 1)) (tKid T a s)) := Lib.hid (by rw [HX'.out, if_neg hk0])
          have HA2 := Lib.hid (kid_has hk0)
          have hks := has_small HH.out.ok HA2.out
          generalize tKid T a s = c at *
          have hc0 : ((c : Int) == 0) = false := by simp; omega
          clear hk0
          go_wp2
          go_round
          case rel => exact ⟨k + 1, c, by go_num, rfl, by omega, by omega, HA2, HE⟩
          case measure => simp [intOf]; omega
    · have HE : Hid (tWalk T l 1 = (a, 0)) := Lib.hid (by
        rw [HW.out, List.drop_of_length_le (by omega)]; rfl)
      go_wp2
      go_ret2
      rw [HE.out]
      exact ⟨rfl, rfl⟩
end Go.Proofs.YtaiihklfeoeoeaaGreat.W

/- The reference's Look, place. -/
namespace Go.Proofs.YtaiihklfeoeoeaaGreat.W
open Go.RowKit
open Go.Proofs.YtaiihklfeoeoeaaGreat.NM
set_option linter.unusedVariables false
set_option linter.unusedSimpArgs false

set_option maxHeartbeats 4000000 in
set_option maxRecDepth 100000 in
theorem rlook_any (b base : Nat) (v : Value) (T : PT) (s : ByteArray) (w : World) (h : RTOk w b v base T) (hs : s.size ≤ 1000) :
    Calls Tryz.prog 24 #[.pointer (some ⟨b, 0, none⟩), .string s] w (LookPost w (tLook T s.data.toList)) := by
  have H := Lib.hid h
  have HS := Lib.hid hs
  cases hsp : splitB s.data.toList with
  | none =>
    have HR : Hid (tLook T s.data.toList = (0, false, 12)) := Lib.hid (by unfold tLook; rw [hsp])
    have HSP := Lib.hid hsp
    rw [HR.out]
    clear hsp h hs
    go_enter Tryz.func24, Tryz.ntmps24
    go_wp2_with fail
    refine (rsplit_any s w HS.out).mono ?_
    rintro e w1 ⟨hb, h2⟩
    rw [HSP.out] at h2
    subst h2
    have HB := Lib.hid hb
    clear hb
    go_wp2
    go_ret3
    exact ⟨rfl, chg_below HB.out⟩
  | some l =>
    have HR : Hid (tLook T s.data.toList = if (tWalk T l 1).2 ≠ 0 then (0, false, (tWalk T l 1).2) else ((tWalk T l 1).1, tIsDir T (tWalk T l 1).1, 0)) := Lib.hid (by unfold tLook; rw [hsp])
    have HSP := Lib.hid hsp
    obtain ⟨hl1, hl2⟩ := split_names hsp
    clear hsp h hs hl2
    generalize hZ : tLook T s.data.toList = Z at HR ⊢
    clear hZ
    go_enter Tryz.func24, Tryz.ntmps24
    go_wp2_with fail
    refine (rsplit_any s w HS.out).mono ?_
    rintro e w1 ⟨hb, h2⟩
    rw [HSP.out] at h2
    obtain ⟨u, rfl, hv⟩ := h2
    have HB := Lib.hid (chg_below hb)
    have H1 := Lib.hid (H.out.keep0 HB.out)
    have HV := Lib.hid hv
    clear hb hv
    go_wp2_with fail
    refine (rwalk_any b base v T u l w1 H1.out HV.out (by omega)).mono ?_
    rintro e w2 ⟨rfl, rfl⟩
    by_cases h0 : (tWalk T l 1).2 = 0
    · have HR' : Hid (Z = ((tWalk T l 1).1, tIsDir T (tWalk T l 1).1, 0)) := Lib.hid (by rw [HR.out, if_neg (by simp [h0])])
      rw [h0]
      clear h0
      generalize (tWalk T l 1).1 = a at *
      have CD := Lib.hid (risdir_any b base v T a w1 H1.out)
      generalize tIsDir T a = dd at *
      go_wp2_with fail
      refine CD.out.mono ?_
      rintro e w3 ⟨rfl, rfl⟩
      go_wp2
      go_ret3
      rw [HR'.out]
      exact ⟨rfl, HB.out⟩
    · have HR' : Hid (Z = (0, false, (tWalk T l 1).2)) := Lib.hid (by rw [HR.out, if_pos h0])
      have hb0 : ((tWalk T l 1).2 != 0) = true := by simpa using h0
      clear h0
      generalize (tWalk T l 1).2 = er at *
      go_wp2
      go_ret3
      rw [HR'.out]
      exact ⟨rfl, HB.out⟩

set_option maxHeartbeats 4000000 in
set_option maxRecDepth 100000 in
theorem rplace_any (b base : Nat) (v : Value) (T : PT) (s : ByteArray) (w : World) (h : RTOk w b v base T) (hs : s.size ≤ 1000) (hne : splitB s.data.toList ≠ some []) :
    Calls Tryz.prog 43 #[.pointer (some ⟨b, 0, none⟩), .string s] w (PlacePost w (tPlace T s.data.toList)) := by
  have H := Lib.hid h
  have HS := Lib.hid hs
  cases hsp : splitB s.data.toList with
  | none =>
    have HR : Hid (tPlace T s.data.toList = (0, [], 12)) := Lib.hid (by unfold tPlace; rw [hsp])
    have HSP := Lib.hid hsp
    rw [HR.out]
    clear hsp h hs hne
    go_enter Tryz.func43, Tryz.ntmps43
    go_wp2_with fail
    refine (rsplit_any s w HS.out).mono ?_
    rintro e w1 ⟨hb, h2⟩
    rw [HSP.out] at h2
    subst h2
    have HB := Lib.hid hb
    clear hb
    go_wp2
    go_ret3
    exact ⟨rfl, chg_below HB.out⟩
  | some l =>
    have hl0 : l ≠ [] := fun e => hne (by rw [hsp, e])
    have HR : Hid (tPlace T s.data.toList = if (tWalk T l.dropLast 1).2 ≠ 0 then (0, [], (tWalk T l.dropLast 1).2) else if tIsDir T (tWalk T l.dropLast 1).1 = false then (0, [], 10) else ((tWalk T l.dropLast 1).1, l.getLastD [], 0)) :=
      Lib.hid (by unfold tPlace; rw [hsp]; simp only [if_neg hl0])
    have HSP := Lib.hid hsp
    obtain ⟨m, hm⟩ : ∃ m, l.length = m + 1 := ⟨l.length - 1, by have := List.length_pos_iff.2 hl0; omega⟩
    have h8 := (split_some hsp).2.1
    have hm8 : m ≤ 8 := by omega
    have hdl : l.dropLast.length = m := by rw [List.length_dropLast]; omega
    have HM := Lib.hid hm
    have HDL := Lib.hid hdl
    clear hsp h hs hne hl0 h8 hdl
    generalize hZ : tPlace T s.data.toList = Z at HR ⊢
    clear hZ
    go_enter Tryz.func43, Tryz.ntmps43
    go_wp2_with fail
    refine (rsplit_any s w HS.out).mono ?_
    rintro e w1 ⟨hb, h2⟩
    rw [HSP.out] at h2
    obtain ⟨u, rfl, A, c, rfl, hcap, hrow⟩ := h2
    have HB := Lib.hid (chg_below hb)
    have H1 := Lib.hid (H.out.keep0 HB.out)
    rw [hm] at hcap hrow ⊢
    obtain ⟨x, o, rfl, hx, hc⟩ : ∃ x o, A = some ⟨x, o, none⟩ ∧ x < w1.heap.size ∧ ∀ i, i < m + 1 → w1.cell? ⟨x, o + i, none⟩ = some (.string (mk (l.getD i []))) := by
      rcases hrow with h0 | h0
      · omega
      · exact h0
    have HV : Hid (∀ C, m ≤ C → IsStrs w1 (.slice (some ⟨x, o, none⟩) m C) l.dropLast) := Lib.hid (fun C hC => by
      refine ⟨some ⟨x, o, none⟩, C, by rw [HDL.out], by rw [HDL.out]; exact hC, .inr ⟨x, o, rfl, hx, fun i hi => ?_⟩⟩
      rw [HDL.out] at hi
      show _ = some (Value.string (mk (l.dropLast.getD i [])))
      rw [dropLast_getD HM.out i hi]
      exact hc i (by omega))
    have hlast := hc m (by omega)
    rw [last_getD hm] at hlast
    have HLA := Lib.hid hlast
    clear hb hrow hc hm hlast
    generalize l.dropLast = dl at *
    generalize l.getLastD [] = la at *
    have e1 : ((m + 1 : Nat) : Int) - 1 = (m : Int) := by omega
    have e2 : (m + 1 : Int) - 1 = (m : Int) := by omega
    go_wp2_with fail
    refine (rwalk_any b base v T _ dl w1 H1.out (HV.out _ (by omega)) (by rw [HDL.out]; omega)).mono ?_
    rintro e w2 ⟨rfl, rfl⟩
    clear e1 e2
    by_cases h0 : (tWalk T dl 1).2 = 0
    · have HR' : Hid (Z = if tIsDir T (tWalk T dl 1).1 = false then (0, [], 10) else ((tWalk T dl 1).1, la, 0)) := Lib.hid (by rw [HR.out, if_neg (by simp [h0])])
      rw [h0]
      clear h0
      generalize (tWalk T dl 1).1 = a at *
      have CD := Lib.hid (risdir_any b base v T a w1 H1.out)
      cases hd : tIsDir T a with
      | false =>
        have HE : Hid (Z = (0, [], 10)) := Lib.hid (by rw [HR'.out, if_pos hd])
        rw [hd] at CD
        clear hd
        go_wp2_with fail
        refine CD.out.mono ?_
        rintro e w3 ⟨rfl, rfl⟩
        go_wp2
        go_ret3
        rw [HE.out]
        exact ⟨rfl, HB.out⟩
      | true =>
        have HE : Hid (Z = (a, la, 0)) := Lib.hid (by rw [HR'.out, if_neg (by rw [hd]; simp)])
        rw [hd] at CD
        clear hd
        go_wp2_with fail
        refine CD.out.mono ?_
        rintro e w3 ⟨rfl, rfl⟩
        have hla := HLA.out
        have hmz : (m : Int) < ((m + 1 : Nat) : Int) := by omega
        go_wp2
        go_quiet (fail)
        go_wp2
        go_ret3
        rw [HE.out]
        exact ⟨rfl, HB.out.drewN _⟩
    · have HR' : Hid (Z = (0, [], (tWalk T dl 1).2)) := Lib.hid (by rw [HR.out, if_pos h0])
      have hb0 : ((tWalk T dl 1).2 != 0) = true := by simpa using h0
      clear h0
      generalize (tWalk T dl 1).2 = er at *
      go_wp2
      go_ret3
      rw [HR'.out]
      exact ⟨rfl, HB.out⟩
end Go.Proofs.YtaiihklfeoeoeaaGreat.W
