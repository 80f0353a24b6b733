/- Package tree: New; a thing more. -/
import Derived.Test.YtaiihklfeoeoeaaT2
namespace Go.Proofs.Ytaiihklfeoeoeaa.W
open Go.RowKit
open Go.Proofs.Ytaiihklfeoeoeaa.NM
set_option linter.unusedVariables false
set_option linter.unusedSimpArgs false

theorem has_ins {T : PT} {y : Th} (a : Nat) : tHas (tIns y T) a = true ↔ a = y.ino ∨ tHas T a = true := by
  rw [has_iff, has_iff]
  constructor
  · rintro (h | ⟨x, hx, rfl⟩)
    · exact .inr (.inl h)
    · rcases (mem_ins T x).1 hx with rfl | hx
      · exact .inl rfl
      · exact .inr (.inr ⟨x, hx, rfl⟩)
  · rintro (rfl | h | ⟨x, hx, rfl⟩)
    · exact .inr ⟨y, (mem_ins T y).2 (.inl rfl), rfl⟩
    · exact .inl h
    · exact .inr ⟨x, (mem_ins T x).2 (.inr hx), rfl⟩
theorem kids_ins (y : Th) (T : PT) (a : Nat) : nKids (tIns y T) a = nKids T a + if y.dir = a then 1 else 0 := by
  unfold nKids
  rw [((ins_perm y T).filter _).length_eq, List.filter_cons]
  by_cases e : y.dir = a
  · simp [e]
  · simp [e]
theorem okI_small {a : Nat} (h : a ≤ 1000) : okI (a : Int) := i64_ok (by omega) (by omega)

/-- A thing more. -/
theorem TreeOk.grow {w w' : World} {t : Nat} {S : List Nat} {T : PT} {bm : Nat} {f g : Nat → Nat} (h : TreeOk w t S T bm f g) {y : Th} (hy : ∀ x ∈ T, x.ino ≠ y.ino) (hok : TOk (tIns y T)) (hd : tIsDir T y.dir = true) (hk : tKidOf T y.dir y.name = none)
    {px gx : Nat} (hpx : w.heap.size ≤ px) (hgx : w.heap.size ≤ gx) (hpl : px < w'.heap.size) (hgl : gx < w'.heap.size)
    (hm : MapF 3 klI okI w' bm (updF (φT T f) (y.ino : Int) (pth px)) (T.length + 2)) (hg : MapF 9 klS okS w' (g y.dir) (updF (φK T y.dir) y.name (.int .i64 (y.ino : Int))) (nKids T y.dir + 1))
    (hb : w'.heap[px]? = some (.cells (thCells y (if y.isDir then some gx else none)) 69 (0, 0))) (hn : y.isDir = true → MapF 9 klS okS w' gx (fun _ => none) 0) (hc : Chg [bm, g y.dir] w w') :
    TreeAt w' t (S ++ [px, gx]) (tIns y T) := by
  have hn2 := hok.nums y ((mem_ins T y).2 (.inl rfl))
  have hne : ∀ a, tHas T a = true → a ≠ y.ino := fun a ha e => by
    subst e
    rcases has_iff.1 ha with h1 | ⟨x, hx, h1⟩
    · omega
    · exact hy x hx h1
  have hdd := dir_has hd
  have fcell : ∀ a, tHas T a = true → f a < w.heap.size ∧ f a ≠ bm ∧ f a ≠ g y.dir := fun a ha =>
    ⟨blk_lt (h.each a ha), ne_map h.things (h.cells ha).1, ne_map (h.ins _ hd) (h.cells ha).1⟩
  have hdirne : ∀ a, tIsDir T a = true → a ≠ y.ino := fun a ha => hne a (dir_has ha)
  have hfx : ∀ a, tHas T a = true → (if a = y.ino then px else f a) = f a := fun a ha => if_neg (hne a ha)
  have hgx' : ∀ a, tIsDir T a = true → (if a = y.ino then gx else g a) = g a := fun a ha => if_neg (hdirne a ha)
  have hth : ∀ a, tHas T a = true → thOf (tIns y T) a = thOf T a := fun a ha => by
    unfold thOf
    by_cases e : a = 1
    · rw [if_pos e, if_pos e]
    · rw [if_neg e, if_neg e, get_ins h.ok hy, if_neg (hne a ha)]
  have hthy : thOf (tIns y T) y.ino = y := thOf_mem hok ((mem_ins T y).2 (.inl rfl))
  have hdy : tIsDir (tIns y T) y.ino = y.isDir := by
    rw [isDir_thOf _ ((has_ins _).2 (.inl rfl)), hthy]
  have hdT : ∀ a, a ≠ y.ino → tIsDir (tIns y T) a = tIsDir T a := fun a ha => isDir_ins h.ok hy ha
  have hkT : ∀ x ∈ T, x.dir ≠ y.ino := fun x hx => hdirne _ (h.ok.dirs x hx)
  have hglt : ∀ a, tIsDir T a = true → g a < w.heap.size := fun a ha => (h.ins a ha).lt
  refine ⟨bm, fun a => if a = y.ino then px else f a, fun a => if a = y.ino then gx else g a, ?_⟩
  exact {
    head := hc.keep h.head (by
      have := ne_map h.things (blk_cell h.head 0 _ rfl)
      have h2 := ne_map (h.ins _ hd) (blk_cell h.head 0 _ rfl)
      simp at this h2 ⊢; exact ⟨this, h2⟩)
    things := hm.congr (by rw [ins_len]) (fun x hx => by
      by_cases e : x = (y.ino : Int)
      · subst e
        rw [updF_self, φT_has ((has_ins _).2 (.inl rfl)), if_pos rfl]
      · rw [updF_other _ _ e]
        unfold φT
        by_cases e0 : 0 ≤ x
        · have e1 : x.toNat ≠ y.ino := by omega
          by_cases e2 : tHas T x.toNat = true
          · rw [if_pos ⟨e0, e2⟩, if_pos ⟨e0, (has_ins _).2 (.inr e2)⟩]
            show some (pth (f x.toNat)) = some (pth (if x.toNat = y.ino then px else f x.toNat))
            rw [if_neg e1]
          · rw [if_neg (fun hh => e2 hh.2), if_neg (fun hh => by
              rcases (has_ins _).1 hh.2 with h1 | h1
              · exact e1 h1
              · exact e2 h1)]
        · rw [if_neg (fun hh => e0 hh.1), if_neg (fun hh => e0 hh.1)])
    each := fun a ha => by
      rcases (has_ins a).1 ha with rfl | ha'
      · simp only [if_pos]
        rw [hthy, hdy]; exact hb
      · have hna := hne a ha'
        simp only [if_neg hna]
        rw [hth a ha', hdT a hna]
        obtain ⟨h1, h2, h3⟩ := fcell a ha'
        exact hc.keep (h.each a ha') (by simp; exact ⟨h2, h3⟩)
    ins := fun a ha => by
      by_cases e : a = y.ino
      · subst e
        rw [hdy] at ha
        simp only [if_pos]
        have hno : ∀ x ∈ tIns y T, x.dir ≠ y.ino := fun x hx => by
          rcases (mem_ins T x).1 hx with rfl | hx
          · exact hdirne _ hd
          · exact hkT x hx
        refine (hn ha).congr ?_ (fun s _ => ?_)
        · unfold nKids
          rw [List.filter_eq_nil_iff.2 (fun x hx => by simpa using hno x hx)]; rfl
        · unfold φK
          cases hg2 : tKidOf (tIns y T) y.ino s with
          | none => rfl
          | some z => exact absurd (kidOf_some hg2).2.1 (hno z (kidOf_some hg2).1)
      · rw [hdT a e] at ha
        simp only [if_neg e]
        by_cases e2 : a = y.dir
        · subst e2
          refine hg.congr (by rw [kids_ins, if_pos rfl]) (fun s _ => ?_)
          by_cases e3 : s = y.name
          · subst e3
            rw [updF_self]; unfold φK
            rw [kidOf_ins h.ok hok, if_pos ⟨rfl, rfl⟩]; rfl
          · rw [updF_other _ _ e3]; unfold φK
            rw [kidOf_ins h.ok hok, if_neg (fun hh => e3 hh.2)]
        · refine ((h.ins a ha).chg hc (by
            have := h.gm a ha
            have h2 : g a ≠ g y.dir := fun e3 => e2 (h.ginj _ _ ha hd e3)
            simp; exact ⟨this, h2⟩)).congr (by rw [kids_ins, if_neg (fun hh => e2 hh.symm)]; rfl) (fun s _ => ?_)
          unfold φK
          rw [kidOf_ins h.ok hok, if_neg (fun hh => e2 hh.1)]
    finj := fun a b ha hb' e => by
      rcases (has_ins a).1 ha with rfl | ha'
      · rcases (has_ins b).1 hb' with rfl | hb''
        · rfl
        · rw [if_pos rfl, hfx b hb''] at e
          have := (fcell b hb'').1; omega
      · rcases (has_ins b).1 hb' with rfl | hb''
        · rw [hfx a ha', if_pos rfl] at e
          have := (fcell a ha').1; omega
        · rw [hfx a ha', hfx b hb''] at e
          exact h.finj a b ha' hb'' e
    ginj := fun a b ha hb' e => by
      by_cases ea : a = y.ino
      · by_cases eb : b = y.ino
        · rw [ea, eb]
        · rw [hdT b eb] at hb'
          rw [if_pos ea, if_neg eb] at e
          have := hglt b hb'; omega
      · rw [hdT a ea] at ha
        by_cases eb : b = y.ino
        · rw [if_neg ea, if_pos eb] at e
          have := hglt a ha; omega
        · rw [hdT b eb] at hb'
          rw [if_neg ea, if_neg eb] at e
          exact h.ginj a b ha hb' e
    gm := fun a ha => by
      by_cases ea : a = y.ino
      · rw [if_pos ea]
        have := h.things.lt; omega
      · rw [hdT a ea] at ha
        rw [if_neg ea]; exact h.gm a ha
    mem := by
      refine ⟨List.mem_append_left _ h.mem.1, List.mem_append_left _ h.mem.2.1, fun a ha => ?_, fun a ha => ?_⟩
      · rcases (has_ins a).1 ha with rfl | ha'
        · rw [if_pos rfl]; simp
        · rw [hfx a ha']; exact List.mem_append_left _ (h.mem.2.2.1 a ha')
      · by_cases ea : a = y.ino
        · rw [if_pos ea]; simp
        · rw [hdT a ea] at ha
          rw [if_neg ea]; exact List.mem_append_left _ (h.mem.2.2.2 a ha)
    lim := fun x hx => by
      rcases List.mem_append.1 hx with hx | hx
      · exact Nat.lt_of_lt_of_le (h.lim x hx) hc.size
      · simp at hx
        rcases hx with rfl | rfl
        · exact hpl
        · exact hgl
    ok := hok }

def NewPost (w : World) (e : Ending) (w' : World) : Prop := ∃ t S, e = .returned (pth t) ∧ TreeAt w' t S [] ∧ (∀ x ∈ S, w.heap.size ≤ x) ∧ Chg [] w w'
set_option maxHeartbeats 4000000 in
set_option maxRecDepth 100000 in
theorem tnew_any (w : World) : Calls Try.prog 8 #[] w (NewPost w) := by
  have hmm := @run_makeMap Try.prog
  go_enter Try.func8, Try.ntmps8
  go_wp2_with fail
  refine (tdirectory_any 0 ByteArray.empty _).mono ?_
  rintro e w1 ⟨rfl, h1⟩
  have hs1 : w1.heap.size = w.heap.size + 3 := by rw [h1]; simp
  have HM : Hid (MapF 3 klI okI w1 w.heap.size (fun _ => none) 0) := Lib.hid (by
    rw [h1]
    exact (MapF.made w).chg (((Chg.refl [] _).alloc _).alloc _) (by simp))
  have HG : Hid (MapF 9 klS okS w1 (w.heap.size + 1) (fun _ => none) 0) := Lib.hid (by
    rw [h1]
    have h := (MapF.made (k := 9) (kl := klS) (ok := okS) (w.alloc (.map #[] 0))).chg ((Chg.refl [] _).alloc (.cells #[.int .i64 0, .string ByteArray.empty, .bool true, .map (some (w.alloc (.map #[] 0)).heap.size)] 69)) (by simp)
    simpa using h)
  have HB : Hid (w1.heap[w.heap.size + 2]? = some (.cells (thCells rootTh (some (w.heap.size + 1))) 69 (0, 0))) := Lib.hid (by
    rw [h1]
    have h := (MapKept.heap_alloc ((w.alloc (.map #[] 0)).alloc (.map #[] 0)) (.cells #[.int .i64 0, .string ByteArray.empty, .bool true, .map (some (w.alloc (.map #[] 0)).heap.size)] 69)).1
    have e : ((w.alloc (.map #[] 0)).alloc (.map #[] 0)).heap.size = w.heap.size + 2 := by simp
    rw [e] at h
    have e2 : (w.alloc (.map #[] 0)).heap.size = w.heap.size + 1 := by simp
    rw [e2] at h ⊢
    exact h)
  have HC : Hid (Chg [] w w1) := Lib.hid (by
    rw [h1]
    exact (((Chg.refl [] w).alloc _).alloc _).alloc _)
  have HS := Lib.hid hs1
  clear h1 hs1
  have e1 : pth ((w.alloc (.map #[] 0)).heap.size + 1) = pth (w.heap.size + 2) := by simp
  rw [e1]
  clear e1
  go_wp2_with (refine wpList_upd keInt _ rfl _ _ _ _ (.inr rfl) 59 Try.underlying61 w.heap.size 0 _ rfl HM.out (by unfold maxLen; omega) 1 rfl (okI_small (a := 1) (by omega)) (pth (w.heap.size + 2)) rfl ?_; intro w2 hm2 hc2 hs2; have HW2 := Lib.hid hs2; clear hs2)
  have HF : Hid (TreeAt (w2.alloc (.cells #[.map (some w.heap.size)] 63)) w2.heap.size [w.heap.size, w.heap.size + 1, w.heap.size + 2, w2.heap.size] []) := Lib.hid (by
    have hsz : w2.heap.size = w.heap.size + 3 := by rw [HW2.out, HS.out]
    have hc3 := hc2.alloc (.cells #[.map (some w.heap.size)] 63)
    have hone : ∀ a, tHas [] a = true ↔ a = 1 := fun a => by unfold tHas tGet; simp
    have hone2 : ∀ a, tIsDir [] a = true ↔ a = 1 := fun a => by unfold tIsDir tGet; simp
    refine ⟨w.heap.size, fun _ => w.heap.size + 2, fun _ => w.heap.size + 1, ?_⟩
    exact {
      head := (MapKept.heap_alloc _ _).1
      things := ((hm2.chg ((Chg.refl [] _).alloc _) (by simp)).congr rfl (fun x hx => by
        by_cases e : x = 1
        · subst e; rw [updF_self]; rfl
        · rw [updF_other _ _ e]
          unfold φT
          rw [if_neg (fun hh => e (by have := (hone _).1 hh.2; omega))]))
      each := fun a ha => by
        obtain rfl := (hone a).1 ha
        exact hc3.keep HB.out (by simp)
      ins := fun a ha => by
        obtain rfl := (hone2 a).1 ha
        exact (HG.out.chg hc3 (by simp)).congr rfl (fun s _ => rfl)
      finj := fun a b ha hb _ => by rw [(hone a).1 ha, (hone b).1 hb]
      ginj := fun a b ha hb _ => by rw [(hone2 a).1 ha, (hone2 b).1 hb]
      gm := fun a ha => by omega
      mem := ⟨by simp, by simp, fun _ _ => by simp, fun _ _ => by simp⟩
      lim := fun x hx => by simp at hx ⊢; omega
      ok := TOk.nil })
  have HC2 : Hid (Chg [] w (w2.alloc (.cells #[.map (some w.heap.size)] 63))) := Lib.hid (((HC.out.trans hc2 (by simp))).alloc _)
  have HS2 : Hid (w2.heap.size = w.heap.size + 3) := Lib.hid (by rw [HW2.out, HS.out])
  clear hm2 hc2
  go_wp2
  go_ret
  exact ⟨_, _, rfl, HF.out, fun x hx => by have := HS2.out; simp at hx; omega, HC2.out⟩
end Go.Proofs.Ytaiihklfeoeoeaa.W
