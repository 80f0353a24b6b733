/- Package tree: Move. -/
import Derived.Test.YtaiihklfeoeoeaaT5
import Derived.Test.YtaiihklfeoeoeaaNMWithin
namespace Go.Proofs.Ytaiihklfeoeoeaa.W
open Go.RowKit
open Go.Proofs.Ytaiihklfeoeoeaa.NM
set_option linter.unusedVariables false
set_option linter.unusedSimpArgs false

theorem tree_thing {w : World} {a b : Nat} {cs cs' : Array Value} (h1 : w.heap[a]? = some (.cells cs 63 (0, 0))) (h2 : w.heap[b]? = some (.cells cs' 69 (0, 0))) : a ≠ b := by
  rintro rfl
  rw [h1] at h2
  simp at h2
/-- A thing has another name. -/
theorem TreeOk.renamed {w w' : World} {t : Nat} {S : List Nat} {T : PT} {bm : Nat} {f g : Nat → Nat} (h : TreeOk w t S T bm f g) {x : Th} (hx : x ∈ T) {q : Nat} {la : List UInt8} (hd : tIsDir T q = true) (hk : tKidOf T q la = none) (hmay : mayB la = true)
    (hm : MapF 3 klI okI w' bm (φT T f) (T.length + 1)) (hi : ∀ a, tIsDir T a = true → a ≠ q → MapF 9 klS okS w' (g a) (φK (tDel T x.ino) a) (nKids (tDel T x.ino) a))
    (hq : MapF 9 klS okS w' (g q) (updF (φK (tDel T x.ino) q) la (.int .i64 (x.ino : Int))) (nKids (tDel T x.ino) q + 1))
    (hb : w'.heap[f x.ino]? = some (.cells (thCells { x with dir := q, name := la } (if tIsDir T x.ino then some (g x.ino) else none)) 69 (0, 0))) (hc : Chg [bm, g x.dir, g q, f x.ino] w w') :
    TreeAt w' t S (tRename T x.ino q la) := by
  have hp := ren_perm h.ok.rise hx q la
  have hx2 := (h.ok.nums x hx).1
  have hxh : tHas T x.ino = true := has_iff.2 (.inr ⟨x, hx, rfl⟩)
  have hdx := h.ok.dirs x hx
  have hok : TOk (tRename T x.ino q la) := h.ok.ren hd hk hmay
  have hkk := kidOf_self_del h.ok x.ino
  refine ⟨bm, f, g, ?_⟩
  have hxm : { x with dir := q, name := la } ∈ tRename T x.ino q la := hp.mem_iff.2 (List.mem_cons_self ..)
  exact {
    head := hc.keep h.head (by
      have h1 := ne_map h.things (blk_cell h.head 0 _ rfl)
      have h2 := ne_map (h.ins _ hd) (blk_cell h.head 0 _ rfl)
      have h3 := ne_map (h.ins _ hdx) (blk_cell h.head 0 _ rfl)
      have h4 := tree_thing h.head (h.each _ hxh)
      simp at h1 h2 h3 ⊢; exact ⟨h1, h3, h2, h4⟩)
    things := hm.congr (by unfold tRename; simp) (fun z hz => by unfold φT; simp only [has_ren])
    each := fun a ha => by
      rw [has_ren] at ha
      rw [isDir_ren]
      by_cases e : a = x.ino
      · subst e
        have e1 : thOf (tRename T x.ino q la) x.ino = { x with dir := q, name := la } := thOf_mem hok hxm
        rw [e1]; exact hb
      · have e1 : thOf (tRename T x.ino q la) a = thOf T a := by
          unfold thOf
          by_cases e1 : a = 1
          · rw [if_pos e1, if_pos e1]
          · rw [if_neg e1, if_neg e1, get_ren]
            cases hg : tGet T a with
            | none => rfl
            | some y =>
              have := (get_some hg).2
              simp only [Option.map_some, Option.getD_some]
              rw [if_neg (by omega)]
        rw [e1]
        have hc0 := (h.cells ha).1
        exact hc.keep (h.each a ha) (by
          have h1 := ne_map h.things hc0
          have h2 := ne_map (h.ins _ hd) hc0
          have h3 := ne_map (h.ins _ hdx) hc0
          have h4 : f a ≠ f x.ino := fun e2 => e (h.finj _ _ ha hxh e2)
          simp at h1 h2 h3 ⊢; exact ⟨h1, h3, h2, h4⟩)
    ins := fun a ha => by
      rw [isDir_ren] at ha
      by_cases e : a = q
      · subst e
        refine hq.congr (by rw [kids_cons hp, if_pos rfl]) (fun s _ => ?_)
        by_cases e3 : s = la
        · subst e3
          rw [updF_self]; unfold φK
          rw [kidOf_cons hok hkk hp, if_pos ⟨rfl, rfl⟩]; rfl
        · rw [updF_other _ _ e3]; unfold φK
          rw [kidOf_cons hok hkk hp, if_neg (fun hh => e3 hh.2)]
      · refine (hi a ha e).congr (by rw [kids_cons hp, if_neg (fun hh => e hh.symm)]; rfl) (fun s _ => ?_)
        unfold φK
        rw [kidOf_cons hok hkk hp, if_neg (fun hh => e hh.1)]
    finj := fun a b ha hb e => by rw [has_ren] at ha hb; exact h.finj a b ha hb e
    ginj := fun a b ha hb e => by rw [isDir_ren] at ha hb; exact h.ginj a b ha hb e
    gm := fun a ha => by rw [isDir_ren] at ha; exact h.gm a ha
    mem := ⟨h.mem.1, h.mem.2.1, fun a ha => by rw [has_ren] at ha; exact h.mem.2.2.1 a ha, fun a ha => by rw [isDir_ren] at ha; exact h.mem.2.2.2 a ha⟩
    lim := fun z hz => Nat.lt_of_lt_of_le (h.lim z hz) hc.size
    ok := hok }

def MovePost (w : World) (t : Nat) (S : List Nat) (r : Int × PT) (e : Ending) (w' : World) : Prop := e = .returned (.int .i64 r.1) ∧ TDid w w' t S r.2
/-- What becomes of it all, from the state behind the draw. -/
theorem move_done {w w2 w3 w5 : World} {t : Nat} {S : List Nat} {T : PT} {bm : Nat} {f g : Nat → Nat} {x : Th} {q : Nat} {la : List UInt8} (h : TreeOk w2 t S T bm f g) (hc : Chg [] w w2) (hx : x ∈ T) (hd : tIsDir T q = true) (hk : tKidOf T q la = none) (hmay : mayB la = true)
    (hm3 : MapF 9 klS okS w3 (g x.dir) (delF (φK T x.dir) x.name) (nKids T x.dir - 1)) (hc3 : Chg [g x.dir] w2 w3)
    (hp : PutsTh ((w3.setCell ⟨f x.ino, 0, none⟩ (.int .i64 (q : Int))).setCell ⟨f x.ino, 1, none⟩ (.string ⟨la.toArray⟩)) bm (g q) (φT T f) (T.length + 1) (φK (tDel T x.ino) q) (nKids (tDel T x.ino) q) (x.ino : Int) (f x.ino) la w5) : TDid w w5 t S (tRename T x.ino q la) := by
  have hxh : tHas T x.ino = true := has_iff.2 (.inr ⟨x, hx, rfl⟩)
  have hdx := h.ok.dirs x hx
  obtain ⟨p1, p2, p3, p4⟩ := hp
  have hfl := blk_lt (h.each _ hxh)
  have hc4 : Chg [f x.ino] w3 ((w3.setCell ⟨f x.ino, 0, none⟩ (.int .i64 (q : Int))).setCell ⟨f x.ino, 1, none⟩ (.string ⟨la.toArray⟩)) := ((Chg.refl _ _).setCell (.inl (by simp)) _).setCell (.inl (by simp)) _
  rw [φT_has hxh] at p1
  have e2 : φK (tDel T x.ino) q la = none := by
    unfold φK
    cases hg : tKidOf (tDel T x.ino) q la with
    | none => rfl
    | some z =>
      obtain ⟨h1, h2⟩ := kidOf_some hg
      exact absurd h2 (kidOf_none hk z (mem_del.1 h1).1)
  rw [e2] at p2
  have hm5 : MapF 3 klI okI w5 bm (φT T f) (T.length + 1) := p1.congr rfl (fun z hz => by
    by_cases e : z = (x.ino : Int)
    · subst e; rw [updF_self, φT_has hxh]
    · rw [updF_other _ _ e])
  have h3 := h.unname hx hm3 hc3
  have fcell := (h.cells hxh).1
  have hfm : ∀ a, tIsDir T a = true → f x.ino ≠ g a := fun a ha => ne_map (h.ins a ha) fcell
  have hfbm : f x.ino ≠ bm := ne_map h.things fcell
  have hc25 : Chg [bm, g x.dir, g q, f x.ino] w2 w5 := ((hc3.mono (by simp)).trans hc4 (by simp)).trans p3 (by simp)
  refine ⟨S, h.renamed hx hd hk hmay hm5 (fun a ha hne => ?_) p2 ?_ hc25, fun z hz => .inl hz, (hc.mono (by simp)).trans hc25 (fun z hz => ?_)⟩
  · refine ((h3 a ha).chg hc4 (by have := hfm a ha; simp; exact fun e => this e.symm)).chg p3 ?_
    have h1 := h.gm a ha
    have h2 : g a ≠ g q := fun e => hne (h.ginj _ _ ha hd e)
    simp; exact ⟨h1, h2⟩
  · refine p3.keep ?_ (by simp; exact ⟨hfbm, hfm q hd⟩)
    have hb3 := hc3.keep (h.each _ hxh) (by simpa using hfm _ hdx)
    have hs := set_blk (j := 1) (u := .string ⟨la.toArray⟩) (set_blk (j := 0) (u := .int .i64 (q : Int)) hb3)
    rw [hs, thOf_mem h.ok hx]
    rfl
  · simp at hz
    rcases hz with rfl | rfl | rfl | rfl
    · exact .inl h.mem.2.1
    · exact .inl (h.mem.2.2.2 _ hdx)
    · exact .inl (h.mem.2.2.2 _ hd)
    · exact .inl (h.mem.2.2.1 _ hxh)
/-- What 'put' asks. -/
theorem move_ready {w2 w3 : World} {t : Nat} {S : List Nat} {T : PT} {bm : Nat} {f g : Nat → Nat} {x : Th} {q : Nat} {la : List UInt8} (h : TreeOk w2 t S T bm f g) (hx : x ∈ T) (hd : tIsDir T q = true) (hla : la.length ≤ 12) (hT : T.length ≤ 1000)
    (hm3 : MapF 9 klS okS w3 (g x.dir) (delF (φK T x.dir) x.name) (nKids T x.dir - 1)) (hc3 : Chg [g x.dir] w2 w3) :
    Calls Try.prog 27 #[.pointer (some ⟨t, 0, none⟩), .int .i64 (q : Int), .int .i64 (x.ino : Int), .pointer (some ⟨f x.ino, 0, none⟩)] ((w3.setCell ⟨f x.ino, 0, none⟩ (.int .i64 (q : Int))).setCell ⟨f x.ino, 1, none⟩ (.string ⟨la.toArray⟩)) fun e w' => e = .returned (.tuple #[]) ∧
      PutsTh ((w3.setCell ⟨f x.ino, 0, none⟩ (.int .i64 (q : Int))).setCell ⟨f x.ino, 1, none⟩ (.string ⟨la.toArray⟩)) bm (g q) (φT T f) (T.length + 1) (φK (tDel T x.ino) q) (nKids (tDel T x.ino) q) (x.ino : Int) (f x.ino) la w' := by
  have hxh : tHas T x.ino = true := has_iff.2 (.inr ⟨x, hx, rfl⟩)
  have hdx := h.ok.dirs x hx
  have hc4 : Chg [f x.ino] w3 ((w3.setCell ⟨f x.ino, 0, none⟩ (.int .i64 (q : Int))).setCell ⟨f x.ino, 1, none⟩ (.string ⟨la.toArray⟩)) := ((Chg.refl _ _).setCell (.inl (by simp)) _).setCell (.inl (by simp)) _
  have hc24 : Chg [g x.dir, f x.ino] w2 ((w3.setCell ⟨f x.ino, 0, none⟩ (.int .i64 (q : Int))).setCell ⟨f x.ino, 1, none⟩ (.string ⟨la.toArray⟩)) := (hc3.mono (by simp)).trans hc4 (by simp)
  have fcell := (h.cells hxh).1
  have hfm : ∀ a, tIsDir T a = true → f x.ino ≠ g a := fun a ha => ne_map (h.ins a ha) fcell
  have hfbm : f x.ino ≠ bm := ne_map h.things fcell
  have h1 := has_small h.ok hxh
  have h2 := has_small h.ok (dir_has hd)
  have hb3 := hc3.keep (h.each _ hxh) (by simpa using hfm _ hdx)
  have hs := set_blk (j := 1) (u := .string ⟨la.toArray⟩) (set_blk (j := 0) (u := .int .i64 (q : Int)) hb3)
  have hkl : nKids (tDel T x.ino) q ≤ 1000 := Nat.le_trans (kids_le _ _) (by
    unfold tDel; exact Nat.le_trans (List.length_filter_le _ _) hT)
  refine tput_any t bm q x.ino (f x.ino) (f q) (g q) (φT T f) (T.length + 1) (φK (tDel T x.ino) q) (nKids (tDel T x.ino) q) la _ ?_ ?_ (by unfold maxLen; omega) (okI_small (by omega)) (okI_small (by omega)) ?_ ?_ ?_ ?_ (by unfold maxLen; omega) (by unfold okS maxLen; omega) (h.gm q hd)
  · refine hc24.keep h.head ?_
    have h3 := ne_map (h.ins _ hdx) (blk_cell h.head 0 _ rfl)
    have h4 := tree_thing h.head (h.each _ hxh)
    simp at h3 ⊢; exact ⟨h3, h4⟩
  · refine h.things.chg hc24 ?_
    have := h.gm _ hdx
    simp; exact ⟨fun e => this e.symm, fun e => hfbm e.symm⟩
  · by_cases e : q = x.ino
    · subst e; rw [updF_self]
    · rw [updF_other _ _ (by omega), φT_has (dir_has hd)]
  · by_cases e : q = x.ino
    · subst e
      have := blk_cell hs 3 (.map (some (g x.ino))) (by rw [if_pos hd]; rfl)
      exact this
    · have d3 := (h.cells (dir_has hd)).2.2.2
      rw [if_pos hd] at d3
      refine hc24.cell d3 ?_
      have h5 := ne_map (h.ins _ hdx) d3
      have h6 : f q ≠ f x.ino := fun e2 => e (h.finj _ _ (dir_has hd) hxh e2)
      simp at h5 ⊢; exact ⟨h5, h6⟩
  · exact blk_cell hs 1 _ rfl
  · exact (h.unname hx hm3 hc3 q hd).chg hc4 (by simpa using fun e => hfm q hd e.symm)
end Go.Proofs.Ytaiihklfeoeoeaa.W
