/- Package tree: Remove. -/
import Derived.Test.YtaiihklfeoeoeaaT4
import Derived.Test.YtaiihklfeoeoeaaTP2
namespace Go.Proofs.Ytaiihklfeoeoeaa.W
open Go.RowKit
open Go.Proofs.Ytaiihklfeoeoeaa.NM
set_option linter.unusedVariables false
set_option linter.unusedSimpArgs false

theorem kids_cons {T U : PT} {y : Th} (hp : T.Perm (y :: U)) (a : Nat) : nKids T a = nKids U a + if y.dir = a then 1 else 0 := by
  unfold nKids
  rw [(hp.filter _).length_eq, List.filter_cons]
  by_cases e : y.dir = a <;> simp [e]
/-- A name is taken away: what each directory then has. -/
theorem TreeOk.unname {w w' : World} {t : Nat} {S : List Nat} {T : PT} {bm : Nat} {f g : Nat → Nat} (h : TreeOk w t S T bm f g) {x : Th} (hx : x ∈ T)
    (hm : MapF 9 klS okS w' (g x.dir) (delF (φK T x.dir) x.name) (nKids T x.dir - 1)) (hc : Chg [g x.dir] w w') :
    ∀ a, tIsDir T a = true → MapF 9 klS okS w' (g a) (φK (tDel T x.ino) a) (nKids (tDel T x.ino) a) := by
  have hp := del_perm h.ok.rise hx
  have hkk := kidOf_self_del h.ok x.ino
  intro a ha
  by_cases e : a = x.dir
  · subst e
    refine hm.congr (by rw [kids_cons hp, if_pos rfl]; rfl) (fun s _ => ?_)
    by_cases e3 : s = x.name
    · subst e3
      rw [delF_self]; unfold φK
      cases hg : tKidOf (tDel T x.ino) x.dir x.name with
      | none => rfl
      | some z =>
        obtain ⟨h1, h2, h3⟩ := kidOf_some hg
        have e1 := kidOf_mem h.ok (mem_del.1 h1).1
        rw [h2, h3, kidOf_mem h.ok hx] at e1
        cases e1
        exact absurd rfl (mem_del.1 h1).2
    · rw [delF_other _ e3]; unfold φK
      rw [kidOf_cons h.ok hkk hp, if_neg (fun hh => e3 hh.2)]
  · have hne : g a ≠ g x.dir := fun e2 => e (h.ginj _ _ ha (h.ok.dirs x hx) e2)
    refine ((h.ins a ha).chg hc (by simpa using hne)).congr (by rw [kids_cons hp, if_neg (fun hh => e hh.symm)]; rfl) (fun s _ => ?_)
    unfold φK
    rw [kidOf_cons h.ok hkk hp, if_neg (fun hh => e hh.1)]
theorem isDir_del {T : PT} {n a : Nat} (h : tIsDir (tDel T n) a = true) : tIsDir T a = true ∧ (a = 1 ∨ a ≠ n) := by
  unfold tIsDir tDel at h
  unfold tIsDir
  rw [get_del] at h
  by_cases e1 : a = 1
  · subst e1; exact ⟨rfl, .inl rfl⟩
  · have e1' : (a == 1) = false := by simpa using e1
    rw [e1', Bool.false_or] at h
    rw [e1', Bool.false_or]
    by_cases e : a = n
    · rw [if_pos e] at h; cases h
    · rw [if_neg e] at h
      exact ⟨h, .inr e⟩
theorem has_del {T : PT} {n a : Nat} (h : tHas (tDel T n) a = true) : tHas T a = true ∧ (a = 1 ∨ a ≠ n) := by
  rcases has_iff.1 h with h1 | ⟨x, hx, rfl⟩
  · exact ⟨has_iff.2 (.inl h1), .inl h1⟩
  · exact ⟨has_iff.2 (.inr ⟨x, (mem_del.1 hx).1, rfl⟩), .inr (mem_del.1 hx).2⟩
/-- A thing less. -/
theorem TreeOk.shrink {w w' : World} {t : Nat} {S : List Nat} {T : PT} {bm : Nat} {f g : Nat → Nat} (h : TreeOk w t S T bm f g) {x : Th} (hx : x ∈ T) (hno : ∀ y ∈ T, y.dir ≠ x.ino)
    (hm : MapF 3 klI okI w' bm (delF (φT T f) (x.ino : Int)) T.length) (hi : ∀ a, tIsDir T a = true → MapF 9 klS okS w' (g a) (φK (tDel T x.ino) a) (nKids (tDel T x.ino) a)) (hc : Chg [bm, g x.dir] w w') :
    TreeAt w' t S (tDel T x.ino) := by
  have hp := del_perm h.ok.rise hx
  have hx2 := (h.ok.nums x hx).1
  have hd := h.ok.dirs x hx
  have hok : TOk (tDel T x.ino) := h.ok.del (by omega) hno
  refine ⟨bm, f, g, ?_⟩
  exact {
    head := hc.keep h.head (by
      have := ne_map h.things (blk_cell h.head 0 _ rfl)
      have h2 := ne_map (h.ins _ hd) (blk_cell h.head 0 _ rfl)
      simp at this h2 ⊢; exact ⟨this, h2⟩)
    things := hm.congr (by have := hp.length_eq; simpa using this) (fun z hz => by
      by_cases e : z = (x.ino : Int)
      · subst e
        rw [delF_self]
        unfold φT
        rw [if_neg]
        rintro ⟨_, hh⟩
        rcases (has_del hh).2 with h1 | h1
        · omega
        · simp at h1
      · rw [delF_other _ e]
        unfold φT
        by_cases e0 : 0 ≤ z ∧ tHas T z.toNat = true
        · rw [if_pos e0, if_pos]
          refine ⟨e0.1, ?_⟩
          rcases has_iff.1 e0.2 with h1 | ⟨y, hy, h1⟩
          · exact has_iff.2 (.inl h1)
          · exact has_iff.2 (.inr ⟨y, mem_del.2 ⟨hy, by omega⟩, h1⟩)
        · rw [if_neg e0, if_neg (fun hh => e0 ⟨hh.1, (has_del hh.2).1⟩)])
    each := fun a ha => by
      obtain ⟨h1, h2⟩ := has_del ha
      have e1 : thOf (tDel T x.ino) a = thOf T a := by
        unfold thOf
        by_cases e : a = 1
        · rw [if_pos e, if_pos e]
        · rw [if_neg e, if_neg e]
          unfold tDel
          rw [get_del, if_neg (h2.resolve_left e)]
      have e2 : tIsDir (tDel T x.ino) a = tIsDir T a := by rw [isDir_thOf a ha, isDir_thOf a h1, e1]
      rw [e1, e2]
      have hc0 := (h.cells h1).1
      exact hc.keep (h.each a h1) (by
        have h3 := ne_map h.things hc0
        have h4 := ne_map (h.ins _ hd) hc0
        simp at h3 h4 ⊢; exact ⟨h3, h4⟩)
    ins := fun a ha => hi a (isDir_del ha).1
    finj := fun a b ha hb e => h.finj a b (has_del ha).1 (has_del hb).1 e
    ginj := fun a b ha hb e => h.ginj a b (isDir_del ha).1 (isDir_del hb).1 e
    gm := fun a ha => h.gm a (isDir_del ha).1
    mem := ⟨h.mem.1, h.mem.2.1, fun a ha => h.mem.2.2.1 a (has_del ha).1, fun a ha => h.mem.2.2.2 a (isDir_del ha).1⟩
    lim := fun z hz => Nat.lt_of_lt_of_le (h.lim z hz) hc.size
    ok := hok }
theorem look_ok {T : PT} {p : List UInt8} (h : (tLook T p).2.2 = 0) : tHas T (tLook T p).1 = true ∧ (tLook T p).2.1 = tIsDir T (tLook T p).1 := by
  unfold tLook at h ⊢
  cases hs : splitB p with
  | none => rw [hs] at h; cases h
  | some l =>
    rw [hs] at h
    simp only at h ⊢
    by_cases h1 : (tWalk T l 1).2 ≠ 0
    · rw [if_pos h1] at h; exact absurd h h1
    · rw [if_neg h1]
      exact ⟨walk_has l 1 rfl (by simpa using h1), rfl⟩
theorem has_mem {T : PT} {a : Nat} (h : tHas T a = true) (h1 : a ≠ 1) : ∃ x ∈ T, x.ino = a := (has_iff.1 h).resolve_left h1

set_option maxHeartbeats 8000000 in
set_option maxRecDepth 100000 in
theorem tremove_any (t : Nat) (S : List Nat) (T : PT) (s : ByteArray) (d : Bool) (w : World) (h : TreeAt w t S T) (hs : s.size ≤ maxLen) :
    Calls Try.prog 11 #[.pointer (some ⟨t, 0, none⟩), .string s, .bool d] w (MakePost w t S (tRemove T s.data.toList d)) := by
  have H := Lib.hid h
  have HS := Lib.hid hs
  have hok := Lib.hid h.ok
  have hl0 : ∀ ty w, (Builtin.len_ #[67] ty #[.map none]).run Try.prog w = .ok (.int .i64 0) w := fun ty w => Maps.len_nil Try.underlying67 ty
  clear h hs
  obtain ⟨Z, hZ⟩ : ∃ Z, tRemove T s.data.toList d = Z := ⟨_, rfl⟩
  have HX : Hid (Z = if (tLook T s.data.toList).2.2 ≠ 0 then ((0, (tLook T s.data.toList).2.2), T) else if (tLook T s.data.toList).1 = 1 then ((0, 8), T) else
      if (d && !(tLook T s.data.toList).2.1) = true then ((0, 10), T) else if (!d && (tLook T s.data.toList).2.1) = true then ((0, 9), T) else
      if T.any (fun x => x.dir == (tLook T s.data.toList).1) = true then ((0, 11), T) else
      (((tLook T s.data.toList).1, 0), tDel T (tLook T s.data.toList).1)) := Lib.hid (by rw [← hZ]; rfl)
  rw [hZ]
  clear hZ
  have HP := Lib.hid (tlook_any t S T s w H.out HS.out)
  have HO : Hid ((tLook T s.data.toList).2.2 = 0 → tHas T (tLook T s.data.toList).1 = true ∧ (tLook T s.data.toList).2.1 = tIsDir T (tLook T s.data.toList).1) := Lib.hid look_ok
  generalize tLook T s.data.toList = r at *
  obtain ⟨a, isd, er⟩ := r
  simp only at HX HO
  by_cases h0 : er = 0
  · subst h0
    obtain ⟨o1, rfl⟩ := HO.out rfl
    have HA := Lib.hid o1
    have has := has_small hok.out o1
    have HX1 : Hid (Z = if a = 1 then ((0, 8), T) else if (d && !tIsDir T a) = true then ((0, 10), T) else if (!d && tIsDir T a) = true then ((0, 9), T) else
        if T.any (fun x => x.dir == a) = true then ((0, 11), T) else ((a, 0), tDel T a)) := Lib.hid (by rw [HX.out, if_neg (by simp)])
    clear o1 HX HO
    by_cases h1 : a = 1
    · have HE : Hid (Z = ((0, 8), T)) := Lib.hid (by rw [HX1.out, if_pos h1])
      have hb1 : ((a : Int) == 1) = true := by rw [h1]; rfl
      clear h1 HX1
      generalize tIsDir T a = dd at *
      go_enter Try.func11, Try.ntmps11
      go_wp2_with fail
      refine HP.out.mono ?_
      rintro e w1 ⟨rfl, hb⟩
      have HB := Lib.hid hb
      clear hb
      go_wp2
      go_ret2
      rw [HE.out]
      exact ⟨rfl, TDid.same H.out HB.out⟩
    · have hb1 : ((a : Int) == 1) = false := by simp; omega
      have HX2 : Hid (Z = if (d && !tIsDir T a) = true then ((0, 10), T) else if (!d && tIsDir T a) = true then ((0, 9), T) else
        if T.any (fun x => x.dir == a) = true then ((0, 11), T) else ((a, 0), tDel T a)) := Lib.hid (by rw [HX1.out, if_neg h1])
      obtain ⟨x, hx, rfl⟩ := has_mem HA.out h1
      have HXM := Lib.hid hx
      clear h1 HX1 hx
      by_cases hdd : d = tIsDir T x.ino
      · have HX3 : Hid (Z = if T.any (fun y => y.dir == x.ino) = true then ((0, 11), T) else ((x.ino, 0), tDel T x.ino)) := Lib.hid (by
          rw [HX2.out, if_neg, if_neg]
          · rw [hdd]; cases tIsDir T x.ino <;> simp
          · rw [hdd]; cases tIsDir T x.ino <;> simp)
        have HDE := Lib.hid hdd
        clear HX2
        have hany : (T.any (fun y => y.dir == x.ino) = true) ↔ nKids T x.ino ≠ 0 := any_kids
        have HLEN : ∀ (w1 : World) (bm : Nat) (f g : Nat → Nat), TreeOk w1 t S T bm f g → ∃ mv, w1.cell? ⟨f x.ino, 3, none⟩ = some mv ∧ ∀ ty, (Builtin.len_ #[67] ty #[mv]).run Try.prog w1 = .ok (.int .i64 (nKids T x.ino : Int)) w1 := fun w1 bm f g HT => by
          have d3 := (HT.cells HA.out).2.2.2
          cases hd : tIsDir T x.ino with
          | true =>
            rw [hd] at d3
            exact ⟨_, d3, (HT.ins _ hd).len Try.underlying67⟩
          | false =>
            rw [hd] at d3
            refine ⟨_, d3, fun ty => ?_⟩
            have h0 : nKids T x.ino = 0 := by
              unfold nKids
              rw [List.filter_eq_nil_iff.2 (fun y hy => ?_)]
              · rfl
              · have := hok.out.dirs y hy
                simp
                intro e
                rw [e, hd] at this; cases this
            rw [h0]
            exact hl0 ty w1
        have HLL := Lib.hid HLEN
        rw [← hdd] at HP
        clear HLEN hl0 hdd HDE
        by_cases hk : nKids T x.ino = 0
        · have HE : Hid (Z = ((x.ino, 0), tDel T x.ino)) := Lib.hid (by rw [HX3.out, if_neg (fun h => hany.1 h hk)])
          have HNO : Hid (∀ y ∈ T, y.dir ≠ x.ino) := Lib.hid (fun y hy e => by
            have : T.any (fun y => y.dir == x.ino) = true := List.any_eq_true.2 ⟨y, hy, by simpa using e⟩
            exact hany.1 this hk)
          have HK := Lib.hid hk
          clear hk hany HX3
          have HOS : Hid (okS x.name) := Lib.hid (by have := may_len (hok.out.may x HXM.out); unfold okS maxLen; omega)
          have HOI : Hid (okI (x.ino : Int)) := Lib.hid (okI_small (by omega))
          have HNE : Hid (∀ (bm : Nat) (f g : Nat → Nat) (w2 : World), TreeOk w2 t S T bm f g → t ≠ g x.dir) := Lib.hid (fun bm f g w2 h => ne_map (h.ins _ (hok.out.dirs x HXM.out)) (blk_cell h.head 0 _ rfl))
          have HNG : Hid (∀ (bm : Nat) (f g : Nat → Nat) (w2 : World), TreeOk w2 t S T bm f g → bm ∉ [g x.dir]) := Lib.hid (fun bm f g w2 h => by
            have := h.gm _ (hok.out.dirs x HXM.out)
            simp; exact fun e => this e.symm)
          have HFIN : Hid (∀ (bm : Nat) (f g : Nat → Nat) (w2 w3 w4 : World), TreeOk w2 t S T bm f g → Chg [] w w2 → MapF 9 klS okS w3 (g x.dir) (delF (φK T x.dir) x.name) (if (φK T x.dir x.name).isSome then nKids T x.dir - 1 else nKids T x.dir) → Chg [g x.dir] w2 w3 →
              MapF 3 klI okI w4 bm (delF (φT T f) (x.ino : Int)) (if (φT T f (x.ino : Int)).isSome then T.length + 1 - 1 else T.length + 1) → Chg [bm] w3 w4 → TDid w w4 t S (tDel T x.ino)) := Lib.hid (fun bm f g w2 w3 w4 h hc hm3 hc3 hm4 hc4 => by
            have hd := hok.out.dirs x HXM.out
            have e1 : φK T x.dir x.name = some (.int .i64 (x.ino : Int)) := by unfold φK; rw [kidOf_mem hok.out HXM.out]; rfl
            rw [e1] at hm3
            rw [φT_has HA.out] at hm4
            have h3 := h.unname HXM.out hm3 hc3
            have hc24 : Chg [bm, g x.dir] w2 w4 := (hc3.mono (by simp)).trans hc4 (by simp)
            refine ⟨S, h.shrink HXM.out HNO.out hm4 (fun a ha => (h3 a ha).chg hc4 (by have := h.gm a ha; simpa using this)) hc24, fun z hz => .inl hz, (hc.mono (by simp)).trans hc24 (fun z hz => ?_)⟩
            simp at hz
            rcases hz with rfl | rfl
            · exact .inl h.mem.2.1
            · exact .inl (h.mem.2.2.2 _ hd))
          cases d
          all_goals
            go_enter Try.func11, Try.ntmps11
            go_wp2_with fail
            refine HP.out.mono ?_
            rintro e w1 ⟨rfl, hb⟩
            have HB := Lib.hid hb
            obtain ⟨bm, f, g, HT⟩ := H.out.keep0 hb
            obtain ⟨mv, d3, hln⟩ := HLL.out w1 bm f g HT
            rw [HK.out] at hln
            have hth := thOf_mem hok.out HXM.out
            have hxd := hok.out.dirs x HXM.out
            have c0 := blk_cell HT.head 0 _ rfl
            have hlk := HT.at HA.out
            obtain ⟨d0, d1, d2, d9⟩ := HT.cells HA.out
            rw [hth] at d0 d1
            have hlp := HT.at (dir_has hxd)
            have p3 := (HT.cells (dir_has hxd)).2.2.2
            rw [if_pos hxd] at p3
            have HTT := Lib.hid HT
            have HD := Lib.hid hxd
            have hlp2 : (Instr.lookup 61 (.map (some bm)) (.int .i64 (x.dir : Int)) false).run Try.prog w1.drew = .ok (.pointer (some ⟨f x.dir, 0, none⟩)) w1.drew := (HT.keep ((Chg.refl [] w1).drew) (by simp)).at (dir_has hxd)
            clear hb HT d2 d9 hth hxd
            go_wp2
            go_still_tail 16, (by kernel_rfl)
            change wpList _ _ _ _ _ w1.drew
            have HG2 : Hid (MapF 9 klS okS w1.drew (g x.dir) (φK T x.dir) (nKids T x.dir)) := Lib.hid (HTT.out.ins _ HD.out)
            have HC2 : Hid (Chg [] w w1.drew) := Lib.hid HB.out.drew
            have HT2 : Hid (TreeOk w1.drew t S T bm f g) := Lib.hid (HTT.out.keep ((Chg.refl [] w1).drew) (by simp))
            have c02 : w1.drew.cell? ⟨t, 0, none⟩ = some (.map (some bm)) := c0
            clear hlk hlp hln hlp2 c0 d0 d1 d3 p3
            generalize w1.drew = w2 at *
            go_wp2_with (first
              | (refine wpList_del keStr _ rfl _ _ _ rfl 3 Try.underlying67 (g x.dir) (nKids T x.dir) (φK T x.dir) rfl HG2.out x.name rfl (HOS.out) ?_
                 intro w3 hm3 hc3 hs3
                 have c03 := hc3.cell c02 (by simpa using HNE.out bm f g w2 HT2.out)
                 have HB3 := Lib.hid (And.intro hm3 (And.intro hc3 hs3))
                 clear hm3 hc3 hs3)
              | (refine wpList_del keInt _ rfl _ _ _ rfl 59 Try.underlying61 bm (T.length + 1) (φT T f) rfl (HT2.out.things.chg HB3.out.2.1 (HNG.out bm f g w2 HT2.out)) (x.ino : Int) rfl (HOI.out) ?_
                 intro w4 hm4 hc4 hs4
                 have HB4 := Lib.hid (And.intro hm4 (And.intro hc4 hs4))
                 clear hm4 hc4 hs4))
            go_ret2
            rw [HE.out]
            exact ⟨rfl, HFIN.out bm f g w2 w3 w4 HT2.out HC2.out HB3.out.1 HB3.out.2.1 HB4.out.1 HB4.out.2.1⟩
        · have HE : Hid (Z = ((0, 11), T)) := Lib.hid (by rw [HX3.out, if_pos (hany.2 hk)])
          have hpos : 0 < nKids T x.ino := by omega
          clear hk hany HX3
          cases d
          all_goals
            go_enter Try.func11, Try.ntmps11
            go_wp2_with fail
            refine HP.out.mono ?_
            rintro e w1 ⟨rfl, hb⟩
            have HB := Lib.hid hb
            obtain ⟨bm, f, g, HT⟩ := H.out.keep0 hb
            obtain ⟨mv, d3, hln⟩ := HLL.out w1 bm f g HT
            have c0 := blk_cell HT.head 0 _ rfl
            have hlk := HT.at HA.out
            clear hb HT
            generalize nKids T x.ino = nk at *
            go_wp2
            go_ret2
            rw [HE.out]
            exact ⟨rfl, TDid.same H.out HB.out⟩
      · have hdd2 : tIsDir T x.ino = !d := by cases d <;> cases h : tIsDir T x.ino <;> simp_all
        rw [hdd2] at HX2 HP
        have HX3 : Hid (Z = ((0, if d then 10 else 9), T)) := Lib.hid (by
          rw [HX2.out]; cases d <;> simp)
        clear hdd hdd2 HX2
        cases d
        all_goals
          go_enter Try.func11, Try.ntmps11
          go_wp2_with fail
          refine HP.out.mono ?_
          rintro e w1 ⟨rfl, hb⟩
          have HB := Lib.hid hb
          clear hb
          go_wp2
          go_ret2
          rw [HX3.out]
          exact ⟨rfl, TDid.same H.out HB.out⟩
  · have HE : Hid (Z = ((0, er), T)) := Lib.hid (by rw [HX.out, if_pos h0])
    have hb0 : (er != 0) = true := by simpa using h0
    clear h0 HX HO
    go_enter Try.func11, Try.ntmps11
    go_wp2_with fail
    refine HP.out.mono ?_
    rintro e w1 ⟨rfl, hb⟩
    have HB := Lib.hid hb
    clear hb
    go_wp2
    go_ret2
    rw [HE.out]
    exact ⟨rfl, TDid.same H.out HB.out⟩
end Go.Proofs.Ytaiihklfeoeoeaa.W
