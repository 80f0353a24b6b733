/- The pen's Text; a tree's Write; its bytes. -/
import Derived.Test.YtaiihklfeoeoeaaTOwn
import Derived.Test.YtaiihklfeoeoeaaPRaw
import Derived.Test.YtaiihklfeoeoeaaPNum
import Derived.Lib.ConvBytes
namespace Go.Proofs.Ytaiihklfeoeoeaa.W
open Go.RowKit
open Go.Proofs.Ytaiihklfeoeoeaa.NM
set_option linter.unusedVariables false
set_option linter.unusedSimpArgs false

/-! ### Plain -/
def thB (x : Th) : List UInt8 := beBytes 2 x.ino ++ (beBytes 2 x.dir ++ ((beBytes 2 x.name.length ++ x.name) ++ [if x.isDir then 1 else 0]))
def thBs (T : PT) : List UInt8 := T.flatMap thB
def treeB (T : PT) : List UInt8 := beBytes 2 T.length ++ thBs T
theorem thB_len (x : Th) : (thB x).length = 7 + x.name.length := by unfold thB; simp [beBytes_len]; omega
theorem thBs_app (T U : PT) : thBs (T ++ U) = thBs T ++ thBs U := List.flatMap_append
theorem thBs_one (x : Th) : thBs [x] = thB x := by simp [thBs]
theorem thBs_len : ∀ (T : PT), (∀ x ∈ T, x.name.length ≤ 12) → (thBs T).length ≤ 19 * T.length
  | [], _ => by simp [thBs]
  | x :: r, h => by
    have h1 := thBs_len r (fun y hy => h y (List.mem_cons_of_mem _ hy))
    have h2 := h x (List.mem_cons_self ..)
    have : thBs (x :: r) = thB x ++ thBs r := rfl
    rw [this, List.length_append, thB_len, List.length_cons]; omega
theorem name_len {T : PT} (h : TOk T) : ∀ x ∈ T, x.name.length ≤ 12 := fun x hx => (may_len (h.may x hx)).2
theorem take_len' {T : PT} (h : TOk T) (k : Nat) : (thBs (T.take k)).length ≤ 2413 := by
  have h1 := thBs_len (T.take k) (fun x hx => name_len h x (List.take_subset k T hx))
  have h2 := tok_len h
  have h3 : (T.take k).length ≤ T.length := List.length_take_le' k T
  omega
theorem penNum_ok {l : List UInt8} {x : Nat} (hx : x < 65536) (hl : l.length + 2 ≤ 65536) : penNum l 0 (x : Int) 2 = (l ++ beBytes 2 x, 0) := by
  unfold penNum penAdd
  rw [if_neg (by simp), if_neg (by simp; omega), if_neg (by simp), Int.toNat_natCast, if_neg (by rw [beBytes_len]; omega)]
theorem penBool_ok {l : List UInt8} {q : Bool} (hl : l.length + 1 ≤ 65536) : penBool l 0 q = (l ++ [if q then 1 else 0], 0) := by
  unfold penBool penAdd
  rw [if_neg (by simp), if_neg (by simp; omega)]
theorem penRaw_ok {l m : List UInt8} (hm : m.length ≤ 65535) (hl : l.length + 2 + m.length ≤ 65536) : penRaw l 0 m = (l ++ (beBytes 2 m.length ++ m), 0) := by
  unfold penRaw penAdd
  rw [if_neg (by simp), if_neg (by omega), if_neg (by simp), if_neg (by rw [List.length_append, beBytes_len]; omega)]

/-! ### '[]byte(s)' -/
theorem conv_text (w : World) (s : List UInt8) (hs : s.length ≤ 1000000) : ∃ v W', (convert 9 22 (.string (mk s))).run Try.prog w = .ok v W' ∧ BytesAt W' v s ∧ (∀ k, v.ownBlock = some k → k = w.heap.size) ∧ Chg [] w W' ∧ ∃ c, v = .slice (some ⟨w.heap.size, 0, none⟩) s.length c := by
  have hz : (mk s).size = s.length := by rw [size_len, data_mk]
  refine ⟨_, _, Lib.run_convert_string_bytes w 9 22 5 (mk s) Try.underlying9 Try.underlying22 Try.underlying5, ?_, ?_, ?_, ?_⟩
  · refine ⟨_, _, by rw [hz], ?_, ?_, .inr ⟨_, 0, rfl, fun i hi => ?_⟩⟩
    · have := grownCap_ge w (mk s).size 0 5; rw [hz] at this; first | exact this | (rw [hz]; exact this)
    · exact grownCap_le_maxLen w (mk s).size 0 5 (by rw [hz]; unfold maxLen; omega)
    · rw [Nat.zero_add]
      exact Lib.bytesWorld_cell w 5 (mk s) i (by rw [hz]; exact hi)
  · intro k hk
    have : w.heap.size = k := by simpa [Value.ownBlock] using hk
    exact this.symm
  · refine ⟨rfl, rfl, rfl, by rw [Lib.bytesWorld_size]; omega, fun k hk _ => Lib.bytesWorld_at_old w 5 (mk s) k hk⟩
  · exact ⟨_, by rw [hz]⟩

set_option maxHeartbeats 2000000 in
set_option maxRecDepth 100000 in
theorem ptext_any (b : Nat) (g : Option Nat) (l : List UInt8) (bad : Int) (s : List UInt8) (w : World) (h : PenAt 82 w b g l bad) (hs : s.length ≤ 900000) :
    Calls Try.prog 52 #[.pointer (some ⟨b, 0, none⟩), .string (mk s)] w fun e w' => e = .returned (.tuple #[]) ∧ Wrote 82 w w' b g (penRaw l bad s) := by
  obtain ⟨v, W', hrun, hb, hk, hc, c, rfl⟩ := conv_text w s (by omega)
  have HP := Lib.hid (h.keep hc (by simp) (by simp))
  have HB := Lib.hid hb
  have HC := Lib.hid hc
  clear h hb hk hc
  go_enter Try.func52, Try.ntmps52
  go_wp2_with fail
  refine (praw_any b g l bad _ s W' HP.out HB.out hs).mono ?_
  rintro e w2 ⟨rfl, h2⟩
  have H2 := Lib.hid (h2.before HC.out)
  clear h2
  go_wp2
  first | go_end0 | skip
  exact ⟨rfl, H2.out⟩

/-! ### Write -/
/-- What has been written after k numbers (the root is passed over). -/
def upTo (l : List UInt8) (T : PT) (k : Nat) : List UInt8 := l ++ beBytes 2 T.length ++ thBs (T.take (k - 1))
theorem upTo_end (l : List UInt8) (T : PT) : upTo l T (T.length + 1) = l ++ treeB T := by
  unfold upTo treeB; rw [Nat.add_sub_cancel, List.take_length, List.append_assoc]
theorem upTo_len {T : PT} (h : TOk T) (l : List UInt8) (k : Nat) : (upTo l T k).length ≤ l.length + 2415 := by
  have := take_len' h (k - 1)
  unfold upTo; rw [List.length_append, List.length_append, beBytes_len]; omega
theorem upTo_succ {T : PT} (l : List UInt8) {k : Nat} {x : Th} (hx : T[k]? = some x) : upTo l T (k + 2) = upTo l T (k + 1) ++ thB x := by
  unfold upTo
  rw [show k + 2 - 1 = k + 1 by omega, show k + 1 - 1 = k by omega, List.take_add_one, hx, thBs_app]
  show l ++ beBytes 2 T.length ++ (thBs (T.take k) ++ thBs [x]) = _
  rw [thBs_one, List.append_assoc (l ++ beBytes 2 T.length)]
theorem TreeAt.wrote {ty : TypeId} {w w' : World} {t b : Nat} {S : List Nat} {T : PT} {g : Option Nat} {r : List UInt8 × Int} (h : TreeAt w t S T) (hb : b ∉ S) (hg : ∀ k, g = some k → k ∉ S) (hw : Wrote ty w w' b g r) : TreeAt w' t S T := by
  obtain ⟨g', _, _, hc⟩ := hw
  refine h.keep hc (fun x hx hm => ?_)
  rcases List.mem_cons.1 hm with rfl | hm
  · exact hb hx
  · exact hg x (by simpa using hm) hx
theorem TreeOk.wrote {ty : TypeId} {w w' : World} {t b bm : Nat} {f gg : Nat → Nat} {S : List Nat} {T : PT} {g : Option Nat} {r : List UInt8 × Int} (h : TreeOk w t S T bm f gg) (hb : b ∉ S) (hg : ∀ k, g = some k → k ∉ S) (hw : Wrote ty w w' b g r) : TreeOk w' t S T bm f gg := by
  obtain ⟨g', _, _, hc⟩ := hw
  refine h.keep hc (fun x hx hm => ?_)
  rcases List.mem_cons.1 hm with rfl | hm
  · exact hb hx
  · exact hg x (by simpa using hm) hx
theorem inos_row {w : World} {base : Nat} {T : PT} {v : Value} (h : w.ownsRow base 3 1 v (inosL T).length ((inosL T).map (Value.int .i64))) : ∃ gr cr, v = .slice (some ⟨gr, 0, none⟩) (T.length + 1) cr ∧ base ≤ gr ∧ gr < w.heap.size ∧ w.cell? ⟨gr, 0, none⟩ = some (.int .i64 1) ∧ ∀ j x, T[j]? = some x → w.cell? ⟨gr, j + 1, none⟩ = some (.int .i64 (x.ino : Int)) := by
  rcases h.2 with ⟨rfl, h0⟩ | ⟨gr, cap, cur, rfl, hbg, hg, hnc, hcm, hcs, htake⟩
  · rw [inosL_len] at h0; omega
  · refine ⟨gr, cap, by rw [inosL_len], hbg, blk_lt hg, ?_, fun j x hx => ?_⟩
    · have := h.cells (g := gr) rfl 0 (.int .i64 1) rfl
      rwa [add_none] at this
    · have := h.cells (g := gr) rfl (j + 1) (.int .i64 (x.ino : Int)) (by
        unfold inosL
        rw [List.map_cons, List.getElem?_cons_succ, List.getElem?_map, List.getElem?_map, hx]; rfl)
      rw [add_none] at this
      simpa using this
theorem Wrote.pen {ty : TypeId} {w w' : World} {b : Nat} {g : Option Nat} {l : List UInt8} {bad : Int} (h : Wrote ty w w' b g (l, bad)) : ∃ g', PenAt ty w' b g' l bad ∧ (g' = g ∨ ∃ k, g' = some k ∧ w.heap.size ≤ k) := by
  obtain ⟨g', h1, h2, _⟩ := h
  exact ⟨g', h1, h2⟩
theorem Wrote.to {ty : TypeId} {w w' : World} {b : Nat} {g : Option Nat} {r r' : List UInt8 × Int} (h : Wrote ty w w' b g r) (e : r = r') : Wrote ty w w' b g r' := by subst e; exact h
theorem Wrote.size {ty : TypeId} {w w' : World} {b : Nat} {g : Option Nat} {r : List UInt8 × Int} (h : Wrote ty w w' b g r) : w.heap.size ≤ w'.heap.size := by obtain ⟨g', _, _, hc⟩ := h; exact hc.size

set_option maxHeartbeats 8000000 in
set_option maxRecDepth 100000 in
theorem twrite_any (t : Nat) (S : List Nat) (T : PT) (b : Nat) (g : Option Nat) (l : List UInt8) (w : World) (h : TreeAt w t S T) (hp : PenAt 82 w b g l 0) (hb : b ∉ S) (hg : ∀ k, g = some k → k ∉ S) (hl : l.length ≤ 60000) :
    Calls Try.prog 38 #[.pointer (some ⟨t, 0, none⟩), .pointer (some ⟨b, 0, none⟩)] w fun e w' => e = .returned (.tuple #[]) ∧ Wrote 82 w w' b g (l ++ treeB T, 0) := by
  have H := Lib.hid h
  have HP := Lib.hid hp
  have HBG := Lib.hid (And.intro hb hg)
  have hok := Lib.hid h.ok
  have hTl := tok_len h.ok
  have hbl := hp.lt.1
  obtain ⟨bm, f, gg, HT⟩ := h
  have HTT := Lib.hid HT
  have c0 := blk_cell HT.head 0 _ rfl
  have hln := HT.things.len Try.underlying61
  have hLL := Lib.hid (show ((T.length + 1 : Nat) : Int) - 1 = (T.length : Int) by omega)
  have hl1 : ((T.length + 1 : Nat) : Int) - 1 = (T.length : Int) := hLL.out
  clear hp hb hg HT
  go_enter Try.func38, Try.ntmps38
  go_wp2_with fail
  refine (tmade_any t S T w H.out).mono ?_
  rintro e w' ⟨rfl, rfl⟩
  obtain ⟨n1, hn1⟩ : ∃ n1, n1 = T.length + 1 := ⟨_, rfl⟩
  rw [← hn1] at hln hl1
  have HN1 := Lib.hid hn1
  clear hn1
  go_wp2_with fail
  refine (pnum_any b g l 0 T.length 2 w HP.out (by omega) (by omega)).mono ?_
  rintro e w2 ⟨rfl, hw2⟩
  have HW2 := Lib.hid (hw2.to (r' := (upTo l T 1, 0)) (by
    rw [show (2 : Int).toNat = 2 from rfl, penNum_ok (by omega) (by omega)]
    unfold upTo; simp [thBs]))
  have HT2 := Lib.hid (HTT.out.wrote HBG.out.1 HBG.out.2 hw2)
  have H2 : Hid (TreeAt w2 t S T) := Lib.hid ⟨bm, f, gg, HT2.out⟩
  clear hw2 hln hl1 c0
  go_wp2_with fail
  refine (tinos_any t S T w2 H2.out).mono ?_
  rintro e w3 ⟨v, rfl, hrow, hc3⟩
  obtain ⟨gr, cr, rfl, hgr2, hgr3, q0, qs⟩ := inos_row hrow
  have HT3 := Lib.hid (HT2.out.keep hc3 (by simp))
  have HQS := Lib.hid qs
  have HQ0 := Lib.hid q0
  obtain ⟨g2, hp2, hg2⟩ := HW2.out.pen
  have HBG2 : Hid (b ∉ S ∧ ∀ k, g2 = some k → k ∉ S) := Lib.hid ⟨HBG.out.1, fun k hk hm => by
    rcases hg2 with h4 | ⟨j, h4, h5⟩
    · exact HBG.out.2 k (by rw [← h4]; exact hk) hm
    · have := HTT.out.lim k hm
      rw [h4] at hk
      have : j = k := by simpa using hk
      omega⟩
  have hbl2 := hp2.lt.1
  have HG2 := Lib.hid hp2.lt.2
  have HP3 := Lib.hid (hp2.keep hc3 (by simp) (by simp))
  have HW23 : Hid (∀ w' r, Wrote 82 w3 w' b g2 r → Wrote 82 w w' b g r) := Lib.hid (fun w' r h => by
    obtain ⟨g2', a1, a2, a3⟩ := HW2.out
    have e : g2' = g2 := by
      obtain ⟨v1, b1, _, b3, _⟩ := a1
      obtain ⟨v2, c1, _, c3, _⟩ := hp2
      rw [b1] at c1
      have : v1 = v2 := by simpa using c1
      rw [← b3, ← c3, this]
    subst e
    exact (h.before hc3).glue a2 a3)
  clear hrow hc3 qs q0 hp2 hg2
  go_wp2
  go_loopg [21] (T.length + 1) (fun gh v21 wr => ∃ k : Nat, v21 = .int .i64 k ∧ k ≤ T.length + 1 ∧ T.length + 1 ≤ k + gh ∧ Hid (Wrote 82 w3 wr b g2 (upTo l T k, 0)))
  case atStart => exact ⟨0, rfl, by omega, by omega, Lib.hid (Wrote.same HP3.out)⟩
  case round =>
    obtain ⟨k, rfl, hk, hkg, HW⟩ := hrel
    have hsz3 := HW.out.size
    have hgrw : ∀ j v, w3.cell? ⟨gr, j, none⟩ = some v → wr.cell? ⟨gr, j, none⟩ = some v := fun j v hv => by
      obtain ⟨g4, _, _, hc4⟩ := HW.out
      refine hc4.cell hv (fun hm => ?_)
      rcases List.mem_cons.1 hm with h4 | h4
      · have : gr = b := h4
        omega
      · have := HG2.out gr (by simpa using h4)
        omega
    by_cases hlt : k < T.length + 1
    · rcases Nat.eq_zero_or_pos k with hk0 | hk0
      · subst hk0
        have e0 := hgrw 0 _ HQ0.out
        have hz : (0 : Int) < ((T.length + 1 : Nat) : Int) := by omega
        have HU : Hid (Wrote 82 w3 wr b g2 (upTo l T 1, 0)) := Lib.hid HW.out
        clear hgrw
        go_wp2
        go_roundg T.length
        case measure => omega
        case rel => exact ⟨1, by first | rfl | go_num, by omega, by omega, HU⟩
      · obtain ⟨j, rfl⟩ : ∃ j, k = j + 1 := ⟨k - 1, by omega⟩
        obtain ⟨x, hx⟩ : ∃ x, T[j]? = some x := ⟨_, List.getElem?_eq_getElem (by omega)⟩
        have e0 := hgrw (j + 1) _ (HQS.out j x hx)
        have hxm := List.mem_of_getElem? hx
        have hxi := hok.out.nums x hxm
        have hxh : tHas T x.ino = true := has_iff.2 (.inr ⟨x, hxm, rfl⟩)
        have hxd := has_small hok.out (dir_has (hok.out.dirs x hxm))
        have hxn := name_len hok.out x hxm
        have HTr := Lib.hid (HT3.out.wrote HBG2.out.1 HBG2.out.2 HW.out)
        have c0 := blk_cell HTr.out.head 0 _ rfl
        have hlk := HTr.out.at hxh
        have hx1 : ((x.ino : Int) == 1) = false := by simp; omega
        have hz : ((j + 1 : Nat) : Int) < ((T.length + 1 : Nat) : Int) := by omega
        have HUP := Lib.hid (upTo_succ l hx)
        have HUL : Hid (∀ k, (upTo l T k).length ≤ l.length + 2415) := Lib.hid (fun k => upTo_len hok.out l k)
        have HXH := Lib.hid hxh
        have HTH := Lib.hid (thOf_mem hok.out hxm)
        have HID : Hid (tIsDir T x.ino = x.isDir) := Lib.hid (by rw [isDir_thOf _ hxh, thOf_mem hok.out hxm])
        clear hgrw hx hxm hxh
        obtain ⟨ga, hpa, hga, hca⟩ := HW.out
        have GA := Lib.hid (And.intro hga hca)
        have HUk := HUL.out (j + 1)
        clear hga hca
        obtain ⟨lk, hlk0⟩ : ∃ lk, lk = upTo l T (j + 1) := ⟨_, rfl⟩
        rw [← hlk0] at hpa HUk HUP
        have hlkl : lk.length ≤ 63000 := by omega
        have HPA := Lib.hid hpa
        clear hpa hlk0 HUk HW HUL
        go_wp2_with fail
        refine (pnum_any b ga lk 0 x.ino 2 wr HPA.out (by omega) (by omega)).mono ?_
        rintro e w5 ⟨rfl, h5⟩
        have HW5 := Lib.hid ((h5.glue GA.out.1 GA.out.2).to (r' := (lk ++ beBytes 2 x.ino, 0)) (penNum_ok (by omega) (by omega)))
        have HT5 := Lib.hid (HT3.out.wrote HBG2.out.1 HBG2.out.2 HW5.out)
        clear h5 hlk c0 e0
        obtain ⟨d0, d1, d2, d3⟩ := HT5.out.cells HXH.out
        rw [HTH.out] at d0
        clear d1 d2 d3
        obtain ⟨gb, hpb, hgb, hcb⟩ := HW5.out
        have GB := Lib.hid (And.intro hgb hcb)
        have HPB := Lib.hid hpb
        clear hgb hcb hpb HW5
        have hm5 : (lk ++ beBytes 2 x.ino).length ≤ 63100 := by rw [List.length_append, beBytes_len]; omega
        go_wp2_with fail
        refine (pnum_any b gb _ 0 x.dir 2 w5 HPB.out (by omega) (by omega)).mono ?_
        rintro e w6 ⟨rfl, h6⟩
        have HW6 := Lib.hid ((h6.glue GB.out.1 GB.out.2).to (r' := (lk ++ beBytes 2 x.ino ++ beBytes 2 x.dir, 0)) (penNum_ok (by omega) (by omega)))
        have HT6 := Lib.hid (HT3.out.wrote HBG2.out.1 HBG2.out.2 HW6.out)
        clear h6 d0
        obtain ⟨d0, d1, d2, d3⟩ := HT6.out.cells HXH.out
        rw [HTH.out] at d1
        clear d0 d2 d3
        obtain ⟨gc, hpc, hgc, hcc⟩ := HW6.out
        have GC := Lib.hid (And.intro hgc hcc)
        have HPC := Lib.hid hpc
        clear hgc hcc hpc HW6
        have hm6 : (lk ++ beBytes 2 x.ino ++ beBytes 2 x.dir).length ≤ 63200 := by rw [List.length_append, beBytes_len]; omega
        go_wp2_with fail
        refine (ptext_any b gc _ 0 x.name w6 HPC.out (by omega)).mono ?_
        rintro e w7 ⟨rfl, h7⟩
        have HW7 := Lib.hid ((h7.glue GC.out.1 GC.out.2).to (r' := (lk ++ beBytes 2 x.ino ++ beBytes 2 x.dir ++ (beBytes 2 x.name.length ++ x.name), 0)) (penRaw_ok (by omega) (by omega)))
        have HT7 := Lib.hid (HT3.out.wrote HBG2.out.1 HBG2.out.2 HW7.out)
        clear h7 d1
        obtain ⟨d0, d1, d2, d3⟩ := HT7.out.cells HXH.out
        rw [HID.out] at d2
        clear d0 d1 d3
        obtain ⟨gd, hpd, hgd, hcd⟩ := HW7.out
        have GD := Lib.hid (And.intro hgd hcd)
        have HPD := Lib.hid hpd
        clear hgd hcd hpd HW7
        have hm7 : (lk ++ beBytes 2 x.ino ++ beBytes 2 x.dir ++ (beBytes 2 x.name.length ++ x.name)).length ≤ 63300 := by simp only [List.length_append, beBytes_len] at hlkl ⊢; omega
        go_wp2_with fail
        refine (pbool_any b gd _ 0 x.isDir w7 HPD.out).mono ?_
        rintro e w8 ⟨rfl, h8⟩
        have HW8 := Lib.hid ((h8.glue GD.out.1 GD.out.2).to (r' := (upTo l T (j + 2), 0)) (by
          rw [penBool_ok (by omega), HUP.out]
          unfold thB
          simp only [List.append_assoc]))
        clear h8 d2
        go_wp2
        go_roundg (T.length - j - 1)
        case measure => omega
        case rel => exact ⟨j + 2, by first | rfl | go_num | (congr 1; omega), by omega, by omega, HW8⟩
    · have HF : Hid (Wrote 82 w wr b g (l ++ treeB T, 0)) := Lib.hid (by
        obtain rfl : k = T.length + 1 := by omega
        rw [← upTo_end]
        exact HW23.out _ _ HW.out)
      clear hgrw
      go_wp2
      first | go_end0 | skip
      exact ⟨rfl, HF.out⟩

/-! ### Bytes -/
theorem treeB_len {T : PT} (h : TOk T) : 2 ≤ (treeB T).length ∧ (treeB T).length ≤ 2415 := by
  have := take_len' h T.length
  rw [List.take_length] at this
  unfold treeB
  rw [List.length_append, beBytes_len]; omega
theorem new_pen (ty : TypeId) (w : World) : PenAt ty (w.alloc (.cells #[.slice none 0 0, .int .i64 0] ty)) w.heap.size none [] 0 :=
  ⟨_, heap_alloc_new w _, BRow.nil _, by simp [Value.ownBlock], by simp, by simp⟩
def BytesPost (w : World) (l : List UInt8) (e : Ending) (w' : World) : Prop := ∃ v, e = .returned v ∧ BRow w' v l ∧ (∀ k, v.ownBlock = some k → w.heap.size ≤ k) ∧ Chg [] w w'

set_option maxHeartbeats 4000000 in
set_option maxRecDepth 100000 in
theorem tbytes_any (t : Nat) (S : List Nat) (T : PT) (w : World) (h : TreeAt w t S T) : Calls Try.prog 20 #[.pointer (some ⟨t, 0, none⟩)] w (BytesPost w (treeB T)) := by
  have hal : Chg [] w (w.alloc (.cells #[.slice none 0 0, .int .i64 0] 82)) := (Chg.refl [] w).alloc _
  have H := Lib.hid (h.keep0 hal)
  have HP := Lib.hid (new_pen 82 w)
  have HL := Lib.hid h.lim
  have HAL := Lib.hid hal
  clear h hal
  go_enter Try.func20, Try.ntmps20
  go_wp2_with fail
  refine (twrite_any t S T w.heap.size none [] _ H.out HP.out (fun hm => by have := HL.out _ hm; omega) (by simp) (by simp)).mono ?_
  rintro e w2 ⟨rfl, h2⟩
  obtain ⟨g2, hp2, hg2, hc2⟩ := h2
  rw [List.nil_append] at hp2
  have HP2 := Lib.hid hp2
  have HC2 : Hid (Chg [] w w2) := Lib.hid (HAL.out.trans hc2 (fun x hx => .inr (by simp at hx; omega)))
  clear hp2 hg2 hc2
  go_wp2_with fail
  refine (pbytes_any w.heap.size g2 (treeB T) w2 HP2.out).mono ?_
  rintro e w3 ⟨v, rfl, hr, hn, hc⟩
  have HF : Hid (BRow w3 v (treeB T) ∧ (∀ k, v.ownBlock = some k → w.heap.size ≤ k) ∧ Chg [] w w3) := Lib.hid ⟨hr, fun k hk => Nat.le_trans HC2.out.size (hn k hk), chg_tr HC2.out hc⟩
  clear hr hn hc
  go_wp2
  go_ret
  exact ⟨v, rfl, HF.out⟩
end Go.Proofs.Ytaiihklfeoeoeaa.W
