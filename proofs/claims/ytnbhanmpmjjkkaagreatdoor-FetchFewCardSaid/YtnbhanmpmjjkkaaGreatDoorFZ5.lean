/- Texts laid together. -/
import Derived.Test.YtnbhanmpmjjkkaaGreatDoorFZ4
import Derived.Sort.OwnSorted
import Derived.Test.YtnbhanmpmjjkkaaGreatDoorFZ3
import Derived.Test.YtnbhanmpmjjkkaaGreatDoorFZ1
import Derived.Test.YtnbhanmpmjjkkaaGreatDoorFZ2
import Derived.DeepKeys
import Derived.Laws.StructEq
import Derived.Deep.Slices
import Derived.ChangeSlices
import Derived.Lib.SmallJoins
import Derived.Deep.MidRow
import Derived.Deep.AppendLies
import Derived.Deep.DeepCutAuto
import Derived.Deep.CutBlock
set_option linter.unusedVariables false
set_option linter.unusedSimpArgs false
set_option maxHeartbeats 64000000
set_option maxRecDepth 100000
namespace Go.Proofs.YtnbhanmpmjjkkaaGreatDoor.W
open Go.RowKit
section
open Go.RowKit Go.Sort
variable {G : List Nat}
theorem wpList_nxtD (w : World) {ops : Array Oper} {rest : List Oper} {o : Oper} {a : Act} {Q : Exit -> Act -> World -> Prop} (hg : o.guard = none) (it : Operand) (hop : o.op = Op.next it false) (b r N : Nat) (φ : Id -> Option Value) (left : Id -> Bool) (cnt : Nat)
  (hit : a.eval it = .pointer (some ⟨r, 0, none⟩)) (h : Rng 45 klD okD w b r φ N left cnt)
  (hDone : cnt = 0 -> (∀ x, okD x -> left x = false) -> wpList Tryz.prog ops Q rest (a.put o.dst (.tuple #[.bool false])) w)
  (hMore : ∀ (c l n i : Int) (v : Value) (w' : World) (cnt' : Nat), okD ⟨c, l, n, i⟩ -> left ⟨c, l, n, i⟩ = true -> φ ⟨c, l, n, i⟩ = some v -> Rng 45 klD okD w' b r φ N (fun y => !decide (y = ⟨c, l, n, i⟩) && left y) cnt' -> cnt' < cnt -> Chg [r] w w' -> w'.heap.size = w.heap.size ->
   (Instr.entry (.pointer (some ⟨r, 0, none⟩))).run Tryz.prog w' = .ok (.tuple #[.agg #[.int .i64 c, .int .i64 l, .int .i64 n, .int .i64 i], v]) w' -> wpList Tryz.prog ops Q rest (a.put o.dst (.tuple #[.bool true, .agg #[.int .i64 c, .int .i64 l, .int .i64 n, .int .i64 i], v])) w') :
  wpList Tryz.prog ops Q (o :: rest) a w :=
 wpList_nxt keId w hg it hop b r N φ left cnt hit h hDone fun x v w' cnt' h1 h2 h3 h4 h5 h6 h7 h8 => hMore x.c x.l x.n x.i v w' cnt' h1 h2 h3 (h4 _ fun y _ => ⟨fun e => by simp [e], fun e => by
  have e' : ¬ y = ⟨x.c, x.l, x.n, x.i⟩ := e
  simp [e']⟩) h5 h6 h7 h8
theorem elIds : El Tryz.prog 50 45 (.agg #[.int .i64 0, .int .i64 0, .int .i64 0, .int .i64 0]) 4 32 := El.mk Tryz.underlying50 (by kernel_rfl) rfl (by decide)
def ListPost (w : World) (l : List Id) (e : Ending) (w' : World) : Prop := ∃ v, e = .returned v /\ w'.ownsRow w.heap.size 45 4 v l.length (l.flatMap idE) /\ Chg [] w w'
theorem stlist_any (q p : Nat) (U : List Nat) (t : Sto) (w : World) (h : StAt G w q p U t) : Calls Tryz.prog 78 #[.pointer (some ⟨q, 0, none⟩)] w (ListPost w t.ids) := by
 obtain ⟨sp, mb, Us, φ, N, h, rfl⟩ := h
 obtain ⟨k0, _, k2, _⟩ := h.cells
 have CM := LH (stmade_any q p w k0)
 have HM := LH h.map
 have HI : Hid (∀ x, okD x -> (x ∈ firsts t.s.rows ↔ (φ x).isSome = true)) := LH (fun x hx => by
  rw [mem_firsts h.ok]
  rcases h.vals x hx with ⟨h1, h2⟩ | ⟨h1, v, h2, _⟩
  ·rw [h1, h2]; simp
  ·rw [h2]; simp [h1])
 have HFM : Hid (∀ x ∈ firsts t.s.rows, okD x) := LH (fun x hx => by
  rw [mem_firsts h.ok] at hx
  by_cases hm : mayId x = true
  ·exact may_okD hm
  ·rw [Sto.at_not (by simpa using hm)] at hx
   exact absurd rfl hx)
 have HND := LH (firsts_nodup h.ok)
 have hNl : N <= 1000 := by
  have h1 := h.map.card keId (firsts t.s.rows) (fun y hy hs => (HI.out y hy).2 hs)
  have h2 := t.ids_len
  unfold Sto.ids at h2
  rw [List.length_mergeSort] at h2
  obtain ⟨S0, rv0, R0, H0⟩ := h.slots
  have := H0.few
  omega
 have HID : Hid (t.ids = (firsts t.s.rows).mergeSort leI) := LH rfl
 generalize t.ids = L at *
 generalize firsts t.s.rows = F at *
 have hml := h.map.lt
 clear h
 go_enter Tryz.func78, Tryz.ntmps78
 go_wp2_with fail
 refine CM.out.mono ?_
 rintro e w' ⟨rfl, hq⟩
 subst hq
 go_wp2_with (refine wpList_rng keId _ rfl _ _ rfl 76 Tryz.underlying107 mb N φ rfl HM.out ?_; intro w1 hr1 hc1 hs1; have HR1 := LH (And.intro hr1 (And.intro hc1 hs1)); clear hr1 hc1 hs1)
 go_frame
 go_loopg [3] N (fun gh v3 wr => ∃ (v : Value) (ss : List Id) (left : Id -> Bool) (cnt : Nat), v = v3 /\ cnt <= gh /\ ss.length + cnt <= N /\ wr.ownsRow w.heap.size 45 4 v ss.length (ss.flatMap idE) /\ Hid (Rng 45 klD okD wr mb w.heap.size φ N left cnt) /\
  Hid (ss.Nodup /\ ∀ k, okD k -> (k ∈ ss ↔ (φ k).isSome = true /\ left k = false)) /\ Hid (∀ k ∈ ss, okD k) /\ Hid (Chg [] w wr))
 case atStart =>
  refine ⟨_, [], _, _, rfl, Nat.le_refl _, by simp, World.ownsRow_nil _ _ _ _, LH HR1.out.1, LH ⟨List.nodup_nil, fun k hk => ?_⟩, LH (by simp), LH HR1.out.2.1⟩
  constructor
  ·intro h; cases h
  ·rintro ⟨h1, h2⟩
   rw [h1] at h2; cases h2
 case round =>
  obtain ⟨v3, ss, left, cnt, rfl, hcg, hkc, hown, HR, HK, HO, HC⟩ := hrel
  have hrne : some w.heap.size ≠ v3.ownBlock := by
   obtain ⟨D, lf, hr, _⟩ := HR.out
   exact row_ne_iter hown hr
  have HOWN := LH hown
  clear hown
  go_wp2_with (refine wpList_nxtD _ rfl _ rfl mb w.heap.size N φ left cnt rfl HR.out ?_ ?_)
  ·intro hc0 hl0
   have HALL : Hid (∀ k, k ∈ ss ↔ k ∈ F) := LH (fun k => by
    constructor
    ·intro hk
     have hko := HO.out k hk
     exact (HI.out k hko).2 ((HK.out.2 k hko).1 hk).1
    ·intro hk
     have hko := HFM.out k hk
     exact (HK.out.2 k hko).2 ⟨(HI.out k hko).1 hk, hl0 k hko⟩)
   have HS : Hid (ss.mergeSort leI = L) := LH (by rw [HID.out]; exact sortedI_eq HK.out.1 HND.out HALL.out)
   have HL : Hid (ss.length = L.length) := LH (by
    have := congrArg List.length HS.out
    rwa [List.length_mergeSort] at this)
   clear hc0 hl0
   go_wp2_with fail
   refine (sortI_any HOWN.out (by omega)).mono ?_
   rintro e w5 ⟨rfl, hrow, hch⟩
   have HF : Hid (w5.ownsRow w.heap.size 45 4 v3 L.length (L.flatMap idE) /\ Chg [] w w5) := LH (by
    rw [HS.out, HL.out] at hrow
    refine ⟨hrow, ?_⟩
    cases hv : v3.ownBlock with
    | none => exact HC.out.trans (hch [] (by rw [hv]; simp)) (by simp)
    | some k =>
     have hlt := (World.ownsRow.lt HOWN.out k hv).1
     exact HC.out.trans (hch [k] (by rw [hv]; simp)) (by simp; omega))
   clear hrow hch
   go_wp2
   go_ret
   exact ⟨_, rfl, HF.out⟩
  ·intro xc xl xn xi v w2 cnt2 hox hlx hvx hr2 hlt hc2 hs2 hen
   have HX : Hid ((φ ⟨xc, xl, xn, xi⟩).isSome = true /\ (⟨xc, xl, xn, xi⟩ : Id) ∉ ss /\ okD ⟨xc, xl, xn, xi⟩) := LH (by
    refine ⟨by rw [hvx]; rfl, fun hk => ?_, hox⟩
    have := ((HK.out.2 _ hox).1 hk).2
    rw [hlx] at this; cases this)
   have HW2 := LH (And.intro hr2 (And.intro hc2 hs2))
   have hown2 := row_keep HOWN.out (w' := w2) (fun gq hq => hc2.block gq (World.ownsRow.lt HOWN.out gq hq).2 (by
    simp
    rintro rfl
    exact hrne hq.symm))
   have hc2a : Chg [] w2 (w2.alloc (.cells #[.int .i64 xc, .int .i64 xl, .int .i64 xn, .int .i64 xi] 45)) := (Chg.refl [] w2).alloc _
   have hown3 := row_keep hown2 (w' := w2.alloc (.cells #[.int .i64 xc, .int .i64 xl, .int .i64 xn, .int .i64 xi] 45)) (fun gq hq => hc2a.block gq (World.ownsRow.lt hown2 gq hq).2 (by simp))
   have hbase : w.heap.size <= w2.heap.size := by
    have := HC.out.size
    rw [hs2]; omega
   clear hox hlx hvx hr2 hc2 hs2
   go_wp2_with (at_builtin; refine wpList_app1 rfl _ _ _ rfl w.heap.size elIds _ _ _ rfl hown3 1 #[.int .i64 xc, .int .i64 xl, .int .i64 xn, .int .i64 xi] (by rw [show (w2.alloc (.cells #[.int .i64 xc, .int .i64 xl, .int .i64 xn, .int .i64 xi] 45)).heap.size = w2.heap.size + 1 by simp]; rfl) rfl (by intro u hu; simp at hu; rcases hu with rfl | rfl | rfl | rfl <;> rfl) (by unfold maxLen; omega) (by omega) (by simp; omega) ?_; intro v4 w4 hown4 hg4)
   have HEND : Hid (Rng 45 klD okD w4 mb w.heap.size φ N (fun y => !decide (y = ⟨xc, xl, xn, xi⟩) && left y) cnt2 /\ Chg [] w w4) := LH (by
    have hc24 : Chg (match v3.ownBlock with | some k => [k] | none => []) w2 w4 := by
     exact ((Chg.refl (match v3.ownBlock with | some k => [k] | none => []) w2).alloc _).grown hg4 (fun k hk => by
      have hk' : v3.ownBlock = some k := hk
      rw [hk']; exact .inl (by simp))
    have hrb : ∀ k, v3.ownBlock = some k -> w.heap.size <= k /\ k ≠ w.heap.size := fun k hk => ⟨(World.ownsRow.lt HOWN.out k hk).1, fun e => hrne (by rw [hk, e])⟩
    refine ⟨HW2.out.1.kept hc24 ?_ ?_, (HC.out.trans HW2.out.2.1 (fun z hz => ?_)).trans hc24 (fun z hz => ?_)⟩
    ·cases hv : v3.ownBlock with
     | none => simp
     | some k => have := hrb k hv; simp; omega
    ·cases hv : v3.ownBlock with
     | none => simp
     | some k => have := hrb k hv; simp; omega
    ·simp at hz; right; omega
    ·cases hv : v3.ownBlock with
     | none => rw [hv] at hz; simp at hz
     | some k => rw [hv] at hz; simp at hz; have := hrb k hv; right; omega)
   clear hg4
   go_roundg cnt2
   case measure => omega
   case rel =>
    refine ⟨_, ss ++ [⟨xc, xl, xn, xi⟩], _, cnt2, rfl, Nat.le_refl _, by simp; omega, by simpa [idE] using hown4, LH HEND.out.1, LH ⟨?_, fun k hk => ?_⟩, LH (fun k hk => ?_), LH HEND.out.2⟩
    ·refine List.nodup_append.2 ⟨HK.out.1, by simp, fun a ha b hb => ?_⟩
     simp at hb
     rintro rfl
     subst hb
     exact HX.out.2.1 ha
    ·rw [List.mem_append, HK.out.2 k hk]
     by_cases e : k = ⟨xc, xl, xn, xi⟩
     ·subst e; simp [HX.out.1]
     ·simp [e]
    ·rcases List.mem_append.1 hk with hk | hk
     ·exact HO.out k hk
     ·simp at hk; subst hk; exact HX.out.2.2
end
section
open Go.RowKit Go.Sort
variable {G : List Nat}
theorem count_take {α : Type} (f : α -> Bool) (l : List α) (j : Nat) (h : j < l.length) : (l.take (j + 1)).countP f = (l.take j).countP f + if f l[j] then 1 else 0 := by
 rw [List.take_succ_eq_append_getElem h, List.countP_append]
 simp [List.countP_singleton]
theorem stroom_any (q p : Nat) (U : List Nat) (t : Sto) (w : World) (h : StAt G w q p U t) : Calls Tryz.prog 79 #[.pointer (some ⟨q, 0, none⟩)] w fun e w' => e = .returned (.int .i64 (t.room : Int)) /\ w = w' := by
 obtain ⟨sp, mb, Us, φ, N, h, rfl⟩ := h
 obtain ⟨k0, k1, _, _⟩ := h.cells
 have CM := LH (stmade_any q p w k0)
 have CN := LH (scount_any sp p Us t.s w h.slots)
 have CU := LH (fun i => sused_any sp p Us t.s i w h.slots)
 have hfew : t.s.rows.length <= 1000 := by
  obtain ⟨S0, rv0, R0, H0⟩ := h.slots
  have := H0.few
  omega
 have HRM : Hid (t.room = t.s.rows.countP (fun r => !r.used)) := LH rfl
 generalize t.room = R at *
 clear h
 obtain ⟨m, hm⟩ : ∃ m, m = t.s.rows.length := ⟨_, rfl⟩
 rw [<- hm] at CN hfew
 have HM := LH hm
 clear hm
 go_enter Tryz.func79, Tryz.ntmps79
 go_wp2_with (first | (go_at_call 99; refine CM.out.mono ?_; rintro e w' ⟨rfl, hq⟩; subst hq) | (go_at_call 92; refine CN.out.mono ?_; rintro e w' ⟨rfl, hq⟩; subst hq))
 go_loopg [3, 13] m (fun g' s3 s13 wr => ∃ (i n : Nat), s13 = .int .i64 (i : Int) /\ s3 = .int .i64 (n : Int) /\ i <= m /\ m <= i + g' /\ n <= i /\ Hid (wr = w /\ n = (t.s.rows.take i).countP (fun r => !r.used)))
 case atStart => exact ⟨0, 0, rfl, rfl, by omega, by omega, by omega, LH ⟨rfl, by simp⟩⟩
 case round =>
  obtain ⟨i, n, rfl, rfl, hi, hig, hni, HJ⟩ := hrel
  obtain ⟨rfl, hn⟩ := HJ.out
  have HN := LH hn
  clear hn HJ
  by_cases hlt : i < m
  ·have CU1 := LH (CU.out (i : Int))
   have hl2 : i < t.s.rows.length := by rw [<- HM.out]; exact hlt
   have hus : t.s.used (i : Int) = (t.s.rows[i]).used := by
    rw [SS.used_true ⟨by omega, by omega⟩]
    show (t.s.rows.getD i noRow).used = _
    rw [List.getD_eq_getElem?_getD, List.getElem?_eq_getElem hl2]; rfl
   have HC := LH (count_take (fun r => !r.used) t.s.rows i hl2)
   rw [hus] at CU1
   have hiz : (i : Int) < (m : Int) := by omega
   clear hus
   generalize (t.s.rows[i]).used = u at *
   cases u with
   | true =>
    go_wp2_with (go_at_call 93; refine CU1.out.mono ?_; rintro e w' ⟨rfl, hq⟩; subst hq)
    go_roundg (gk - 1)
    case measure => omega
    case rel => exact ⟨i + 1, n, by go_num, rfl, by omega, by omega, by omega, LH ⟨rfl, by rw [HC.out, <- HN.out]; simp⟩⟩
   | false =>
    go_wp2_with (go_at_call 93; refine CU1.out.mono ?_; rintro e w' ⟨rfl, hq⟩; subst hq)
    go_roundg (gk - 1)
    case measure => omega
    case rel => exact ⟨i + 1, n + 1, by go_num, by go_num, by omega, by omega, by omega, LH ⟨rfl, by rw [HC.out, <- HN.out]; simp⟩⟩
  ·have him : i = m := by omega
   have hiz : ¬ (i : Int) < (m : Int) := by omega
   have HE : Hid (R = n) := LH (by rw [HRM.out, HN.out, him, HM.out, List.take_length])
   go_wp2
   go_ret
   rw [HE.out]
   exact ⟨rfl, rfl⟩
theorem stwhole_any (q p : Nat) (U : List Nat) (t : Sto) (w : World) (h : StAt G w q p U t) : Calls Tryz.prog 76 #[.pointer (some ⟨q, 0, none⟩)] w fun e w' => e = .returned (.bool t.whole) /\ w = w' := by
 obtain ⟨sp, mb, Us, φ, N, h, rfl⟩ := h
 obtain ⟨k0, _, _, k3⟩ := h.cells
 have CM := LH (stmade_any q p w k0)
 generalize t.whole = b at *
 clear h
 go_enter Tryz.func76, Tryz.ntmps76
 go_wp2_with (go_at_call 99; refine CM.out.mono ?_; rintro e w' ⟨rfl, hq⟩; subst hq)
 go_ret
 exact ⟨rfl, rfl⟩
end
section
open Go.RowKit Go.Sort
variable {G : List Nat}
theorem SlotsAt.keepNB {w w' : World} {q p B : Nat} {U : List Nat} {s : SS} (h : SlotsAt w q p U s) (hc : Chg [B] w w') (hm : ∀ o c, w.cell? ⟨B, o, none⟩ ≠ some (bv c)) (hU : B ∉ U) : SlotsAt w' q p U s := by
 obtain ⟨S, rv, R, h⟩ := h
 have hne : ∀ x ∈ U, x ∉ [B] := fun x hx hmm => hU (by rw [<- List.mem_singleton.1 hmm]; exact hx)
 refine ⟨S, rv, R, h.obj.keep hc (fun x hx => hne x (h.uB x hx)), h.disk.keep hc (fun x hx => hne x (h.uS x hx)), h.rows, h.sep, fun x hx => ?_, h.uS, h.uB, fun x hx => Nat.lt_of_lt_of_le (h.uL x hx) hc.size, h.ok⟩
 obtain ⟨h1, h2⟩ := h.keys x hx
 refine ⟨h1.chgW hc (fun hn k hk hmm => ?_), fun g hg => ⟨Nat.lt_of_lt_of_le (h2 g hg).1 hc.size, (h2 g hg).2⟩⟩
 obtain rfl := List.mem_singleton.1 hmm
 obtain ⟨a, cap, hv, _, _, h3⟩ := h1.1
 rw [hv] at hk
 rcases h3 with ⟨h3, _⟩ | ⟨g, o, rfl, hcell⟩
 ·exact hn h3
 ·obtain rfl : g = k := by simpa [Value.ownBlock] using hk
  exact hm _ _ (hcell 0 (List.length_pos_iff.2 hn))
theorem head_nb {w : World} {q p sp mb : Nat} {b : Bool} (h : w.heap[q]? = some (.cells #[.pointer (some ⟨p, 0, none⟩), .pointer (some ⟨sp, 0, none⟩), .map (some mb), .bool b] 109 (0, 0))) (o : Nat) (c : UInt8) : w.cell? ⟨q, o, none⟩ ≠ some (bv c) := by
 simp only [World.cell?, h]
 match o with
 | 0 => simp [bv]
 | 1 => simp [bv]
 | 2 => simp [bv]
 | 3 => simp [bv]
 | o + 4 => simp
theorem StOk.setW {w : World} {q p sp mb : Nat} {Us : List Nat} {φ : Id -> Option Value} {N : Nat} {t : Sto} (h : StOk G w q p sp mb Us φ N t) (b : Bool) : StOk G (w.setCell ⟨q, 3, none⟩ (.bool b)) q p sp mb Us φ N ⟨t.s, b⟩ := by
 have hc : Chg [q] w (w.setCell ⟨q, 3, none⟩ (.bool b)) := (Chg.refl [q] w).setCell (p := ⟨q, 3, none⟩) (.inl (by simp)) _
 have hqm := ne_blk h.head h.map
 refine ⟨set_blk h.head, h.slots.keepNB hc (head_nb h.head) h.apart.1, h.map.chg hc (by simpa using Ne.symm hqm), h.apart, fun x hx => ?_, h.ok, h.far.mono hc.size⟩
 exact (h.vals x hx).keep hc (fun y hy => .inl (by rw [List.mem_singleton.1 hy]; simp)) (fun y hy => .inl hy)
theorem stsetw_any (q p : Nat) (U : List Nat) (t : Sto) (w : World) (h : StAt G w q p U t) (hn : 1 <= t.s.d.n) (ho : t.s.d.ops <= 900000000) (hw : t.s.d.since.length <= 900000) :
  Calls Tryz.prog 80 #[.pointer (some ⟨q, 0, none⟩)] w fun e w' => e = .returned (.int .i64 t.setWhole.1) /\ Std G w w' q p U t.setWhole.2 := by
 obtain ⟨sp, mb, Us, φ, N, h, rfl⟩ := h
 obtain ⟨k0, _, _, k3⟩ := h.cells
 have CM := LH (stmade_any q p w k0)
 have HH := LH h
 obtain ⟨S, rv, R, hS⟩ := h.slots
 have CS := LH (sign_any p S t.s.d 2 w hS.disk hn ho hw)
 obtain ⟨sn, _, _⟩ := t.s.d.sign_ok 2
 have HS := LH hS
 have HG : Hid (t.setWhole = ((t.s.d.sign 2).1, ⟨{ t.s with d := (t.s.d.sign 2).2 }, t.whole || ((t.s.d.sign 2).1 == 0)⟩)) := LH rfl
 generalize t.setWhole = r at *
 generalize t.s.d.sign 2 = z at *
 obtain ⟨ze, d'⟩ := z
 dsimp only at CS HG sn
 rw [show bv 2 = .int .u8 2 from rfl] at CS
 have HSN := LH sn
 clear h hS sn
 go_enter Tryz.func80, Tryz.ntmps80
 go_wp2_with (go_at_call 99; refine CM.out.mono ?_; rintro e w' ⟨rfl, hq⟩; subst hq)
 refine CS.out.mono ?_
 rintro e w2 ⟨rfl, hd2⟩
 have hsid := SlotsAt.did HS.out hd2 HSN.out
 obtain ⟨Us2, g1, g2, g3⟩ := HH.out.slotsDid hsid rfl
 obtain ⟨c0, _, _, c3⟩ := g1.cells
 have f3 := blk_frozen g1.head 3
 have hl := blk_lt g1.head
 have HW : Hid (∀ b, Std G w (w2.setCell ⟨q, 3, none⟩ (.bool b)) q p (q :: mb :: Us) ⟨{ t.s with d := d' }, b⟩) := LH (fun b => (g1.setW b).std g2 ((g3.mono (fun y hy => .inl (by simp [hy]))).setCell (p := ⟨q, 3, none⟩) (.inl (by simp)) _))
 have HI : Hid (r = (ze, ⟨{ t.s with d := d' }, t.whole || (ze == 0)⟩)) := HG
 have c3' : w2.cell? ⟨q, 3, none⟩ = some (.bool t.whole) := c3
 clear hd2 hsid g1 g2 g3 CS HG c3
 generalize t.whole = b at *
 cases b with
 | true =>
  go_wp2
  go_ret
  rw [HI.out]
  exact ⟨rfl, HW.out true⟩
 | false =>
  by_cases hz : ze = 0
  ·subst hz
   go_wp2
   go_ret
   rw [HI.out]
   exact ⟨rfl, HW.out true⟩
  ·have q0 : (ze == 0) = false := by simp [hz]
   rw [q0] at HI
   go_wp2
   go_ret
   rw [HI.out]
   exact ⟨rfl, HW.out false⟩
end
section
open Go.RowKit Go.Sort
variable {G : List Nat}
end
theorem DS.wipe_live : ∀ (k a : Nat) (d : DS), d.Live -> a + 8 * k <= d.n + 7 -> (∀ i, d.now i = zeros 64) -> (d.wipe k a).1 = 0 /\ (d.wipe k a).2.Live /\ (d.wipe k a).2.n = d.n /\ (∀ i, (d.wipe k a).2.now i = zeros 64) /\ (d.wipe k a).2.since = []
 | 0, a, d, hd, hn, hz => by
  obtain ⟨h1, h2, h3, h4, h5⟩ := d.sync_live hd
  exact ⟨h1, h2, h3, fun i => by show (d.sync).2.now i = _; rw [h4, hz], h5⟩
 | k + 1, a, d, hd, hn, hz => by
  obtain ⟨h1, h2, h3, h4⟩ := DS.write_live hd a (zeros 64) (by omega) (by simp [zeros])
  obtain ⟨i1, i2, i3, i4, i5⟩ := DS.wipe_live k (a + 8) _ h2 (by rw [h3]; omega) (fun i => by
   rw [h4]; unfold upd
   split
   ·rfl
   ·exact hz i)
  unfold DS.wipe
  rw [if_neg (by rw [h1]; simp)]
  exact ⟨i1, i2, by rw [i3, h3], i4, i5⟩
theorem DS.sign_live {d : DS} (hd : d.Live) (n : UInt8) (hn : 1 <= d.n) : (d.sign n).1 = 0 /\ (d.sign n).2.Live /\ (d.sign n).2.n = d.n /\ (d.sign n).2.now = upd d.now 0 (n :: zeros 63) /\ (d.sign n).2.since = [] := by
 obtain ⟨h1, h2, h3, h4⟩ := DS.write_live hd 0 (n :: zeros 63) (by omega) (by simp [zeros])
 obtain ⟨g1, g2, g3, g4, g5⟩ := DS.sync_live h2
 unfold DS.sign
 rw [show ((0 : Nat) : Int) = 0 from rfl] at *
 rw [if_neg (by rw [h1]; simp)]
 exact ⟨g1, g2, by rw [g3, h3], by rw [g4, h4], g5⟩
theorem rowsFrom_zero {d : DS} {first : Nat} (h : ∀ i, 1 <= i -> d.now i = zeros 64) (hf : 1 <= first) : ∀ m k, rowsFrom d first m k = some (List.replicate m noRow)
 | 0, _ => rfl
 | m + 1, k => by
  unfold rowsFrom
  rw [h _ (by omega)]
  have : headOf (zeros 64) = some noRow := by rfl
  rw [this]
  dsimp only
  rw [rowsFrom_zero h hf m (k + 1)]
  rfl
theorem format_new (n : Nat) (h9 : 9 <= n) : ∃ d, (DS.new n).format = ((0, some ⟨⟨d, 1, List.replicate ((n - 1) / 8) noRow⟩, false⟩), d) /\ d.Live /\ d.n = n /\ d.since = [] /\ (∀ i, 1 <= i -> d.now i = zeros 64) /\ d.ops <= n /\ d.now 0 = 1 :: zeros 63 := by
 have hl : (DS.new n).Live := ⟨rfl, by show (-1 : Int) < 0; omega⟩
 obtain ⟨a1, a2, a3, a4, a5⟩ := DS.wipe_live ((n - 1) / 8) 1 (DS.new n) hl (by show _ <= n + 7; omega) (fun i => rfl)
 have a3' : ((DS.new n).wipe ((n - 1) / 8) 1).2.n = n := a3
 obtain ⟨w1, w2, w3⟩ := DS.wipe_ok ((n - 1) / 8) 1 (DS.new n)
 obtain ⟨b1, b2, b3, b4, b5⟩ := DS.sign_live a2 1 (by rw [a3']; omega)
 obtain ⟨s1, s2, s3⟩ := ((DS.new n).wipe ((n - 1) / 8) 1).2.sign_ok 1
 have hw0 : (DS.new n).ops = 0 := rfl
 obtain ⟨d, hd⟩ : ∃ d, d = (((DS.new n).wipe ((n - 1) / 8) 1).2.sign 1).2 := ⟨_, rfl⟩
 have hfm : (DS.new n).format = if ((DS.new n).wipe ((n - 1) / 8) 1).1 ≠ 0 then ((((DS.new n).wipe ((n - 1) / 8) 1).1, none), ((DS.new n).wipe ((n - 1) / 8) 1).2) else if (((DS.new n).wipe ((n - 1) / 8) 1).2.sign 1).1 ≠ 0 then (((((DS.new n).wipe ((n - 1) / 8) 1).2.sign 1).1, none), (((DS.new n).wipe ((n - 1) / 8) 1).2.sign 1).2) else ((((DS.new n).wipe ((n - 1) / 8) 1).2.sign 1).2.stOpen, (((DS.new n).wipe ((n - 1) / 8) 1).2.sign 1).2) := by
  unfold DS.format
  rw [if_neg (by show ¬ n < 9; omega)]
  rfl
 rw [hfm, if_neg (by rw [a1]; simp), if_neg (by rw [b1]; simp), <- hd]
 rw [<- hd] at b2 b3 b4 b5 s2
 have hn : d.n = n := by rw [b3, a3']
 have h0 : d.now 0 = 1 :: zeros 63 := by rw [b4]; unfold upd; rw [if_pos rfl]
 have h1 : ∀ i, 1 <= i -> d.now i = zeros 64 := fun i hi => by rw [b4]; unfold upd; rw [if_neg (by omega), a4]
 refine ⟨d, ?_, b2, hn, b5, h1, by omega, h0⟩
 have hsl : d.slots 1 = (0, some ⟨d, 1, List.replicate ((n - 1) / 8) noRow⟩) := by
  unfold DS.slots
  rw [if_neg (by omega), if_neg (by rw [b2.1]; simp; omega), show (1 : Int).toNat = 1 from rfl, rowsFrom_zero h1 (by omega), hn]
 have hop : d.stOpen = (0, some ⟨⟨d, 1, List.replicate ((n - 1) / 8) noRow⟩, false⟩) := by
  unfold DS.stOpen
  rw [if_neg (by omega), if_neg (by rw [b2.1]; simp), h0]
  rw [if_neg (by
   rintro (⟨h, _⟩ | h)
   ·exact h rfl
   ·rw [show (1 :: zeros 63).drop 1 = zeros 63 from rfl, allZ_zeros] at h; cases h), hsl]
  dsimp only
  rw [if_pos (stKeys_iff.2 (fun r hr hu => by
   obtain rfl := List.eq_of_mem_replicate hr
   simp [noRow] at hu))]
  rfl
 rw [hop]
abbrev Frag := Id -> Option (List UInt8)
def setF (F : Frag) (x : Id) (o : Option (List UInt8)) : Frag := fun y => if y = x then o else F y
theorem setF_self (F : Frag) (x : Id) (o : Option (List UInt8)) : setF F x o x = o := if_pos rfl
theorem setF_other (F : Frag) {x y : Id} (o : Option (List UInt8)) (h : y ≠ x) : setF F x o y = F y := if_neg h
structure Kept (t : Sto) (F : Frag) : Prop where
 told : ∃ u v, Told t.s u v /\ ∀ x, mayId x = true -> (F x = none /\ t.at x = []) ∨ ∃ i b, F x = some b /\ t.at x = [i] /\ v i = b
 out : ∀ x, mayId x = false -> F x = none
 keys : keysOk t.s.rows
 since : t.s.d.since = []
 first : t.s.first = 1
theorem SS.put_ok (s : SS) (i : Int) (key b : List UInt8) : (s.put i key b).2.d.ops <= s.d.ops + 20 /\ (s.put i key b).2.d.since.length <= s.d.since.length + 20 /\ (s.put i key b).2.d.n = s.d.n /\ (s.put i key b).2.first = s.first /\ (s.put i key b).2.rows.length = s.rows.length := by
 unfold SS.put
 split
 ·exact ⟨Nat.le_add_right _ _, Nat.le_add_right _ _, rfl, rfl, rfl⟩
 ·split
  ·exact ⟨Nat.le_add_right _ _, Nat.le_add_right _ _, rfl, rfl, rfl⟩
  ·rename_i h1 h2
   obtain ⟨a1, a2, a3⟩ := s.d.lays_ok (s.pos i + 1) b
   obtain ⟨b1, b2, b3⟩ := (s.d.lays (s.pos i + 1) b).2.lays_ok (s.pos i) (headBytes b.length key)
   have hn1 : nsec b.length <= 7 := by unfold nsec; omega
   have hn2 : nsec (headBytes b.length key).length <= 1 := by rw [headBytes_len _ _ (by omega) (by omega)]; unfold nsec; omega
   split
   ·exact ⟨Nat.le_add_right _ _, Nat.le_add_right _ _, rfl, rfl, rfl⟩
   ·split
    ·exact ⟨by dsimp only; omega, by dsimp only; omega, a1, rfl, rfl⟩
    ·split
     ·exact ⟨by dsimp only; omega, by dsimp only; omega, by dsimp only; rw [b1, a1], rfl, rfl⟩
     ·exact ⟨by dsimp only; omega, by dsimp only; omega, by dsimp only; rw [b1, a1], rfl, by dsimp only; rw [List.length_set]⟩
theorem Sto.put_ok (t : Sto) (x : Id) (b : List UInt8) : (t.put x b).2.s.d.ops <= t.s.d.ops + 20 /\ (t.put x b).2.s.d.since.length <= t.s.d.since.length + 20 /\ (t.put x b).2.s.d.n = t.s.d.n /\ (t.put x b).2.s.rows.length = t.s.rows.length /\ (t.put x b).2.whole = t.whole := by
 have h0 : t.s.d.ops <= t.s.d.ops + 20 /\ t.s.d.since.length <= t.s.d.since.length + 20 /\ t.s.d.n = t.s.d.n /\ t.s.rows.length = t.s.rows.length /\ t.whole = t.whole := ⟨Nat.le_add_right _ _, Nat.le_add_right _ _, rfl, rfl, rfl⟩
 unfold Sto.put
 split
 ·exact h0
 ·split
  ·exact h0
  ·split
   ·split
    ·exact h0
    ·split
     ·exact h0
     ·exact h0
   ·split
    ·exact h0
    ·obtain ⟨a1, a2, a3, a4, a5⟩ := t.s.put_ok t.s.free (idKey x) b
     exact ⟨a1, a2, a3, a5, rfl⟩
theorem countP_put {l : List SRow} {i : Nat} (r : SRow) (hi : i < l.length) (f : SRow -> Bool) : (l.set i r).countP f + (if f (l.getD i noRow) then 1 else 0) = l.countP f + if f r then 1 else 0 := by
 induction l generalizing i with
 | nil => simp at hi
 | cons a l ih =>
  cases i with
  | zero =>
   simp only [List.set_cons_zero, List.countP_cons, List.getD_cons_zero]
   omega
  | succ i =>
   have := ih (i := i) (by simpa using hi)
   simp only [List.set_cons_succ, List.countP_cons, List.getD_cons_succ]
   omega
theorem Kept.del_bad {t : Sto} {x : Id} (hm : mayId x = false) : t.del x = (1, t) := by
 unfold Sto.del
 rw [if_pos hm]
def Lost2 (s : SS) (d2 : DS) (u : Nat -> Bool) (v : Nat -> List UInt8) (k : Nat) (r : SRow) (b : List UInt8) : Prop :=
 d2.dead = true /\ d2.n = s.d.n /\ ∀ ch, ToldR { s with d := d2.crash ch } u v ∨ ToldR { s with d := d2.crash ch, rows := s.rows.set k r } (fun j => if j = k then r.used else u j) (fun j => if j = k then b else v j)
theorem ToldR.put2 {s : SS} {u : Nat -> Bool} {v : Nat -> List UInt8} (h : ToldR s u v) (k : Nat) (hk : k < s.rows.length) (key b : List UInt8) (hu : u k = false) (hkey : key.length <= 40) (hb : b.length <= 448) :
  ((s.put (k : Int) key b).1 = 0 /\ ToldR (s.put (k : Int) key b).2 (fun j => if j = k then true else u j) (fun j => if j = k then b else v j) /\ (s.put (k : Int) key b).2.rows.length = s.rows.length /\ (s.put (k : Int) key b).2.first = s.first /\ (s.put (k : Int) key b).2.d.n = s.d.n) ∨
  ((s.put (k : Int) key b).1 = 14 /\ (s.put (k : Int) key b).2.rows = s.rows /\ (s.put (k : Int) key b).2.first = s.first /\ Lost2 s (s.put (k : Int) key b).2.d u v k ⟨true, b.length, key⟩ b) := by
 have hh : s.has (k : Int) := ⟨by omega, by omega⟩
 have hr : s.row (k : Int) = s.rows.getD k noRow := rfl
 have hp : s.pos (k : Int) = s.first + 8 * k := rfl
 have hns : nsec b.length <= 7 := by unfold nsec; omega
 have hroom := h.room
 have hput : s.put (k : Int) key b = if (s.d.lays (s.pos k + 1) b).1 ≠ 0 then ((s.d.lays (s.pos k + 1) b).1, { s with d := (s.d.lays (s.pos k + 1) b).2 }) else
  if ((s.d.lays (s.pos k + 1) b).2.lays (s.pos k) (headBytes b.length key)).1 ≠ 0 then (((s.d.lays (s.pos k + 1) b).2.lays (s.pos k) (headBytes b.length key)).1, { s with d := ((s.d.lays (s.pos k + 1) b).2.lays (s.pos k) (headBytes b.length key)).2 }) else
  (0, { s with d := ((s.d.lays (s.pos k + 1) b).2.lays (s.pos k) (headBytes b.length key)).2, rows := s.rows.set k ⟨true, b.length, key⟩ }) := by
  unfold SS.put
  rw [if_neg (by simpa using hh), if_neg (by omega), hr, h.used k hk, hu, if_neg (by simp)]
  rfl
 rw [hput]
 have hh1 : nsec (headBytes b.length key).length = 1 := by rw [headBytes_len _ _ hb hkey]; unfold nsec; omega
 rcases DS.lays_may (s.pos k + 1) b h.rest (by rw [hp]; omega) with ⟨a1, a2, a3, a4⟩ | ⟨a1, a2, a3, a4, a5⟩
 ·rw [if_neg (by rw [a1]; simp)]
  generalize (s.d.lays (s.pos k + 1) b).2 = d1 at *
  rw [hp] at a4
  have hfar1 : ∀ j i, j < s.rows.length -> j ≠ k -> i < 8 -> d1.now (s.first + 8 * j + i) = s.d.now (s.first + 8 * j + i) := fun j i _ hj hi => by
   rw [a4, if_neg (by omega)]
  have hhd1 : d1.now (s.first + 8 * k) = s.d.now (s.first + 8 * k) := by rw [a4, if_neg (by omega)]
  rcases DS.lays_may (s.pos k) (headBytes b.length key) a2 (by rw [hh1, a3, hp]; omega) with ⟨b1, b2, b3, b4⟩ | ⟨b1, b2, b3, b4, b5⟩
  ·left
   rw [if_neg (by rw [b1]; simp)]
   generalize (d1.lays (s.pos k) (headBytes b.length key)).2 = d2 at *
   rw [hp, hh1] at b4
   refine ⟨rfl, h.of_now d2 b2 (by rw [b3, a3]) k hk ⟨true, b.length, key⟩ ?_ (fun j i hj hjk hi => ?_) b (fun _ => ?_), by simp, rfl, by rw [<- a3, <- b3]⟩
   ·rw [b4, if_pos (by omega), Nat.sub_self]
    exact head_back _ _ hb hkey
   ·rw [b4, if_neg (by omega)]
    exact hfar1 j i hj hjk hi
   ·dsimp only
    rw [flat_congr _ _ (secAt b) (fun i hi => by rw [b4, if_neg (by omega), a4, if_pos (by omega)]; congr 1; omega)]
    exact flat_back b
  ·right
   rw [if_pos (by rw [b1]; simp)]
   generalize (d1.lays (s.pos k) (headBytes b.length key)).2 = d2 at *
   refine ⟨b1, rfl, rfl, b2, by rw [b3, a3], fun ch => ?_⟩
   rw [hh1] at b5
   have hall : ∀ x ∈ chosen ch d2.since 0, x = (s.first + 8 * k, secAt (headBytes b.length key) 0) := fun x hx => by
    obtain ⟨i, hi, rfl⟩ := b5 x (chosen_mem _ _ hx)
    obtain rfl : i = 0 := by omega
    rw [hp, Nat.add_zero]
   have hn2 : (d2.crash ch).n = s.d.n := by show d2.n = _; rw [b3, a3]
   have hl1 : ∀ i, d2.lasts i = d1.now i := fun i => by rw [b4]; exact a2.same i
   have hoth : ∀ i, i ≠ s.first + 8 * k -> (d2.crash ch).now i = d1.now i := fun i hi => by
    rw [crash_now, applied_far i _ _ (fun x hx => by rw [hall x hx]; exact fun e => hi e.symm), hl1]
   have hfar2 : ∀ j i, j < s.rows.length -> j ≠ k -> i < 8 -> (d2.crash ch).now (s.first + 8 * j + i) = s.d.now (s.first + 8 * j + i) := fun j i hj hjk hi => by
    rw [hoth _ (by omega)]
    exact hfar1 j i hj hjk hi
   rcases applied_same (s.first + 8 * k) (secAt (headBytes b.length key) 0) (chosen ch d2.since 0) d2.lasts hall with hA | hA
   ·refine .inl (h.again (d2.crash ch) (crash_rest _ _) hn2 k hk hu ?_ hfar2)
    rw [crash_now, hA, hl1, hhd1]
   ·refine .inr (h.of_now (d2.crash ch) (crash_rest _ _) hn2 k hk ⟨true, b.length, key⟩ ?_ hfar2 b (fun _ => ?_))
    ·rw [crash_now, hA]
     exact head_back _ _ hb hkey
    ·dsimp only
     rw [flat_congr _ _ (secAt b) (fun i hi => by rw [hoth _ (by omega), a4, if_pos (by omega)]; congr 1; omega)]
     exact flat_back b
 ·right
  rw [if_pos (by rw [a1]; simp)]
  generalize (s.d.lays (s.pos k + 1) b).2 = d1 at *
  refine ⟨a1, rfl, rfl, a2, a3, fun ch => .inl ?_⟩
  have hn2 : (d1.crash ch).n = s.d.n := a3
  have hoth : ∀ i, i < s.first + 8 * k + 1 ∨ s.first + 8 * k + 8 <= i -> (d1.crash ch).now i = s.d.now i := fun i hi => by
   rw [crash_now, applied_far i _ _ (fun x hx => by
    obtain ⟨t, ht, rfl⟩ := a5 x (chosen_mem _ _ hx)
    rw [hp]
    show s.first + 8 * k + 1 + t ≠ i
    omega), a4]
   exact h.rest.same i
  refine h.again (d1.crash ch) (crash_rest _ _) hn2 k hk hu (hoth _ (by omega)) (fun j i hj hjk hi => hoth _ (by omega))
theorem ToldR.clear2 {s : SS} {u : Nat -> Bool} {v : Nat -> List UInt8} (h : ToldR s u v) (k : Nat) (hk : k < s.rows.length) (hu : u k = true) :
  ((s.clear (k : Int)).1 = 0 /\ ToldR (s.clear (k : Int)).2 (fun j => if j = k then false else u j) v /\ (s.clear (k : Int)).2.rows.length = s.rows.length /\ (s.clear (k : Int)).2.first = s.first /\ (s.clear (k : Int)).2.d.n = s.d.n) ∨
  ((s.clear (k : Int)).1 = 14 /\ (s.clear (k : Int)).2.rows = s.rows /\ (s.clear (k : Int)).2.first = s.first /\ Lost2 s (s.clear (k : Int)).2.d u v k noRow (v k)) := by
 have hh : s.has (k : Int) := ⟨by omega, by omega⟩
 have hr : s.row (k : Int) = s.rows.getD k noRow := rfl
 have hp : s.pos (k : Int) = s.first + 8 * k := rfl
 have hroom := h.room
 have e2 : (fun j => if j = k then v k else v j) = v := by funext j; split <;> simp_all
 have hcl : s.clear (k : Int) = if (s.d.lays (s.pos k) (zeros 64)).1 ≠ 0 then ((s.d.lays (s.pos k) (zeros 64)).1, { s with d := (s.d.lays (s.pos k) (zeros 64)).2 }) else (0, { s with d := (s.d.lays (s.pos k) (zeros 64)).2, rows := s.rows.set k noRow }) := by
  unfold SS.clear
  rw [if_neg (by simpa using hh), hr, h.used k hk, hu, if_neg (by simp)]
  rfl
 rw [hcl]
 have hh1 : nsec (zeros 64).length = 1 := rfl
 rcases DS.lays_may (s.pos k) (zeros 64) h.rest (by rw [hh1, hp]; omega) with ⟨b1, b2, b3, b4⟩ | ⟨b1, b2, b3, b4, b5⟩
 ·left
  rw [if_neg (by rw [b1]; simp)]
  generalize (s.d.lays (s.pos k) (zeros 64)).2 = d2 at *
  rw [hp, hh1] at b4
  have h1 := h.of_now d2 b2 b3 k hk noRow (by rw [b4, if_pos (by omega), Nat.sub_self]; exact head_none) (fun j i hj hjk hi => by rw [b4, if_neg (by omega)]) (v k) (fun e => by cases e)
  rw [e2] at h1
  exact ⟨rfl, h1, by simp, rfl, b3⟩
 ·right
  rw [if_pos (by rw [b1]; simp)]
  generalize (s.d.lays (s.pos k) (zeros 64)).2 = d2 at *
  refine ⟨b1, rfl, rfl, b2, b3, fun ch => ?_⟩
  rw [hh1] at b5
  have hall : ∀ x ∈ chosen ch d2.since 0, x = (s.first + 8 * k, secAt (zeros 64) 0) := fun x hx => by
   obtain ⟨i, hi, rfl⟩ := b5 x (chosen_mem _ _ hx)
   obtain rfl : i = 0 := by omega
   rw [hp, Nat.add_zero]
  have hn2 : (d2.crash ch).n = s.d.n := b3
  have hl1 : ∀ i, d2.lasts i = s.d.now i := fun i => by rw [b4]; exact h.rest.same i
  have hoth : ∀ i, i ≠ s.first + 8 * k -> (d2.crash ch).now i = s.d.now i := fun i hi => by
   rw [crash_now, applied_far i _ _ (fun x hx => by rw [hall x hx]; exact fun e => hi e.symm), hl1]
  have hfar2 : ∀ j i, j < s.rows.length -> j ≠ k -> i < 8 -> (d2.crash ch).now (s.first + 8 * j + i) = s.d.now (s.first + 8 * j + i) := fun j i hj hjk hi => hoth _ (by omega)
  rcases applied_same (s.first + 8 * k) (secAt (zeros 64) 0) (chosen ch d2.since 0) d2.lasts hall with hA | hA
  ·refine .inl ?_
   have h1 := h.of_now (d2.crash ch) (crash_rest _ _) hn2 k hk (s.rows.getD k noRow) (by rw [crash_now, hA, hl1]; exact h.head k hk) hfar2 (v k) (fun _ => by
    have hsm := h.small k hk
    rw [flat_congr _ _ (fun i => s.d.now (s.first + 8 * k + 1 + i)) (fun i hi => hoth _ (by omega))]
    exact h.data k hk hu)
   rw [set_self _ _ hk, h.used k hk] at h1
   have e1 : (fun j => if j = k then u k else u j) = u := by funext j; split <;> simp_all
   rw [e1, e2] at h1
   exact h1
  ·refine .inr (h.of_now (d2.crash ch) (crash_rest _ _) hn2 k hk noRow ?_ hfar2 (v k) (fun e => by cases e))
   rw [crash_now, hA]
   exact head_none
structure DS.Zero (d : DS) (c : List UInt8) : Prop where
 now : d.now 0 = c
 lasts : d.lasts 0 = c
 since : ∀ x ∈ d.since, x.1 ≠ 0
theorem DS.Zero.write {d : DS} {c : List UInt8} (h : d.Zero c) (k : Nat) (hk : k ≠ 0) (b : List UInt8) : (d.write (k : Int) b).2.Zero c := by
 unfold DS.write
 split
 ·exact h
 ·split
  ·have hs : ∀ x ∈ d.since ++ [((k : Int).toNat, b)], x.1 ≠ 0 := fun x hx => by
    rcases List.mem_append.1 hx with hx | hx
    ·exact h.since x hx
    ·rw [List.mem_singleton.1 hx]; simpa using hk
   dsimp only
   unfold DS.op
   dsimp only
   by_cases hf : d.fuse = 0
   ·rw [if_pos hf]
    exact ⟨h.now, h.lasts, hs⟩
   ·rw [if_neg hf]
    refine ⟨?_, h.lasts, hs⟩
    show upd d.now (k : Int).toNat b 0 = c
    unfold upd
    rw [if_neg (by simp; omega)]
    exact h.now
  ·exact h
theorem DS.Zero.sync {d : DS} {c : List UInt8} (h : d.Zero c) : (d.sync).2.Zero c := by
 unfold DS.sync
 split
 ·exact h
 ·unfold DS.op
  by_cases hf : d.fuse = 0
  ·simp only [hf, if_true]
   exact ⟨h.now, h.lasts, h.since⟩
  ·simp only [hf, if_false, if_true]
   refine ⟨h.now, ?_, by simp⟩
   show applied d.since d.lasts 0 = c
   rw [applied_far 0 _ _ h.since]
   exact h.lasts
theorem DS.Zero.lay {c : List UInt8} (pos : Nat) (hp : pos ≠ 0) (b : List UInt8) : ∀ (k j : Nat) (d : DS), d.Zero c -> (d.lay pos b k j).2.Zero c
 | 0, j, d, h => h.sync
 | k + 1, j, d, h => by
  unfold DS.lay
  split
  ·exact h.write (pos + j) (by omega) _
  ·exact DS.Zero.lay pos hp b k (j + 1) _ (h.write (pos + j) (by omega) _)
theorem DS.Zero.lays {d : DS} {c : List UInt8} (h : d.Zero c) (pos : Nat) (hp : pos ≠ 0) (b : List UInt8) : (d.lays pos b).2.Zero c := DS.Zero.lay pos hp b _ _ d h
theorem DS.Zero.put {s : SS} {c : List UInt8} (h : s.d.Zero c) (hf : s.first ≠ 0) (i : Int) (key b : List UInt8) : (s.put i key b).2.d.Zero c := by
 have h1 : s.pos i ≠ 0 := by unfold SS.pos; omega
 have a := h.lays (s.pos i + 1) (by omega) b
 have a2 := a.lays (s.pos i) h1 (headBytes b.length key)
 unfold SS.put
 split
 ·exact h
 ·split
  ·exact h
  ·split
   ·exact h
   ·split
    ·exact a
    ·split
     ·exact a2
     ·exact a2
theorem DS.Zero.clear {s : SS} {c : List UInt8} (h : s.d.Zero c) (hf : s.first ≠ 0) (i : Int) : (s.clear i).2.d.Zero c := by
 have h1 : s.pos i ≠ 0 := by unfold SS.pos; omega
 have a := h.lays (s.pos i) h1 (zeros 64)
 unfold SS.clear
 split
 ·exact h
 ·split
  ·exact h
  ·split
   ·exact a
   ·exact a
theorem DS.Zero.crash {d : DS} {c : List UInt8} (h : d.Zero c) (ch : List UInt8) : (d.crash ch).Zero c := by
 have e : applied (chosen ch d.since 0) d.lasts 0 = c := by
  rw [applied_far 0 _ _ (fun x hx => h.since x (chosen_mem _ _ hx))]
  exact h.lasts
 exact ⟨e, e, by intro x hx; cases hx⟩
structure KeptR (t : Sto) (F : Frag) : Prop where
 told : ∃ u v, ToldR t.s u v /\ ∀ x, mayId x = true -> (F x = none /\ t.at x = []) ∨ ∃ i b, F x = some b /\ t.at x = [i] /\ v i = b
 out : ∀ x, mayId x = false -> F x = none
 keys : keysOk t.s.rows
 first : t.s.first = 1
 full : (t.s.d.n - 1) / 8 = t.s.rows.length /\ 9 <= t.s.d.n
 zero : t.s.d.Zero ((if t.whole then 2 else 1) :: zeros 63)
theorem KeptR.rest {t : Sto} {F : Frag} (h : KeptR t F) : t.s.d.Rest := by obtain ⟨u, v, h1, _⟩ := h.told; exact h1.rest
def Reopens (d : DS) (wh : Bool) (F : Frag) : Prop := ∃ t, d.stOpen = (0, some t) /\ KeptR t F /\ t.whole = wh /\ t.s.d = d
theorem reopens_of {t : Sto} {F : Frag} (h : KeptR t F) : Reopens t.s.d t.whole F := by
 refine ⟨t, ?_, h, rfl, rfl⟩
 obtain ⟨u, v, h1, _⟩ := h.told
 have hsl := h1.anew (by rw [h.first]; exact h.full.1) (by have := h.full.2; omega)
 rw [h.first] at hsl
 have hn := h.full.2
 unfold DS.stOpen
 rw [if_neg (by omega), if_neg (by rw [h1.rest.alive]; simp), h.zero.now]
 cases hw : t.whole with
 | true =>
  rw [if_neg (by
   rintro (⟨_, h2⟩ | h2)
   ·exact h2 rfl
   ·rw [show (((if true = true then (2 : UInt8) else 1) :: zeros 63)).drop 1 = zeros 63 from rfl, allZ_zeros] at h2; cases h2)]
  rw [show ((1 : Nat) : Int) = 1 from rfl] at hsl
  rw [hsl]
  dsimp only
  rw [if_pos (stKeys_iff.2 h.keys)]
  obtain ⟨ts, tw⟩ := t
  dsimp only at hw
  subst hw
  rfl
 | false =>
  rw [if_neg (by
   rintro (⟨h2, _⟩ | h2)
   ·exact h2 rfl
   ·rw [show (((if false = true then (2 : UInt8) else 1) :: zeros 63)).drop 1 = zeros 63 from rfl, allZ_zeros] at h2; cases h2)]
  rw [show ((1 : Nat) : Int) = 1 from rfl] at hsl
  rw [hsl]
  dsimp only
  rw [if_pos (stKeys_iff.2 h.keys)]
  obtain ⟨ts, tw⟩ := t
  dsimp only at hw
  subst hw
  rfl
theorem KeptR.at_none {t : Sto} {F : Frag} (h : KeptR t F) {x : Id} (hx : F x = none) : t.at x = [] := by
 by_cases hm : mayId x = true
 ·obtain ⟨u, v, _, h2⟩ := h.told
  rcases h2 x hm with ⟨_, h3⟩ | ⟨i, b, h3, _⟩
  ·exact h3
  ·rw [hx] at h3; cases h3
 ·exact Sto.at_not (by simpa using hm)
theorem KeptR.at_some {t : Sto} {F : Frag} (h : KeptR t F) {x : Id} {b : List UInt8} (hx : F x = some b) : mayId x = true /\ t.at x ≠ [] := by
 by_cases hm : mayId x = true
 ·obtain ⟨u, v, _, h2⟩ := h.told
  rcases h2 x hm with ⟨h3, _⟩ | ⟨i, b', h3, h4, _⟩
  ·rw [hx] at h3; cases h3
  ·exact ⟨hm, by rw [h4]; simp⟩
 ·rw [h.out x (by simpa using hm)] at hx; cases hx
theorem KeptR.get {t : Sto} {F : Frag} (h : KeptR t F) (x : Id) : t.get x = if mayId x = false then (([] : List UInt8), (1 : Int)) else match F x with | none => ([], 6) | some b => (b, 0) := by
 unfold Sto.get
 by_cases hm : mayId x = true
 ·rw [if_neg (by simp [hm]), if_neg (by simp [hm])]
  obtain ⟨u, v, h1, h2⟩ := h.told
  rcases h2 x hm with ⟨h3, h4⟩ | ⟨i, b, h3, h4, h5⟩
  ·rw [h3, h4]
  ·rw [h3, h4]
   dsimp only
   have hi : i ∈ upto t.s.rows t.s.rows.length (idKey x) := by rw [<- Sto.at_may hm, h4]; simp
   obtain ⟨a, b1, _⟩ := upto_mem.1 hi
   rw [h1.get i a, if_pos (by rw [<- h1.used i a]; exact b1), h5]
 ·rw [if_pos (by simpa using hm), if_pos (by simpa using hm)]
theorem KeptR.put_full {t : Sto} {F : Frag} (h : KeptR t F) {x : Id} (hm : mayId x = true) (hF : F x = none) {b : List UInt8} (hb : b.length <= 448) (hr : t.room = 0) : t.put x b = (5, t) := by
 have hfree : t.s.free < 0 := by
  unfold SS.free
  rcases rowFree_spec t.s.rows 0 with ⟨h1, _⟩ | ⟨n, h1, h2, h3, _⟩
  ·rw [h1]; omega
  ·unfold Sto.room at hr
   have := List.countP_eq_zero.1 hr _ (row_mem h1)
   rw [h3] at this; simp at this
 unfold Sto.put
 rw [if_neg (by simp [hm]), if_neg (by omega), h.at_none hF]
 dsimp only
 rw [if_pos hfree]
theorem KeptR.put_there {t : Sto} {F : Frag} (h : KeptR t F) {x : Id} {c : List UInt8} (hF : F x = some c) (b : List UInt8) (hb : b.length <= 448) : t.put x b = (if c = b then 0 else 7, t) := by
 obtain ⟨hm, hne⟩ := h.at_some hF
 have hg := h.get x
 rw [if_neg (by simp [hm]), hF] at hg
 unfold Sto.get at hg
 rw [if_neg (by simp [hm])] at hg
 unfold Sto.put
 rw [if_neg (by simp [hm]), if_neg (by omega)]
 cases hat : t.at x with
 | nil => exact absurd hat hne
 | cons i r =>
  rw [hat] at hg
  dsimp only at hg ⊢
  rw [hg, if_neg (by simp)]
  split <;> rfl
theorem KeptR.put_bad {t : Sto} {F : Frag} (h : KeptR t F) {x : Id} {b : List UInt8} (hm : mayId x = false ∨ 448 < b.length) : (t.put x b).1 ≠ 0 /\ (t.put x b).2 = t := by
 unfold Sto.put
 by_cases h1 : mayId x = false
 ·rw [if_pos h1]; exact ⟨by simp, rfl⟩
 ·rw [if_neg h1, if_pos (by rcases hm with h2 | h2; exact absurd h2 h1; exact h2)]
  exact ⟨by simp, rfl⟩
def DS.Fair (d : DS) : Prop := d.dead = false -> ∀ i, applied d.since d.lasts i = d.now i
theorem DS.Fair.write {d : DS} (h : d.Fair) (k : Int) (b : List UInt8) : (d.write k b).2.Fair := by
 unfold DS.write
 split
 ·exact h
 ·rename_i hd
  have h := h (by simpa using hd)
  split
  ·unfold DS.op
   by_cases hf : d.fuse = 0
   ·simp only [hf, if_true]
    intro hh; cases hh
   ·simp only [hf, if_false, if_true]
    intro _ i
    show applied (d.since ++ [(k.toNat, b)]) d.lasts i = upd d.now k.toNat b i
    rw [applied_snoc]
    unfold upd
    split
    ·rfl
    ·exact h i
  ·exact fun _ => h
theorem DS.Fair.sync {d : DS} (h : d.Fair) : (d.sync).2.Fair := by
 unfold DS.sync
 split
 ·exact h
 ·rename_i hd
  have h := h (by simpa using hd)
  unfold DS.op
  by_cases hf : d.fuse = 0
  ·simp only [hf, if_true]
   intro hh; cases hh
  ·simp only [hf, if_false, if_true]
   intro _ i
   exact h i
theorem DS.Fair.wipe : ∀ (k a : Nat) (d : DS), d.Fair -> (d.wipe k a).2.Fair
 | 0, a, d, h => h.sync
 | k + 1, a, d, h => by
  unfold DS.wipe
  split
  ·exact h.write _ _
  ·exact DS.Fair.wipe k (a + 8) _ (h.write _ _)
theorem DS.Fair.sign {d : DS} (h : d.Fair) (n : UInt8) : (d.sign n).2.Fair := by
 unfold DS.sign
 split
 ·exact h.write _ _
 ·exact (h.write _ _).sync
theorem format_fair {d : DS} (h : d.Fair) : d.format.2.Fair := by
 have h1 : d.fmt1.2.Fair := h.wipe _ _
 have h2 : d.fmt2.2.Fair := h1.sign 1
 unfold DS.format
 split
 ·exact h
 ·split
  ·exact h1
  ·split
   ·exact h2
   ·exact h2
theorem KeptR.new (n : Nat) (h9 : 9 <= n) : ∃ t d, (DS.new n).format = ((0, some t), d) /\ KeptR t (fun _ => none) /\ t.s.d = d /\ t.s.rows = List.replicate ((n - 1) / 8) noRow /\ d.n = n /\ d.ops <= n /\ t.whole = false /\ d.Live := by
 obtain ⟨d, h1, h2, h3, h4, h5, h6, h7⟩ := format_new n h9
 have hf : d.Fair := by
  have := format_fair (d := DS.new n) (fun _ _ => rfl)
  rw [h1] at this
  exact this
 have hl : ∀ i, d.lasts i = d.now i := fun i => by
  have := hf h2.1 i
  rw [h4] at this
  exact this
 refine ⟨_, d, h1, ⟨⟨fun _ => false, fun _ => [], ⟨⟨h2.1, h4, hl⟩, by show 1 + 8 * (List.replicate _ noRow).length <= d.n; rw [List.length_replicate]; omega, fun k hk => ?_, fun k hk => ?_, fun k hk hu => by cases hu⟩, fun x hx => .inl ⟨rfl, ?_⟩⟩, fun _ _ => rfl, fun r hr hu => ?_, rfl, ⟨?_, by show 9 <= d.n; omega⟩, ⟨h7, by show d.lasts 0 = _; rw [hl]; exact h7, by show ∀ x ∈ d.since, _; rw [h4]; simp⟩⟩, rfl, rfl, h3, h6, rfl, h2⟩
 ·rw [List.length_replicate] at hk
  show headOf (d.now (1 + 8 * k)) = _
  rw [h5 _ (by omega), List.getD_eq_getElem?_getD, List.getElem?_replicate, if_pos hk]
  rfl
 ·rw [List.length_replicate] at hk
  show ((List.replicate _ noRow).getD k noRow).used = false
  rw [List.getD_eq_getElem?_getD, List.getElem?_replicate, if_pos hk]
  rfl
 ·rw [Sto.at_may hx]
  cases hu : upto (List.replicate ((n - 1) / 8) noRow) (List.replicate ((n - 1) / 8) noRow).length (idKey x) with
  | nil => rfl
  | cons j r =>
   have hj : j ∈ upto (List.replicate ((n - 1) / 8) noRow) (List.replicate ((n - 1) / 8) noRow).length (idKey x) := by rw [hu]; simp
   obtain ⟨a, b, _⟩ := upto_mem.1 hj
   rw [List.length_replicate] at a
   rw [List.getD_eq_getElem?_getD, List.getElem?_replicate, if_pos a] at b
   simp [noRow] at b
 ·obtain rfl := List.eq_of_mem_replicate hr
  simp [noRow] at hu
 ·show (d.n - 1) / 8 = (List.replicate ((n - 1) / 8) noRow).length
  rw [List.length_replicate, h3]
section
variable {t : Sto} {F : Frag} {u : Nat -> Bool} {v : Nat -> List UInt8} {x : Id} {b : List UInt8} {i : Nat} {d2 : DS}
def Tells (t : Sto) (F : Frag) (u : Nat -> Bool) (v : Nat -> List UInt8) : Prop := ∀ x, mayId x = true -> (F x = none /\ t.at x = []) ∨ ∃ i b, F x = some b /\ t.at x = [i] /\ v i = b
theorem KeptR.same_row (h : KeptR t F) (ht : ToldR { t.s with d := d2 } u v) (ha : Tells t F u v) (hz : d2.Zero ((if t.whole then 2 else 1) :: zeros 63)) (hn : d2.n = t.s.d.n) : KeptR ⟨{ t.s with d := d2 }, t.whole⟩ F :=
 ⟨⟨u, v, ht, ha⟩, h.out, h.keys, h.first, ⟨by show (d2.n - 1) / 8 = _; rw [hn]; exact h.full.1, by show 9 <= d2.n; rw [hn]; exact h.full.2⟩, hz⟩
theorem KeptR.put_row (h : KeptR t F) (hm : mayId x = true) (hF : F x = none) (hil : i < t.s.rows.length) (hiu : (t.s.rows.getD i noRow).used = false)
  (ht : ToldR { t.s with d := d2, rows := t.s.rows.set i ⟨true, b.length, idKey x⟩ } (fun j => if j = i then true else u j) (fun j => if j = i then b else v j)) (ha : Tells t F u v) (hz : d2.Zero ((if t.whole then 2 else 1) :: zeros 63)) (hn : d2.n = t.s.d.n) :
  KeptR ⟨{ t.s with d := d2, rows := t.s.rows.set i ⟨true, b.length, idKey x⟩ }, t.whole⟩ (setF F x (some b)) := by
 have hat := h.at_none hF
 have hat2 : upto t.s.rows t.s.rows.length (idKey x) = [] := by rw [<- Sto.at_may hm]; exact hat
 have hat' : ∀ y, mayId y = true -> Sto.at ⟨{ t.s with d := d2, rows := t.s.rows.set i ⟨true, b.length, idKey x⟩ }, t.whole⟩ y = if y = x then [i] else t.at y := fun y hy => by
  rw [Sto.at_may hy, Sto.at_may hy]
  show upto (t.s.rows.set i ⟨true, b.length, idKey x⟩) (t.s.rows.set i ⟨true, b.length, idKey x⟩).length (idKey y) = _
  rw [upto_put hil hiu hat2]
  by_cases e : y = x
  ·subst e; rw [if_pos rfl, if_pos rfl]
  ·rw [if_neg e, if_neg (fun h => e (idKey_inj hy hm h))]
 refine ⟨⟨_, _, ht, fun y hy => ?_⟩, fun y hy => ?_, h.keys.set i (fun _ => (un_key hm).2), h.first, ⟨?_, by show 9 <= d2.n; rw [hn]; exact h.full.2⟩, hz⟩
 ·rw [hat' y hy]
  by_cases e : y = x
  ·subst e
   rw [setF_self, if_pos rfl]
   exact .inr ⟨i, b, rfl, rfl, by simp⟩
  ·rw [setF_other _ _ e, if_neg e]
   rcases ha y hy with h1 | ⟨j, c, h1, h2, h3⟩
   ·exact .inl h1
   ·refine .inr ⟨j, c, h1, h2, ?_⟩
    have hj : j ∈ upto t.s.rows t.s.rows.length (idKey y) := by rw [<- Sto.at_may hy, h2]; simp
    obtain ⟨_, hju, _⟩ := upto_mem.1 hj
    have : j ≠ i := fun e => by subst e; rw [hiu] at hju; cases hju
    simp only [this, if_false]
    exact h3
 ·have : y ≠ x := fun e => by subst e; rw [hm] at hy; cases hy
  rw [setF_other _ _ this]
  exact h.out y hy
 ·show (d2.n - 1) / 8 = (t.s.rows.set i ⟨true, b.length, idKey x⟩).length
  rw [List.length_set, hn]; exact h.full.1
theorem KeptR.clear_row (h : KeptR t F) (hm : mayId x = true) (hat : t.at x = [i])
  (ht : ToldR { t.s with d := d2, rows := t.s.rows.set i noRow } (fun j => if j = i then false else u j) v) (ha : Tells t F u v) (hz : d2.Zero ((if t.whole then 2 else 1) :: zeros 63)) (hn : d2.n = t.s.d.n) :
  KeptR ⟨{ t.s with d := d2, rows := t.s.rows.set i noRow }, t.whole⟩ (setF F x none) := by
 have hat2 : upto t.s.rows t.s.rows.length (idKey x) = [i] := by rw [<- Sto.at_may hm]; exact hat
 have hat' : ∀ y, mayId y = true -> Sto.at ⟨{ t.s with d := d2, rows := t.s.rows.set i noRow }, t.whole⟩ y = if y = x then [] else t.at y := fun y hy => by
  rw [Sto.at_may hy, Sto.at_may hy]
  show upto (t.s.rows.set i noRow) (t.s.rows.set i noRow).length (idKey y) = _
  rw [upto_clear hat2]
  by_cases e : y = x
  ·subst e; rw [if_pos rfl, if_pos rfl]
  ·rw [if_neg e, if_neg (fun h => e (idKey_inj hy hm h))]
 refine ⟨⟨_, _, ht, fun y hy => ?_⟩, fun y hy => ?_, h.keys.set i (fun h => by simp [noRow] at h), h.first, ⟨?_, by show 9 <= d2.n; rw [hn]; exact h.full.2⟩, hz⟩
 ·rw [hat' y hy]
  by_cases e : y = x
  ·subst e
   rw [setF_self, if_pos rfl]
   exact .inl ⟨rfl, rfl⟩
  ·rw [setF_other _ _ e, if_neg e]
   exact ha y hy
 ·have : y ≠ x := fun e => by subst e; rw [hm] at hy; cases hy
  rw [setF_other _ _ this]
  exact h.out y hy
 ·show (d2.n - 1) / 8 = (t.s.rows.set i noRow).length
  rw [List.length_set, hn]; exact h.full.1
end
theorem SS.eta3 (s z : SS) (rows : List SRow) (h1 : z.first = s.first) (h2 : z.rows = rows) : z = { s with d := z.d, rows := rows } := by
 obtain ⟨d, f, r⟩ := z
 dsimp only at h1 h2
 subst h1; subst h2
 rfl
theorem KeptR.put_may {t : Sto} {F : Frag} (h : KeptR t F) {x : Id} (hm : mayId x = true) (hF : F x = none) {b : List UInt8} (hb : b.length <= 448) (hr : 0 < t.room) :
  ((t.put x b).1 = 0 /\ KeptR (t.put x b).2 (setF F x (some b)) /\ (t.put x b).2.room + 1 = t.room /\ (t.put x b).2.whole = t.whole) ∨
  ((t.put x b).1 = 14 /\ (t.put x b).2.s.d.dead = true /\ ∀ ch, Reopens ((t.put x b).2.s.d.crash ch) t.whole F ∨ Reopens ((t.put x b).2.s.d.crash ch) t.whole (setF F x (some b))) := by
 have hfree : ¬ t.s.free < 0 := by
  intro hf
  unfold SS.free at hf
  rcases rowFree_spec t.s.rows 0 with ⟨_, h2⟩ | ⟨n, h1, h2, h3, _⟩
  ·unfold Sto.room at hr
   obtain ⟨r, hr1, hr2⟩ := List.countP_pos_iff.1 hr
   rw [h2 r hr1] at hr2; simp at hr2
  ·rw [h2] at hf; omega
 obtain ⟨i, hfi, hil, hiu⟩ := SS.free_ok hfree
 have hat := h.at_none hF
 obtain ⟨u, v, htold, hall⟩ := h.told
 have hui : u i = false := by rw [<- htold.used i hil]; exact hiu
 have hput : t.put x b = ((t.s.put (i : Int) (idKey x) b).1, { t with s := (t.s.put (i : Int) (idKey x) b).2 }) := by
  unfold Sto.put
  rw [if_neg (by simp [hm]), if_neg (by omega), hat]
  dsimp only
  rw [if_neg hfree, hfi]
 have hz := h.zero.put (by rw [h.first]; simp) (i : Int) (idKey x) b
 rw [hput]
 dsimp only
 rcases htold.put2 i hil (idKey x) b hui (by rw [idKey_len]; omega) hb with ⟨p1, p2, p3, p4, p5⟩ | ⟨p1, p2, p3, p4, p5, p6⟩
 ·left
  obtain ⟨_, _, hrows⟩ := SS.put_done p1
  have hrows' : (t.s.put (i : Int) (idKey x) b).2.rows = t.s.rows.set i ⟨true, b.length, idKey x⟩ := by rw [hrows]; simp
  have e := SS.eta3 t.s _ _ p4 hrows'
  refine ⟨p1, ?_, ?_, rfl⟩
  ·rw [e] at p2
   show KeptR ⟨(t.s.put (i : Int) (idKey x) b).2, t.whole⟩ _
   rw [e]
   exact h.put_row hm hF hil hiu p2 hall hz p5
  ·show (t.s.put (i : Int) (idKey x) b).2.rows.countP (fun r => !r.used) + 1 = t.s.rows.countP (fun r => !r.used)
   rw [hrows']
   have := countP_put ⟨true, b.length, idKey x⟩ hil (fun r => !r.used)
   simp only [hiu, Bool.not_false, if_true, Bool.not_true, Bool.false_eq_true, if_false, Nat.add_zero] at this
   exact this
 ·right
  refine ⟨p1, p4, fun ch => ?_⟩
  have hzc := hz.crash ch
  have hnc : ((t.s.put (i : Int) (idKey x) b).2.d.crash ch).n = t.s.d.n := p5
  rcases p6 ch with h6 | h6
  ·exact .inl (reopens_of (h.same_row h6 hall hzc hnc))
  ·exact .inr (reopens_of (h.put_row hm hF hil hiu h6 hall hzc hnc))
theorem KeptR.del_may {t : Sto} {F : Frag} (h : KeptR t F) {x : Id} (hm : mayId x = true) :
  ((t.del x).1 = 0 /\ KeptR (t.del x).2 (setF F x none) /\ (t.del x).2.room = t.room + (if (F x).isSome then 1 else 0) /\ (F x = none -> (t.del x).2 = t) /\ (t.del x).2.whole = t.whole) ∨
  ((t.del x).1 = 14 /\ (t.del x).2.s.d.dead = true /\ (F x).isSome = true /\ ∀ ch, Reopens ((t.del x).2.s.d.crash ch) t.whole F ∨ Reopens ((t.del x).2.s.d.crash ch) t.whole (setF F x none)) := by
 obtain ⟨u, v, htold, hall⟩ := h.told
 unfold Sto.del
 rw [if_neg (by simp [hm])]
 rcases hall x hm with ⟨h1, h2⟩ | ⟨i, b, h1, h2, h3⟩
 ·left
  rw [h2, h1]
  have e : setF F x none = F := by
   funext y
   unfold setF
   split
   ·rename_i e; rw [e, h1]
   ·rfl
  rw [e]
  exact ⟨rfl, h, rfl, fun _ => rfl, rfl⟩
 ·have hi : i ∈ upto t.s.rows t.s.rows.length (idKey x) := by rw [<- Sto.at_may hm, h2]; simp
  obtain ⟨hil, hiu, hik⟩ := upto_mem.1 hi
  have hui : u i = true := by rw [<- htold.used i hil]; exact hiu
  have hz := h.zero.clear (by rw [h.first]; simp) (i : Int)
  have e2 : (fun j => if j = i then v i else v j) = v := by funext j; split <;> simp_all
  rcases htold.clear2 i hil hui with ⟨p1, p2, p3, p4, p5⟩ | ⟨p1, p2, p3, p4, p5, p6⟩
  ·left
   have hcl : t.s.clears [i] = (0, (t.s.clear (i : Int)).2) := by
    unfold SS.clears
    rw [if_neg (by rw [p1]; simp)]
    rfl
   rw [h2, hcl, h1]
   obtain ⟨_, _, hrows⟩ := SS.clear_done p1
   have hrows' : (t.s.clear (i : Int)).2.rows = t.s.rows.set i noRow := by rw [hrows]; simp
   have e := SS.eta3 t.s _ _ p4 hrows'
   refine ⟨rfl, ?_, ?_, (fun h => by cases h), rfl⟩
   ·rw [e] at p2
    show KeptR ⟨(t.s.clear (i : Int)).2, t.whole⟩ _
    rw [e]
    exact h.clear_row hm h2 p2 hall hz p5
   ·show (t.s.clear (i : Int)).2.rows.countP (fun r => !r.used) = t.s.rows.countP (fun r => !r.used) + _
    rw [hrows']
    have := countP_put noRow hil (fun r => !r.used)
    rw [hiu] at this
    simpa [noRow] using this
  ·right
   have hcl : t.s.clears [i] = (14, (t.s.clear (i : Int)).2) := by
    unfold SS.clears
    rw [if_pos (by rw [p1]; simp)]
    rw [<- p1]
   rw [h2, hcl, h1]
   refine ⟨rfl, p4, rfl, fun ch => ?_⟩
   have hzc := hz.crash ch
   have hnc : ((t.s.clear (i : Int)).2.d.crash ch).n = t.s.d.n := p5
   rcases p6 ch with h6 | h6
   ·exact .inl (reopens_of (h.same_row h6 hall hzc hnc))
   ·rw [e2] at h6
    exact .inr (reopens_of (h.clear_row hm h2 h6 hall hzc hnc))
theorem same_of (l m : List UInt8) (h : l.length = m.length) (hq : ∀ q, q < l.length -> l.getD q 0 = m.getD q 0) : l = m := by
 apply List.ext_getElem h
 intro i h1 h2
 have := hq i h1
 simpa [List.getD_eq_getElem?_getD, List.getElem?_eq_getElem h1, List.getElem?_eq_getElem h2] using this
theorem bv_neq (a b : UInt8) (h : a ≠ b) : (((a.toNat : Int) != (b.toNat : Int)) = true) := by
 rw [bne_iff_ne]
 intro e
 exact h (UInt8.toNat_inj.1 (by omega))
theorem same_any (u v : Value) (l m : List UInt8) (w : World) (hu : BytesAt w u l) (hv : BytesAt w v m) (hl : l.length <= 1000000000) (hm : m.length <= 1000000000) :
  Calls Tryz.prog 14 #[u, v] w fun e w' => e = .returned (.bool (decide (l = m))) /\ ∃ n, w' = w.drewN n := by
 obtain ⟨au, cu, rfl, hlu, _, hu⟩ := hu
 obtain ⟨av, cv, rfl, hlv, _, hv⟩ := hv
 obtain ⟨d, hd⟩ : ∃ d, d = decide (l = m) := ⟨_, rfl⟩
 rw [<- hd]
 have HD := LH hd
 clear hd
 have HU := LH hu
 have HV := LH hv
 clear hu hv
 by_cases hlen : l.length = m.length
 ·have hmz : ((l.length : Int) != (m.length : Int)) = false := by rw [hlen]; simp
  have HL := LH hlen
  have hml : m.length = l.length := hlen.symm
  rw [hml]
  clear hlen hml hmz
  go_enter Tryz.func14, Tryz.ntmps14
  go_wp2
  go_loopg [5] l.length (fun g' s5 wr => ∃ (j n : Nat), s5 = .int .i64 j /\ j <= l.length /\ l.length <= j + g' /\ Hid (∀ q, q < j -> l.getD q 0 = m.getD q 0) /\ wr = w.drewN n)
  case atStart => exact ⟨0, 0, rfl, by omega, by omega, fun q hq => absurd hq (by omega), rfl⟩
  case round =>
   obtain ⟨j, n, rfl, hj, hjg, HQ, rfl⟩ := hrel
   by_cases hlt : j < l.length
   ·rcases HU.out with ⟨h0, _⟩ | ⟨gu, ou, rfl, hcu⟩
    ·rw [h0] at hlt; simp at hlt
    rcases HV.out with ⟨h0, _⟩ | ⟨gv, ov, rfl, hcv⟩
    ·have := HL.out; rw [h0, List.length_nil] at this; omega
    obtain ⟨x, hx, c0⟩ : ∃ x, l.getD j 0 = x /\ w.cell? ⟨gu, ou + j, none⟩ = some (.int .u8 (x.toNat : Int)) := ⟨_, rfl, hcu j hlt⟩
    obtain ⟨y, hy, c1⟩ : ∃ y, m.getD j 0 = y /\ w.cell? ⟨gv, ov + j, none⟩ = some (.int .u8 (y.toNat : Int)) := ⟨_, rfl, hcv j (by rw [<- HL.out]; exact hlt)⟩
    have HX := LH hx
    have HY := LH hy
    have hjz : (j : Int) < (l.length : Int) := by omega
    have hjz0 : (0 : Int) <= (j : Int) := by omega
    have hjz1 : (j : Int).toNat = j := by omega
    clear hcu hcv hx hy
    by_cases hxy : x = y
    ·subst hxy
     go_wp2
     go_quiet (fail)
     go_wp2
     go_roundg (gk - 1)
     case measure => omega
     case rel =>
      refine ⟨j + 1, _, by go_num, by omega, by omega, ?_, rfl⟩
      intro q hq
      rcases Nat.lt_or_ge q j with h | h
      ·exact HQ.out q h
      ·obtain rfl : q = j := by omega
       rw [HX.out, HY.out]
    ·have hne := bv_neq x y hxy
     have hd : Hid (d = false) := LH (by
      rw [HD.out, decide_eq_false_iff_not]
      intro e
      have h1 := HX.out
      rw [e] at h1
      exact hxy (h1.symm.trans HY.out))
     clear hxy
     go_wp2
     go_quiet (fail)
     go_wp2
     go_ret
     exact ⟨ret_bool hd.out.symm, _, World.drewN_drewN ..⟩
   ·have hd : Hid (d = true) := LH (by
     rw [HD.out, decide_eq_true_iff]
     exact same_of l m HL.out (fun q hq => HQ.out q (by omega)))
    go_wp2
    go_ret
    exact ⟨ret_bool hd.out.symm, _, rfl⟩
 ·have hmz : ((l.length : Int) != (m.length : Int)) = true := by rw [bne_iff_ne]; omega
  have hd : Hid (d = false) := LH (by
   rw [HD.out, decide_eq_false_iff_not]
   intro e
   exact hlen (by rw [e]))
  clear hlen
  go_enter Tryz.func14, Tryz.ntmps14
  go_wp2
  go_ret
  exact ⟨ret_bool hd.out.symm, 0, rfl⟩
section
open Go.RowKit
def Kp (X : List Nat) (w w' : World) : Prop := ∀ k ∈ X, w'.heap[k]? = w.heap[k]?
def Own6 (X : List Nat) (w0 w : World) (q p : Nat) (t : Sto) : Prop := ∃ U, StAt [] w q p U t /\ (∀ x ∈ U, w0.heap.size <= x) /\ Chg [] w0 w /\ ∀ x ∈ X, x ∉ U /\ x < w.heap.size
variable {X : List Nat} {w0 w : World} {q p : Nat} {t : Sto}
theorem Own6.did {w' : World} {t' : Sto} {U : List Nat} (h2 : ∀ x ∈ U, w0.heap.size <= x) (h3 : Chg [] w0 w) (h4 : ∀ x ∈ X, x ∉ U /\ x < w.heap.size) (hd : Std [] w w' q p U t') : Own6 X w0 w' q p t' /\ Kp X w w' := by
 obtain ⟨U', d1, d2, d3⟩ := hd
 have hs := h3.size
 refine ⟨⟨U', d1, fun x hx => ?_, h3.trans d3 (fun x hx => .inr (h2 x hx)), fun x hx => ⟨fun hm => ?_, Nat.lt_of_lt_of_le (h4 x hx).2 d3.size⟩⟩, fun x hx => d3.block x (h4 x hx).2 (h4 x hx).1⟩
 ·rcases d2 x hx with h | h
  ·exact h2 x h
  ·omega
 ·rcases d2 x hm with h | h
  ·exact (h4 x hx).1 h
  ·have := (h4 x hx).2; omega
theorem own_disk (n : Nat) (w : World) (h2 : 2 <= n) (hm : n <= 4160) : Calls Tryz.prog 44 #[.int .i64 (n : Int)] w fun e w' => ∃ p S, e = .returned (.tuple #[.pointer (some ⟨p, 0, none⟩), .int .i64 0]) /\ DiskAt w' p S (DS.new n) /\ (∀ x ∈ S, w.heap.size <= x) /\ Chg [] w w' :=
 (dnew_any n w h2 hm).mono fun e w' ⟨p, S, h1, h3, h4, h5⟩ => ⟨p, S, h1, h3, h4, h5⟩
theorem own_format {S : List Nat} {w1 : World} {n : Nat} {t : Sto} {d : DS} (hd : DiskAt w1 p S (DS.new n)) (hS : ∀ x ∈ S, w0.heap.size <= x) (hc : Chg [] w0 w1) (hf : (DS.new n).format = ((0, some t), d)) : Calls Tryz.prog 45 #[.pointer (some ⟨p, 0, none⟩)] w1 fun e w' => ∃ q, e = .returned (.tuple #[.pointer (some ⟨q, 0, none⟩), .int .i64 0]) /\ Own6 [] w0 w' q p t := by
 have h := format_any p S (DS.new n) w1 hd (by show 0 <= _; omega) (by show 0 <= _; omega)
 rw [hf] at h
 refine h.mono ?_
 rintro e w' ⟨q, U, rfl, h1, h2, h3⟩
 have hs := hc.size
 refine ⟨q, rfl, U, h1, fun x hx => ?_, hc.trans h3 (fun x hx => .inr (hS x hx)), by simp⟩
 rcases h2 x hx with h | h
 ·exact hS x h
 ·omega
end
section
open Go.RowKit Go.ChangeShapes Go.WideShapes
section
variable {H : Type} {enc : TypeId × Value -> H} {w : World} {base : Nat} {held : Bool} {spare : Nat -> Bool}
end
end
section
variable {P : Program} {ops : Array Oper} {Q : Exit -> Act -> World -> Prop} {md : Region.Mode} {cs : List (Nat × (World -> Prop))}
def pathB (md : Region.Mode) (ops : Array Oper) : Nat -> List Nat -> Nat -> Bool
 | d, [], i => match ops[d]? with
  | none => false
  | some o => o.after.any fun e => Region.binds md e && e.on == i
 | d, x :: xs, i => (match ops[d]? with
  | none => false
  | some o => o.after.any fun e => Region.binds md e && e.on == x) && pathB md ops x xs i
theorem step_open {L : Array Bool} (hc : Closed md ops L) {d x : Nat} (hx : L.getD x true = false) (h : (match ops[d]? with
  | none => false
  | some o => o.after.any fun e => Region.binds md e && e.on == x) = true) : L.getD d true = false := by
 cases ho : ops[d]? with
 | none => rw [ho] at h; cases h
 | some o =>
  simp only [ho] at h
  obtain ⟨e, he, h1⟩ := Array.any_eq_true'.1 h
  simp only [Bool.and_eq_true, beq_iff_eq] at h1
  cases hd : L.getD d true with
  | false => rfl
  | true =>
   have h2 := hc d o ho hd e he h1.1
   obtain ⟨_, rfl⟩ := h1
   rw [Array.getD_eq_getD_getElem?] at hx h2
   cases hq : L[e.on]? with
   | none => rw [hq] at h2; cases h2
   | some b => rw [hq] at hx h2; simp at hx h2; rw [hx] at h2; cases h2
theorem path_open {L : Array Bool} (hc : Closed md ops L) {i : Nat} (hi : L.getD i true = false) : ∀ (xs : List Nat) (d : Nat), pathB md ops d xs i = true -> L.getD d true = false := by
 intro xs
 induction xs with
 | nil => intro d h; exact step_open hc hi h
 | cons x xs ih =>
  intro d h
  unfold pathB at h
  rw [Bool.and_eq_true] at h
  exact step_open hc (ih x h.2) h.1
theorem wpAnyL_loadP (k : Nat) (xs : List Nat) {i d : Nat} {C : World -> Prop} {oi : Oper} {v : Value} {fuel : Nat} {L : Array Bool} {a : Act} {w : World} (hk : cs[k]? = some (d, C)) (hi : ops[i]? = some oi)
  (hs : Region.noSelect ops = true) (hcl : closedB md ops L = true) (hf : Region.free md ops L i = true) (hr : (Region.ready md ops L).contains i = true) (hne : cs.all (fun c => c.1 != i) = true) (hanc : pathB md ops d xs i = true)
  (hQ : ∀ c a w, Q (.panic c) (a.put oi.dst v) w -> Q (.panic c) a w) (hy : YieldsIf P ops C oi v a) (hS : HoldC cs L w)
  (h : HoldC cs (L.setIfInBounds i true) w -> wpAnyL P md ops Q cs fuel (L.setIfInBounds i true) (a.put oi.dst v) w) : wpAnyL P md ops Q cs (fuel + 1) L a w :=
 wpAnyL_first hi (Region.noSelect_spec hs) hQ (fun L w h1 h2 h3 => h3 _ (List.mem_of_getElem? hk) (path_open h1 h2 _ _ hanc)) (fun c hc => by simpa using List.all_eq_true.1 hne c hc) fuel L a w (closed_of hcl) (Region.free_spec hi hf) (by simpa using hr) hy hS (h (hS.set _))
end
theorem SS.clears_ok : ∀ (l : List Nat) (s : SS), (s.clears l).2.d.ops <= s.d.ops + 2 * l.length /\ (s.clears l).2.d.since.length <= s.d.since.length + l.length
 | [], s => ⟨Nat.le_refl _, Nat.le_refl _⟩
 | i :: r, s => by
  obtain ⟨h1, h2, _⟩ := s.clear_ok (i : Int)
  obtain ⟨g1, g2⟩ := SS.clears_ok r (s.clear (i : Int)).2
  rw [clears_cons, List.length_cons]
  split
  ·exact ⟨by omega, by omega⟩
  ·exact ⟨by omega, by omega⟩
theorem Sto.at_len (t : Sto) (x : Id) : (t.at x).length <= t.s.rows.length := by
 unfold Sto.at
 split
 ·exact upto_len _ _ _
 ·simp
theorem Sto.del_ok (t : Sto) (x : Id) : (t.del x).2.s.d.ops <= t.s.d.ops + 2 * t.s.rows.length /\ (t.del x).2.s.d.since.length <= t.s.d.since.length + t.s.rows.length := by
 have hl := t.at_len x
 obtain ⟨h1, h2⟩ := SS.clears_ok (t.at x) t.s
 unfold Sto.del
 split
 ·exact ⟨by dsimp only; omega, by dsimp only; omega⟩
 ·exact ⟨by dsimp only; omega, by dsimp only; omega⟩
structure Rq where
 k : Int
 x : Id
 b : List UInt8
structure Rp where
 e : Int
 b : List UInt8
 ids : List Id
 room : Int
 whole : Bool
def noRp : Rp := ⟨0, [], [], 0, false⟩
def errRp (e : Int) : Rp := ⟨e, [], [], 0, false⟩
def rqL (r : Rq) (bv : Value) : List Value := [.int .i64 r.k, .int .i64 r.x.c, .int .i64 r.x.l, .int .i64 r.x.n, .int .i64 r.x.i, bv]
def rqV (r : Rq) (bv : Value) : Value := .agg (rqL r bv).toArray
def rpL (e : Int) (bv iv : Value) (room : Int) (wh : Bool) : List Value := [.int .i64 e, bv, iv, .int .i64 room, .bool wh]
def rpV (e : Int) (bv iv : Value) (room : Int) (wh : Bool) : Value := .agg (rpL e bv iv room wh).toArray
def zeroRp : Array Value := #[.int .i64 0, .slice none 0 0, .slice none 0 0, .int .i64 0, .bool false]
theorem rp_size (e room : Int) (bv iv : Value) (wh : Bool) : (Tryz.prog.info? 52).map (·.size) = some (rpL e bv iv room wh).toArray.size := by kernel_rfl
theorem five_there {w : World} {b t : Nat} {a0 a1 a2 a3 a4 : Value} (h : w.heap[b]? = some (.cells #[a0, a1, a2, a3, a4] t (0, 0))) (n : Nat) (hn : n = 5) : w.there b 0 n := fun j hj => by
 subst hn
 rw [Nat.zero_add]
 refine ⟨?_, blk_frozen h j⟩
 have h2 : (#[a0, a1, a2, a3, a4] : Array Value)[j]? = some (#[a0, a1, a2, a3, a4][j]'(by simpa using hj)) := Array.getElem?_eq_getElem _
 rw [blk_cell h j _ h2]
 rfl
theorem five_set {w : World} {b t : Nat} {a0 a1 a2 a3 a4 : Value} (h : w.heap[b]? = some (.cells #[a0, a1, a2, a3, a4] t (0, 0))) (u0 u1 u2 u3 u4 : Value) : (w.setCells b 0 [u0, u1, u2, u3, u4]).heap[b]? = some (.cells #[u0, u1, u2, u3, u4] t (0, 0)) := by
 simp only [World.setCells]
 have h0 : (w.setCell ⟨b, 0, none⟩ u0).heap[b]? = some (.cells #[u0, a1, a2, a3, a4] t (0, 0)) := set_blk h
 generalize w.setCell ⟨b, 0, none⟩ u0 = x0 at *
 have h1 : (x0.setCell ⟨b, 0 + 1, none⟩ u1).heap[b]? = some (.cells #[u0, u1, a2, a3, a4] t (0, 0)) := set_blk h0
 generalize x0.setCell ⟨b, 0 + 1, none⟩ u1 = x1 at *
 have h2 : (x1.setCell ⟨b, 0 + 1 + 1, none⟩ u2).heap[b]? = some (.cells #[u0, u1, u2, a3, a4] t (0, 0)) := set_blk h1
 generalize x1.setCell ⟨b, 0 + 1 + 1, none⟩ u2 = x2 at *
 have h3 : (x2.setCell ⟨b, 0 + 1 + 1 + 1, none⟩ u3).heap[b]? = some (.cells #[u0, u1, u2, u3, a4] t (0, 0)) := set_blk h2
 generalize x2.setCell ⟨b, 0 + 1 + 1 + 1, none⟩ u3 = x3 at *
 exact set_blk h3
theorem rq_cells {w : World} {N t : Nat} {k xc xl xn xi : Int} {b : List UInt8} {bv : Value} (h : w.heap[N]? = some (.cells (rqL ⟨k, ⟨xc, xl, xn, xi⟩, b⟩ bv).toArray t (0, 0))) : w.cell? ⟨N, 0, none⟩ = some (.int .i64 k) /\ (w.cell? ⟨N, 1, none⟩ = some (.int .i64 xc) /\ w.cell? ⟨N, 2, none⟩ = some (.int .i64 xl) /\ w.cell? ⟨N, 3, none⟩ = some (.int .i64 xn) /\ w.cell? ⟨N, 4, none⟩ = some (.int .i64 xi)) /\ w.cell? ⟨N, 5, none⟩ = some bv :=
 ⟨blk_cell h 0 _ rfl, ⟨blk_cell h 1 _ rfl, blk_cell h 2 _ rfl, blk_cell h 3 _ rfl, blk_cell h 4 _ rfl⟩, blk_cell h 5 _ rfl⟩
section
def lostOf (wh : Bool) (e : Int) : Int := if e = 6 /\ wh = false then 15 else e
def Sto.step (t : Sto) (r : Rq) : Rp × Sto :=
 if r.k = 1 then (errRp (t.put r.x r.b).1, (t.put r.x r.b).2)
 else if r.k = 2 then (⟨lostOf t.whole (t.get r.x).2, (t.get r.x).1, [], 0, false⟩, t)
 else if r.k = 3 then (errRp (t.del r.x).1, (t.del r.x).2)
 else if r.k = 4 then (⟨0, [], t.ids, 0, false⟩, t)
 else if r.k = 5 then (⟨0, [], [], (t.room : Int), t.whole⟩, t)
 else if r.k = 6 then (errRp t.setWhole.1, t.setWhole.2)
 else (errRp 1, t)
def Sto.run (t : Sto) (r : Rq) : (Rp × Int) × Sto :=
 if t.s.d.dead then ((noRp, 14), t) else if (t.step r).2.s.d.dead then ((noRp, 14), (t.step r).2) else (((t.step r).1, 0), (t.step r).2)
theorem step1 (t : Sto) (x : Id) (b : List UInt8) : t.step ⟨1, x, b⟩ = (errRp (t.put x b).1, (t.put x b).2) := rfl
theorem step2 (t : Sto) (x : Id) (b : List UInt8) : t.step ⟨2, x, b⟩ = (⟨lostOf t.whole (t.get x).2, (t.get x).1, [], 0, false⟩, t) := rfl
theorem step3 (t : Sto) (x : Id) (b : List UInt8) : t.step ⟨3, x, b⟩ = (errRp (t.del x).1, (t.del x).2) := rfl
theorem step4 (t : Sto) (x : Id) (b : List UInt8) : t.step ⟨4, x, b⟩ = (⟨0, [], t.ids, 0, false⟩, t) := rfl
theorem step5 (t : Sto) (x : Id) (b : List UInt8) : t.step ⟨5, x, b⟩ = (⟨0, [], [], (t.room : Int), t.whole⟩, t) := rfl
theorem step6 (t : Sto) (x : Id) (b : List UInt8) : t.step ⟨6, x, b⟩ = (errRp t.setWhole.1, t.setWhole.2) := rfl
theorem step0 (t : Sto) (r : Rq) (h : r.k < 1 ∨ 6 < r.k) : t.step r = (errRp 1, t) := by
 unfold Sto.step
 rw [if_neg (by omega), if_neg (by omega), if_neg (by omega), if_neg (by omega), if_neg (by omega), if_neg (by omega)]
theorem DS.Live.op {d : DS} (h : d.Live) : d.op.2.Live := by
 obtain ⟨h1, h2⟩ := h
 unfold DS.op
 rw [if_neg (by omega)]
 exact ⟨h1, by show (if 0 < d.fuse then d.fuse - 1 else d.fuse) < 0; rw [if_neg (by omega)]; exact h2⟩
theorem DS.Live.write {d : DS} (h : d.Live) (k : Int) (b : List UInt8) : (d.write k b).2.Live := by
 unfold DS.write
 split
 ·exact h
 ·split
  ·have h1 := DS.Live.op (d := { d with since := d.since ++ [(k.toNat, b)] }) h
   dsimp only
   split
   ·exact h1
   ·exact h1
  ·exact h
theorem DS.Live.sync {d : DS} (h : d.Live) : (d.sync).2.Live := by
 unfold DS.sync
 split
 ·exact h
 ·dsimp only
  split
  ·exact h.op
  ·exact h.op
theorem DS.Live.lay (pos : Nat) (b : List UInt8) : ∀ (k j : Nat) (d : DS), d.Live -> (d.lay pos b k j).2.Live
 | 0, j, d, h => h.sync
 | k + 1, j, d, h => by
  unfold DS.lay
  split
  ·exact h.write _ _
  ·exact DS.Live.lay pos b k (j + 1) _ (h.write _ _)
theorem DS.Live.lays {d : DS} (h : d.Live) (pos : Nat) (b : List UInt8) : (d.lays pos b).2.Live := DS.Live.lay _ _ _ _ _ h
theorem DS.Live.put {s : SS} (h : s.d.Live) (i : Int) (key b : List UInt8) : (s.put i key b).2.d.Live := by
 unfold SS.put
 split
 ·exact h
 ·split
  ·exact h
  ·split
   ·exact h
   ·split
    ·exact h.lays _ _
    ·split
     ·exact (h.lays _ _).lays _ _
     ·exact (h.lays _ _).lays _ _
theorem DS.Live.clear {s : SS} (h : s.d.Live) (i : Int) : (s.clear i).2.d.Live := by
 unfold SS.clear
 split
 ·exact h
 ·split
  ·exact h
  ·split
   ·exact h.lays _ _
   ·exact h.lays _ _
theorem DS.Live.clears : ∀ (l : List Nat) (s : SS), s.d.Live -> (s.clears l).2.d.Live
 | [], s, h => h
 | i :: r, s, h => by
  rw [clears_cons]
  split
  ·exact h.clear _
  ·exact DS.Live.clears r _ (h.clear _)
theorem live_put {t : Sto} (h : t.s.d.Live) (x : Id) (b : List UInt8) : (t.put x b).2.s.d.Live := by
 unfold Sto.put
 split
 ·exact h
 ·split
  ·exact h
  ·split
   ·split
    ·exact h
    ·split <;> exact h
   ·split
    ·exact h
    ·exact h.put _ _ _
theorem live_del {t : Sto} (h : t.s.d.Live) (x : Id) : (t.del x).2.s.d.Live := by
 unfold Sto.del
 split
 ·exact h
 ·exact DS.Live.clears _ _ h
structure Keep (t : Sto) (F : Frag) : Prop where
 kept : KeptR t F
 live : t.s.d.Live
variable {t : Sto} {F : Frag}
theorem Keep.alive (h : Keep t F) : t.s.d.dead = false := h.live.1
theorem Keep.new (n : Nat) (h9 : 9 <= n) : ∃ t d, (DS.new n).format = ((0, some t), d) /\ Keep t (fun _ => none) /\ t.room = (n - 1) / 8 /\ t.s.d.n = n /\ t.s.d.ops <= n /\ t.whole = false := by
 obtain ⟨t, d, h1, h2, h3, h4, h5, h6, h7, h8⟩ := KeptR.new n h9
 refine ⟨t, d, h1, ⟨h2, by rw [h3]; exact h8⟩, ?_, by rw [h3]; exact h5, by rw [h3]; exact h6, h7⟩
 unfold Sto.room
 rw [h4]
 simp [List.countP_replicate, noRow]
theorem Keep.since (h : Keep t F) : t.s.d.since = [] := h.kept.rest.none
theorem KeptR.del_bad {x : Id} (hm : mayId x = false) : t.del x = (1, t) := Kept.del_bad hm
theorem Keep.put (h : Keep t F) (x : Id) (b : List UInt8) : ∃ F', Keep (t.put x b).2 F' /\ (t.put x b).2.whole = t.whole /\
  (((t.put x b).1 = 0 /\ F x = none /\ F' = setF F x (some b) /\ (t.put x b).2.room + 1 = t.room) ∨ (((t.put x b).1 = 0 -> F x = some b) /\ (t.put x b).2 = t /\ F' = F)) := by
 have hl := live_put h.live x b
 by_cases hb : mayId x = false ∨ 448 < b.length
 ·obtain ⟨h1, h2⟩ := h.kept.put_bad hb
  exact ⟨F, by rw [h2]; exact h, by rw [h2], .inr ⟨fun e => absurd e h1, h2, rfl⟩⟩
 ·have hm : mayId x = true := by cases hx : mayId x with | true => rfl | false => exact absurd (.inl hx) hb
  have hbl : b.length <= 448 := by omega
  cases hF : F x with
  | some c =>
   have h1 := h.kept.put_there hF b hbl
   rw [h1]
   refine ⟨F, h, rfl, .inr ⟨fun e => ?_, rfl, rfl⟩⟩
   by_cases hc : c = b
   ·rw [hc]
   ·rw [if_neg hc] at e; cases e
  | none =>
   by_cases hr : t.room = 0
   ·rw [h.kept.put_full hm hF hbl hr]
    exact ⟨F, h, rfl, .inr ⟨(fun e => by cases e), rfl, rfl⟩⟩
   ·rcases h.kept.put_may hm hF hbl (by omega) with ⟨h1, h2, h3, h4⟩ | ⟨_, h2, _⟩
    ·exact ⟨_, ⟨h2, hl⟩, h4, .inl ⟨h1, rfl, rfl, h3⟩⟩
    ·rw [hl.1] at h2; cases h2
theorem Keep.del (h : Keep t F) (x : Id) : ∃ F', Keep (t.del x).2 F' /\ (t.del x).2.whole = t.whole /\
  (((t.del x).1 = 0 /\ mayId x = true /\ F' = setF F x none /\ (t.del x).2.room = t.room + (if (F x).isSome then 1 else 0)) ∨ ((t.del x).1 = 1 /\ mayId x = false /\ (t.del x).2 = t /\ F' = F)) := by
 have hl := live_del h.live x
 cases hm : mayId x with
 | false =>
  rw [KeptR.del_bad hm]
  exact ⟨F, h, rfl, .inr ⟨rfl, rfl, rfl, rfl⟩⟩
 | true =>
  rcases h.kept.del_may hm with ⟨h1, h2, h3, h4, h5⟩ | ⟨_, h2, _⟩
  ·exact ⟨_, ⟨h2, hl⟩, h5, .inl ⟨h1, rfl, rfl, h3⟩⟩
  ·rw [hl.1] at h2; cases h2
theorem Keep.sets (h : Keep t F) : t.setWhole.1 = 0 /\ Keep t.setWhole.2 F /\ t.setWhole.2.whole = true /\ t.setWhole.2.room = t.room := by
 have hfair : t.s.d.Fair := fun _ i => by rw [h.since]; exact h.kept.rest.same i
 obtain ⟨h1, h2, h3, h4, h5⟩ := DS.sign_live h.live 2 (by have := h.kept.full.2; omega)
 have h6 := hfair.sign 2
 obtain ⟨d2, hd2⟩ : ∃ d2, d2 = (t.s.d.sign 2).2 := ⟨_, rfl⟩
 have hset : t.setWhole = (0, ⟨{ t.s with d := d2 }, true⟩) := by
  unfold Sto.setWhole
  rw [h1, <- hd2]
  simp
 rw [<- hd2] at h2 h3 h4 h5 h6
 rw [hset]
 have hsame : ∀ i, d2.lasts i = d2.now i := fun i => by
  have := h6 h2.1 i
  rw [h5] at this
  exact this
 have hnow : ∀ i, i ≠ 0 -> d2.now i = t.s.d.now i := fun i hi => by rw [h4]; unfold upd; rw [if_neg hi]
 obtain ⟨u, v, htold, hall⟩ := h.kept.told
 refine ⟨rfl, ⟨⟨⟨u, v, ⟨⟨h2.1, h5, hsame⟩, by show t.s.first + 8 * t.s.rows.length <= d2.n; rw [h3]; exact htold.room, fun k hk => ?_, htold.used, fun k hk hu => ?_⟩, hall⟩, h.kept.out, h.kept.keys, h.kept.first, ⟨by show (d2.n - 1) / 8 = _; rw [h3]; exact h.kept.full.1, by show 9 <= d2.n; rw [h3]; exact h.kept.full.2⟩, ⟨?_, ?_, by show ∀ x ∈ d2.since, _; rw [h5]; simp⟩⟩, h2⟩, rfl, rfl⟩
 ·have hf := h.kept.first
  show headOf (d2.now (t.s.first + 8 * k)) = _
  rw [hnow _ (by omega)]
  exact htold.head k hk
 ·rw [<- htold.data k hk hu]
  have hf := h.kept.first
  unfold SS.data SS.pos
  congr 2
  funext i
  exact hnow _ (by show t.s.first + 8 * (k : Int).toNat + 1 + i ≠ 0; omega)
 ·show d2.now 0 = _
  rw [h4]; rfl
 ·show d2.lasts 0 = _
  rw [hsame, h4]; rfl
theorem Keep.step (h : Keep t F) (r : Rq) : ∃ F', Keep (t.step r).2 F' := by
 by_cases h0 : r.k < 1 ∨ 6 < r.k
 ·rw [step0 t r h0]; exact ⟨F, h⟩
 ·obtain ⟨k, x, b⟩ := r
  dsimp only at h0
  obtain rfl | rfl | rfl | rfl | rfl | rfl : k = 1 ∨ k = 2 ∨ k = 3 ∨ k = 4 ∨ k = 5 ∨ k = 6 := by omega
  ·obtain ⟨F', h1, _⟩ := h.put x b; exact ⟨F', h1⟩
  ·exact ⟨F, h⟩
  ·obtain ⟨F', h1, _⟩ := h.del x; exact ⟨F', h1⟩
  ·exact ⟨F, h⟩
  ·exact ⟨F, h⟩
  ·exact ⟨F, h.sets.2.1⟩
theorem Keep.run (h : Keep t F) (r : Rq) : t.run r = (((t.step r).1, 0), (t.step r).2) := by
 obtain ⟨F', h1⟩ := h.step r
 unfold Sto.run
 rw [h.alive, h1.alive]
 rfl
theorem srv_n : ∀ (l : List Nat) (s : SS), (s.clears l).2.d.n = s.d.n
 | [], s => rfl
 | i :: r, s => by
  obtain ⟨_, _, h1⟩ := s.clear_ok (i : Int)
  rw [clears_cons]
  split
  ·exact h1
  ·rw [srv_n r, h1]
theorem srv_row1 (s : SS) (i : Int) : (s.clear i).2.rows.length = s.rows.length := by
 by_cases he : (s.clear i).1 = 0
 ·obtain ⟨_, _, h3⟩ := SS.clear_done he
  rw [h3, List.length_set]
 ·rw [SS.clear_not he]
theorem srv_rows : ∀ (l : List Nat) (s : SS), (s.clears l).2.rows.length = s.rows.length
 | [], s => rfl
 | i :: r, s => by
  rw [clears_cons]
  split
  ·exact srv_row1 s i
  ·rw [srv_rows r, srv_row1]
structure Far20 (t t' : Sto) : Prop where
 ops : t'.s.d.ops <= t.s.d.ops + 40
 since : t'.s.d.since.length <= t.s.d.since.length + 40
 n : t'.s.d.n = t.s.d.n
 rows : t'.s.rows.length = t.s.rows.length
theorem step_far (t : Sto) (r : Rq) (hr : t.s.rows.length <= 20) : Far20 t (t.step r).2 := by
 by_cases h0 : r.k < 1 ∨ 6 < r.k
 ·rw [step0 t r h0]; exact ⟨by dsimp only; omega, by dsimp only; omega, rfl, rfl⟩
 ·obtain ⟨k, x, b⟩ := r
  dsimp only at h0
  obtain rfl | rfl | rfl | rfl | rfl | rfl : k = 1 ∨ k = 2 ∨ k = 3 ∨ k = 4 ∨ k = 5 ∨ k = 6 := by omega
  ·obtain ⟨a, b', c, d, _⟩ := t.put_ok x b
   rw [step1]
   exact ⟨by dsimp only; omega, by dsimp only; omega, c, d⟩
  ·rw [step2]; exact ⟨by dsimp only; omega, by dsimp only; omega, rfl, rfl⟩
  ·obtain ⟨a, b'⟩ := t.del_ok x
   rw [step3]
   refine ⟨by dsimp only; omega, by dsimp only; omega, ?_, ?_⟩
   ·unfold Sto.del
    split
    ·rfl
    ·exact srv_n _ _
   ·unfold Sto.del
    split
    ·rfl
    ·exact srv_rows _ _
  ·rw [step4]; exact ⟨by dsimp only; omega, by dsimp only; omega, rfl, rfl⟩
  ·rw [step5]; exact ⟨by dsimp only; omega, by dsimp only; omega, rfl, rfl⟩
  ·obtain ⟨a, b', c⟩ := t.s.d.sign_ok 2
   rw [step6]
   exact ⟨by show (t.s.d.sign 2).2.ops <= _; omega, by show (t.s.d.sign 2).2.since.length <= _; omega, a, rfl⟩
variable {H : List Id} {k : Nat}
theorem Keep.gets (h : Keep t F) (x : Id) (b : List UInt8) : (t.step ⟨2, x, b⟩).1 = if mayId x = false then errRp 1 else match F x with | none => errRp (if t.whole then 6 else 15) | some c => ⟨0, c, [], 0, false⟩ := by
 rw [step2, h.kept.get x]
 by_cases hm : mayId x = false
 ·rw [if_pos hm, if_pos hm]
  rfl
 ·rw [if_neg hm, if_neg hm]
  cases F x with
  | none =>
   cases t.whole <;> rfl
  | some c =>
   rfl
end
def No8 (c : Value) : Prop := ∀ z : Int, c ≠ .int .u8 z
def NoU8 (w : World) (x : Nat) : Prop := ∀ cs t fr, w.heap[x]? = some (.cells cs t fr) -> ∀ (j : Nat) (c : Value), cs[j]? = some c -> No8 c
theorem NoU8.mk {w : World} {x t : Nat} {cs : Array Value} {fr : Nat × Nat} (h : w.heap[x]? = some (.cells cs t fr)) (hc : ∀ (j : Nat) (c : Value), cs[j]? = some c -> No8 c) : NoU8 w x := fun cs' t' fr' h' => by
 rw [h] at h'
 cases h'
 exact hc
theorem NoU8.not_bytes {w : World} {x : Nat} (h : NoU8 w x) (v : Value) (l : List UInt8) (hb : BytesAt w v l) (hl : l ≠ []) : v.ownBlock ≠ some x := fun e => by
 obtain ⟨a, cap, rfl, h1, h2, h3⟩ := hb
 have hpos : 0 < l.length := by cases l; exact absurd rfl hl; simp
 rcases h3 with ⟨h3, _⟩ | ⟨g', o, rfl, hc⟩
 ·exact hl h3
 ·obtain rfl : g' = x := by simpa [Value.ownBlock] using e
  have h5 := hc 0 hpos
  rw [Nat.add_zero] at h5
  unfold World.cell? at h5
  cases hx : w.heap[g']? with
  | none => simp [hx] at h5
  | some o' =>
   cases o' with
   | cells cs t fr =>
    simp [hx] at h5
    exact h cs t fr hx o _ h5 _ rfl
   | _ => simp [hx] at h5
theorem no8_list {l : List Value} (h : ∀ c ∈ l, No8 c) : ∀ (j : Nat) (c : Value), l.toArray[j]? = some c -> No8 c := fun j c hj => by
 rw [List.getElem?_toArray] at hj
 exact h c (List.mem_of_getElem? hj)
theorem SlotsAt.keepT {w w' : World} {q p : Nat} {U T : List Nat} {s : SS} (h : SlotsAt w q p U s) (hc : Chg T w w') (ha : ∀ x ∈ U, x ∉ T) (hT : ∀ x ∈ T, ∀ v l, BytesAt w v l -> l ≠ [] -> v.ownBlock ≠ some x) : SlotsAt w' q p U s := by
 obtain ⟨S, rv, R, h⟩ := h
 refine ⟨S, rv, R, h.obj.keep hc (fun x hx => ha x (h.uB x hx)), h.disk.keep hc (fun x hx => ha x (h.uS x hx)), h.rows, h.sep, fun x hx => ?_, h.uS, h.uB, fun x hx => Nat.lt_of_lt_of_le (h.uL x hx) hc.size, h.ok⟩
 obtain ⟨h1, h2⟩ := h.keys x hx
 exact ⟨h1.chgW hc (fun hl k hk hm => hT k hm _ _ h1.1 hl hk), fun g hg => ⟨Nat.lt_of_lt_of_le (h2 g hg).1 hc.size, (h2 g hg).2⟩⟩
theorem StAt.regroup {G G' : List Nat} {w w' : World} {q p : Nat} {U T : List Nat} {t : Sto} (h : StAt G w q p U t) (hc : Chg T w w') (hT : ∀ x ∈ T, x ∈ G) (h8 : ∀ x ∈ T, NoU8 w x) (hU : ∀ x ∈ U, x ∉ G) (hG : ∀ x ∈ G', (x ∈ G ∨ w.heap.size <= x) /\ x < w'.heap.size) : StAt G' w' q p U t := by
 obtain ⟨sp, mb, Us, φ, N, h, rfl⟩ := h
 have hn : ∀ x ∈ q :: mb :: Us, x ∉ T := fun x hx hm => hU x hx (hT x hm)
 refine ⟨sp, mb, Us, φ, N, ⟨hc.keep h.head (hn q (by simp)), h.slots.keepT hc (fun x hx => hn x (by simp [hx])) (fun x hx v l hb hl => (h8 x hx).not_bytes v l hb hl), h.map.chg hc (hn mb (by simp)), h.apart, fun x hx => ?_, h.ok, fun k hk => ⟨(hG k hk).2, fun y v hy hv e => ?_⟩⟩, rfl⟩
 ·rcases h.vals x hx with h1 | ⟨h1, v, h2, h3, h4⟩
  ·exact .inl h1
  ·refine .inr ⟨h1, v, h2, h3.keep (fun g hg => hc.block g (h4 g hg).1 (fun hm => (h.far g (hT g hm)).2 x v hx h2 hg)), fun g hg => ⟨Nat.lt_of_lt_of_le (h4 g hg).1 hc.size, (h4 g hg).2⟩⟩
 ·rcases (hG k hk).1 with h1 | h1
  ·exact (h.far k h1).2 y v hy hv e
  ·rcases h.vals y hy with ⟨_, h2⟩ | ⟨_, v', h2, _, h4⟩
   ·rw [h2] at hv; cases hv
   ·rw [h2] at hv
    obtain rfl := Option.some.inj hv
    have := (h4 k e).1
    omega
theorem StAt.disk {G : List Nat} {w : World} {q p : Nat} {U : List Nat} {t : Sto} (h : StAt G w q p U t) : ∃ S, DiskAt w p S t.s.d := by
 obtain ⟨sp, mb, Us, φ, N, h, rfl⟩ := h
 obtain ⟨S, rv, R, H⟩ := h.slots
 exact ⟨S, H.disk⟩
theorem StAt.dead {G : List Nat} {w : World} {q p : Nat} {U : List Nat} {t : Sto} (h : StAt G w q p U t) : Calls Tryz.prog 34 #[.pointer (some ⟨p, 0, none⟩)] w fun e w' => e = .returned (.bool t.s.d.dead) /\ w = w' := by
 obtain ⟨S, hd⟩ := h.disk
 exact ddead_any p S t.s.d w hd
def RpAt (w0 w : World) (v : Value) (o : Rp) : Prop := ∃ bv iv, v = rpV o.e bv iv o.room o.whole /\ BytesAt w bv o.b /\ (∀ k, bv.ownBlock = some k -> w0.heap.size <= k) /\ w.ownsRow w0.heap.size 45 4 iv o.ids.length (o.ids.flatMap idE)
theorem RpAt.err {w0 w : World} (e : Int) : RpAt w0 w (rpV e (.slice none 0 0) (.slice none 0 0) 0 false) (errRp e) :=
 ⟨_, _, rfl, BytesAt.nil _, by simp [Value.ownBlock], World.ownsRow_nil _ _ _ _⟩
theorem ret_rp {fn : Func} {p : Tmp} (h : fn.results = #[.cell p 52]) (tmps : Array Value) {w : World} {b t : Nat} {e room : Int} {bv iv : Value} {wh : Bool} (hp : tmps.getD p undef = .pointer (some ⟨b, 0, none⟩)) (hb : w.heap[b]? = some (.cells (rpL e bv iv room wh).toArray t (0, 0))) :
  (results fn tmps).run Tryz.prog w = .ok (rpV e bv iv room wh) w := by
 have hl := run_loadVar_row (P := Tryz.prog) w b t 52 (rpL e bv iv room wh).toArray (0, 0) _ hb Tryz.underlying52 rfl (rp_size _ _ _ _ _)
 have he : (results fn tmps).run Tryz.prog w = ((asAddr (tmps.getD p undef)).run Tryz.prog w).andThen fun a w₁ => (loadVar 52 a).run Tryz.prog w₁ := by
  simp only [results, h]
  simp [Sem.run_bind, Result.andThen]
 rw [he, hp]
 simp only [asAddr, Sem.run_pure, Result.andThen_ok, hl]
 rfl
theorem zeroRp_no8 {w : World} {b t : Nat} (h : w.heap[b]? = some (.cells zeroRp t (0, 0))) : NoU8 w b := NoU8.mk h (by
 unfold zeroRp
 refine no8_list (l := [.int .i64 0, .slice none 0 0, .slice none 0 0, .int .i64 0, .bool false]) (fun c hc => ?_)
 simp only [List.mem_cons, List.mem_nil_iff, or_false] at hc
 rcases hc with rfl | rfl | rfl | rfl | rfl <;> (intro z; simp))
section
variable {G T U : List Nat} {w w2 w3 w4 : World} {q p : Nat} {t t' : Sto}
theorem StAt.gl (h : StAt G w q p U t) : ∀ x ∈ G, x < w.heap.size := by
 obtain ⟨sp, mb, Us, φ, N, h, rfl⟩ := h
 exact fun x hx => (h.far x hx).1
theorem StAt.with (h : StAt G w q p U t) (hU : ∀ x ∈ U, x ∉ G) (h2 : Chg [] w w2) (hT : ∀ x ∈ T, w.heap.size <= x /\ x < w2.heap.size) : StAt (T ++ G) w2 q p U t :=
 h.regroup (T := []) h2 (by simp) (by simp) hU (fun x hx => by
  rcases List.mem_append.1 hx with hx | hx
  ·exact ⟨.inr (hT x hx).1, (hT x hx).2⟩
  ·exact ⟨.inl hx, Nat.lt_of_lt_of_le (h.gl x hx) h2.size⟩)
theorem Std.local (hG : ∀ x ∈ G, x < w.heap.size) (hU : ∀ x ∈ U, x ∉ G) (hl : ∀ x ∈ U, x < w.heap.size) (h2 : Chg [] w w2) (hT : ∀ x ∈ T, w.heap.size <= x /\ x < w2.heap.size) (hs : Std (T ++ G) w2 w3 q p U t') (h8 : ∀ x ∈ T, NoU8 w3 x) (hc : Chg T w3 w4) : Std G w w4 q p U t' := by
 obtain ⟨U', a1, a2, a3⟩ := hs
 have hz := h2.size
 have hUT : ∀ x ∈ U', x ∉ T ++ G := fun x hx hm => by
  rcases a2 x hx with h | h
  ·rcases List.mem_append.1 hm with hm | hm
   ·have := hl x h; have := (hT x hm).1; omega
   ·exact hU x h hm
  ·rcases List.mem_append.1 hm with hm | hm
   ·have := (hT x hm).2; omega
   ·have := hG x hm; omega
 refine ⟨U', a1.regroup hc (fun x hx => List.mem_append_left _ hx) h8 hUT (fun x hx => ⟨.inl (List.mem_append_right _ hx), ?_⟩), fun x hx => ?_, ((h2.mono (T := U) (by simp)).trans a3 (fun x hx => .inl hx)).trans hc (fun x hx => .inr (hT x hx).1)⟩
 ·have := hG x hx; have := a3.size; have := hc.size; omega
 ·rcases a2 x hx with h | h
  ·exact .inl h
  ·exact .inr (by omega)
theorem Std.blk {b : Nat} {o : Obj} (hs : Std G w2 w3 q p U t') (hb : w2.heap[b]? = some o) (hU : b ∉ U) : w3.heap[b]? = some o := by
 obtain ⟨U', a1, a2, a3⟩ := hs
 exact a3.keep hb hU
def DeedPost (G : List Nat) (w : World) (q p : Nat) (U : List Nat) (o : Rp) (t' : Sto) (e : Ending) (w' : World) : Prop := ∃ v, e = .returned v /\ RpAt w w' v o /\ Std G w w' q p U t'
structure SvAt (G : List Nat) (w : World) (z q p : Nat) (U : List Nat) (t : Sto) : Prop where
 head : w.heap[z]? = some (.cells #[.pointer (some ⟨q, 0, none⟩)] 84 (0, 0))
 st : StAt G w q p U t
 out : z ∉ U
 far : ∀ x ∈ U, x ∉ G
theorem SvAt.keep0 {z : Nat} (h : SvAt G w z q p U t) (hc : Chg [] w w2) : SvAt G w2 z q p U t := ⟨hc.keep h.head (by simp), h.st.keep0 hc, h.out, h.far⟩
end
structure Begun (w w2 : World) (r : Rq) (bv : Value) : Prop where
 chg : Chg [] w w2
 rq : w2.heap[w.heap.size]? = some (.cells (rqL r bv).toArray 47 (0, 0))
 rp : w2.heap[w.heap.size + 1]? = some (.cells zeroRp 52 (0, 0))
theorem begun_of (w : World) (r : Rq) (bv : Value) : Begun w ((w.alloc (.cells (rqL r bv).toArray 47)).alloc (.cells zeroRp 52)) r bv :=
 ⟨((Chg.refl [] w).alloc _).alloc _, blk_alloc (heap_alloc_new w _), heap_at (by simp)⟩
section
variable {G U : List Nat} {z q p : Nat} {t : Sto}
structure Begins (G : List Nat) (w w2 : World) (z q p : Nat) (U : List Nat) (t : Sto) (r : Rq) (bv : Value) : Prop where
 chg : Chg [] w w2
 head : w2.heap[z]? = some (.cells #[.pointer (some ⟨q, 0, none⟩)] 84 (0, 0))
 rq : w2.heap[w.heap.size]? = some (.cells (rqL r bv).toArray 47 (0, 0))
 rp : w2.heap[w.heap.size + 1]? = some (.cells zeroRp 52 (0, 0))
 st : StAt ([w.heap.size + 1] ++ G) w2 q p U t
 out : w.heap.size + 1 ∉ U
 new : ∀ x ∈ [w.heap.size + 1], w.heap.size <= x /\ x < w2.heap.size
theorem SvAt.begins {w : World} (h : SvAt G w z q p U t) (r : Rq) (bv : Value) : Begins G w ((w.alloc (.cells (rqL r bv).toArray 47)).alloc (.cells zeroRp 52)) z q p U t r bv := by
 have B := begun_of w r bv
 generalize ((w.alloc (.cells (rqL r bv).toArray 47)).alloc (.cells zeroRp 52)) = w2 at *
 have hT : ∀ x ∈ [w.heap.size + 1], w.heap.size <= x /\ x < w2.heap.size := fun x hx => by
  rw [List.mem_singleton.1 hx]
  exact ⟨by omega, blk_lt B.rp⟩
 exact ⟨B.chg, B.chg.keep h.head (by simp), B.rq, B.rp, h.st.with h.far B.chg hT, fun hm => by have := h.st.lim _ hm; omega, hT⟩
theorem Begins.drew {w w2 : World} {r : Rq} {bv : Value} (h : Begins G w w2 z q p U t r bv) : Begins G w w2.drew z q p U t r bv :=
 ⟨h.chg.drew, h.head, h.rq, h.rp, h.st.keep0 ((Chg.refl [] w2).drew), h.out, h.new⟩
theorem Begins.ends {w w2 w3 : World} {r : Rq} {bv : Value} {t' : Sto} (hb : Begins G w w2 z q p U t r bv) (h : SvAt G w z q p U t) (hs : Std ([w.heap.size + 1] ++ G) w2 w3 q p U t') (u : List Value) : Std G w (w3.setCells (w.heap.size + 1) 0 u) q p U t' :=
 Std.local h.st.gl h.far h.st.lim hb.chg hb.new hs (fun x hx => by
  rw [List.mem_singleton.1 hx]
  exact zeroRp_no8 (hs.blk hb.rp hb.out)) ((Chg.refl _ w3).setCells (.inl (by simp)) u)
theorem rp_all (e : Int) (a c : Option Addr) (b d f g : Nat) (room : Int) (wh : Bool) : (rpL e (.slice a b f) (.slice c d g) room wh).toArray.all (·.oneCell') = true := all_oneCell_toArray (fun v hv => by
 simp only [rpL, List.mem_cons, List.mem_nil_iff, or_false] at hv
 rcases hv with rfl | rfl | rfl | rfl | rfl <;> rfl)
theorem err_all (e : Int) : (rpL e (.slice none 0 0) (.slice none 0 0) 0 false).toArray.all (·.oneCell') = true := rp_all e none none 0 0 0 0 0 false
theorem svput_any (r : Rq) (bv : Value) (w : World) (h : SvAt G w z q p U t) (hx : okD r.x) (hb : BytesAt w bv r.b) (hbU : r.b ≠ [] -> ∀ k, bv.ownBlock = some k -> k ∉ U) (hbl : r.b.length <= 1000000) (ho : t.s.d.ops <= 900000000) (hw : t.s.d.since.length <= 900000) :
  Calls Tryz.prog 53 #[.pointer (some ⟨z, 0, none⟩), rqV r bv] w (DeedPost G w q p U (errRp (t.put r.x r.b).1) (t.put r.x r.b).2) := by
 have HE0 := LH (h.begins r bv)
 obtain ⟨w2, hw2⟩ : ∃ w2, w2 = (w.alloc (.cells (rqL r bv).toArray 47)).alloc (.cells zeroRp 52) := ⟨_, rfl⟩
 rw [<- hw2] at HE0
 have HE := LH HE0.out.drew
 have CP := LH (stput_any q p U t r.x bv r.b w2.drew HE.out.st hx ((hb.chg HE0.out.chg (by simp)).keep (fun _ _ => rfl)) hbU hbl ho hw)
 have c0 := blk_cell HE0.out.head 0 _ rfl
 obtain ⟨B, hB⟩ : ∃ B, B = w.heap.size := ⟨_, rfl⟩
 have hrq := HE0.out.rq
 rw [<- hB] at hrq
 have q1 := blk_cell hrq 1 _ rfl
 have q2 := blk_cell hrq 2 _ rfl
 have q3 := blk_cell hrq 3 _ rfl
 have q4 := blk_cell hrq 4 _ rfl
 have q5 := blk_cell hrq 5 _ rfl
 have HH := LH h
 have HW2 := LH hw2
 have HB := LH hB
 obtain ⟨o, hoe⟩ : ∃ o, o = t.put r.x r.b := ⟨_, rfl⟩
 rw [<- hoe] at CP
 rw [<- hoe]
 obtain ⟨k, ⟨xc, xl, xn, xi⟩, b⟩ := r
 obtain ⟨ba, bc, hbv⟩ := hb.slice
 subst hbv
 clear hw2 hB hrq HE0 h hx hb hbU hoe
 unfold rqV rqL
 unfold rqL at HW2
 unfold idV idC at CP
 dsimp only at CP q1 q2 q3 q4 q5
 go_enter Tryz.func53, Tryz.ntmps53
 go_wp2_with fail
 rw [<- HB.out]
 rw [show zeroRp = #[.int .i64 0, .slice none 0 0, .slice none 0 0, .int .i64 0, .bool false] from rfl] at HW2
 rw [<- HW2.out]
 refine wp_region_L [(8, fun w' => w'.cell? ⟨z, 0, none⟩ = some (.pointer (some ⟨q, 0, none⟩))), (8, fun w' => (w'.cell? ⟨B, 1, none⟩ = some (.int .i64 xc) /\ w'.cell? ⟨B, 2, none⟩ = some (.int .i64 xl) /\ w'.cell? ⟨B, 3, none⟩ = some (.int .i64 xn) /\ w'.cell? ⟨B, 4, none⟩ = some (.int .i64 xi))), (8, fun w' => w'.cell? ⟨B, 5, none⟩ = some (.slice ba b.length bc))] (by kernel_rfl) ?_ (fun hHeld => ?_)
 ·exact (HoldC.cons (c0) (HoldC.cons (⟨q1, q2, q3, q4⟩) (HoldC.cons (q5) HoldC.nil)))
 refine tk 0 ?_ rfl (by kernel_rfl) (fun _ _ _ h => h) (.inl ⟨by rfl, ?_⟩) hHeld ?_; rotate_left; · (intro w _; go_simp; try with_reducible rfl)
 clear hHeld; intro hHeld; try simp only [gA,gB,gC,Act.put,gD,gE,gF]
 refine tk 1 ?_ rfl (by kernel_rfl) (fun _ _ _ h => h) (.inl ⟨by rfl, ?_⟩) hHeld ?_; rotate_left; · (intro w _; go_simp; try with_reducible rfl)
 clear hHeld; intro hHeld; try simp only [gA,gB,gC,Act.put,gD,gE,gF]
 refine tk 2 ?_ rfl (by kernel_rfl) (fun _ _ _ h => h) (.inl ⟨by rfl, ?_⟩) hHeld ?_; rotate_left; · (intro w _; go_simp; try with_reducible rfl)
 clear hHeld; intro hHeld; try simp only [gA,gB,gC,Act.put,gD,gE,gF]
 refine tk 4 ?_ rfl (by kernel_rfl) (fun _ _ _ h => h) (.inl ⟨by rfl, ?_⟩) hHeld ?_; rotate_left; · (intro w _; go_simp; try with_reducible rfl)
 clear hHeld; intro hHeld; try simp only [gA,gB,gC,Act.put,gD,gE,gF]
 refine tk 6 ?_ rfl (by kernel_rfl) (fun _ _ _ h => h) (.inl ⟨by rfl, ?_⟩) hHeld ?_; rotate_left; · (intro w _; go_simp; try with_reducible rfl)
 clear hHeld; intro hHeld; try simp only [gA,gB,gC,Act.put,gD,gE,gF]
 refine ld 0 3 ?_ rfl rfl (by kernel_rfl) (fun _ _ _ h => h) (.inl ⟨by rfl, ?_⟩) hHeld ?_; rotate_left; · (intro w hSw; (try dsimp only at hSw); go_simp; try with_reducible rfl)
 clear hHeld; intro hHeld; try simp only [gA,gB,gC,Act.put,gD,gE,gF]
 refine ld 1 5 ?_ rfl rfl (by kernel_rfl) (fun _ _ _ h => h) (.inl ⟨by rfl, ?_⟩) hHeld ?_; rotate_left; · (intro w hSw; (try dsimp only at hSw); go_simp; try with_reducible rfl)
 clear hHeld; intro hHeld; try simp only [gA,gB,gC,Act.put,gD,gE,gF]
 refine ld 2 7 ?_ rfl rfl (by kernel_rfl) (fun _ _ _ h => h) (.inl ⟨by rfl, ?_⟩) hHeld ?_; rotate_left; · (intro w hSw; (try dsimp only at hSw); go_simp; try with_reducible rfl)
 clear hHeld; intro hHeld; try simp only [gA,gB,gC,Act.put,gD,gE,gF]
 refine wpAnyL_ready (rs := [8]) (by kernel_rfl) (by simp) (AllReadyL.cons (o := _) rfl (fun K hK => ?_) AllReadyL.nil)
 try simp only [gA,gB,gC]
 go_simp
 refine CP.out.mono ?_
 rintro e w3 ⟨rfl, hs3⟩
 have hz3 := hs3.blk HE.out.rp HE.out.out
 rw [<- HB.out] at hz3
 have HZ := LH (five_set hz3 (.int .i64 o.1) (.slice none 0 0) (.slice none 0 0) (.int .i64 0) (.bool false))
 have HTH := LH (five_there hz3 _ rfl)
 have HS := LH (HE.out.ends HH.out hs3 (rpL o.1 (.slice none 0 0) (.slice none 0 0) 0 false))
 rw [<- HB.out] at HS
 clear hz3 hs3 CP c0 q1 q2 q3 q4 q5
 clear hHeld
 refine hK.out _ _ ?_ (fun hHeld => ?_)
 ·exact (HoldC.past (by kernel_rfl) (HoldC.past (by kernel_rfl) (HoldC.past (by kernel_rfl) HoldC.nil)))
 clear hK K
 try simp only [gA,gB,gC,Act.put,gD,gE,gF]
 refine tk 9 ?_ rfl (by kernel_rfl) (fun _ _ _ h => h) (.inl ⟨by rfl, ?_⟩) hHeld ?_; rotate_left; · (intro w _; go_simp; try with_reducible rfl)
 clear hHeld; intro hHeld; try simp only [gA,gB,gC,Act.put,gD,gE,gF]
 refine wpAnyL_ready (rs := [10]) (by kernel_rfl) (by simp) (AllReadyL.cons (o := _) rfl (fun K hK => ?_) AllReadyL.nil)
 try simp only [gA,gB,gC]
 rw [if_pos (by rfl)]
 refine wp_store_mid 52 (.tmp 4) (.tmp 14) (by rfl) (B + 1) 0 (rpL o.1 (.slice none 0 0) (.slice none 0 0) 0 false).toArray (by rfl) (by rfl) HTH.out (rp_size _ _ _ _ _) (err_all _) ?_
 clear hHeld
 refine hK.out _ _ ?_ (fun hHeld => ?_)
 ·exact (HoldC.past (by kernel_rfl) (HoldC.past (by kernel_rfl) (HoldC.past (by kernel_rfl) HoldC.nil)))
 clear hK K
 try simp only [gA,gB,gC,Act.put,gD,gE,gF]
 refine wpAnyL_done (by kernel_rfl) ?_ _
 clear hHeld
 go_wp2
 exact bodyPost_ret (ret_rp rfl _ rfl HZ.out) rfl ⟨_, rfl, RpAt.err _, HS.out⟩
end
theorem five_cells {w : World} {N t : Nat} {a0 a1 a2 a3 a4 : Value} (h : w.heap[N]? = some (.cells #[a0, a1, a2, a3, a4] t (0, 0))) :
  (w.cell? ⟨N, 0, none⟩ = some a0 /\ w.cell? ⟨N, 1, none⟩ = some a1 /\ w.cell? ⟨N, 2, none⟩ = some a2 /\ w.cell? ⟨N, 3, none⟩ = some a3 /\ w.cell? ⟨N, 4, none⟩ = some a4) /\
  w.frozen? ⟨N, 0, none⟩ = false /\ w.frozen? ⟨N, 1, none⟩ = false /\ w.frozen? ⟨N, 2, none⟩ = false /\ w.frozen? ⟨N, 3, none⟩ = false /\ w.frozen? ⟨N, 4, none⟩ = false :=
 ⟨⟨blk_cell h 0 _ rfl, blk_cell h 1 _ rfl, blk_cell h 2 _ rfl, blk_cell h 3 _ rfl, blk_cell h 4 _ rfl⟩, blk_frozen h 0, blk_frozen h 1, blk_frozen h 2, blk_frozen h 3, blk_frozen h 4⟩
theorem Std.calm {G U : List Nat} {w w' : World} {q p : Nat} {t : Sto} (h : StAt G w q p U t) (hc : Chg [] w w') : Std G w w' q p U t := ⟨U, h.keep0 hc, fun x hx => .inl hx, hc.mono (by simp)⟩
section
variable {G U : List Nat} {z q p : Nat} {t : Sto}
theorem Begins.calm {w w2 w3 : World} {r : Rq} {bv : Value} (hb : Begins G w w2 z q p U t r bv) (h : SvAt G w z q p U t) (hc : Chg [] w2 w3) (u : List Value) : Std G w (w3.setCells (w.heap.size + 1) 0 u) q p U t :=
 hb.ends h (Std.calm hb.st hc) u
theorem svget_any (r : Rq) (bv : Value) (w : World) (h : SvAt G w z q p U t) (hb : ∃ a n c, bv = .slice a n c) (hx : okD r.x) :
  Calls Tryz.prog 54 #[.pointer (some ⟨z, 0, none⟩), rqV r bv] w (DeedPost G w q p U ⟨lostOf t.whole (t.get r.x).2, (t.get r.x).1, [], 0, false⟩ t) := by
 have HE0 := LH (h.begins r bv)
 obtain ⟨w2, hw2⟩ : ∃ w2, w2 = (w.alloc (.cells (rqL r bv).toArray 47)).alloc (.cells zeroRp 52) := ⟨_, rfl⟩
 rw [<- hw2] at HE0
 have HE := LH HE0.out.drew
 have c0 := blk_cell HE0.out.head 0 _ rfl
 have c00 := blk_cell h.head 0 _ rfl
 obtain ⟨B, hB⟩ : ∃ B, B = w.heap.size := ⟨_, rfl⟩
 have hrq := HE0.out.rq
 rw [<- hB] at hrq
 have q1 := blk_cell hrq 1 _ rfl
 have q2 := blk_cell hrq 2 _ rfl
 have q3 := blk_cell hrq 3 _ rfl
 have q4 := blk_cell hrq 4 _ rfl
 have q5 := blk_cell hrq 5 _ rfl
 have HRP := LH HE0.out.rp
 rw [<- hB] at HRP
 have HH := LH h
 have HW2 := LH hw2
 have HB := LH hB
 have CP := LH (stget_any q p U t r.x w2.drew HE.out.st hx)
 obtain ⟨o, hoe⟩ : ∃ o, o = t.get r.x := ⟨_, rfl⟩
 rw [<- hoe] at CP
 rw [<- hoe]
 obtain ⟨b3, e3⟩ := o
 have CWH := LH (fun w' (hc : Chg [] w2.drew w') => stwhole_any q p U t w' (HE.out.st.keep0 hc))
 obtain ⟨wh, hwh⟩ : ∃ wh, wh = t.whole := ⟨_, rfl⟩
 rw [<- hwh] at CWH
 rw [<- hwh]
 clear hx hoe hwh
 obtain ⟨k, ⟨xc, xl, xn, xi⟩, b⟩ := r
 obtain ⟨ba, bn, bc, hbv⟩ := hb
 subst hbv
 clear hw2 hB hrq HE0 h
 unfold rqV rqL
 unfold rqL at HW2
 try dsimp only at q1 q2 q3 q4 q5
 unfold idV idC at CP
 try dsimp only at CP
 rw [show zeroRp = #[.int .i64 0, .slice none 0 0, .slice none 0 0, .int .i64 0, .bool false] from rfl] at HW2
 have c0L := c0
 rw [HW2.out] at c0L
 go_enter Tryz.func54, Tryz.ntmps54
 go_wp2_with fail
 clear c0L
 rw [<- HB.out]
 rw [<- HW2.out]
 refine wp_region_L [(6, fun w' => w'.cell? ⟨z, 0, none⟩ = some (.pointer (some ⟨q, 0, none⟩))), (6, fun w' => (w'.cell? ⟨B, 1, none⟩ = some (.int .i64 xc) /\ w'.cell? ⟨B, 2, none⟩ = some (.int .i64 xl) /\ w'.cell? ⟨B, 3, none⟩ = some (.int .i64 xn) /\ w'.cell? ⟨B, 4, none⟩ = some (.int .i64 xi)))] (by kernel_rfl) ?_ (fun hHeld => ?_)
 ·exact (HoldC.cons (c0) (HoldC.cons (⟨q1, q2, q3, q4⟩) HoldC.nil))
 refine tk 0 ?_ rfl (by kernel_rfl) (fun _ _ _ h => h) (.inl ⟨by rfl, ?_⟩) hHeld ?_; rotate_left; · (intro w _; go_simp; try with_reducible rfl)
 clear hHeld; intro hHeld; try simp only [gA,gB,gC,Act.put,gD,gE,gF]
 refine tk 1 ?_ rfl (by kernel_rfl) (fun _ _ _ h => h) (.inl ⟨by rfl, ?_⟩) hHeld ?_; rotate_left; · (intro w _; go_simp; try with_reducible rfl)
 clear hHeld; intro hHeld; try simp only [gA,gB,gC,Act.put,gD,gE,gF]
 refine tk 2 ?_ rfl (by kernel_rfl) (fun _ _ _ h => h) (.inl ⟨by rfl, ?_⟩) hHeld ?_; rotate_left; · (intro w _; go_simp; try with_reducible rfl)
 clear hHeld; intro hHeld; try simp only [gA,gB,gC,Act.put,gD,gE,gF]
 refine tk 4 ?_ rfl (by kernel_rfl) (fun _ _ _ h => h) (.inl ⟨by rfl, ?_⟩) hHeld ?_; rotate_left; · (intro w _; go_simp; try with_reducible rfl)
 clear hHeld; intro hHeld; try simp only [gA,gB,gC,Act.put,gD,gE,gF]
 refine ld 0 3 ?_ rfl rfl (by kernel_rfl) (fun _ _ _ h => h) (.inl ⟨by rfl, ?_⟩) hHeld ?_; rotate_left; · (intro w hSw; (try dsimp only at hSw); go_simp; try with_reducible rfl)
 clear hHeld; intro hHeld; try simp only [gA,gB,gC,Act.put,gD,gE,gF]
 refine ld 1 5 ?_ rfl rfl (by kernel_rfl) (fun _ _ _ h => h) (.inl ⟨by rfl, ?_⟩) hHeld ?_; rotate_left; · (intro w hSw; (try dsimp only at hSw); go_simp; try with_reducible rfl)
 clear hHeld; intro hHeld; try simp only [gA,gB,gC,Act.put,gD,gE,gF]
 refine wpAnyL_ready (rs := [6]) (by kernel_rfl) (by simp) (AllReadyL.cons (o := _) rfl (fun K hK => ?_) AllReadyL.nil)
 try simp only [gA,gB,gC]
 go_simp
 refine CP.out.mono ?_
 rintro e w3 ⟨⟨v3, rfl, hb3, hn3⟩, hc3⟩
 dsimp only at hb3
 obtain ⟨a3, c3, rfl⟩ := hb3.slice
 have hz3 := hc3.keep HE.out.rp (by simp)
 rw [<- HB.out] at hz3
 have HZ3 := LH hz3
 have HN3 : Hid (∀ g, (Value.slice a3 b3.length c3).ownBlock = some g -> w.heap.size <= g) := LH (fun g hg => Nat.le_trans HE.out.chg.size (hn3 g hg))
 have HBX : Hid (∀ u, BytesAt (w3.setCells (B + 1) 0 u) (.slice a3 b3.length c3) b3) := LH (fun u => hb3.chg (S := [B + 1]) ((Chg.refl _ w3).setCells (.inl (by simp)) u) (fun g hg hm => by
  have h1 := hn3 g hg
  have h2 := (HE.out.new _ (List.mem_cons_self ..)).2
  rw [<- HB.out] at h2
  have := List.mem_singleton.1 hm
  omega))
 have CW3 := LH (CWH.out w3 hc3)
 have HC3 := LH hc3
 have c3z := hc3.cell (show w2.drew.cell? ⟨z, 0, none⟩ = some (.pointer (some ⟨q, 0, none⟩)) from c0) (by simp)
 clear hz3 hb3 hn3 hc3 CP CWH c0 c00 q1 q2 q3 q4 q5
 clear hHeld
 refine hK.out _ _ ?_ (fun hHeld => ?_)
 ·exact (HoldC.past (by kernel_rfl) (HoldC.past (by kernel_rfl) HoldC.nil))
 clear hK K
 try simp only [gA,gB,gC,Act.put,gD,gE,gF]
 refine tk 7 ?_ rfl (by kernel_rfl) (fun _ _ _ h => h) (.inl ⟨by rfl, ?_⟩) hHeld ?_; rotate_left; · (intro w _; go_simp; try with_reducible rfl)
 clear hHeld; intro hHeld; try simp only [gA,gB,gC,Act.put,gD,gE,gF]
 refine tk 8 ?_ rfl (by kernel_rfl) (fun _ _ _ h => h) (.inl ⟨by rfl, ?_⟩) hHeld ?_; rotate_left; · (intro w _; go_simp; try with_reducible rfl)
 clear hHeld; intro hHeld; try simp only [gA,gB,gC,Act.put,gD,gE,gF]
 refine tk 9 ?_ rfl (by kernel_rfl) (fun _ _ _ h => h) (.inl ⟨by rfl, ?_⟩) hHeld ?_; rotate_left; · (intro w _; go_simp; try with_reducible rfl)
 clear hHeld; intro hHeld; try simp only [gA,gB,gC,Act.put,gD,gE,gF]
 refine tk 10 ?_ rfl (by kernel_rfl) (fun _ _ _ h => h) (.inl ⟨by rfl, ?_⟩) hHeld ?_; rotate_left; · (intro w _; go_simp; try with_reducible rfl)
 clear hHeld; intro hHeld; try simp only [gA,gB,gC,Act.put,gD,gE,gF]
 refine tk 11 ?_ rfl (by kernel_rfl) (fun _ _ _ h => h) (.inl ⟨by rfl, ?_⟩) hHeld ?_; rotate_left; · (intro w _; go_simp; try with_reducible rfl)
 clear hHeld; intro hHeld; try simp only [gA,gB,gC,Act.put,gD,gE,gF]
 refine wpAnyL_done (by kernel_rfl) ?_ _
 clear hHeld
 by_cases he : e3 = 6
 ·subst he
  cases wh
  ·go_wp2_with fail
   refine CW3.out.mono ?_
   rintro e w' ⟨rfl, hq⟩
   subst hq
   have HS := LH (HE.out.calm HH.out HC3.out (rpL 15 (.slice a3 b3.length c3) (.slice none 0 0) 0 false))
   rw [<- HB.out] at HS
   have HZ := LH (five_set HZ3.out (.int .i64 15) (.slice a3 b3.length c3) (.slice none 0 0) (.int .i64 0) (.bool false))
   obtain ⟨⟨m0, m1, m2, m3, m4⟩, f0, f1, f2, f3, f4⟩ := five_cells HZ3.out
   go_wp2_with fail
   exact bodyPost_ret (ret_rp rfl _ rfl HZ.out) rfl ⟨_, rfl, ⟨.slice a3 b3.length c3, .slice none 0 0, by unfold lostOf; rw [if_pos ⟨rfl, rfl⟩], HBX.out (rpL 15 (.slice a3 b3.length c3) (.slice none 0 0) 0 false), HN3.out, World.ownsRow_nil _ _ _ _⟩, HS.out⟩
  ·go_wp2_with fail
   refine CW3.out.mono ?_
   rintro e w' ⟨rfl, hq⟩
   subst hq
   have HS := LH (HE.out.calm HH.out HC3.out (rpL 6 (.slice a3 b3.length c3) (.slice none 0 0) 0 false))
   rw [<- HB.out] at HS
   have HZ := LH (five_set HZ3.out (.int .i64 6) (.slice a3 b3.length c3) (.slice none 0 0) (.int .i64 0) (.bool false))
   obtain ⟨⟨m0, m1, m2, m3, m4⟩, f0, f1, f2, f3, f4⟩ := five_cells HZ3.out
   go_wp2_with fail
   exact bodyPost_ret (ret_rp rfl _ rfl HZ.out) rfl ⟨_, rfl, ⟨.slice a3 b3.length c3, .slice none 0 0, by unfold lostOf; rw [if_neg (by simp)], HBX.out (rpL 6 (.slice a3 b3.length c3) (.slice none 0 0) 0 false), HN3.out, World.ownsRow_nil _ _ _ _⟩, HS.out⟩
 ·have qe : (e3 == 6) = false := by simp [he]
  have HEN := LH he
  clear he
  have HS := LH (HE.out.calm HH.out HC3.out (rpL e3 (.slice a3 b3.length c3) (.slice none 0 0) 0 false))
  rw [<- HB.out] at HS
  have HZ := LH (five_set HZ3.out (.int .i64 e3) (.slice a3 b3.length c3) (.slice none 0 0) (.int .i64 0) (.bool false))
  obtain ⟨⟨m0, m1, m2, m3, m4⟩, f0, f1, f2, f3, f4⟩ := five_cells HZ3.out
  go_wp2_with fail
  exact bodyPost_ret (ret_rp rfl _ rfl HZ.out) rfl ⟨_, rfl, ⟨.slice a3 b3.length c3, .slice none 0 0, by unfold lostOf; rw [if_neg (fun hh => HEN.out hh.1)], HBX.out (rpL e3 (.slice a3 b3.length c3) (.slice none 0 0) 0 false), HN3.out, World.ownsRow_nil _ _ _ _⟩, HS.out⟩
theorem svdel_any (r : Rq) (bv : Value) (w : World) (h : SvAt G w z q p U t) (hb : ∃ a n c, bv = .slice a n c) (hx : okD r.x) (ho : t.s.d.ops <= 800000000) (hw : t.s.d.since.length <= 800000) :
  Calls Tryz.prog 55 #[.pointer (some ⟨z, 0, none⟩), rqV r bv] w (DeedPost G w q p U (errRp (t.del r.x).1) (t.del r.x).2) := by
 have HE0 := LH (h.begins r bv)
 obtain ⟨w2, hw2⟩ : ∃ w2, w2 = (w.alloc (.cells (rqL r bv).toArray 47)).alloc (.cells zeroRp 52) := ⟨_, rfl⟩
 rw [<- hw2] at HE0
 have HE := LH HE0.out.drew
 have c0 := blk_cell HE0.out.head 0 _ rfl
 have c00 := blk_cell h.head 0 _ rfl
 obtain ⟨B, hB⟩ : ∃ B, B = w.heap.size := ⟨_, rfl⟩
 have hrq := HE0.out.rq
 rw [<- hB] at hrq
 have q1 := blk_cell hrq 1 _ rfl
 have q2 := blk_cell hrq 2 _ rfl
 have q3 := blk_cell hrq 3 _ rfl
 have q4 := blk_cell hrq 4 _ rfl
 have q5 := blk_cell hrq 5 _ rfl
 have HRP := LH HE0.out.rp
 rw [<- hB] at HRP
 have HH := LH h
 have HW2 := LH hw2
 have HB := LH hB
 have CP := LH (stdel_any q p U t r.x w2.drew HE.out.st hx ho hw)
 obtain ⟨o, hoe⟩ : ∃ o, o = t.del r.x := ⟨_, rfl⟩
 rw [<- hoe] at CP
 rw [<- hoe]
 clear hx hoe
 obtain ⟨k, ⟨xc, xl, xn, xi⟩, b⟩ := r
 obtain ⟨ba, bn, bc, hbv⟩ := hb
 subst hbv
 clear hw2 hB hrq HE0 h
 unfold rqV rqL
 unfold rqL at HW2
 try dsimp only at q1 q2 q3 q4 q5
 unfold idV idC at CP
 try dsimp only at CP
 rw [show zeroRp = #[.int .i64 0, .slice none 0 0, .slice none 0 0, .int .i64 0, .bool false] from rfl] at HW2
 have c0L := c0
 rw [HW2.out] at c0L
 go_enter Tryz.func55, Tryz.ntmps55
 go_wp2_with fail
 clear c0L
 rw [<- HB.out]
 rw [<- HW2.out]
 refine wp_region_L [(6, fun w' => w'.cell? ⟨z, 0, none⟩ = some (.pointer (some ⟨q, 0, none⟩))), (6, fun w' => (w'.cell? ⟨B, 1, none⟩ = some (.int .i64 xc) /\ w'.cell? ⟨B, 2, none⟩ = some (.int .i64 xl) /\ w'.cell? ⟨B, 3, none⟩ = some (.int .i64 xn) /\ w'.cell? ⟨B, 4, none⟩ = some (.int .i64 xi)))] (by kernel_rfl) ?_ (fun hHeld => ?_)
 ·exact (HoldC.cons (c0) (HoldC.cons (⟨q1, q2, q3, q4⟩) HoldC.nil))
 refine tk 0 ?_ rfl (by kernel_rfl) (fun _ _ _ h => h) (.inl ⟨by rfl, ?_⟩) hHeld ?_; rotate_left; · (intro w _; go_simp; try with_reducible rfl)
 clear hHeld; intro hHeld; try simp only [gA,gB,gC,Act.put,gD,gE,gF]
 refine tk 1 ?_ rfl (by kernel_rfl) (fun _ _ _ h => h) (.inl ⟨by rfl, ?_⟩) hHeld ?_; rotate_left; · (intro w _; go_simp; try with_reducible rfl)
 clear hHeld; intro hHeld; try simp only [gA,gB,gC,Act.put,gD,gE,gF]
 refine tk 2 ?_ rfl (by kernel_rfl) (fun _ _ _ h => h) (.inl ⟨by rfl, ?_⟩) hHeld ?_; rotate_left; · (intro w _; go_simp; try with_reducible rfl)
 clear hHeld; intro hHeld; try simp only [gA,gB,gC,Act.put,gD,gE,gF]
 refine tk 4 ?_ rfl (by kernel_rfl) (fun _ _ _ h => h) (.inl ⟨by rfl, ?_⟩) hHeld ?_; rotate_left; · (intro w _; go_simp; try with_reducible rfl)
 clear hHeld; intro hHeld; try simp only [gA,gB,gC,Act.put,gD,gE,gF]
 refine ld 0 3 ?_ rfl rfl (by kernel_rfl) (fun _ _ _ h => h) (.inl ⟨by rfl, ?_⟩) hHeld ?_; rotate_left; · (intro w hSw; (try dsimp only at hSw); go_simp; try with_reducible rfl)
 clear hHeld; intro hHeld; try simp only [gA,gB,gC,Act.put,gD,gE,gF]
 refine ld 1 5 ?_ rfl rfl (by kernel_rfl) (fun _ _ _ h => h) (.inl ⟨by rfl, ?_⟩) hHeld ?_; rotate_left; · (intro w hSw; (try dsimp only at hSw); go_simp; try with_reducible rfl)
 clear hHeld; intro hHeld; try simp only [gA,gB,gC,Act.put,gD,gE,gF]
 refine wpAnyL_ready (rs := [6]) (by kernel_rfl) (by simp) (AllReadyL.cons (o := _) rfl (fun K hK => ?_) AllReadyL.nil)
 try simp only [gA,gB,gC]
 go_simp
 refine CP.out.mono ?_
 rintro e w3 ⟨rfl, hs3⟩
 have hz3 := hs3.blk HE.out.rp HE.out.out
 rw [<- HB.out] at hz3
 have HZ := LH (five_set hz3 (.int .i64 o.1) (.slice none 0 0) (.slice none 0 0) (.int .i64 0) (.bool false))
 have HTH := LH (five_there hz3 _ rfl)
 have HS := LH (HE.out.ends HH.out hs3 (rpL o.1 (.slice none 0 0) (.slice none 0 0) 0 false))
 rw [<- HB.out] at HS
 clear hz3 hs3 CP c0 c00 q1 q2 q3 q4 q5
 clear hHeld
 refine hK.out _ _ ?_ (fun hHeld => ?_)
 ·exact (HoldC.past (by kernel_rfl) (HoldC.past (by kernel_rfl) HoldC.nil))
 clear hK K
 try simp only [gA,gB,gC,Act.put,gD,gE,gF]
 refine tk 7 ?_ rfl (by kernel_rfl) (fun _ _ _ h => h) (.inl ⟨by rfl, ?_⟩) hHeld ?_; rotate_left; · (intro w _; go_simp; try with_reducible rfl)
 clear hHeld; intro hHeld; try simp only [gA,gB,gC,Act.put,gD,gE,gF]
 refine wpAnyL_ready (rs := [8]) (by kernel_rfl) (by simp) (AllReadyL.cons (o := _) rfl (fun K hK => ?_) AllReadyL.nil)
 try simp only [gA,gB,gC]
 rw [if_pos (by rfl)]
 refine wp_store_mid 52 (.tmp 4) (.tmp 12) (by rfl) (B + 1) 0 (rpL o.1 (.slice none 0 0) (.slice none 0 0) 0 false).toArray (by rfl) (by rfl) HTH.out (rp_size _ _ _ _ _) (err_all _) ?_
 clear hHeld
 refine hK.out _ _ ?_ (fun hHeld => ?_)
 ·exact (HoldC.past (by kernel_rfl) (HoldC.past (by kernel_rfl) HoldC.nil))
 clear hK K
 try simp only [gA,gB,gC,Act.put,gD,gE,gF]
 refine wpAnyL_done (by kernel_rfl) ?_ _
 clear hHeld
 go_wp2
 exact bodyPost_ret (ret_rp rfl _ rfl HZ.out) rfl ⟨_, rfl, RpAt.err _, HS.out⟩
theorem svlist_any (r : Rq) (bv : Value) (w : World) (h : SvAt G w z q p U t) (hb : ∃ a n c, bv = .slice a n c) :
  Calls Tryz.prog 56 #[.pointer (some ⟨z, 0, none⟩), rqV r bv] w (DeedPost G w q p U ⟨0, [], t.ids, 0, false⟩ t) := by
 have HE0 := LH (h.begins r bv)
 obtain ⟨w2, hw2⟩ : ∃ w2, w2 = (w.alloc (.cells (rqL r bv).toArray 47)).alloc (.cells zeroRp 52) := ⟨_, rfl⟩
 rw [<- hw2] at HE0
 have HE := LH HE0.out
 have c0 := blk_cell HE0.out.head 0 _ rfl
 have c00 := blk_cell h.head 0 _ rfl
 obtain ⟨B, hB⟩ : ∃ B, B = w.heap.size := ⟨_, rfl⟩
 have hrq := HE0.out.rq
 rw [<- hB] at hrq
 have q1 := blk_cell hrq 1 _ rfl
 have q2 := blk_cell hrq 2 _ rfl
 have q3 := blk_cell hrq 3 _ rfl
 have q4 := blk_cell hrq 4 _ rfl
 have q5 := blk_cell hrq 5 _ rfl
 have HRP := LH HE0.out.rp
 rw [<- hB] at HRP
 have HH := LH h
 have HW2 := LH hw2
 have HB := LH hB
 have CP := LH (stlist_any q p U t w2 HE.out.st)
 obtain ⟨ids, hids⟩ : ∃ ids, ids = t.ids := ⟨_, rfl⟩
 rw [<- hids] at CP
 rw [<- hids]
 clear hids
 obtain ⟨k, ⟨xc, xl, xn, xi⟩, b⟩ := r
 obtain ⟨ba, bn, bc, hbv⟩ := hb
 subst hbv
 clear hw2 hB hrq HE0 h
 unfold rqV rqL
 unfold rqL at HW2
 try dsimp only at q1 q2 q3 q4 q5
 rw [show zeroRp = #[.int .i64 0, .slice none 0 0, .slice none 0 0, .int .i64 0, .bool false] from rfl] at HW2
 have c0L := c0
 rw [HW2.out] at c0L
 go_enter Tryz.func56, Tryz.ntmps56
 go_wp2_with fail
 clear c0L
 rw [<- HB.out]
 rw [<- HW2.out]
 refine CP.out.mono ?_
 rintro e w3 ⟨v3, rfl, hr3, hc3⟩
 have hz3 := hc3.keep HE.out.rp (by simp)
 rw [<- HB.out] at hz3
 obtain ⟨a3, c3, rfl⟩ : ∃ a c, v3 = .slice a ids.length c := by
  rcases hr3.2 with ⟨h1, h2⟩ | ⟨g, cap, cur, h1, _⟩
  ·exact ⟨none, 0, by rw [h1, h2]⟩
  ·exact ⟨_, cap, h1⟩
 have HZ := LH (five_set hz3 (.int .i64 0) (.slice none 0 0) (.slice a3 ids.length c3) (.int .i64 0) (.bool false))
 have HS := LH (HE.out.calm HH.out hc3 (rpL 0 (.slice none 0 0) (.slice a3 ids.length c3) 0 false))
 have HR : Hid ((w3.setCells (w.heap.size + 1) 0 (rpL 0 (.slice none 0 0) (.slice a3 ids.length c3) 0 false)).ownsRow w.heap.size 45 4 (.slice a3 ids.length c3) ids.length (ids.flatMap idE)) := LH (by
  have hlo : ∀ g, (Value.slice a3 ids.length c3).ownBlock = some g -> w2.heap.size <= g := fun g hg => (World.ownsRow.lt hr3 g hg).1
  have hb2 := HE.out.new _ (List.mem_cons_self ..)
  refine row_keep (row_base hr3 w.heap.size (fun g hg => ?_)) (fun g hg => setCells_far _ _ _ _ ?_)
  ·have := hlo g hg; omega
  ·have := hlo g hg; omega)
 rw [<- HB.out] at HS HR
 obtain ⟨⟨m0, m1, m2, m3, m4⟩, f0, f1, f2, f3, f4⟩ := five_cells hz3
 clear hz3 hr3 hc3 CP c0 c00 q1 q2 q3 q4 q5
 go_wp2_with fail
 refine bodyPost_ret (ret_rp rfl _ rfl HZ.out) rfl ⟨_, rfl, ⟨.slice none 0 0, .slice a3 ids.length c3, rfl, BytesAt.nil _, by simp [Value.ownBlock], ?_⟩, HS.out⟩
 rw [<- HB.out]
 exact HR.out
theorem svinfo_any (r : Rq) (bv : Value) (w : World) (h : SvAt G w z q p U t) (hb : ∃ a n c, bv = .slice a n c) :
  Calls Tryz.prog 57 #[.pointer (some ⟨z, 0, none⟩), rqV r bv] w (DeedPost G w q p U ⟨0, [], [], (t.room : Int), t.whole⟩ t) := by
 have HE0 := LH (h.begins r bv)
 obtain ⟨w2, hw2⟩ : ∃ w2, w2 = (w.alloc (.cells (rqL r bv).toArray 47)).alloc (.cells zeroRp 52) := ⟨_, rfl⟩
 rw [<- hw2] at HE0
 have HE := LH HE0.out.drew
 have c0 := blk_cell HE0.out.head 0 _ rfl
 have c00 := blk_cell h.head 0 _ rfl
 obtain ⟨B, hB⟩ : ∃ B, B = w.heap.size := ⟨_, rfl⟩
 have hrq := HE0.out.rq
 rw [<- hB] at hrq
 have q1 := blk_cell hrq 1 _ rfl
 have q2 := blk_cell hrq 2 _ rfl
 have q3 := blk_cell hrq 3 _ rfl
 have q4 := blk_cell hrq 4 _ rfl
 have q5 := blk_cell hrq 5 _ rfl
 have HRP := LH HE0.out.rp
 rw [<- hB] at HRP
 have HH := LH h
 have HW2 := LH hw2
 have HB := LH hB
 have CR := LH (stroom_any q p U t w2.drew HE.out.st)
 have CWH := LH (stwhole_any q p U t w2.drew HE.out.st)
 obtain ⟨rm, hrm⟩ : ∃ rm, rm = t.room := ⟨_, rfl⟩
 obtain ⟨wh, hwh⟩ : ∃ wh, wh = t.whole := ⟨_, rfl⟩
 rw [<- hrm] at CR
 rw [<- hwh] at CWH
 rw [<- hrm, <- hwh]
 clear hrm hwh
 obtain ⟨k, ⟨xc, xl, xn, xi⟩, b⟩ := r
 obtain ⟨ba, bn, bc, hbv⟩ := hb
 subst hbv
 clear hw2 hB hrq HE0 h
 unfold rqV rqL
 unfold rqL at HW2
 try dsimp only at q1 q2 q3 q4 q5
 rw [show zeroRp = #[.int .i64 0, .slice none 0 0, .slice none 0 0, .int .i64 0, .bool false] from rfl] at HW2
 have c0L := c0
 rw [HW2.out] at c0L
 go_enter Tryz.func57, Tryz.ntmps57
 go_wp2_with fail
 clear c0L
 rw [<- HB.out]
 rw [<- HW2.out]
 have hz3 := HE.out.rp
 rw [<- HB.out] at hz3
 have HZ := LH (five_set hz3 (.int .i64 0) (.slice none 0 0) (.slice none 0 0) (.int .i64 (rm : Int)) (.bool wh))
 have HTH := LH (five_there hz3 _ rfl)
 have HS := LH (HE.out.calm HH.out (Chg.refl [] _) (rpL 0 (.slice none 0 0) (.slice none 0 0) (rm : Int) wh))
 rw [<- HB.out] at HS
 clear hz3
 refine wp_region_L [(4, fun w' => w'.cell? ⟨z, 0, none⟩ = some (.pointer (some ⟨q, 0, none⟩))), (9, fun w' => w'.cell? ⟨z, 0, none⟩ = some (.pointer (some ⟨q, 0, none⟩)))] (by kernel_rfl) ?_ (fun hHeld => ?_)
 ·exact (HoldC.cons (c0) (HoldC.cons (c0) HoldC.nil))
 refine tk 0 ?_ rfl (by kernel_rfl) (fun _ _ _ h => h) (.inl ⟨by rfl, ?_⟩) hHeld ?_; rotate_left; · (intro w _; go_simp; try with_reducible rfl)
 clear hHeld; intro hHeld; try simp only [gA,gB,gC,Act.put,gD,gE,gF]
 refine tk 1 ?_ rfl (by kernel_rfl) (fun _ _ _ h => h) (.inl ⟨by rfl, ?_⟩) hHeld ?_; rotate_left; · (intro w _; go_simp; try with_reducible rfl)
 clear hHeld; intro hHeld; try simp only [gA,gB,gC,Act.put,gD,gE,gF]
 refine tk 2 ?_ rfl (by kernel_rfl) (fun _ _ _ h => h) (.inl ⟨by rfl, ?_⟩) hHeld ?_; rotate_left; · (intro w _; go_simp; try with_reducible rfl)
 clear hHeld; intro hHeld; try simp only [gA,gB,gC,Act.put,gD,gE,gF]
 refine tk 5 ?_ rfl (by kernel_rfl) (fun _ _ _ h => h) (.inl ⟨by rfl, ?_⟩) hHeld ?_; rotate_left; · (intro w _; go_simp; try with_reducible rfl)
 clear hHeld; intro hHeld; try simp only [gA,gB,gC,Act.put,gD,gE,gF]
 refine tk 6 ?_ rfl (by kernel_rfl) (fun _ _ _ h => h) (.inl ⟨by rfl, ?_⟩) hHeld ?_; rotate_left; · (intro w _; go_simp; try with_reducible rfl)
 clear hHeld; intro hHeld; try simp only [gA,gB,gC,Act.put,gD,gE,gF]
 refine tk 7 ?_ rfl (by kernel_rfl) (fun _ _ _ h => h) (.inl ⟨by rfl, ?_⟩) hHeld ?_; rotate_left; · (intro w _; go_simp; try with_reducible rfl)
 clear hHeld; intro hHeld; try simp only [gA,gB,gC,Act.put,gD,gE,gF]
 refine ld 0 3 ?_ rfl rfl (by kernel_rfl) (fun _ _ _ h => h) (.inl ⟨by rfl, ?_⟩) hHeld ?_; rotate_left; · (intro w hSw; (try dsimp only at hSw); go_simp; try with_reducible rfl)
 clear hHeld; intro hHeld; try simp only [gA,gB,gC,Act.put,gD,gE,gF]
 refine ld 1 8 ?_ rfl rfl (by kernel_rfl) (fun _ _ _ h => h) (.inl ⟨by rfl, ?_⟩) hHeld ?_; rotate_left; · (intro w hSw; (try dsimp only at hSw); go_simp; try with_reducible rfl)
 clear hHeld; intro hHeld; try simp only [gA,gB,gC,Act.put,gD,gE,gF]
 refine wpAnyL_ready (rs := [4]) (by kernel_rfl) (by simp) (AllReadyL.cons (o := _) rfl (fun K hK => ?_) AllReadyL.nil)
 try simp only [gA,gB,gC]
 go_simp
 refine CR.out.mono ?_
 rintro e w' ⟨rfl, hq⟩
 subst hq
 clear hHeld
 refine hK.out _ _ ?_ (fun hHeld => ?_)
 ·exact (HoldC.past (by kernel_rfl) (HoldC.cons (c0) HoldC.nil))
 clear hK K
 try simp only [gA,gB,gC,Act.put,gD,gE,gF]
 refine wpAnyL_ready (rs := [9]) (by kernel_rfl) (by simp) (AllReadyL.cons (o := _) rfl (fun K hK => ?_) AllReadyL.nil)
 try simp only [gA,gB,gC]
 go_simp
 refine CWH.out.mono ?_
 rintro e w' ⟨rfl, hq⟩
 subst hq
 clear hHeld
 refine hK.out _ _ ?_ (fun hHeld => ?_)
 ·exact (HoldC.past (by kernel_rfl) (HoldC.past (by kernel_rfl) HoldC.nil))
 clear hK K
 try simp only [gA,gB,gC,Act.put,gD,gE,gF]
 refine tk 10 ?_ rfl (by kernel_rfl) (fun _ _ _ h => h) (.inl ⟨by rfl, ?_⟩) hHeld ?_; rotate_left; · (intro w _; go_simp; try with_reducible rfl)
 clear hHeld; intro hHeld; try simp only [gA,gB,gC,Act.put,gD,gE,gF]
 refine wpAnyL_ready (rs := [11]) (by kernel_rfl) (by simp) (AllReadyL.cons (o := _) rfl (fun K hK => ?_) AllReadyL.nil)
 try simp only [gA,gB,gC]
 rw [if_pos (by rfl)]
 refine wp_store_mid 52 (.tmp 4) (.tmp 15) (by rfl) (B + 1) 0 (rpL 0 (.slice none 0 0) (.slice none 0 0) (rm : Int) wh).toArray (by rfl) (by rfl) HTH.out (rp_size _ _ _ _ _) (rp_all _ _ _ _ _ _ _ _ _) ?_
 clear hHeld
 refine hK.out _ _ ?_ (fun hHeld => ?_)
 ·exact (HoldC.past (by kernel_rfl) (HoldC.past (by kernel_rfl) HoldC.nil))
 clear hK K
 try simp only [gA,gB,gC,Act.put,gD,gE,gF]
 refine wpAnyL_done (by kernel_rfl) ?_ _
 clear hHeld
 go_wp2
 exact bodyPost_ret (ret_rp rfl _ rfl HZ.out) rfl ⟨_, rfl, ⟨.slice none 0 0, .slice none 0 0, rfl, BytesAt.nil _, by simp [Value.ownBlock], World.ownsRow_nil _ _ _ _⟩, HS.out⟩
theorem svset_any (r : Rq) (bv : Value) (w : World) (h : SvAt G w z q p U t) (hb : ∃ a n c, bv = .slice a n c) (hn : 1 <= t.s.d.n) (ho : t.s.d.ops <= 900000000) (hw : t.s.d.since.length <= 900000) :
  Calls Tryz.prog 58 #[.pointer (some ⟨z, 0, none⟩), rqV r bv] w (DeedPost G w q p U (errRp t.setWhole.1) t.setWhole.2) := by
 have HE0 := LH (h.begins r bv)
 obtain ⟨w2, hw2⟩ : ∃ w2, w2 = (w.alloc (.cells (rqL r bv).toArray 47)).alloc (.cells zeroRp 52) := ⟨_, rfl⟩
 rw [<- hw2] at HE0
 have HE := LH HE0.out
 have c0 := blk_cell HE0.out.head 0 _ rfl
 have c00 := blk_cell h.head 0 _ rfl
 obtain ⟨B, hB⟩ : ∃ B, B = w.heap.size := ⟨_, rfl⟩
 have hrq := HE0.out.rq
 rw [<- hB] at hrq
 have q1 := blk_cell hrq 1 _ rfl
 have q2 := blk_cell hrq 2 _ rfl
 have q3 := blk_cell hrq 3 _ rfl
 have q4 := blk_cell hrq 4 _ rfl
 have q5 := blk_cell hrq 5 _ rfl
 have HRP := LH HE0.out.rp
 rw [<- hB] at HRP
 have HH := LH h
 have HW2 := LH hw2
 have HB := LH hB
 have CP := LH (stsetw_any q p U t w2 HE.out.st hn ho hw)
 obtain ⟨o, hoe⟩ : ∃ o, o = t.setWhole := ⟨_, rfl⟩
 rw [<- hoe] at CP
 rw [<- hoe]
 clear hoe
 obtain ⟨k, ⟨xc, xl, xn, xi⟩, b⟩ := r
 obtain ⟨ba, bn, bc, hbv⟩ := hb
 subst hbv
 clear hw2 hB hrq HE0 h
 unfold rqV rqL
 unfold rqL at HW2
 try dsimp only at q1 q2 q3 q4 q5
 rw [show zeroRp = #[.int .i64 0, .slice none 0 0, .slice none 0 0, .int .i64 0, .bool false] from rfl] at HW2
 have c0L := c0
 rw [HW2.out] at c0L
 go_enter Tryz.func58, Tryz.ntmps58
 go_wp2_with fail
 clear c0L
 rw [<- HB.out]
 rw [<- HW2.out]
 refine CP.out.mono ?_
 rintro e w3 ⟨rfl, hs3⟩
 have hz3 := hs3.blk HE.out.rp HE.out.out
 rw [<- HB.out] at hz3
 have HZ := LH (five_set hz3 (.int .i64 o.1) (.slice none 0 0) (.slice none 0 0) (.int .i64 0) (.bool false))
 have HS := LH (HE.out.ends HH.out hs3 (rpL o.1 (.slice none 0 0) (.slice none 0 0) 0 false))
 rw [<- HB.out] at HS
 obtain ⟨⟨m0, m1, m2, m3, m4⟩, f0, f1, f2, f3, f4⟩ := five_cells hz3
 clear hz3 hs3 CP c0 c00 q1 q2 q3 q4 q5
 go_wp2_with fail
 exact bodyPost_ret (ret_rp rfl _ rfl HZ.out) rfl ⟨_, rfl, RpAt.err _, HS.out⟩
theorem svno_any (r : Rq) (bv : Value) (w : World) (h : SvAt G w z q p U t) (hb : ∃ a n c, bv = .slice a n c) :
  Calls Tryz.prog 59 #[.pointer (some ⟨z, 0, none⟩), rqV r bv] w (DeedPost G w q p U (errRp 1) t) := by
 have HE0 := LH (h.begins r bv)
 obtain ⟨w2, hw2⟩ : ∃ w2, w2 = (w.alloc (.cells (rqL r bv).toArray 47)).alloc (.cells zeroRp 52) := ⟨_, rfl⟩
 rw [<- hw2] at HE0
 have HE := LH HE0.out
 have c0 := blk_cell HE0.out.head 0 _ rfl
 have c00 := blk_cell h.head 0 _ rfl
 obtain ⟨B, hB⟩ : ∃ B, B = w.heap.size := ⟨_, rfl⟩
 have hrq := HE0.out.rq
 rw [<- hB] at hrq
 have q1 := blk_cell hrq 1 _ rfl
 have q2 := blk_cell hrq 2 _ rfl
 have q3 := blk_cell hrq 3 _ rfl
 have q4 := blk_cell hrq 4 _ rfl
 have q5 := blk_cell hrq 5 _ rfl
 have HRP := LH HE0.out.rp
 rw [<- hB] at HRP
 have HH := LH h
 have HW2 := LH hw2
 have HB := LH hB
 obtain ⟨k, ⟨xc, xl, xn, xi⟩, b⟩ := r
 obtain ⟨ba, bn, bc, hbv⟩ := hb
 subst hbv
 clear hw2 hB hrq HE0 h
 unfold rqV rqL
 unfold rqL at HW2
 try dsimp only at q1 q2 q3 q4 q5
 rw [show zeroRp = #[.int .i64 0, .slice none 0 0, .slice none 0 0, .int .i64 0, .bool false] from rfl] at HW2
 have c0L := c0
 rw [HW2.out] at c0L
 go_enter Tryz.func59, Tryz.ntmps59
 go_wp2_with fail
 rw [<- HB.out]
 have hX : Hid (((w.alloc (.cells #[.int .i64 k, .int .i64 xc, .int .i64 xl, .int .i64 xn, .int .i64 xi, .slice ba bn bc] 47)).alloc (.cells #[.int .i64 1, .slice none 0 0, .slice none 0 0, .int .i64 0, .bool false] 52)).heap[B + 1]? = some (.cells (rpL 1 (.slice none 0 0) (.slice none 0 0) 0 false).toArray 52 (0, 0))) := LH (heap_at (by rw [HB.out]; simp))
 have HS := LH (Std.calm HH.out.st (((Chg.refl [] w).alloc (.cells #[.int .i64 k, .int .i64 xc, .int .i64 xl, .int .i64 xn, .int .i64 xi, .slice ba bn bc] 47)).alloc (.cells #[.int .i64 1, .slice none 0 0, .slice none 0 0, .int .i64 0, .bool false] 52)))
 exact bodyPost_ret (ret_rp rfl _ rfl hX.out) rfl ⟨_, rfl, RpAt.err _, HS.out⟩
end
def deedN (k : Int) : Nat := if k = 1 then 53 else if k = 2 then 54 else if k = 3 then 55 else if k = 4 then 56 else if k = 5 then 57 else if k = 6 then 58 else 59
theorem deedof_any (k : Int) (w : World) : Calls Tryz.prog 35 #[.int .i64 k] w fun e w' => e = .returned (.func (.func (deedN k)) #[] #[]) /\ w = w' := by
 unfold deedN
 by_cases h1 : k = 1
 ·subst h1
  go_enter Tryz.func35, Tryz.ntmps35
  go_wp2
  go_ret
  exact ⟨rfl, rfl⟩
 by_cases h2 : k = 2
 ·subst h2
  go_enter Tryz.func35, Tryz.ntmps35
  go_wp2
  go_ret
  exact ⟨rfl, rfl⟩
 by_cases h3 : k = 3
 ·subst h3
  go_enter Tryz.func35, Tryz.ntmps35
  go_wp2
  go_ret
  exact ⟨rfl, rfl⟩
 by_cases h4 : k = 4
 ·subst h4
  go_enter Tryz.func35, Tryz.ntmps35
  go_wp2
  go_ret
  exact ⟨rfl, rfl⟩
 by_cases h5 : k = 5
 ·subst h5
  go_enter Tryz.func35, Tryz.ntmps35
  go_wp2
  go_ret
  exact ⟨rfl, rfl⟩
 by_cases h6 : k = 6
 ·subst h6
  go_enter Tryz.func35, Tryz.ntmps35
  go_wp2
  go_ret
  exact ⟨rfl, rfl⟩
 rw [if_neg h1, if_neg h2, if_neg h3, if_neg h4, if_neg h5, if_neg h6]
 have q1 : (k == 1) = false := by simp [h1]
 have q2 : (k == 2) = false := by simp [h2]
 have q3 : (k == 3) = false := by simp [h3]
 have q4 : (k == 4) = false := by simp [h4]
 have q5 : (k == 5) = false := by simp [h5]
 have q6 : (k == 6) = false := by simp [h6]
 clear h1 h2 h3 h4 h5 h6
 go_enter Tryz.func35, Tryz.ntmps35
 go_wp2
 go_ret
 exact ⟨rfl, rfl⟩
theorem deed_enters (k : Int) : ∀ args w, (callFunc (deedN k) args).run Tryz.prog w = .ok (.enter (deedN k) args) w := by
 unfold deedN
 repeat' split
 ·exact enters_of Tryz.func53 (by kernel_rfl) rfl
 ·exact enters_of Tryz.func54 (by kernel_rfl) rfl
 ·exact enters_of Tryz.func55 (by kernel_rfl) rfl
 ·exact enters_of Tryz.func56 (by kernel_rfl) rfl
 ·exact enters_of Tryz.func57 (by kernel_rfl) rfl
 ·exact enters_of Tryz.func58 (by kernel_rfl) rfl
 ·exact enters_of Tryz.func59 (by kernel_rfl) rfl
section
variable {G U : List Nat} {z q p : Nat} {t : Sto}
theorem sdeed_any (r : Rq) (bv : Value) (w : World) (h : SvAt G w z q p U t) (hx : okD r.x) (hb : BytesAt w bv r.b) (hbU : r.b ≠ [] -> ∀ k, bv.ownBlock = some k -> k ∉ U) (hbl : r.b.length <= 1000000) (hn : 1 <= t.s.d.n) (ho : t.s.d.ops <= 800000000) (hw : t.s.d.since.length <= 800000) :
  Calls Tryz.prog (deedN r.k) #[.pointer (some ⟨z, 0, none⟩), rqV r bv] w (DeedPost G w q p U (t.step r).1 (t.step r).2) := by
 have hbs : ∃ a n c, bv = .slice a n c := by obtain ⟨a, c, e⟩ := hb.slice; exact ⟨a, _, c, e⟩
 by_cases h0 : r.k < 1 ∨ 6 < r.k
 ·rw [step0 t r h0]
  have e : deedN r.k = 59 := by unfold deedN; rw [if_neg (by omega), if_neg (by omega), if_neg (by omega), if_neg (by omega), if_neg (by omega), if_neg (by omega)]
  rw [e]
  exact svno_any r bv w h hbs
 ·obtain ⟨k, x, b⟩ := r
  dsimp only at h0
  obtain rfl | rfl | rfl | rfl | rfl | rfl : k = 1 ∨ k = 2 ∨ k = 3 ∨ k = 4 ∨ k = 5 ∨ k = 6 := by omega
  ·exact svput_any _ bv w h hx hb hbU hbl (by omega) (by omega)
  ·exact svget_any _ bv w h hbs hx
  ·exact svdel_any _ bv w h hbs hx ho hw
  ·exact svlist_any _ bv w h hbs
  ·exact svinfo_any _ bv w h hbs
  ·exact svset_any _ bv w h hbs hn (by omega) (by omega)
theorem stdisk_any (w : World) (h : StAt G w q p U t) : Calls Tryz.prog 33 #[.pointer (some ⟨q, 0, none⟩)] w fun e w' => e = .returned (.pointer (some ⟨p, 0, none⟩)) /\ w = w' := by
 obtain ⟨sp, mb, Us, φ, N, h, rfl⟩ := h
 have c0 := blk_cell h.head 0 _ rfl
 clear h
 go_enter Tryz.func33, Tryz.ntmps33
 go_wp2
 go_ret
 exact ⟨rfl, rfl⟩
theorem ret_rp2 {fn : Func} {p u : Tmp} (h : fn.results = #[.cell p 52, .tmp u]) (tmps : Array Value) {w : World} {b t : Nat} {e room : Int} {bv iv q : Value} {wh : Bool} (hp : tmps.getD p undef = .pointer (some ⟨b, 0, none⟩)) (hu : tmps.getD u undef = q) (hb : w.heap[b]? = some (.cells (rpL e bv iv room wh).toArray t (0, 0))) :
  (results fn tmps).run Tryz.prog w = .ok (.tuple #[rpV e bv iv room wh, q]) w := by
 have hl := run_loadVar_row (P := Tryz.prog) w b t 52 (rpL e bv iv room wh).toArray (0, 0) _ hb Tryz.underlying52 rfl (rp_size _ _ _ _ _)
 rw [results_cell_tmp h, hp, hu]
 simp only [asAddr, Sem.run_pure, Result.andThen_ok, hl]
 rfl
def DoPost (G : List Nat) (w : World) (q p : Nat) (U : List Nat) (r : (Rp × Int) × Sto) (e : Ending) (w' : World) : Prop := ∃ v, e = .returned (.tuple #[v, .int .i64 r.1.2]) /\ RpAt w w' v r.1.1 /\ Std G w w' q p U r.2
def DoMid (G : List Nat) (w w2 : World) (q p : Nat) (U : List Nat) (o : Rp) (t' : Sto) (C : Nat) (wx : World) : Prop :=
 ∃ a n c a' n' c', wx.heap[C]? = some (.cells (rpL o.e (.slice a n c) (.slice a' n' c') o.room o.whole).toArray 52 (0, 0)) /\ BytesAt wx (.slice a n c) o.b /\ wx.ownsRow w.heap.size 45 4 (.slice a' n' c') o.ids.length (o.ids.flatMap idE) /\
  (∀ k, (Value.slice a n c).ownBlock = some k ∨ (Value.slice a' n' c').ownBlock = some k -> w.heap.size <= k /\ k ≠ w.heap.size + 1) /\ Std ([w.heap.size + 1] ++ G) w2 wx q p U t' /\ C ≠ w.heap.size + 1 /\ w.heap.size <= C
theorem SvAt.add {w w2 : World} (h : SvAt G w z q p U t) (hc : Chg [] w w2) (hw : w.heap.size < w2.heap.size) : SvAt ([w.heap.size] ++ G) w2 z q p U t :=
 ⟨hc.keep h.head (by simp), h.st.with h.far hc (fun x hx => by rw [List.mem_singleton.1 hx]; exact ⟨Nat.le_refl _, hw⟩), h.out, fun x hx hm => by
  rcases List.mem_append.1 hm with hm | hm
  ·have := h.st.lim x hx; have := List.mem_singleton.1 hm; omega
  ·exact h.far x hx hm⟩
theorem SvAt.mid {w w2 : World} {r : Rq} {bv : Value} (h : SvAt G w z q p U t) (hE : Begins G w w2 z q p U t r bv) : SvAt ([w.heap.size + 1] ++ G) w2.drew z q p U t :=
 ⟨hE.head, hE.st.keep0 ((Chg.refl [] w2).drew), h.out, fun x hx hm => by
  rcases List.mem_append.1 hm with hm | hm
  ·exact hE.out (by rw [<- List.mem_singleton.1 hm]; exact hx)
  ·exact h.far x hx hm⟩
theorem doMid_late {w w2 w3 : World} {r : Rq} {bv : Value} {o : Rp} {t' : Sto} {a a' : Option Addr} {n n' c c' : Nat} (hE : Begins G w w2 z q p U t r bv) (h : SvAt G w z q p U t) (hb : BytesAt w3 (.slice a n c) o.b)
  (hn : ∀ k, (Value.slice a n c).ownBlock = some k -> w2.drew.heap.size <= k) (ho : w3.ownsRow w2.drew.heap.size 45 4 (.slice a' n' c') o.ids.length (o.ids.flatMap idE)) (hs : Std ([w.heap.size + 1] ++ G) w2.drew w3 q p U t') :
  DoMid G w w2 q p U o t' w3.heap.size ((w3.alloc (.cells #[.int .i64 0, .slice none 0 0, .slice none 0 0, .int .i64 0, .bool false] 52)).setCells w3.heap.size 0 (rpL o.e (.slice a n c) (.slice a' n' c') o.room o.whole)) := by
 have hs23 : w2.heap.size <= w3.heap.size := by obtain ⟨_, _, _, hc⟩ := hs; exact hc.size
 have hA := (hE.new _ (List.mem_cons_self ..))
 have hc1 : Chg [] w3 (w3.alloc (.cells #[.int .i64 0, .slice none 0 0, .slice none 0 0, .int .i64 0, .bool false] 52)) := (Chg.refl [] w3).alloc _
 have hz := heap_alloc_new w3 (.cells #[.int .i64 0, .slice none 0 0, .slice none 0 0, .int .i64 0, .bool false] 52)
 generalize w3.alloc (.cells #[.int .i64 0, .slice none 0 0, .slice none 0 0, .int .i64 0, .bool false] 52) = w4 at *
 have hc2 : Chg [] w3 (w4.setCells w3.heap.size 0 (rpL o.e (.slice a n c) (.slice a' n' c') o.room o.whole)) := hc1.setCells (.inr (Nat.le_refl _)) _
 have hd : w2.drew.heap.size = w2.heap.size := rfl
 refine ⟨a, n, c, a', n', c', five_set hz _ _ _ _ _, hb.chg hc2 (by simp), row_keep (row_base ho w.heap.size (fun g hg => ?_)) (fun g hg => hc2.block g (World.ownsRow.lt ho g hg).2 (by simp)), fun k hk => ?_, (Std.pre ((Chg.refl [] w2).drew) hs).post hc2, by omega, by omega⟩
 ·have := (World.ownsRow.lt ho g hg).1; omega
 ·rcases hk with hk | hk
  ·have := hn k hk; omega
  ·have := (World.ownsRow.lt ho k hk).1; omega
theorem doMid_early {w w2 w3 : World} {r : Rq} {bv : Value} {o : Rp} {t' : Sto} {a a' : Option Addr} {n n' c c' : Nat} (hE : Begins G w w2 z q p U t r bv) (h : SvAt G w z q p U t) (hb : BytesAt w3 (.slice a n c) o.b)
  (hn : ∀ k, (Value.slice a n c).ownBlock = some k -> (w2.alloc (.cells #[.int .i64 0, .slice none 0 0, .slice none 0 0, .int .i64 0, .bool false] 52)).drew.heap.size <= k) (ho : w3.ownsRow (w2.alloc (.cells #[.int .i64 0, .slice none 0 0, .slice none 0 0, .int .i64 0, .bool false] 52)).drew.heap.size 45 4 (.slice a' n' c') o.ids.length (o.ids.flatMap idE))
  (hs : Std ([w2.heap.size] ++ ([w.heap.size + 1] ++ G)) (w2.alloc (.cells #[.int .i64 0, .slice none 0 0, .slice none 0 0, .int .i64 0, .bool false] 52)).drew w3 q p U t') :
  DoMid G w w2 q p U o t' w2.heap.size (w3.setCells w2.heap.size 0 (rpL o.e (.slice a n c) (.slice a' n' c') o.room o.whole)) := by
 have hA := (hE.new _ (List.mem_cons_self ..))
 have hcX : Chg [] w2 (w2.alloc (.cells #[.int .i64 0, .slice none 0 0, .slice none 0 0, .int .i64 0, .bool false] 52)).drew := ((Chg.refl [] w2).alloc _).drew
 have hzX : (w2.alloc (.cells #[.int .i64 0, .slice none 0 0, .slice none 0 0, .int .i64 0, .bool false] 52)).drew.heap[w2.heap.size]? = some (.cells #[.int .i64 0, .slice none 0 0, .slice none 0 0, .int .i64 0, .bool false] 52 (0, 0)) := heap_alloc_new w2 _
 have hsX : (w2.alloc (.cells #[.int .i64 0, .slice none 0 0, .slice none 0 0, .int .i64 0, .bool false] 52)).drew.heap.size = w2.heap.size + 1 := by show (w2.alloc _).heap.size = _; simp
 generalize (w2.alloc (.cells #[.int .i64 0, .slice none 0 0, .slice none 0 0, .int .i64 0, .bool false] 52)).drew = wX at *
 have hl2 : ∀ x ∈ U, x < w2.heap.size := fun x hx => Nat.lt_of_lt_of_le (h.st.lim x hx) hE.chg.size
 have hz3 := hs.blk hzX (fun hm => by have := hl2 _ hm; omega)
 have hc : Chg [w2.heap.size] w3 (w3.setCells w2.heap.size 0 (rpL o.e (.slice a n c) (.slice a' n' c') o.room o.whole)) := (Chg.refl _ w3).setCells (.inl (by simp)) _
 refine ⟨a, n, c, a', n', c', five_set hz3 _ _ _ _ _, hb.chg hc (fun k hk hm => ?_), row_keep (row_base ho w.heap.size (fun g hg => ?_)) (fun g hg => hc.block g (World.ownsRow.lt ho g hg).2 (fun hm => ?_)), fun k hk => ?_, Std.local (T := [w2.heap.size]) (fun x hx => ?_) (fun x hx hm => ?_) hl2 hcX (fun x hx => by rw [List.mem_singleton.1 hx]; omega) hs (fun x hx => by rw [List.mem_singleton.1 hx]; exact zeroRp_no8 hz3) hc, by omega, by omega⟩
 ·have := hn k hk; have := List.mem_singleton.1 hm; omega
 ·have := (World.ownsRow.lt ho g hg).1; omega
 ·have := (World.ownsRow.lt ho g hg).1; have := List.mem_singleton.1 hm; omega
 ·rcases hk with hk | hk
  ·have := hn k hk; omega
  ·have := (World.ownsRow.lt ho k hk).1; omega
 ·rcases List.mem_append.1 hx with hx | hx
  ·rw [List.mem_singleton.1 hx]; exact hA.2
  ·exact Nat.lt_of_lt_of_le (h.st.gl x hx) hE.chg.size
 ·rcases List.mem_append.1 hm with hm | hm
  ·exact hE.out (by rw [<- List.mem_singleton.1 hm]; exact hx)
  ·exact h.far x hx hm
theorem svdo_any (r : Rq) (bv : Value) (w : World) (h : SvAt G w z q p U t) (hx : okD r.x) (hb : BytesAt w bv r.b) (hbU : r.b ≠ [] -> ∀ k, bv.ownBlock = some k -> k ∉ U) (hbl : r.b.length <= 1000000) (hn : 1 <= t.s.d.n) (ho : t.s.d.ops <= 800000000) (hw : t.s.d.since.length <= 800000) :
  Calls Tryz.prog 17 #[.pointer (some ⟨z, 0, none⟩), rqV r bv] w (DoPost G w q p U (t.run r)) := by
 have HE0 := LH (h.begins r bv)
 obtain ⟨w2, hw2⟩ : ∃ w2, w2 = (w.alloc (.cells (rqL r bv).toArray 47)).alloc (.cells zeroRp 52) := ⟨_, rfl⟩
 rw [<- hw2] at HE0
 have hst2 := h.st.keep0 HE0.out.chg
 have CDK := LH (stdisk_any w2 hst2)
 have CDD := LH hst2.dead
 have c0 := blk_cell HE0.out.head 0 _ rfl
 obtain ⟨B, hB⟩ : ∃ B, B = w.heap.size := ⟨_, rfl⟩
 have hrq := HE0.out.rq
 rw [<- hB] at hrq
 have HRP := LH HE0.out.rp
 rw [<- hB] at HRP
 have HH := LH h
 have HBY := LH (hb.chg HE0.out.chg (by simp))
 have HBU := LH hbU
 have HXO := LH hx
 have HW2 := LH hw2
 have HB := LH hB
 have HLIM := LH (And.intro hbl (And.intro hn (And.intro ho hw)))
 have HRUN : Hid (t.run r = if t.s.d.dead then ((noRp, 14), t) else if (t.step r).2.s.d.dead then ((noRp, 14), (t.step r).2) else (((t.step r).1, 0), (t.step r).2)) := LH rfl
 obtain ⟨R, hR⟩ : ∃ R, R = t.run r := ⟨_, rfl⟩
 rw [<- hR] at HRUN
 rw [<- hR]
 obtain ⟨k, ⟨xc, xl, xn, xi⟩, b⟩ := r
 obtain ⟨ba, bc, hbv⟩ := hb.slice
 subst hbv
 obtain ⟨q0, ⟨q1, q2, q3, q4⟩, q5⟩ := rq_cells hrq
 have HRQ := LH hrq
 unfold rqV rqL
 unfold rqL at HW2
 rw [show zeroRp = #[.int .i64 0, .slice none 0 0, .slice none 0 0, .int .i64 0, .bool false] from rfl] at HW2
 have c0L := c0
 rw [HW2.out] at c0L
 clear hw2 hB hrq h hx hb hbU hst2 hR hn ho hw hbl
 go_enter Tryz.func17, Tryz.ntmps17
 go_wp2_with fail
 clear c0L
 rw [<- HB.out, <- HW2.out]
 refine CDK.out.mono ?_
 rintro e w' ⟨rfl, hq⟩
 subst hq
 go_wp2_with fail
 refine CDD.out.mono ?_
 rintro e w' ⟨rfl, hq⟩
 subst hq
 cases hdd : t.s.d.dead
 ·rw [hdd] at HRUN
  rw [if_neg (by simp)] at HRUN
  go_upto_region 3 with (fail)
  go_cut [6] (fun s6 wx => ∃ C, s6 = .pointer (some ⟨C, 0, none⟩) /\ Hid (DoMid G w w2 q p U (t.step ⟨k, ⟨xc, xl, xn, xi⟩, b⟩).1 (t.step ⟨k, ⟨xc, xl, xn, xi⟩, b⟩).2 C wx))
  case first =>
   have hent := deed_enters k
   have hG1 : SvAt ([w.heap.size + 1] ++ G) w2.drew z q p U t := HH.out.mid HE0.out
   have CPY := LH (sdeed_any ⟨k, ⟨xc, xl, xn, xi⟩, b⟩ (.slice ba b.length bc) w2.drew hG1 HXO.out (HBY.out.keep (fun _ _ => rfl)) HBU.out HLIM.out.1 HLIM.out.2.1 HLIM.out.2.2.1 HLIM.out.2.2.2)
   have hcX : Chg [] w2 (w2.alloc (.cells #[.int .i64 0, .slice none 0 0, .slice none 0 0, .int .i64 0, .bool false] 52)).drew := ((Chg.refl [] w2).alloc _).drew
   have hG2 : SvAt ([w2.heap.size] ++ ([w.heap.size + 1] ++ G)) (w2.alloc (.cells #[.int .i64 0, .slice none 0 0, .slice none 0 0, .int .i64 0, .bool false] 52)).drew z q p U t := (hG1.add (w2 := (w2.alloc (.cells #[.int .i64 0, .slice none 0 0, .slice none 0 0, .int .i64 0, .bool false] 52)).drew) ⟨hcX.os, hcX.tape, hcX.output, hcX.size, hcX.block⟩ (by
    rw [show w2.drew.heap.size = w2.heap.size from rfl]
    show w2.heap.size < (w2.alloc _).heap.size
    simp))
   have CPX := LH (sdeed_any ⟨k, ⟨xc, xl, xn, xi⟩, b⟩ (.slice ba b.length bc) _ hG2 HXO.out (HBY.out.chg hcX (by simp)) HBU.out HLIM.out.1 HLIM.out.2.1 HLIM.out.2.2.1 HLIM.out.2.2.2)
   obtain ⟨r0, ⟨r1, r2, r3, r4⟩, r5⟩ := rq_cells (hcX.keep HRQ.out (by simp))
   unfold rqV rqL at CPX CPY
   clear hG1 hG2
   have HCX := LH hcX
   clear hcX
   go_wp2_with fail
   refine wp_region_L [(2, fun w' => w'.cell? ⟨B, 0, none⟩ = some (.int .i64 k)), (5, fun w' => (w'.cell? ⟨B, 0, none⟩ = some (.int .i64 k) /\ w'.cell? ⟨B, 1, none⟩ = some (.int .i64 xc) /\ w'.cell? ⟨B, 2, none⟩ = some (.int .i64 xl) /\ w'.cell? ⟨B, 3, none⟩ = some (.int .i64 xn) /\ w'.cell? ⟨B, 4, none⟩ = some (.int .i64 xi) /\ w'.cell? ⟨B, 5, none⟩ = some (.slice ba b.length bc)))] (by kernel_rfl) ?_ (fun hHeld => ?_)
   ·exact (HoldC.cons (q0) (HoldC.cons (⟨q0, q1, q2, q3, q4, q5⟩) HoldC.nil))
   refine tk 0 ?_ rfl (by kernel_rfl) (fun _ _ _ h => h) (.inl ⟨by rfl, ?_⟩) hHeld ?_; rotate_left; · (intro w _; go_simp; try with_reducible rfl)
   clear hHeld; intro hHeld; try simp only [gA,gB,gC,Act.put,gD,gE,gF]
   refine tk 3 ?_ rfl (by kernel_rfl) (fun _ _ _ h => h) (.inl ⟨by rfl, ?_⟩) hHeld ?_; rotate_left; · (intro w _; go_simp; try with_reducible rfl)
   clear hHeld; intro hHeld; try simp only [gA,gB,gC,Act.put,gD,gE,gF]
   refine ld 0 1 ?_ rfl rfl (by kernel_rfl) (fun _ _ _ h => h) (.inl ⟨by rfl, ?_⟩) hHeld ?_; rotate_left; · (intro w hSw; (try dsimp only at hSw); go_simp; try with_reducible rfl)
   clear hHeld; intro hHeld; try simp only [gA,gB,gC,Act.put,gD,gE,gF]
   refine ld 1 4 ?_ rfl rfl (by kernel_rfl) (fun _ _ _ h => h) (.inl ⟨by rfl, ?_⟩) hHeld ?_; rotate_left; · (intro w hSw; (try dsimp only at hSw); go_simp; try with_reducible rfl)
   clear hHeld; intro hHeld; try simp only [gA,gB,gC,Act.put,gD,gE,gF]
   refine wpAnyL_ready (rs := [2, 6]) (by kernel_rfl) (by simp) ?_
   refine AllReadyL.cons (o := _) rfl (fun K hK => ?_) (AllReadyL.cons (o := _) rfl (fun K hK => ?_) AllReadyL.nil)
   ·try simp only [gA,gB,gC]
    go_simp
    refine (deedof_any k w2.drew).mono ?_
    rintro e w' ⟨rfl, hq⟩
    subst hq
    clear hHeld
    refine hK.out _ _ ?_ (fun hHeld => ?_)
    ·exact (HoldC.past (by kernel_rfl) (HoldC.cons (⟨q0, q1, q2, q3, q4, q5⟩) HoldC.nil))
    clear hK K
    try simp only [gA,gB,gC,Act.put,gD,gE,gF]
    refine wpAnyL_ready (rs := [5, 6]) (by kernel_rfl) (by simp) ?_
    refine AllReadyL.cons (o := _) rfl (fun K hK => ?_) (AllReadyL.cons (o := _) rfl (fun K hK => ?_) AllReadyL.nil)
    ·try simp only [gA,gB,gC]
     go_simp
     refine CPY.out.mono ?_
     rintro e w3 ⟨v3, rfl, hr3, hs3⟩
     obtain ⟨bv3, iv3, rfl, hb3, hn3, ho3⟩ := hr3
     obtain ⟨a3, c3, rfl⟩ := hb3.slice
     obtain ⟨a4, n4, c4, rfl⟩ : ∃ a n c, iv3 = .slice a n c := by
      rcases ho3.2 with ⟨h1, h2⟩ | ⟨g, cap, cur, h1, _⟩
      ·exact ⟨none, 0, 0, h1⟩
      ·exact ⟨_, _, cap, h1⟩
     have HM := LH (doMid_late HE0.out HH.out hb3 hn3 ho3 hs3)
     clear hb3 hn3 ho3 hs3
     clear hHeld
     refine hK.out _ _ ?_ (fun hHeld => ?_)
     ·exact (HoldC.past (by kernel_rfl) (HoldC.past (by kernel_rfl) HoldC.nil))
     clear hK K
     try simp only [gA,gB,gC,Act.put,gD,gE,gF]
     refine wpAnyL_ready (rs := [6]) (by kernel_rfl) (by simp) (AllReadyL.cons (o := _) rfl (fun K hK => ?_) AllReadyL.nil)
     try simp only [gA,gB,gC]
     go_simp
     obtain ⟨w4, hw4⟩ : ∃ w4, w4 = w3.alloc (.cells #[.int .i64 0, .slice none 0 0, .slice none 0 0, .int .i64 0, .bool false] 52) := ⟨_, rfl⟩
     rw [<- hw4]
     have HW4 := LH hw4
     have hz4 : w4.heap[w3.heap.size]? = some (.cells #[.int .i64 0, .slice none 0 0, .slice none 0 0, .int .i64 0, .bool false] 52 (0, 0)) := by rw [hw4]; exact heap_alloc_new w3 _
     have HTH := LH (five_there hz4 _ rfl)
     clear hw4 hz4
     clear hHeld
     refine hK.out _ _ ?_ (fun hHeld => ?_)
     ·exact (HoldC.past (by kernel_rfl) (HoldC.past (by kernel_rfl) HoldC.nil))
     clear hK K
     try simp only [gA,gB,gC,Act.put,gD,gE,gF]
     refine wpAnyL_ready (rs := [7]) (by kernel_rfl) (by simp) (AllReadyL.cons (o := _) rfl (fun K hK => ?_) AllReadyL.nil)
     try simp only [gA,gB,gC]
     rw [if_pos (by rfl)]
     refine wp_store_mid 52 (.tmp 6) (.tmp 30) (by rfl) w3.heap.size 0 (rpL (t.step ⟨k, ⟨xc, xl, xn, xi⟩, b⟩).1.e (.slice a3 (t.step ⟨k, ⟨xc, xl, xn, xi⟩, b⟩).1.b.length c3) (.slice a4 n4 c4) (t.step ⟨k, ⟨xc, xl, xn, xi⟩, b⟩).1.room (t.step ⟨k, ⟨xc, xl, xn, xi⟩, b⟩).1.whole).toArray (by rfl) (by rfl) HTH.out (rp_size _ _ _ _ _) (rp_all _ _ _ _ _ _ _ _ _) ?_
     clear hHeld
     refine hK.out _ _ ?_ (fun hHeld => ?_)
     ·exact (HoldC.past (by kernel_rfl) (HoldC.past (by kernel_rfl) HoldC.nil))
     clear hK K
     try simp only [gA,gB,gC,Act.put,gD,gE,gF]
     refine wpAnyL_done (by kernel_rfl) ?_ _
     clear hHeld
     go_wp2_with fail
     go_meet
     exact ⟨_, rfl, by rw [HW4.out]; exact HM⟩
    ·try simp only [gA,gB,gC]
     go_simp
     clear hHeld
     refine hK.out _ _ ?_ (fun hHeld => ?_)
     ·exact (HoldC.past (by kernel_rfl) (HoldC.cons (⟨r0, r1, r2, r3, r4, r5⟩) HoldC.nil))
     clear hK K
     try simp only [gA,gB,gC,Act.put,gD,gE,gF]
     refine wpAnyL_ready (rs := [5]) (by kernel_rfl) (by simp) (AllReadyL.cons (o := _) rfl (fun K hK => ?_) AllReadyL.nil)
     try simp only [gA,gB,gC]
     go_simp
     refine CPX.out.mono ?_
     rintro e w3 ⟨v3, rfl, hr3, hs3⟩
     obtain ⟨bv3, iv3, rfl, hb3, hn3, ho3⟩ := hr3
     obtain ⟨a3, c3, rfl⟩ := hb3.slice
     obtain ⟨a4, n4, c4, rfl⟩ : ∃ a n c, iv3 = .slice a n c := by
      rcases ho3.2 with ⟨h1, h2⟩ | ⟨g, cap, cur, h1, _⟩
      ·exact ⟨none, 0, 0, h1⟩
      ·exact ⟨_, _, cap, h1⟩
     have HM := LH (doMid_early HE0.out HH.out hb3 hn3 ho3 hs3)
     have hz4 := hs3.blk (show (w2.alloc (.cells #[.int .i64 0, .slice none 0 0, .slice none 0 0, .int .i64 0, .bool false] 52)).drew.heap[w2.heap.size]? = some (.cells #[.int .i64 0, .slice none 0 0, .slice none 0 0, .int .i64 0, .bool false] 52 (0, 0)) from heap_alloc_new w2 _) (fun hm => by have := HH.out.st.lim _ hm; have := HE0.out.chg.size; omega)
     have HTH := LH (five_there hz4 _ rfl)
     clear hb3 hn3 ho3 hs3 hz4
     clear hHeld
     refine hK.out _ _ ?_ (fun hHeld => ?_)
     ·exact (HoldC.past (by kernel_rfl) (HoldC.past (by kernel_rfl) HoldC.nil))
     clear hK K
     try simp only [gA,gB,gC,Act.put,gD,gE,gF]
     refine wpAnyL_ready (rs := [7]) (by kernel_rfl) (by simp) (AllReadyL.cons (o := _) rfl (fun K hK => ?_) AllReadyL.nil)
     try simp only [gA,gB,gC]
     rw [if_pos (by rfl)]
     refine wp_store_mid 52 (.tmp 6) (.tmp 30) (by rfl) w2.heap.size 0 (rpL (t.step ⟨k, ⟨xc, xl, xn, xi⟩, b⟩).1.e (.slice a3 (t.step ⟨k, ⟨xc, xl, xn, xi⟩, b⟩).1.b.length c3) (.slice a4 n4 c4) (t.step ⟨k, ⟨xc, xl, xn, xi⟩, b⟩).1.room (t.step ⟨k, ⟨xc, xl, xn, xi⟩, b⟩).1.whole).toArray (by rfl) (by rfl) HTH.out (rp_size _ _ _ _ _) (rp_all _ _ _ _ _ _ _ _ _) ?_
     clear hHeld
     refine hK.out _ _ ?_ (fun hHeld => ?_)
     ·exact (HoldC.past (by kernel_rfl) (HoldC.past (by kernel_rfl) HoldC.nil))
     clear hK K
     try simp only [gA,gB,gC,Act.put,gD,gE,gF]
     refine wpAnyL_done (by kernel_rfl) ?_ _
     clear hHeld
     go_wp2_with fail
     go_meet
     exact ⟨_, rfl, HM⟩
   ·try simp only [gA,gB,gC]
    go_simp
    clear hHeld
    refine hK.out _ _ ?_ (fun hHeld => ?_)
    ·exact (HoldC.cons (r0) (HoldC.cons (⟨r0, r1, r2, r3, r4, r5⟩) HoldC.nil))
    clear hK K
    try simp only [gA,gB,gC,Act.put,gD,gE,gF]
    refine wpAnyL_ready (rs := [2]) (by kernel_rfl) (by simp) (AllReadyL.cons (o := _) rfl (fun K hK => ?_) AllReadyL.nil)
    try simp only [gA,gB,gC]
    go_simp
    refine (deedof_any k _).mono ?_
    rintro e w' ⟨rfl, hq⟩
    subst hq
    clear hHeld
    refine hK.out _ _ ?_ (fun hHeld => ?_)
    ·exact (HoldC.past (by kernel_rfl) (HoldC.cons (⟨r0, r1, r2, r3, r4, r5⟩) HoldC.nil))
    clear hK K
    try simp only [gA,gB,gC,Act.put,gD,gE,gF]
    refine wpAnyL_ready (rs := [5]) (by kernel_rfl) (by simp) (AllReadyL.cons (o := _) rfl (fun K hK => ?_) AllReadyL.nil)
    try simp only [gA,gB,gC]
    go_simp
    refine CPX.out.mono ?_
    rintro e w3 ⟨v3, rfl, hr3, hs3⟩
    obtain ⟨bv3, iv3, rfl, hb3, hn3, ho3⟩ := hr3
    obtain ⟨a3, c3, rfl⟩ := hb3.slice
    obtain ⟨a4, n4, c4, rfl⟩ : ∃ a n c, iv3 = .slice a n c := by
     rcases ho3.2 with ⟨h1, h2⟩ | ⟨g, cap, cur, h1, _⟩
     ·exact ⟨none, 0, 0, h1⟩
     ·exact ⟨_, _, cap, h1⟩
    have HM := LH (doMid_early HE0.out HH.out hb3 hn3 ho3 hs3)
    have hz4 := hs3.blk (show (w2.alloc (.cells #[.int .i64 0, .slice none 0 0, .slice none 0 0, .int .i64 0, .bool false] 52)).drew.heap[w2.heap.size]? = some (.cells #[.int .i64 0, .slice none 0 0, .slice none 0 0, .int .i64 0, .bool false] 52 (0, 0)) from heap_alloc_new w2 _) (fun hm => by have := HH.out.st.lim _ hm; have := HE0.out.chg.size; omega)
    have HTH := LH (five_there hz4 _ rfl)
    clear hb3 hn3 ho3 hs3 hz4
    clear hHeld
    refine hK.out _ _ ?_ (fun hHeld => ?_)
    ·exact (HoldC.past (by kernel_rfl) (HoldC.past (by kernel_rfl) HoldC.nil))
    clear hK K
    try simp only [gA,gB,gC,Act.put,gD,gE,gF]
    refine wpAnyL_ready (rs := [7]) (by kernel_rfl) (by simp) (AllReadyL.cons (o := _) rfl (fun K hK => ?_) AllReadyL.nil)
    try simp only [gA,gB,gC]
    rw [if_pos (by rfl)]
    refine wp_store_mid 52 (.tmp 6) (.tmp 30) (by rfl) w2.heap.size 0 (rpL (t.step ⟨k, ⟨xc, xl, xn, xi⟩, b⟩).1.e (.slice a3 (t.step ⟨k, ⟨xc, xl, xn, xi⟩, b⟩).1.b.length c3) (.slice a4 n4 c4) (t.step ⟨k, ⟨xc, xl, xn, xi⟩, b⟩).1.room (t.step ⟨k, ⟨xc, xl, xn, xi⟩, b⟩).1.whole).toArray (by rfl) (by rfl) HTH.out (rp_size _ _ _ _ _) (rp_all _ _ _ _ _ _ _ _ _) ?_
    clear hHeld
    refine hK.out _ _ ?_ (fun hHeld => ?_)
    ·exact (HoldC.past (by kernel_rfl) (HoldC.past (by kernel_rfl) HoldC.nil))
    clear hK K
    try simp only [gA,gB,gC,Act.put,gD,gE,gF]
    refine wpAnyL_done (by kernel_rfl) ?_ _
    clear hHeld
    go_wp2_with fail
    go_meet
    exact ⟨_, rfl, HM⟩
  case rest =>
  obtain ⟨C, rfl, HM⟩ := hcut
  obtain ⟨a3, n3, c3, a4, n4, c4, hC, hbC, hoC, hown, hs, hCA, hCw⟩ := HM.out
  have HZA := LH (hs.blk HE0.out.rp HE0.out.out)
  rw [<- HB.out] at HZA
  have HZC := LH hC
  have HBC := LH hbC
  have HOC := LH hoC
  have HOW := LH hown
  have HSS := LH hs
  have hzz := blk_cell (hs.blk HE0.out.head HH.out.out) 0 _ rfl
  obtain ⟨U', a1, a2, a3'⟩ := hs
  have CDK2 := LH (stdisk_any wc a1)
  have CDD2 := LH a1.dead
  have HE1 := HE0
  clear hC hbC hoC hown a1 a2 a3' CDK CDD c0 q0 q1 q2 q3 q4 q5 HM hCA hCw
  obtain ⟨o, ho⟩ : ∃ o, o = t.step ⟨k, ⟨xc, xl, xn, xi⟩, b⟩ := ⟨_, rfl⟩
  rw [<- ho] at HRUN HZC HBC HOC HSS CDD2
  clear ho
  obtain ⟨⟨oe, ob, oi, orm, ow⟩, t'⟩ := o
  dsimp only at HZC HBC HOC HSS CDD2
  go_wp2_with fail
  refine CDK2.out.mono ?_
  rintro e w' ⟨rfl, hq⟩
  subst hq
  go_wp2_with fail
  refine CDD2.out.mono ?_
  rintro e w' ⟨rfl, hq⟩
  subst hq
  clear hzz CDK2 CDD2
  cases hd2 : t'.s.d.dead
  ·rw [if_neg (by rw [hd2]; simp)] at HRUN
   obtain ⟨⟨p0, p1, p2, p3, p4⟩, g0, g1, g2, g3, g4⟩ := five_cells HZC.out
   obtain ⟨⟨m0, m1, m2, m3, m4⟩, f0, f1, f2, f3, f4⟩ := five_cells HZA.out
   have HZ := LH (five_set HZA.out (.int .i64 oe) (.slice a3 n3 c3) (.slice a4 n4 c4) (.int .i64 orm) (.bool ow))
   have HS := LH (HE0.out.ends HH.out HSS.out (rpL oe (.slice a3 n3 c3) (.slice a4 n4 c4) orm ow))
   rw [<- HB.out] at HS
   have HBX : Hid (BytesAt (wc.setCells (B + 1) 0 (rpL oe (.slice a3 n3 c3) (.slice a4 n4 c4) orm ow)) (.slice a3 n3 c3) ob /\ (wc.setCells (B + 1) 0 (rpL oe (.slice a3 n3 c3) (.slice a4 n4 c4) orm ow)).ownsRow w.heap.size 45 4 (.slice a4 n4 c4) oi.length (oi.flatMap idE)) := LH (by
    have hc : Chg [B + 1] wc (wc.setCells (B + 1) 0 (rpL oe (.slice a3 n3 c3) (.slice a4 n4 c4) orm ow)) := (Chg.refl _ wc).setCells (.inl (by simp)) _
    have hB := HB.out
    refine ⟨HBC.out.chg hc (fun k hk hm => ?_), row_keep HOC.out (fun g hg => hc.block g (World.ownsRow.lt HOC.out g hg).2 (fun hm => ?_))⟩
    ·exact (HOW.out k (.inl hk)).2 (by rw [List.mem_singleton.1 hm, hB])
    ·exact (HOW.out g (.inr hg)).2 (by rw [List.mem_singleton.1 hm, hB]))
   go_wp2_with fail
   refine bodyPost_ret (ret_rp2 rfl _ rfl rfl HZ.out) rfl ?_
   rw [HRUN.out]
   exact ⟨_, rfl, ⟨.slice a3 n3 c3, .slice a4 n4 c4, rfl, HBX.out.1, fun k hk => (HOW.out k (.inl hk)).1, HBX.out.2⟩, HS.out⟩
  ·rw [if_pos (by rw [hd2])] at HRUN
   obtain ⟨⟨m0, m1, m2, m3, m4⟩, f0, f1, f2, f3, f4⟩ := five_cells HZA.out
   have HZ := LH (five_set HZA.out (.int .i64 0) (.slice none 0 0) (.slice none 0 0) (.int .i64 0) (.bool false))
   have HS := LH (HE0.out.ends HH.out HSS.out (rpL 0 (.slice none 0 0) (.slice none 0 0) 0 false))
   rw [<- HB.out] at HS
   go_wp2_with fail
   refine bodyPost_ret (ret_rp2 rfl _ rfl rfl HZ.out) rfl ?_
   rw [HRUN.out]
   exact ⟨_, rfl, RpAt.err 0, HS.out⟩
 ·rw [hdd] at HRUN
  rw [if_pos rfl] at HRUN
  have hz := HRP.out
  obtain ⟨⟨m0, m1, m2, m3, m4⟩, f0, f1, f2, f3, f4⟩ := five_cells hz
  have HZ := LH (five_set hz (.int .i64 0) (.slice none 0 0) (.slice none 0 0) (.int .i64 0) (.bool false))
  have HS := LH (HE0.out.calm HH.out (Chg.refl [] w2) (rpL 0 (.slice none 0 0) (.slice none 0 0) 0 false))
  rw [<- HB.out] at HS
  clear hz
  go_wp2_with fail
  refine bodyPost_ret (ret_rp2 rfl _ rfl rfl HZ.out) rfl ?_
  rw [HRUN.out]
  exact ⟨_, rfl, RpAt.err 0, HS.out⟩
end
end Go.Proofs.YtnbhanmpmjjkkaaGreatDoor.W
