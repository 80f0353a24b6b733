/- The program's Write; bytes; Clone. -/
import Derived.Test.YtembgdjdljflhaaP6
import Derived.Deep.RegionHeld3
namespace Go.Proofs.Ytembgdjdljflhaa
open Go.RowKit
set_option linter.unusedVariables false
set_option linter.unusedSimpArgs false

theorem pen_uniq {t : TypeId} {w : World} {b : Nat} {g g' : Option Nat} {l l' : List UInt8} {bad bad' : Int} (h : W.PenAt t w b g l bad) (h' : W.PenAt t w b g' l' bad') : g = g' := by
  obtain ⟨v, h1, _, rfl, _⟩ := h
  obtain ⟨v', h1', _, rfl, _⟩ := h'
  rw [h1] at h1'
  simp at h1'
  rw [h1'.1]
/-- The pen at work, a variable in block kk beside it. -/
structure Beside (w x : World) (b : Nat) (g : Option Nat) (kk : Nat) (o : Obj) (pl : List UInt8) : Prop where
  wrote : W.Wrote 88 w x b g (pl, 0)
  row : x.heap[kk]? = some o
  apart : ∀ g1 l bad, W.PenAt 88 x b g1 l bad → g1 ≠ some kk
  nb : kk ≠ b
theorem Beside.step {w x w' : World} {b : Nat} {g g1 : Option Nat} {kk : Nat} {o : Obj} {pl pl2 : List UInt8} (h : Beside w x b g kk o pl) (hp : W.PenAt 88 x b g1 pl 0) (h2 : g1 = g ∨ ∃ k, g1 = some k ∧ w.heap.size ≤ k) (h3 : W.Chg (b :: g.toList) w x) (hw : W.Wrote 88 x w' b g1 (pl2, 0)) :
    Beside w w' b g kk o pl2 := by
  have hap := h.apart _ _ _ hp
  refine ⟨wrote_step h2 h3 hw, wrote_keep hw h.row h.nb hap, ?_, h.nb⟩
  obtain ⟨g2, hp2, hg2, _⟩ := hw
  intro g' l' bad' hp'
  rw [← pen_uniq hp2 hp']
  rcases hg2 with rfl | ⟨k, rfl, hk⟩
  · exact hap
  · intro e
    have := lt_of_block h.row
    simp at e
    omega
theorem num_on2 {w x : World} {b : Nat} {g : Option Nat} {kk : Nat} {o : Obj} {pl : List UInt8} (h : Beside w x b g kk o pl) (z : Int) (width : Int) (n : Nat) (hn : width = n) (h1 : 1 ≤ n) (h7 : n ≤ 7) (h0 : 0 ≤ z) (hz : z < ((256 ^ n : Nat) : Int)) (hl : pl.length + n ≤ 65536) :
    Calls Try.prog 65 #[.pointer (some ⟨b, 0, none⟩), .int .i64 z, .int .i64 width] x fun e w' => e = .returned (.tuple #[]) ∧ Beside w w' b g kk o (pl ++ W.beBytes n z.toNat) := by
  subst hn
  obtain ⟨g1, hp1, h2, h3⟩ := h.wrote
  refine (W.pnum_any b g1 pl 0 z n x hp1 (by omega) (by omega)).mono ?_
  rintro e w' ⟨rfl, hw⟩
  rw [Int.toNat_natCast, penNum_ok pl z n h0 hz hl] at hw
  exact ⟨rfl, h.step hp1 h2 h3 hw⟩
theorem bool_on2 {w x : World} {b : Nat} {g : Option Nat} {kk : Nat} {o : Obj} {pl : List UInt8} (h : Beside w x b g kk o pl) (q : Bool) (hl : pl.length + 1 ≤ 65536) :
    Calls Try.prog 66 #[.pointer (some ⟨b, 0, none⟩), .bool q] x fun e w' => e = .returned (.tuple #[]) ∧ Beside w w' b g kk o (pl ++ [if q then 1 else 0]) := by
  obtain ⟨g1, hp1, h2, h3⟩ := h.wrote
  refine (W.pbool_any b g1 pl 0 q x hp1).mono ?_
  rintro e w' ⟨rfl, hw⟩
  rw [penBool_ok pl q hl] at hw
  exact ⟨rfl, h.step hp1 h2 h3 hw⟩

set_option maxHeartbeats 4000000 in
set_option maxRecDepth 100000 in
/-- Write. -/
theorem twrite_any (tb : Nat) (v : Value) (base : Nat) (l : List TRow) (b : Nat) (g : Option Nat) (w : World) (ht : IsTok w tb v base l) (hp : W.PenAt 88 w b g [] 0) (hne : tb ≠ b) (hg : g ≠ some tb) (hv : v.ownBlock ≠ some b) (hvg : v.ownBlock = none ∨ v.ownBlock ≠ g) (hin : ∀ r ∈ l, inR r) (hl : l.length ≤ 200) :
    Calls Try.prog 52 #[.pointer (some ⟨tb, 0, none⟩), .pointer (some ⟨b, 0, none⟩)] w fun e w' => e = .returned (.tuple #[]) ∧ W.Wrote 88 w w' b g (tokBytes l, 0) := by
  obtain ⟨a, cap, rfl, hcap, hr⟩ := own_rows ht.rows
  obtain ⟨s0, s1, _⟩ := tok_cells ht
  have C1 := W.pnum_any b g [] 0 (l.length : Int) 1 w hp (by omega) (by omega)
  rw [show (1 : Int).toNat = 1 from rfl, penNum_ok [] (l.length : Int) 1 (by omega) (by simp; omega) (by simp), List.nil_append, Int.toNat_natCast] at C1
  have HC1 := Lib.hid C1
  have HT := Lib.hid ht
  have HIN := Lib.hid hin
  have HNE := Lib.hid (And.intro hne (And.intro hg (And.intro hv hvg)))
  have hbp := hp.lt.1
  clear C1 ht hr hin hp hg hv hvg
  go_enter Try.func52, Try.ntmps52
  go_wp2_with fail
  refine HC1.out.mono ?_
  rintro e w1 ⟨rfl, hw1⟩
  have HW1 := Lib.hid hw1
  clear hw1 HC1 s0 s1
  have HTR : Hid (∀ X pl, W.Wrote 88 w X b g (pl, 0) → X.cell? ⟨tb, 1, none⟩ = some (.slice a l.length cap) ∧ RowsAt X X.heap.size a l.length (fun i => l.getD i default) ∧ b < X.heap.size) := Lib.hid (fun X pl hX => by
    have hh := wrote_keep hX HT.out.head HNE.out.1 HNE.out.2.1
    have hbx : b < X.heap.size := by obtain ⟨g', h1, _⟩ := hX; exact h1.lt.1
    refine ⟨blk_cell hh 1 _ rfl, ?_, hbx⟩
    have hrow : X.ownsRow base 35 4 (.slice a l.length cap) l.length (encs l) := by
      obtain ⟨g', h1, h2, h3⟩ := hX
      refine W.row_keep HT.out.rows (fun g0 hg0 => h3.block g0 (HT.out.rows.lt g0 hg0).2 ?_)
      have hh := HNE.out.2.2
      simp
      refine ⟨fun e => hh.1 (by rw [hg0, e]), fun e => ?_⟩
      rcases hh.2 with h | h
      · rw [hg0] at h; cases h
      · exact h (hg0.trans e.symm)
    obtain ⟨a', c', he, _, hr'⟩ := own_rows hrow
    obtain ⟨rfl, _⟩ : a = a' ∧ cap = c' := by simpa using he
    exact hr')
  have s1 := (HTR.out w1 _ HW1.out).1
  go_wp2
  go_loopg [27] l.length (fun g' s27 wr => ∃ k : Nat, s27 = .int .i64 k ∧ k ≤ l.length ∧ l.length ≤ k + g' ∧ Hid (W.Wrote 88 w wr b g (W.beBytes 1 l.length ++ rowsBytes (l.take k), 0)))
  case atStart => exact ⟨0, rfl, by omega, by omega, Lib.hid (by simpa [rowsBytes] using HW1.out)⟩
  case round =>
    obtain ⟨k, rfl, hk, hkg, HW⟩ := hrel
    obtain ⟨_, hrr, hbw⟩ := HTR.out wr _ HW.out
    by_cases hlt : k < l.length
    · rcases hrr with h0 | ⟨ga, rfl, hga, hcell⟩
      · omega
      have hyin := HIN.out (l.getD k default) (by rw [getD_getElem l k hlt]; exact List.getElem_mem hlt)
      have HSN := Lib.hid (rowsBytes_snoc l k hlt)
      obtain ⟨y, hy, c0, c1, c2, c3⟩ : ∃ y, l.getD k default = y ∧ wr.cell? ⟨ga, k * 4, none⟩ = some (.int .i64 y.c) ∧ wr.cell? ⟨ga, k * 4 + 1, none⟩ = some (.int .i64 y.h) ∧
          wr.cell? ⟨ga, k * 4 + 2, none⟩ = some (.int .i64 y.i) ∧ wr.cell? ⟨ga, k * 4 + 3, none⟩ = some (.bool y.b) := ⟨_, rfl, hcell k hlt⟩
      rw [hy] at hyin HSN
      have hkz : (k : Int) < (l.length : Int) := by omega
      have hkz1 : (k : Int).toNat = k := by omega
      have hlen : (W.beBytes 1 l.length ++ rowsBytes (l.take k)).length = 1 + 5 * k := by
        rw [List.length_append, W.beBytes_len, rowsBytes_len, List.length_take]; omega
      unfold inR at hyin
      clear hy hcell
      generalize hpl : W.beBytes 1 l.length ++ rowsBytes (l.take k) = pl at *
      have HPL := Lib.hid hpl
      clear hpl
      have HA : Hid (W.Wrote 88 w (wr.alloc (.cells #[.int .i64 y.c, .int .i64 y.h, .int .i64 y.i, .bool y.b] 35)) b g (pl, 0)) := Lib.hid (wrote_alloc HW.out _)
      obtain ⟨kk, hkk⟩ : ∃ kk, kk = wr.heap.size := ⟨_, rfl⟩
      have HBS : Hid (Beside w (wr.alloc (.cells #[.int .i64 y.c, .int .i64 y.h, .int .i64 y.i, .bool y.b] 35)) b g kk (.cells #[.int .i64 y.c, .int .i64 y.h, .int .i64 y.i, .bool y.b] 35 (0, 0)) pl) := Lib.hid (by
        refine ⟨HA.out, by rw [hkk]; exact heap_alloc_new wr _, ?_, by omega⟩
        intro g1 l1 bad1 hp1 e
        obtain ⟨g2, hp2, _⟩ := HW.out
        have hp3 := hp2.keep ((W.Chg.refl [] wr).alloc (.cells #[.int .i64 y.c, .int .i64 y.h, .int .i64 y.i, .bool y.b] 35)) (by simp) (by simp)
        have := hp2.lt.2 kk ((pen_uniq hp3 hp1).trans e)
        omega)
      have C2 := Lib.hid (num_on2 HBS.out y.c 1 1 rfl (by omega) (by omega) (by omega) (by simp; omega) (by omega))
      have HKK := Lib.hid hkk
      clear hkk
      go_wp2_with fail
      refine C2.out.mono ?_
      rintro e x2 ⟨rfl, hw2⟩
      have HW2 := Lib.hid hw2
      rw [← HKK.out]
      have e1 := blk_cell hw2.row 1 _ rfl
      clear hw2 c0 c1 c2 c3 C2
      have C3 := Lib.hid (num_on2 HW2.out y.h 1 1 rfl (by omega) (by omega) (by omega) (by simp; omega) (by rw [List.length_append, W.beBytes_len]; omega))
      go_wp2_with fail
      refine C3.out.mono ?_
      rintro e x3 ⟨rfl, hw3⟩
      have HW3 := Lib.hid hw3
      have e2 := blk_cell hw3.row 2 _ rfl
      clear hw3 e1 C3
      have C4 := Lib.hid (num_on2 HW3.out y.i 2 2 rfl (by omega) (by omega) (by omega) (by simp; omega) (by simp only [List.length_append, W.beBytes_len]; omega))
      go_wp2_with fail
      refine C4.out.mono ?_
      rintro e x4 ⟨rfl, hw4⟩
      have HW4 := Lib.hid hw4
      have e3 := blk_cell hw4.row 3 _ rfl
      clear hw4 e2 C4
      have C5 := Lib.hid (bool_on2 HW4.out y.b (by simp only [List.length_append, W.beBytes_len]; omega))
      go_wp2_with fail
      refine C5.out.mono ?_
      rintro e x5 ⟨rfl, hw5⟩
      have HW5 := Lib.hid hw5.wrote
      clear hw5 e3 C5
      go_wp2
      go_roundg (gk - 1)
      case measure => omega
      case rel =>
        refine ⟨k + 1, by go_num, by omega, by omega, Lib.hid ?_⟩
        have h := HW5.out
        rw [HSN.out, ← List.append_assoc, HPL.out]
        unfold rowBytes
        simpa [List.append_assoc] using h
    · have hke : k = l.length := by omega
      have HKE : Hid (tokBytes l = W.beBytes 1 l.length ++ rowsBytes (l.take k)) := Lib.hid (by rw [hke, List.take_length]; rfl)
      clear hke hrr
      go_wp2
      go_end0
      exact ⟨rfl, by rw [HKE.out]; exact HW.out⟩

set_option maxHeartbeats 4000000 in
set_option maxRecDepth 100000 in
/-- bytes. -/
theorem bytes_any (tb : Nat) (v : Value) (base : Nat) (l : List TRow) (w : World) (ht : IsTok w tb v base l) (hin : ∀ r ∈ l, inR r) (hl : l.length ≤ 200) :
    Calls Try.prog 29 #[.pointer (some ⟨tb, 0, none⟩)] w fun e w' => ∃ v', e = .returned v' ∧ W.BytesAt w' v' (tokBytes l) ∧ (∀ g, v'.ownBlock = some g → w.heap.size ≤ g) ∧ Below w.heap.size w w' := by
  have htl := ht.lt
  have hc0 : W.Chg [] w (w.alloc (.cells #[.slice none 0 0, .int .i64 0] 88)) := (W.Chg.refl _ _).alloc _
  have ht1 : IsTok (w.alloc (.cells #[.slice none 0 0, .int .i64 0] 88)) tb v base l := ht.below ((Below.refl _ _).alloc (Nat.le_refl _) _)
  have hp : W.PenAt 88 (w.alloc (.cells #[.slice none 0 0, .int .i64 0] 88)) w.heap.size none [] 0 := ⟨_, heap_alloc_new w _, W.BRow.nil _, rfl, by simp, by simp⟩
  have CW := Lib.hid (twrite_any tb v base l w.heap.size none _ ht1 hp (by omega) (by simp) (fun e => by have := (ht.rows.lt _ e).2; omega) (by
    cases h : v.ownBlock with
    | none => exact .inl rfl
    | some k => exact .inr (by simp)) hin hl)
  have HC0 := Lib.hid hc0
  have hs0 : (w.alloc (.cells #[.slice none 0 0, .int .i64 0] 88)).heap.size = w.heap.size + 1 := by simp
  clear ht ht1 hp hc0
  go_enter Try.func29, Try.ntmps29
  go_wp2_with fail
  refine CW.out.mono ?_
  rintro e w2 ⟨rfl, hw2⟩
  obtain ⟨g1, hp1, h2, h3⟩ := hw2
  have HC2 : Hid (Below w.heap.size w w2) := Lib.hid (by
    have h1 : Below w.heap.size w (w.alloc (.cells #[.slice none 0 0, .int .i64 0] 88)) := (Below.refl _ _).alloc (Nat.le_refl _) _
    exact W.Chg.to_below h1 h3 (by omega) (by intro x hx; simp at hx; omega))
  have CB := Lib.hid (W.pbytes_any w.heap.size g1 (tokBytes l) w2 hp1)
  have hs2 := HC2.out.size
  clear hp1 h2 h3
  go_wp2_with fail
  refine CB.out.mono ?_
  rintro e w3 ⟨v', rfl, hr, hgv, hc3⟩
  have H3 := Lib.hid (And.intro hr (And.intro hgv hc3))
  clear hr hgv hc3
  go_wp2
  go_ret
  refine ⟨_, rfl, H3.out.1.bytes, fun g hg => Nat.le_trans hs2 (H3.out.2.1 g hg), W.Chg.to_below HC2.out H3.out.2.2 hs2 (by simp)⟩

set_option maxHeartbeats 4000000 in
set_option maxRecDepth 100000 in
/-- Clone. -/
theorem tclone_any (tb : Nat) (v : Value) (base : Nat) (l : List TRow) (w : World) (ht : IsTok w tb v base l) :
    Calls Try.prog 30 #[.pointer (some ⟨tb, 0, none⟩)] w fun e w' => ∃ tb' v', e = .returned (.pointer (some ⟨tb', 0, none⟩)) ∧ w.heap.size ≤ tb' ∧ IsTok w' tb' v' w.heap.size l ∧ Below w.heap.size w w' := by
  obtain ⟨s0, s1, _⟩ := tok_cells ht
  obtain ⟨a, cap, rfl, hcap, hr⟩ := own_rows ht.rows
  have CC : Hid (∀ X, Below w.heap.size w X → Calls Try.prog 36 #[.slice a l.length cap] X fun e w' => ∃ v', e = .returned v' ∧ Hid (w'.ownsRow X.heap.size 35 4 v' l.length (encs l)) ∧ Hid (Below X.heap.size X w')) := Lib.hid (fun X hX => clone_any _ base l X (ht.below hX).rows ht.few)
  have htl := ht.lt
  have HF := Lib.hid ht.few
  clear ht hr
  go_enter Try.func30, Try.ntmps30
  go_wp2
  go_region_held3 (fun w' => w'.cell? ⟨tb, 0, none⟩ = some (.bool true) ∧ w'.cell? ⟨tb, 1, none⟩ = some (.slice a l.length cap))
    (first
      | go_keep
      | exact ⟨z0, z1⟩)
    (first
      | (go_at_call 36; refine (CC.out _ ((Below.refl _ _).drew)).mono ?_; rintro e w6 ⟨v6, rfl, HO6, HB6⟩
         have z0 := (HB6.out.cell (p := ⟨tb, 0, none⟩) htl).trans s0
         have z1 := (HB6.out.cell (p := ⟨tb, 1, none⟩) htl).trans s1
         obtain ⟨a6, c6, rfl⟩ : ∃ a c, v6 = .slice a l.length c := by
           obtain ⟨a, c, h, _⟩ := own_rows HO6.out
           exact ⟨a, c, h⟩))
  all_goals
    go_wp2
    go_ret
    have hb : Below w.heap.size w w6 := ⟨HB6.out.os, HB6.out.tape, HB6.out.output, HB6.out.size, HB6.out.block⟩
    exact ⟨w6.heap.size, .slice a6 l.length c6, rfl, hb.size, ⟨heap_alloc_new w6 _, HO6.out.alloc _, HF.out⟩, hb.alloc hb.size _⟩
end Go.Proofs.Ytembgdjdljflhaa
