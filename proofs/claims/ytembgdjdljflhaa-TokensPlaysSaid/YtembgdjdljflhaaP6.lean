/- Write, of the program and of the reference; bytes; Clone. -/
import Derived.Test.YtembgdjdljflhaaP3
import Derived.Test.YtembgdjdljflhaaA2
namespace Go.Proofs.Ytembgdjdljflhaa
open Go.RowKit
set_option linter.unusedVariables false
set_option linter.unusedSimpArgs false

theorem penNum_ok (l : List UInt8) (x : Int) (n : Nat) (h0 : 0 ≤ x) (h1 : x < ((256 ^ n : Nat) : Int)) (hl : l.length + n ≤ 65536) : W.penNum l 0 x n = (l ++ W.beBytes n x.toNat, 0) := by
  unfold W.penNum W.penAdd
  rw [if_neg (by simp), if_neg (by omega), if_neg (by simp), if_neg (by rw [W.beBytes_len]; omega)]
theorem penBool_ok (l : List UInt8) (q : Bool) (hl : l.length + 1 ≤ 65536) : W.penBool l 0 q = (l ++ [if q then 1 else 0], 0) := by
  unfold W.penBool W.penAdd
  rw [if_neg (by simp), if_neg (by simp; omega)]
theorem wrote_alloc {t : TypeId} {w w1 : World} {b : Nat} {g : Option Nat} {r : List UInt8 × Int} (h : W.Wrote t w w1 b g r) (o : Obj) : W.Wrote t w (w1.alloc o) b g r := by
  obtain ⟨g', h1, h2, h3⟩ := h
  exact ⟨g', h1.keep ((W.Chg.refl [] w1).alloc o) (by simp) (by simp), h2, h3.alloc o⟩
/-- A block that is neither the pen nor its bytes. -/
theorem wrote_keep {t : TypeId} {w w1 : World} {b : Nat} {g : Option Nat} {r : List UInt8 × Int} (h : W.Wrote t w w1 b g r) {k : Nat} {o : Obj} (hk : w.heap[k]? = some o) (hb : k ≠ b) (hg : g ≠ some k) : w1.heap[k]? = some o := by
  obtain ⟨g', h1, h2, h3⟩ := h
  exact h3.keep hk (by simp; exact ⟨hb, fun e => hg e⟩)
theorem wrote_step {t : TypeId} {w x w' : World} {b : Nat} {g g1 : Option Nat} {r : List UInt8 × Int} (hg : g1 = g ∨ ∃ k, g1 = some k ∧ w.heap.size ≤ k) (hc : W.Chg (b :: g.toList) w x) (hw : W.Wrote t x w' b g1 r) : W.Wrote t w w' b g r := by
  obtain ⟨g2, hp2, hg2, hc2⟩ := hw
  refine ⟨g2, hp2, ?_, hc.trans hc2 ?_⟩
  · rcases hg2 with rfl | ⟨k, rfl, hk⟩
    · exact hg
    · exact .inr ⟨k, rfl, Nat.le_trans hc.size hk⟩
  · intro y hy
    rcases List.mem_cons.1 hy with rfl | hy
    · exact .inl (List.mem_cons_self ..)
    · rcases hg with rfl | ⟨k, rfl, hk⟩
      · exact .inl (List.mem_cons_of_mem _ hy)
      · obtain rfl : y = k := by simpa using hy
        exact .inr hk
theorem rnum_on {w x : World} {b : Nat} {g : Option Nat} {pl : List UInt8} (h : W.Wrote 64 w x b g (pl, 0)) (z : Int) (width : Int) (n : Nat) (hn : width = n) (h1 : 1 ≤ n) (h7 : n ≤ 7) (h0 : 0 ≤ z) (hz : z < ((256 ^ n : Nat) : Int)) (hl : pl.length + n ≤ 65536) :
    Calls Try.prog 50 #[.pointer (some ⟨b, 0, none⟩), .int .i64 z, .int .i64 width] x fun e w' => e = .returned (.tuple #[]) ∧ W.Wrote 64 w w' b g (pl ++ W.beBytes n z.toNat, 0) := by
  subst hn
  obtain ⟨g1, hp1, h2, h3⟩ := h
  refine (W.rpnum_any b g1 pl 0 z n x hp1 (by omega) (by omega)).mono ?_
  rintro e w' ⟨rfl, hw⟩
  rw [Int.toNat_natCast, penNum_ok pl z n h0 hz hl] at hw
  exact ⟨rfl, wrote_step h2 h3 hw⟩
theorem rbool_on {w x : World} {b : Nat} {g : Option Nat} {pl : List UInt8} (h : W.Wrote 64 w x b g (pl, 0)) (q : Bool) (hl : pl.length + 1 ≤ 65536) :
    Calls Try.prog 51 #[.pointer (some ⟨b, 0, none⟩), .bool q] x fun e w' => e = .returned (.tuple #[]) ∧ W.Wrote 64 w w' b g (pl ++ [if q then 1 else 0], 0) := by
  obtain ⟨g1, hp1, h2, h3⟩ := h
  refine (W.rpbool_any b g1 pl 0 q x hp1).mono ?_
  rintro e w' ⟨rfl, hw⟩
  rw [penBool_ok pl q hl] at hw
  exact ⟨rfl, wrote_step h2 h3 hw⟩
theorem num_on {w x : World} {b : Nat} {g : Option Nat} {pl : List UInt8} (h : W.Wrote 88 w x b g (pl, 0)) (z : Int) (width : Int) (n : Nat) (hn : width = n) (h1 : 1 ≤ n) (h7 : n ≤ 7) (h0 : 0 ≤ z) (hz : z < ((256 ^ n : Nat) : Int)) (hl : pl.length + n ≤ 65536) :
    Calls Try.prog 65 #[.pointer (some ⟨b, 0, none⟩), .int .i64 z, .int .i64 width] x fun e w' => e = .returned (.tuple #[]) ∧ W.Wrote 88 w w' b g (pl ++ W.beBytes n z.toNat, 0) := by
  subst hn
  obtain ⟨g1, hp1, h2, h3⟩ := h
  refine (W.pnum_any b g1 pl 0 z n x hp1 (by omega) (by omega)).mono ?_
  rintro e w' ⟨rfl, hw⟩
  rw [Int.toNat_natCast, penNum_ok pl z n h0 hz hl] at hw
  exact ⟨rfl, wrote_step h2 h3 hw⟩
theorem bool_on {w x : World} {b : Nat} {g : Option Nat} {pl : List UInt8} (h : W.Wrote 88 w x b g (pl, 0)) (q : Bool) (hl : pl.length + 1 ≤ 65536) :
    Calls Try.prog 66 #[.pointer (some ⟨b, 0, none⟩), .bool q] x fun e w' => e = .returned (.tuple #[]) ∧ W.Wrote 88 w w' b g (pl ++ [if q then 1 else 0], 0) := by
  obtain ⟨g1, hp1, h2, h3⟩ := h
  refine (W.pbool_any b g1 pl 0 q x hp1).mono ?_
  rintro e w' ⟨rfl, hw⟩
  rw [penBool_ok pl q hl] at hw
  exact ⟨rfl, wrote_step h2 h3 hw⟩
theorem rowsBytes_snoc (l : List TRow) (k : Nat) (hk : k < l.length) : rowsBytes (l.take (k + 1)) = rowsBytes (l.take k) ++ rowBytes (l.getD k default) := by
  unfold rowsBytes
  rw [take_succ_getD l k hk, List.flatMap_append]
  simp

set_option maxHeartbeats 4000000 in
set_option maxRecDepth 100000 in
/-- The reference's Write. -/
theorem rwrite_any (tb : Nat) (v : Value) (base : Nat) (l : List TRow) (b : Nat) (g : Option Nat) (w : World) (ht : RTok w tb v base l) (hp : W.PenAt 64 w b g [] 0) (hne : tb ≠ b) (hg : g ≠ some tb) (hv : v.ownBlock ≠ some b) (hvg : v.ownBlock = none ∨ v.ownBlock ≠ g) (hin : ∀ r ∈ l, inR r) (hl : l.length ≤ 200) :
    Calls Try.prog 25 #[.pointer (some ⟨tb, 0, none⟩), .pointer (some ⟨b, 0, none⟩)] w fun e w' => e = .returned (.tuple #[]) ∧ W.Wrote 64 w w' b g (tokBytes l, 0) := by
  obtain ⟨a, cap, rfl, hcap, hr⟩ := rown_rows ht.rows
  have t0 : w.cell? ⟨tb, 0, none⟩ = some (.slice a l.length cap) := blk_cell ht.head 0 _ rfl
  have C1 := W.rpnum_any b g [] 0 (l.length : Int) 1 w hp (by omega) (by omega)
  rw [show (1 : Int).toNat = 1 from rfl, penNum_ok [] (l.length : Int) 1 (by omega) (by simp; omega) (by simp), List.nil_append, Int.toNat_natCast] at C1
  have HC1 := Lib.hid C1
  have HT := Lib.hid ht
  have HR := Lib.hid hr
  have HIN := Lib.hid hin
  have HNE := Lib.hid (And.intro hne (And.intro hg (And.intro hv hvg)))
  clear C1 ht hr hin hp hg hv hvg
  go_enter Try.func25, Try.ntmps25
  go_wp2_with fail
  refine HC1.out.mono ?_
  rintro e w1 ⟨rfl, hw1⟩
  have HW1 := Lib.hid hw1
  clear hw1 HC1
  go_wp2
  go_loopg [4] l.length (fun g' s4 wr => ∃ k : Nat, s4 = .int .i64 k ∧ k ≤ l.length ∧ l.length ≤ k + g' ∧ Hid (W.Wrote 64 w wr b g (W.beBytes 1 l.length ++ rowsBytes (l.take k), 0)))
  case atStart => exact ⟨0, rfl, by omega, by omega, Lib.hid (by simpa [rowsBytes] using HW1.out)⟩
  case round =>
    obtain ⟨k, rfl, hk, hkg, HW⟩ := hrel
    have HTR : Hid (∀ X pl, W.Wrote 64 w X b g (pl, 0) → X.cell? ⟨tb, 0, none⟩ = some (.slice a l.length cap) ∧ RowsAt X X.heap.size a l.length (fun i => l.getD i default)) := Lib.hid (fun X pl hX => by
      have hh := wrote_keep hX HT.out.head HNE.out.1 HNE.out.2.1
      refine ⟨blk_cell hh 0 _ rfl, ?_⟩
      have hrow : X.ownsRow base 66 4 (.slice a l.length cap) l.length (encs l) := by
        obtain ⟨g', h1, h2, h3⟩ := hX
        refine W.row_keep HT.out.rows (fun g0 hg0 => h3.block g0 (HT.out.rows.lt g0 hg0).2 ?_)
        have hh := HNE.out.2.2
        simp
        refine ⟨fun e => hh.1 (by rw [hg0, e]), fun e => ?_⟩
        rcases hh.2 with h | h
        · rw [hg0] at h; cases h
        · exact h (hg0.trans e.symm)
      obtain ⟨a', c', he, _, hr'⟩ := rown_rows hrow
      obtain ⟨rfl, _⟩ : a = a' ∧ cap = c' := by simpa using he
      exact hr')
    obtain ⟨t0', hrr⟩ := HTR.out wr _ HW.out
    have HRR := Lib.hid hrr
    clear hrr
    by_cases hlt : k < l.length
    · have HY : Hid (∀ X pl, W.Wrote 64 w X b g (pl, 0) → ∃ ga, a = some ⟨ga, 0, none⟩ ∧ X.cell? ⟨ga, k * 4, none⟩ = some (.int .i64 (l.getD k default).c) ∧ X.cell? ⟨ga, k * 4 + 1, none⟩ = some (.int .i64 (l.getD k default).h) ∧
          X.cell? ⟨ga, k * 4 + 2, none⟩ = some (.int .i64 (l.getD k default).i) ∧ X.cell? ⟨ga, k * 4 + 3, none⟩ = some (.bool (l.getD k default).b)) := Lib.hid (fun X pl hX => by
        rcases (HTR.out X pl hX).2 with h0 | ⟨ga, he, _, hc⟩
        · omega
        · exact ⟨ga, he, hc k hlt⟩)
      have hyin := HIN.out (l.getD k default) (by rw [getD_getElem l k hlt]; exact List.getElem_mem hlt)
      have HSN := Lib.hid (rowsBytes_snoc l k hlt)
      obtain ⟨y, hy⟩ : ∃ y, y = l.getD k default := ⟨_, rfl⟩
      rw [← hy] at HY hyin HSN
      obtain ⟨ga, rfl, c0, c1, c2, c3⟩ := HY.out wr _ HW.out
      have hkz : (k : Int) < (l.length : Int) := by omega
      have hkz1 : (k : Int).toNat = k := by omega
      have hlen : (W.beBytes 1 l.length ++ rowsBytes (l.take k)).length = 1 + 5 * k := by
        rw [List.length_append, W.beBytes_len, rowsBytes_len, List.length_take]; omega
      unfold inR at hyin
      clear hy
      generalize hpl : W.beBytes 1 l.length ++ rowsBytes (l.take k) = pl at *
      have HPL := Lib.hid hpl
      clear hpl
      have C2 := Lib.hid (rnum_on HW.out y.c 1 1 rfl (by omega) (by omega) (by omega) (by simp; omega) (by omega))
      go_wp2_with fail
      refine C2.out.mono ?_
      rintro e x2 ⟨rfl, hw2⟩
      have HW2 := Lib.hid hw2
      clear hw2 c0 c1 c2 c3 t0' C2
      have t0' := (HTR.out x2 _ HW2.out).1
      obtain ⟨ga', he, c0, c1, c2, c3⟩ := HY.out x2 _ HW2.out
      obtain rfl : ga = ga' := by simpa using he
      have C3 := Lib.hid (rnum_on HW2.out y.h 1 1 rfl (by omega) (by omega) (by omega) (by simp; omega) (by rw [List.length_append, W.beBytes_len]; omega))
      clear he
      go_wp2_with fail
      refine C3.out.mono ?_
      rintro e x3 ⟨rfl, hw3⟩
      have HW3 := Lib.hid hw3
      clear hw3 c0 c1 c2 c3 t0' C3
      have t0' := (HTR.out x3 _ HW3.out).1
      obtain ⟨ga', he, c0, c1, c2, c3⟩ := HY.out x3 _ HW3.out
      obtain rfl : ga = ga' := by simpa using he
      have C4 := Lib.hid (rnum_on HW3.out y.i 2 2 rfl (by omega) (by omega) (by omega) (by simp; omega) (by simp only [List.length_append, W.beBytes_len]; omega))
      clear he
      go_wp2_with fail
      refine C4.out.mono ?_
      rintro e x4 ⟨rfl, hw4⟩
      have HW4 := Lib.hid hw4
      clear hw4 c0 c1 c2 c3 t0' C4
      have t0' := (HTR.out x4 _ HW4.out).1
      obtain ⟨ga', he, c0, c1, c2, c3⟩ := HY.out x4 _ HW4.out
      obtain rfl : ga = ga' := by simpa using he
      have C5 := Lib.hid (rbool_on HW4.out y.b (by simp only [List.length_append, W.beBytes_len]; omega))
      clear he
      go_wp2_with fail
      refine C5.out.mono ?_
      rintro e x5 ⟨rfl, hw5⟩
      have HW5 := Lib.hid hw5
      clear hw5 c0 c1 c2 c3 t0' C5
      go_wp2
      go_roundg (gk - 1)
      case measure => omega
      case rel =>
        refine ⟨k + 1, by go_num, by omega, by omega, Lib.hid ?_⟩
        have h := HW5.out
        rw [HSN.out, ← List.append_assoc, HPL.out]
        unfold rowBytes
        simpa [List.append_assoc] using h
    · have hke : k = l.length := by omega
      have HKE : Hid (tokBytes l = W.beBytes 1 l.length ++ rowsBytes (l.take k)) := Lib.hid (by rw [hke, List.take_length]; rfl)
      clear hke
      go_wp2
      go_end0
      exact ⟨rfl, by rw [HKE.out]; exact HW.out⟩
end Go.Proofs.Ytembgdjdljflhaa
