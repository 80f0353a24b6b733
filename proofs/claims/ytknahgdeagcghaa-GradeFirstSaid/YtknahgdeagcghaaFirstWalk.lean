/- The walk of GradeFirst: the best one is the order's first; each stands no later than a lesser one; each place is there once. -/
import Derived.Test.YtknahgdeagcghaaFirstPlain
import Derived.Deep.OwnRows
import Derived.Deep.CutBlock
namespace Go.Proofs.Ytknahgdeagcghaa.gradeFirst
open Go.RowKit Fl
set_option linter.unusedVariables false
set_option linter.unusedSimpArgs false

/-- The row of those seen, new. -/
theorem srow_new (w : World) (n : Nat) : SRow (w.alloc (.cells (madeCells #[.bool false] n) 4)) w.heap.size n (fun _ => false) :=
  ⟨_, heap_alloc_new w _, size_madeCells _ _, fun i hi => by simp [madeCells, hi, Nat.mod_one]⟩
theorem irow_alloc {t : TypeId} {w : World} {g n : Nat} {l : List Int} (h : IRow t w g n l) (o : Obj) : IRow t (w.alloc o) g n l :=
  h.keep (Below.heap_alloc w o g h.lt)
theorem below_drewN {B : Nat} {a b : World} (h : Below B a b) (n : Nat) : Below B a (b.drewN n) := ⟨h.os, h.tape, h.output, h.size, h.block⟩

set_option maxHeartbeats 4000000 in
set_option maxRecDepth 100000 in
theorem walk_row (xs : List Nat) (b off n cf : Nat) (w : World) (hn : 0 < n) (hn60 : n ≤ 60) (hb : b < w.heap.size) (hc : ∀ i, i < n → w.cell? ⟨b, off + i, none⟩ = some (.float .f64 (xs.getD i 0)))
    (hwf : ∀ i, xs.getD i 0 < 18446744073709551616) :
    Calls Try.prog 9 #[.slice (some ⟨b, off, none⟩) n cf] w fun e w' => e = .returned (.bool true) ∧ Below w.heap.size w w' := by
  have HC := Lib.hid hc
  have HW := Lib.hid hwf
  have CO := Lib.hid (order_any xs b off n cf w hn hn60 hb hc hwf)
  clear hc hwf
  have hz60 : ¬ (60 : Int) < (n : Int) := by omega
  have hd60 : decide ((n : Int) > 60) = false := decide_eq_false (by omega)
  have e0 : ((n : Int) == 0) = false := by simp; omega
  have hmk := run_make_row' (P := Try.prog) 38 4 (.bool false) 1 Try.underlying38 (by kernel_rfl) rfl .i64 .i64 n (by omega) (by omega)
  go_enter Try.func9, Try.ntmps9
  go_upto_block 0 with (first
    | (go_at_call 10; refine (awake_any _).mono ?_; rintro e w' ⟨rfl, rfl⟩)
    | (go_at_call 18; refine CO.out.mono ?_; rintro e' w1 ⟨g, cap, L, rfl, hg0, hrow, hperm, hsort, hbel⟩; have HR := Lib.hid hrow; have HP : Hid (Placed xs n L) := Lib.hid ⟨hperm, hsort⟩; have HB := Lib.hid hbel; have HG := Lib.hid hg0; clear hrow hperm hsort hbel hg0))
  have HS := Lib.hid (srow_new w1 n)
  have HR2 := Lib.hid (irow_alloc HR.out (.cells (madeCells #[.bool false] n) 4))
  have HB2 := Lib.hid (HB.out.alloc HB.out.size (.cells (madeCells #[.bool false] n) 4))
  have hsg : Hid (g < w1.heap.size ∧ w.heap.size ≤ w1.heap.size) := Lib.hid ⟨HR.out.lt, HB.out.size⟩
  clear HR HB CO hmk
  generalize w1.alloc (.cells (madeCells #[.bool false] n) 4) = w2 at HS HR2 HB2 ⊢
  generalize w1.heap.size = sg at HS hsg ⊢
  go_wp2
  go_loopg [5] n (fun g1 v wr => ∃ (i : Nat), v = .int .i64 i ∧ i ≤ n ∧ n ≤ i + g1 ∧ Hid (IRow 3 wr g n L) ∧ Hid (SRow wr sg n (fun j => decide ((j : Int) ∈ L.take i))) ∧ Hid (Below w.heap.size w wr))
  case atStart => exact ⟨0, rfl, by omega, by omega, HR2, Lib.hid (by simpa using HS.out), HB2⟩
  case round =>
    clear HS HR2 HB2
    obtain ⟨i, rfl, hi, hg, HR, HS, HB⟩ := hrel
    by_cases hlt : i < n
    · have hz : (i : Int) < (n : Int) := by omega
      obtain ⟨p, hp, hpn⟩ := HP.out.mem i hlt
      have cL := HR.out.cell i hlt
      rw [hp] at cL
      have hfresh := HP.out.fresh i hlt
      rw [hp] at hfresh
      have cS := HS.out.cell p hpn
      rw [decide_eq_false hfresh] at cS
      have fS := HS.out.frozen p
      have z1 : ¬ (p : Int) < 0 := by omega
      have z2 : (p : Int) < (n : Int) := by omega
      have z3 : decide ((p : Int) < 0) = false := decide_eq_false z1
      have z4 : decide ((p : Int) ≥ (n : Int)) = false := decide_eq_false (by omega)
      have z5 : ¬ (n : Int) ≤ (p : Int) := by omega
      go_upto_region 15 with (fail)
      have HR3 : Hid (IRow 3 (wr.setCell ⟨sg, p, none⟩ (.bool true)) g n L) := Lib.hid (HR.out.keep (Below.heap_setCell wr _ _ g (by have := hsg.out; simp; omega)))
      have HS3 : Hid (SRow (wr.setCell ⟨sg, p, none⟩ (.bool true)) sg n (fun j => decide ((j : Int) ∈ L.take (i + 1)))) := Lib.hid (HS.out.set p true (fun j hj => by
        have hl := HP.out.len
        rw [List.take_succ_eq_append_getElem (by omega)]
        have e : L[i]'(by omega) = (p : Int) := by rw [← hp, List.getD_eq_getElem?_getD, List.getElem?_eq_getElem (by omega)]; rfl
        rw [e]
        by_cases e2 : p = j
        · subst e2; simp
        · rw [if_neg e2]; simp; intro h; omega))
      have HB3 : Hid (Below w.heap.size w (wr.setCell ⟨sg, p, none⟩ (.bool true))) := Lib.hid (HB.out.setCell hsg.out.2 _)
      clear HR HS HB cL cS fS hfresh
      generalize wr.setCell ⟨sg, p, none⟩ (.bool true) = w3 at HR3 HS3 HB3 ⊢
      have HPP := Lib.hid hp
      clear hp
      cases i with
      | zero =>
        go_wp2
        go_roundg (gk - 1)
        case measure => omega
        case rel => exact ⟨1, by go_num, by omega, by omega, HR3, HS3, HB3⟩
      | succ i =>
        obtain ⟨q, hq, hqn⟩ := HP.out.mem i (by omega)
        have hpp := HPP.out
        have hle := HP.out.next i p q hlt hq hpp
        have cP := HR3.out.cell (i + 1) hlt
        have cQ := HR3.out.cell i (by omega)
        rw [hq] at cQ
        rw [hpp] at cP
        obtain ⟨x, hx⟩ : ∃ x, x = xs.getD q 0 := ⟨_, rfl⟩
        obtain ⟨y, hy⟩ : ∃ y, y = xs.getD p 0 := ⟨_, rfl⟩
        have fx := (HB3.out.cell (p := ⟨b, off + q, none⟩) hb).trans (HC.out q hqn)
        have fy := (HB3.out.cell (p := ⟨b, off + p, none⟩) hb).trans (HC.out p hpn)
        have wx : x < 18446744073709551616 := by rw [hx]; exact HW.out q
        have wy : y < 18446744073709551616 := by rw [hy]; exact HW.out p
        rw [← hx] at fx hle
        rw [← hy] at fy hle
        have CM := Lib.hid (fun W => compare_any x y W wx wy)
        clear hx hy hq hpp
        have w1' : IntKind.i64.wrap ((i : Int) + 1 - 1) = (i : Int) := by rw [IntKind.wrap_i64]; omega
        have zi1 : (0 : Int) ≤ (i : Int) + 1 := by omega
        have zi2 : (i : Int) + 1 < (n : Int) := by omega
        have zi3 : (i : Int) < (n : Int) := by omega
        have zi4 : decide ((i : Int) + 1 > 0) = true := decide_eq_true (by omega)
        have zi5 : (0 : Int) < (i : Int) + 1 := by omega
        have zi6 : ((i : Int) + 1).toNat = i + 1 := by omega
        have zq : (q : Int) < (n : Int) := by omega
        cases nx : isNan x with
        | true =>
          have ny : isNan y = true := by
            cases ny : isNan y with
            | true => rfl
            | false => have := ukey_nan nx ny; omega
          obtain ⟨a1, a2⟩ := nan_yes wx nx
          obtain ⟨b1, b2⟩ := nan_yes wy ny
          clear nx ny CM
          go_upto_region 16 with (fail)
          go_quiet (fail)
          have HR4 := Lib.hid (HR3.out.keep (w' := w3.drewN nq) rfl)
          have HS4 := Lib.hid (HS3.out.drew (k := nq))
          have HB4 := Lib.hid (below_drewN HB3.out nq)
          clear HR3 HS3 HB3 cP cQ fx fy
          generalize w3.drewN nq = w4 at HR4 HS4 HB4 ⊢
          go_wp2
          go_roundg (gk - 1)
          case measure => omega
          case rel => exact ⟨i + 1 + 1, by go_num, by omega, by omega, HR4, HS4, HB4⟩
        | false =>
          obtain ⟨a1, a2⟩ := nan_no wx nx
          cases ny : isNan y with
          | true =>
            obtain ⟨b1, b2⟩ := nan_yes wy ny
            clear nx ny CM
            go_upto_region 16 with (fail)
            go_quiet (fail)
            have HR4 := Lib.hid (HR3.out.keep (w' := w3.drewN nq) rfl)
            have HS4 := Lib.hid (HS3.out.drew (k := nq))
            have HB4 := Lib.hid (below_drewN HB3.out nq)
            clear HR3 HS3 HB3 cP cQ fx fy
            generalize w3.drewN nq = w4 at HR4 HS4 HB4 ⊢
            go_wp2
            go_roundg (gk - 1)
            case measure => omega
            case rel => exact ⟨i + 1 + 1, by go_num, by omega, by omega, HR4, HS4, HB4⟩
          | false =>
            obtain ⟨b1, b2⟩ := nan_no wy ny
            have hcv := cmp_high wx wy nx ny hle
            have hcd : decide (cmpF x y < 0) = false := decide_eq_false hcv
            clear nx ny
            generalize cmpF x y = cv at CM hcv hcd
            go_upto_region 16 with (fail)
            go_quiet (fail)
            have HR4 := Lib.hid (HR3.out.keep (w' := w3.drewN nq) rfl)
            have HS4 := Lib.hid (HS3.out.drew (k := nq))
            have HB4 := Lib.hid (below_drewN HB3.out nq)
            clear HR3 HS3 HB3 cP cQ fx fy
            generalize w3.drewN nq = w4 at HR4 HS4 HB4 ⊢
            go_wp2_with (go_at_call 11; refine (CM.out _).mono ?_; rintro e w' ⟨rfl, rfl⟩)
            go_roundg (gk - 1)
            case measure => omega
            case rel => exact ⟨i + 1 + 1, by go_num, by omega, by omega, HR4, HS4, HB4⟩
    · obtain rfl : i = n := by omega
      have hz : ¬ (i : Int) < (i : Int) := by omega
      obtain ⟨p, hp, hpn⟩ := HP.out.mem 0 hn
      have CB := Lib.hid (best_any xs b off i cf wr hn60 (fun j hj => (HB.out.cell (p := ⟨b, off + j, none⟩) hb).trans (HC.out j hj)) HW.out)
      have cL := HR.out.cell 0 hn
      rw [hp] at cL
      obtain ⟨y, hy⟩ : ∃ y, y = xs.getD p 0 := ⟨_, rfl⟩
      have fy := (HB.out.cell (p := ⟨b, off + p, none⟩) hb).trans (HC.out p hpn)
      rw [← hy] at fy
      have wy : y < 18446744073709551616 := by rw [hy]; exact HW.out p
      have zp : (p : Int) < (i : Int) := by omega
      have zn : decide ((i : Int) > 0) = true := decide_eq_true (by omega)
      have zn' : (0 : Int) < (i : Int) := by omega
      have HPP := Lib.hid hp
      have HY := Lib.hid hy
      clear hp hy
      go_upto_region 20 with (go_at_call 16; refine CB.out.mono ?_; rintro e' w5 ⟨r, rfl, hr, rfl⟩; have HBest := Lib.hid hr; clear hr)
      rcases HP.out.best hn HBest.out p HPP.out hpn with rfl | ⟨rfl, hnan⟩
      · have e1 : ((p : Int) == (p : Int)) = true := by simp
        go_quiet (fail)
        go_wp2
        go_ret
        exact ⟨rfl, below_drewN HB.out nq⟩
      · rw [← HY.out] at hnan
        obtain ⟨b1, b2⟩ := nan_yes wy hnan
        have e1 : ((-1 : Int) == (p : Int)) = false := by simp
        clear hnan
        go_quiet (fail)
        go_wp2
        go_ret
        exact ⟨rfl, below_drewN HB.out nq⟩
end Go.Proofs.Ytknahgdeagcghaa.gradeFirst
