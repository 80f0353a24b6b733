/- The walk of the reference's Open. -/
import Derived.Test.YtembgdjdljflhaaP8
import Derived.Deep.CutRange
namespace Go.Proofs.Ytembgdjdljflhaa
open Go.RowKit
set_option linter.unusedVariables false
set_option linter.unusedSimpArgs false

/-- What the reference's Open answers, on good rows. -/
def ROpenPost (b base : Nat) (r : Int × Int × List TRow) (w : World) (e : Ending) (w' : World) : Prop :=
  ∃ v', e = .returned (.tuple #[.int .i64 r.1, .int .i64 r.2.1]) ∧ RTok w' b v' base r.2.2 ∧ W.Chg [b] w w'
theorem mine_snoc (l : List TRow) (c : Int) (k : Nat) (hk : k < l.length) : mineL (l.take (k + 1)) c = mineL (l.take k) c + if (l.getD k default).c == c then 1 else 0 := by
  unfold mineL
  rw [take_succ_getD l k hk, List.countP_append]
  congr 1
  generalize l.getD k default = z
  cases h : (z.c == c) <;> simp [h]
theorem busy_snoc (l : List TRow) (i : Int) (q : Bool) (k : Nat) (hk : k < l.length) : busyL (l.take (k + 1)) i q = (busyL (l.take k) i q || ((l.getD k default).i == i && (q || (l.getD k default).b))) := by
  unfold busyL
  rw [take_succ_getD l k hk, List.any_append]
  simp

theorem open_last {wo wr w7 : World} {b base : Nat} {a : Option Addr} {cap : Nat} {l m : List TRow} {X : TRow} {u v7 : Value} {o : Obj} (ht : RTok wo b (.slice a l.length cap) base l) (hb0 : base ≤ wo.heap.size) (hbe : Below (wo.heap.size + 1) (wo.alloc o) wr) (hbs : wo.heap.size + 1 ≤ wr.heap.size)
    (ho : wr.ownsRow (wo.heap.size + 1) 66 4 u m.length (encs m)) (ho7 : w7.ownsRow (wo.heap.size + 1) 66 4 v7 (m.length + 1) (encs m ++ (enc X).toArray.toList)) (hg7 : wr.grownBy w7 u.ownBlock) :
    w7.cell? ⟨b, 0, none⟩ = some (.slice a l.length cap) ∧ w7.frozen? ⟨b, 0, none⟩ = false ∧ b < w7.heap.size ∧ (∃ a7 c7, v7 = .slice a7 (m.length + 1) c7) ∧ Hid (RTok (w7.setCell ⟨b, 0, none⟩ v7) b v7 base (m ++ [X]) ∧ W.Chg [b] wo (w7.setCell ⟨b, 0, none⟩ v7)) := by
  have hbl := ht.lt
  have HO7 : w7.ownsRow (wo.heap.size + 1) 66 4 v7 (m ++ [X]).length (encs (m ++ [X])) := by rw [encs_app, List.length_append]; exact ho7
  have HB7 := hbe.grown hg7 hbs (fun q hq => (ho.lt q hq).1)
  have hb7 := (HB7.block b (by omega)).trans (blk_alloc ht.head)
  have hbw : Below wo.heap.size wo w7 := ((Below.refl wo.heap.size wo).alloc (Nat.le_refl _) _).trans (HB7.mono (by omega))
  refine ⟨blk_cell hb7 0 _ rfl, blk_frozen hb7 0, lt_of_block hb7, ?_, rtok_put ht hbw (W.row_base HO7 wo.heap.size (fun g hg => by have := (HO7.lt g hg).1; omega)) hb0⟩
  obtain ⟨a7, c7, h, _⟩ := rown_rows HO7
  exact ⟨a7, c7, by rw [h, List.length_append]; rfl⟩
theorem open_casesA (e1 e2 : Bool) (mk m1 : Nat) (hk h1 : Int) (H1 : m1 = mk + if e1 = true then 1 else 0) (H2 : h1 = if (e1 && e2) = true then hk + 1 else hk) :
    (e1 = false ∧ Hid (m1 = mk ∧ h1 = hk)) ∨ (e1 = true ∧ e2 = false ∧ Hid (m1 = mk + 1 ∧ h1 = hk)) ∨ (e1 = true ∧ e2 = true ∧ Hid (m1 = mk + 1 ∧ h1 = hk + 1)) := by
  unfold Hid
  cases e1 <;> cases e2 <;> simp_all
theorem open_casesB (bk e q y b1 : Bool) (H : b1 = (bk || (e && (q || y)))) : (bk = true ∧ Hid (b1 = true)) ∨ (bk = false ∧ e = false ∧ Hid (b1 = false)) ∨ (bk = false ∧ e = true ∧ q = true ∧ Hid (b1 = true)) ∨ (bk = false ∧ e = true ∧ q = false ∧ Hid (b1 = y)) := by
  unfold Hid
  cases bk <;> cases e <;> cases q <;> simp_all

set_option maxHeartbeats 8000000 in
set_option maxRecDepth 100000 in
theorem ropen_any (b : Nat) (v : Value) (base : Nat) (l : List TRow) (c i : Int) (q : Bool) (w : World) (ht : RTok w b v base l) (hg : Good l) (hl : l.length ≤ 1000) (hb0 : base ≤ w.heap.size) :
    Calls Try.prog 22 #[.pointer (some ⟨b, 0, none⟩), .int .i64 c, .int .i64 i, .bool q] w (ROpenPost b base (openR l c i q) w) := by
  have hbl := ht.lt
  obtain ⟨R, hR⟩ : ∃ R, R = openR l c i q := ⟨_, rfl⟩
  rw [← hR]
  have HR := Lib.hid hR
  have HT := Lib.hid ht
  clear hR
  by_cases hmay : mayB c i = true
  · have hrng : 0 ≤ c ∧ c < 4 ∧ 2 ≤ i ∧ i ≤ 128 := by unfold mayB at hmay; simp at hmay; omega
    have HG := Lib.hid hg
    have HM := Lib.hid hmay
    have hleast := hFold_least l c hg
    have hmf := mine_full l c hg
    have HLM := Lib.hid (And.intro hleast hmf)
    obtain ⟨a, cap, rfl, hcap, hr⟩ := rown_rows ht.rows
    have t0 : w.cell? ⟨b, 0, none⟩ = some (.slice a l.length cap) := blk_cell ht.head 0 _ rfl
    have HROWS := Lib.hid hr
    obtain ⟨Mf, hMf⟩ : ∃ Mf : Nat → Nat, Mf = fun k => mineL (l.take k) c := ⟨_, rfl⟩
    obtain ⟨Hf, hHf⟩ : ∃ Hf : Nat → Int, Hf = fun k => hFold (l.take k) c := ⟨_, rfl⟩
    obtain ⟨Bf, hBf⟩ : ∃ Bf : Nat → Bool, Bf = fun k => busyL (l.take k) i q := ⟨_, rfl⟩
    have HM0 : Hid (Mf 0 = 0 ∧ Hf 0 = 0 ∧ Bf 0 = false) := Lib.hid (by rw [hMf, hHf, hBf]; exact ⟨rfl, rfl, rfl⟩)
    have HMS : Hid (∀ k, k < l.length → Mf (k + 1) = Mf k + if (l.getD k default).c == c then 1 else 0) := Lib.hid (fun k hk => by rw [hMf]; exact mine_snoc l c k hk)
    have HHS : Hid (∀ k, k < l.length → Hf (k + 1) = hStep c (Hf k) (l.getD k default)) := Lib.hid (fun k hk => by rw [hHf]; simp only; rw [take_succ_getD l k hk, hFold_snoc])
    have HBS : Hid (∀ k, k < l.length → Bf (k + 1) = (Bf k || ((l.getD k default).i == i && (q || (l.getD k default).b)))) := Lib.hid (fun k hk => by rw [hBf]; exact busy_snoc l i q k hk)
    have HEND : Hid (Mf l.length = mineL l c ∧ Hf l.length = hFold l c ∧ Bf l.length = busyL l i q) := Lib.hid (by rw [hMf, hHf, hBf]; simp)
    have HMB : Hid (∀ k, Mf k ≤ l.length) := Lib.hid (fun k => by rw [hMf]; exact Nat.le_trans List.countP_le_length (List.length_take_le' _ _))
    have HHB : Hid (∀ k, k ≤ l.length → 0 ≤ Hf k ∧ Hf k ≤ k) := Lib.hid (fun k => by
      induction k with
      | zero => intro _; rw [HM0.out.2.1]; simp
      | succ k ih =>
        intro hk
        have := ih (by omega)
        rw [HHS.out k (by omega)]
        unfold hStep
        split <;> omega)
    clear hMf hHf hBf hleast hmf ht hr hg hmay
    go_enter Try.func22, Try.ntmps22
    go_wp2
    go_loopg [10, 11, 12, 13] l.length (fun g' s10 s11 s12 s13 wr => ∃ k : Nat, s13 = .int .i64 k ∧ k ≤ l.length ∧ l.length ≤ k + g' ∧ s10 = .int .i64 (Mf k) ∧ s11 = .bool (Bf k) ∧ s12 = .int .i64 (Hf k) ∧ wr = w)
    case atStart => exact ⟨0, rfl, by omega, by omega, by rw [HM0.out.1]; rfl, by rw [HM0.out.2.2], by rw [HM0.out.2.1], rfl⟩
    case round =>
      obtain ⟨k, rfl, hk, hkg, rfl, rfl, rfl, rfl⟩ := hrel
      by_cases hlt : k < l.length
      · rcases HROWS.out with h0 | ⟨ga, rfl, hga, hcell⟩
        · omega
        obtain ⟨y, hy, c0, c1, c2, c3⟩ : ∃ y, l.getD k default = y ∧ wr.cell? ⟨ga, k * 4, none⟩ = some (.int .i64 y.c) ∧ wr.cell? ⟨ga, k * 4 + 1, none⟩ = some (.int .i64 y.h) ∧
            wr.cell? ⟨ga, k * 4 + 2, none⟩ = some (.int .i64 y.i) ∧ wr.cell? ⟨ga, k * 4 + 3, none⟩ = some (.bool y.b) := ⟨_, rfl, hcell k hlt⟩
        have hkz : (k : Int) < (l.length : Int) := by omega
        have hkz1 : (k : Int).toNat = k := by omega
        have hmb := HMB.out k
        have hhb := HHB.out k hk
        have H1 := Lib.hid (HMS.out k hlt)
        have H2 := Lib.hid (HHS.out k hlt)
        have H3 := Lib.hid (HBS.out k hlt)
        rw [hy] at H1 H2 H3
        obtain ⟨yc, yh, yi, yb⟩ := y
        simp only at c0 c1 c2 c3 H1 H2 H3
        unfold hStep at H2
        simp only at H2
        generalize Mf k = mk at *
        generalize Hf k = hk' at *
        generalize Bf k = bk at *
        clear hy hcell
        obtain ⟨m1, hm1⟩ : ∃ m1, m1 = Mf (k + 1) := ⟨_, rfl⟩
        obtain ⟨h1, hh1⟩ : ∃ h1, h1 = Hf (k + 1) := ⟨_, rfl⟩
        obtain ⟨b1, hbb1⟩ : ∃ b1, b1 = Bf (k + 1) := ⟨_, rfl⟩
        have G1 := Lib.hid hm1
        have G2 := Lib.hid hh1
        have G3 := Lib.hid hbb1
        rw [← hm1] at H1
        rw [← hh1] at H2
        rw [← hbb1] at H3
        clear hm1 hh1 hbb1
        have hcs : ((yc == c) = false ∧ Hid (m1 = mk ∧ h1 = hk')) ∨ ((yc == c) = true ∧ (yh == hk') = false ∧ Hid (m1 = mk + 1 ∧ h1 = hk')) ∨ ((yc == c) = true ∧ (yh == hk') = true ∧ Hid (m1 = mk + 1 ∧ h1 = hk' + 1)) := open_casesA _ _ _ _ _ _ H1.out H2.out
        have hbs := Lib.hid (open_casesB _ _ _ _ _ H3.out)
        clear H1 H2 H3
        go_upto_if 51 with (fail)
        go_cut [10, 12] from 52 to 65 (fun s10 s12 wx => s10 = .int .i64 m1 ∧ s12 = .int .i64 h1 ∧ wx = wr)
        case first =>
          clear hbs
          rcases hcs with ⟨p1, HX⟩ | ⟨p1, p2, HX⟩ | ⟨p1, p2, HX⟩
          all_goals
            go_wp2
            go_meet
            have HA := HX.out.1
            have HB := HX.out.2
            exact ⟨by rw [HA] <;> go_num, by rw [HB] <;> go_num, rfl⟩
        case rest =>
          obtain ⟨rfl, rfl, rfl⟩ := hcut
          clear hcs
          rcases hbs.out with ⟨p1, HX⟩ | ⟨p1, p2, HX⟩ | ⟨p1, p2, p3, HX⟩ | ⟨p1, p2, p3, HX⟩
          · subst p1
            clear hbs
            go_wp2
            go_roundg (gk - 1)
            case measure => omega
            case rel => exact ⟨k + 1, by go_num, by omega, by omega, by rw [← G1.out], by rw [← G3.out, HX.out], by rw [← G2.out], rfl⟩
          · subst p1
            clear hbs
            go_wp2
            go_roundg (gk - 1)
            case measure => omega
            case rel => exact ⟨k + 1, by go_num, by omega, by omega, by rw [← G1.out], by rw [← G3.out, HX.out], by rw [← G2.out], rfl⟩
          · subst p1
            subst p3
            clear hbs
            go_wp2
            go_roundg (gk - 1)
            case measure => omega
            case rel => exact ⟨k + 1, by go_num, by omega, by omega, by rw [← G1.out], by rw [← G3.out, HX.out], by rw [← G2.out], rfl⟩
          · subst p1
            subst p3
            clear hbs
            go_wp2
            go_roundg (gk - 1)
            case measure => omega
            case rel => exact ⟨k + 1, by go_num, by omega, by omega, by rw [← G1.out], by rw [← G3.out, HX.out], by rw [← G2.out], rfl⟩
      · have hke : k = l.length := by omega
        have hmb := HMB.out k
        have hhb := HHB.out k hk
        have HE : Hid (Mf k = mineL l c ∧ Hf k = (least l c : Int) ∧ Bf k = busyL l i q ∧ (4 ≤ mineL l c ↔ 4 ≤ least l c)) := Lib.hid (by
          rw [hke]
          exact ⟨HEND.out.1, HEND.out.2.1.trans HLM.out.1, HEND.out.2.2, HLM.out.2⟩)
        clear hke
        by_cases h4 : 4 ≤ Mf k
        · have HB : Hid (R = (0, 5, l)) := Lib.hid (by
            rw [HR.out]
            unfold openR
            rw [if_neg (by rw [HM.out]; simp), if_pos (HE.out.2.2.2.1 (by rw [← HE.out.1]; exact h4))])
          go_wp2
          go_ret2
          rw [HB.out]
          exact ⟨_, rfl, HT.out, W.Chg.refl _ _⟩
        · have h4n : ¬ (4 ≤ least l c) := fun h => h4 (by rw [HE.out.1]; exact HE.out.2.2.2.2 h)
          have HB4 := Lib.hid h4n
          cases hbz : Bf k with
          | true =>
            have HB : Hid (R = (0, 8, l)) := Lib.hid (by
              rw [HR.out]
              unfold openR
              rw [if_neg (by rw [HM.out]; simp), if_neg HB4.out, if_pos (by rw [← HE.out.2.2.1]; exact hbz)])
            clear h4n
            go_wp2
            go_ret2
            rw [HB.out]
            exact ⟨_, rfl, HT.out, W.Chg.refl _ _⟩
          | false =>
            have HB : Hid (R = ((least l c : Int), 0, insRow l ⟨c, least l c, i, q⟩)) := Lib.hid (by
              rw [HR.out]
              unfold openR
              rw [if_neg (by rw [HM.out]; simp), if_neg HB4.out, if_neg (by rw [← HE.out.2.2.1, hbz]; simp)])
            have HL : Hid (Hf k = (least l c : Int)) := Lib.hid HE.out.2.1
            have hL3 : least l c ≤ 3 := by omega
            clear h4n
            generalize Mf k = mk at *
            generalize hhf : Hf k = L at *
            have hLz : 0 ≤ L ∧ L ≤ 3 := by have := HL.out; omega
            have hfree : (find l c L).isSome = false := by rw [HL.out]; exact (least_free l c).1
            obtain ⟨j0, hI⟩ := ins_of l ⟨c, L, i, q⟩ HG.out ⟨hrng.1, hrng.2.1, hLz.1, by simp only; omega⟩ hfree
            have HI := Lib.hid hI
            have HB2 : Hid (R = (L, 0, insRow l ⟨c, L, i, q⟩)) := Lib.hid (by rw [HB.out, ← HL.out])
            have hj0 := hI.le
            obtain ⟨Pf, hPf⟩ : ∃ Pf : Nat → Bool, Pf = fun k => decide (j0 < k) := ⟨_, rfl⟩
            have HPF : Hid (∀ k, Pf k = decide (j0 < k)) := Lib.hid (fun k => by rw [hPf])
            have HPF0 : Hid (Pf 0 = false) := Lib.hid (by rw [hPf]; simp)
            obtain ⟨IP, hIP⟩ : ∃ IP : Nat → List TRow, IP = insAt2 l ⟨c, L, i, q⟩ j0 := ⟨_, rfl⟩
            have HIP := Lib.hid hIP
            have HIP0 : Hid (IP 0 = []) := Lib.hid (by rw [hIP]; exact insAt2_zero _ _ _)
            have HIPL : Hid (∀ k, (IP k).length ≤ l.length + 1) := Lib.hid (fun k => by rw [hIP]; exact insAt2_len _ _ _ _)
            obtain ⟨wo, rfl⟩ : ∃ wo : World, wo = wr := ⟨_, rfl⟩
            have hxn := heap_alloc_new wo (.cells #[.int .i64 c, .int .i64 L, .int .i64 i, .bool q] 66)
            have HXN := Lib.hid hxn
            clear hxn hI hfree HB HL hPf hIP hhf
            go_wp2
            obtain ⟨gko, rfl⟩ : ∃ gko : Nat, gko = gk := ⟨_, rfl⟩
            go_loopg [15, 16, 17] l.length (fun g' s15 s16 s17 wx => ∃ k : Nat, s17 = .int .i64 k ∧ k ≤ l.length ∧ l.length ≤ k + g' ∧ s16 = .bool (Pf k) ∧ Hid (wx.ownsRow (wo.heap.size + 1) 66 4 s15 (IP k).length (encs (IP k))) ∧ Hid (Below (wo.heap.size + 1) (wo.alloc (.cells #[.int .i64 c, .int .i64 L, .int .i64 i, .bool q] 66)) wx))
            case atStart => exact ⟨0, rfl, by omega, by omega, by rw [HPF0.out], by rw [HIP0.out]; exact World.ownsRow_nil _ _ _ _, Below.refl _ _⟩
            case round =>
              obtain ⟨k, rfl, hk, hkg, rfl, HO, HBE⟩ := hrel
              have hbs : wo.heap.size + 1 ≤ wr.heap.size := by have := HBE.out.size; simpa using this
              have hb9 := (HBE.out.block b (by omega)).trans (blk_alloc HT.out.head)
              have t0 : wr.cell? ⟨b, 0, none⟩ = some (.slice a l.length cap) := blk_cell hb9 0 _ rfl
              have t1 : wr.frozen? ⟨b, 0, none⟩ = false := blk_frozen hb9 0
              have t2 : b < wr.heap.size := by omega
              have hx9 := (HBE.out.block wo.heap.size (by omega)).trans HXN.out
              have x0 := blk_cell hx9 0 _ rfl
              have x1 := blk_cell hx9 1 _ rfl
              have x2 := blk_cell hx9 2 _ rfl
              have x3 := blk_cell hx9 3 _ rfl
              have x4 : wo.heap.size < wr.heap.size := by omega
              have hipl := HIPL.out k
              clear hb9 hx9
              by_cases hlt : k < l.length
              · rcases HROWS.out with h0 | ⟨ga, rfl, hga, hcell⟩
                · omega
                have hmv : ∀ j v, wo.cell? ⟨ga, j, none⟩ = some v → wr.cell? ⟨ga, j, none⟩ = some v := fun j v h => by
                  have h1 := ((Below.refl wo.heap.size wo).alloc (Nat.le_refl _) (.cells #[.int .i64 c, .int .i64 L, .int .i64 i, .bool q] 66)).cell (p := ⟨ga, j, none⟩) hga
                  exact (HBE.out.cell (p := ⟨ga, j, none⟩) (by show ga < _; omega)).trans (h1.trans h)
                obtain ⟨y, hy, c0, c1, c2, c3⟩ : ∃ y, l.getD k default = y ∧ wr.cell? ⟨ga, k * 4, none⟩ = some (.int .i64 y.c) ∧ wr.cell? ⟨ga, k * 4 + 1, none⟩ = some (.int .i64 y.h) ∧
                    wr.cell? ⟨ga, k * 4 + 2, none⟩ = some (.int .i64 y.i) ∧ wr.cell? ⟨ga, k * 4 + 3, none⟩ = some (.bool y.b) := by
                  obtain ⟨c0, c1, c2, c3⟩ := hcell k hlt
                  exact ⟨_, rfl, hmv _ _ c0, hmv _ _ c1, hmv _ _ c2, hmv _ _ c3⟩
                have hkz : (k : Int) < (l.length : Int) := by omega
                have hkz1 : (k : Int).toNat = k := by omega
                have HP1 := Lib.hid (HPF.out (k + 1))
                have HNE : Hid (u15.ownBlock ≠ some wr.heap.size) := Lib.hid (fun e => by have := (HO.out.lt _ e).2; omega)
                have ny : wr.heap.size < (wr.alloc (.cells #[.int .i64 y.c, .int .i64 y.h, .int .i64 y.i, .bool y.b] 66)).heap.size := by simp
                rcases Nat.lt_trichotomy k j0 with hkj | hkj | hkj
                · have HS : Hid (IP (k + 1) = IP k ++ [y]) := Lib.hid (by rw [HIP.out, insAt2_other l _ j0 k hlt hj0 (by omega), hy])
                  have hlty := HI.out.before k hkj
                  rw [hy] at hlty
                  have HP : Hid (Pf (k + 1) = false) := Lib.hid (by rw [HP1.out]; simp; omega)
                  have hp0 : Pf k = false := by rw [HPF.out k]; simp; omega
                  rw [hp0]
                  have hd1 : decide (c < y.c) = false := by unfold lt at hlty; simp; simp at hlty; omega
                  have hcs : (y.c == c) = false ∨ ((y.c == c) = true ∧ decide (L < y.h) = false) := by
                    cases h : (y.c == c) with
                    | false => exact .inl rfl
                    | true => right; refine ⟨rfl, ?_⟩; unfold lt at hlty; simp at h hlty; simp; omega
                  clear hlty hp0 hy hcell hmv
                  rcases hcs with p1 | ⟨p1, p2⟩
                  all_goals
                    go_wp2_with (at_builtin; refine wpList_app2 rfl _ _ _ rfl (wo.heap.size + 1) elR _ _ _ rfl (HO.out.alloc _) (wr.heap.size + 1) (by simp) 1 (enc y).toArray rfl rfl (by simp [enc, Value.oneCell']) (by unfold maxLen; omega) (by omega) (by simp; omega) ?_; intro v7 w7 ho7 hg7)
                    go_roundg (gk - 1)
                    case measure => omega
                    case rel =>
                      refine ⟨k + 1, by go_num, by omega, by omega, by rw [HP.out], ?_, (HBE.out.alloc hbs _).grown hg7 (by simp; omega) (fun q hq => (HO.out.lt q hq).1)⟩
                      rw [HS.out, encs_app, List.length_append]
                      exact ho7
                · have HS : Hid (IP (k + 1) = IP k ++ [⟨c, L, i, q⟩] ++ [y]) := Lib.hid (by rw [HIP.out, hkj, insAt2_here l _ j0 (by omega), ← hkj, hy])
                  have hlty := HI.out.here (by omega)
                  rw [← hkj, hy] at hlty
                  have HP : Hid (Pf (k + 1) = true) := Lib.hid (by rw [HP1.out]; simp; omega)
                  have hp0 : Pf k = false := by rw [HPF.out k]; simp; omega
                  rw [hp0]
                  have hcs : decide (c < y.c) = true ∨ (decide (c < y.c) = false ∧ (y.c == c) = true ∧ decide (L < y.h) = true) := by
                    unfold lt at hlty
                    simp only at hlty
                    by_cases h : c < y.c
                    · exact .inl (by simpa using h)
                    · right; refine ⟨by simpa using h, by simp; omega, by simp; omega⟩
                  have m0 := blk_cell (heap_alloc_new wr (.cells #[.int .i64 y.c, .int .i64 y.h, .int .i64 y.i, .bool y.b] 66)) 0 _ rfl
                  have m1 := blk_cell (heap_alloc_new wr (.cells #[.int .i64 y.c, .int .i64 y.h, .int .i64 y.i, .bool y.b] 66)) 1 _ rfl
                  have m2 := blk_cell (heap_alloc_new wr (.cells #[.int .i64 y.c, .int .i64 y.h, .int .i64 y.i, .bool y.b] 66)) 2 _ rfl
                  have m3 := blk_cell (heap_alloc_new wr (.cells #[.int .i64 y.c, .int .i64 y.h, .int .i64 y.i, .bool y.b] 66)) 3 _ rfl
                  have HM := Lib.hid (And.intro m0 (And.intro m1 (And.intro m2 m3)))
                  clear hlty hp0 hy hcell hmv m0 m1 m2 m3 hkj
                  rcases hcs with p1 | ⟨p1, p2, p3⟩
                  all_goals
                    go_wp2_with (first
                      | (at_builtin; refine wpList_app2 rfl _ _ _ rfl (wo.heap.size + 1) elR _ _ _ rfl (HO.out.alloc _) (wr.heap.size + 1) (by simp) 1 (enc ⟨c, L, i, q⟩).toArray rfl rfl (by simp [enc, Value.oneCell']) (by unfold maxLen; omega) (by omega) (by simp; omega) ?_; intro v7 w7 ho7 hg7
                         have z0 := hg7.cell HM.out.1 (fun e => HNE.out e.symm)
                         have z1 := hg7.cell HM.out.2.1 (fun e => HNE.out e.symm)
                         have z2 := hg7.cell HM.out.2.2.1 (fun e => HNE.out e.symm)
                         have z3 := hg7.cell HM.out.2.2.2 (fun e => HNE.out e.symm)
                         have z4 : wr.heap.size < w7.heap.size := Nat.lt_of_lt_of_le ny hg7.size
                         have HO7 := Lib.hid ho7
                         have HG7 := Lib.hid hg7
                         clear ho7 hg7)
                      | (at_builtin; refine wpList_app1 rfl _ _ _ rfl (wo.heap.size + 1) elR _ _ _ rfl HO7.out 1 (enc y).toArray rfl rfl (by simp [enc, Value.oneCell']) (by unfold maxLen; omega) (by omega) (by omega) ?_; intro v8 w8 ho8 hg8))
                    go_roundg (gk - 1)
                    case measure => omega
                    case rel =>
                      refine ⟨k + 1, by go_num, by omega, by omega, by rw [HP.out], ?_, ((HBE.out.alloc hbs _).grown HG7.out (by simp; omega) (fun q hq => (HO.out.lt q hq).1)).grown hg8 (by omega) (fun q hq => (HO7.out.lt q hq).1)⟩
                      rw [HS.out, encs_app, encs_app, List.length_append, List.length_append]
                      exact ho8
                · have HS : Hid (IP (k + 1) = IP k ++ [y]) := Lib.hid (by rw [HIP.out, insAt2_other l _ j0 k hlt hj0 (by omega), hy])
                  have HP : Hid (Pf (k + 1) = true) := Lib.hid (by rw [HP1.out]; simp; omega)
                  have hp0 : Pf k = true := by rw [HPF.out k]; simp; omega
                  rw [hp0]
                  clear hp0 hy hcell hmv
                  go_wp2_with (at_builtin; refine wpList_app2 rfl _ _ _ rfl (wo.heap.size + 1) elR _ _ _ rfl (HO.out.alloc _) (wr.heap.size + 1) (by simp) 1 (enc y).toArray rfl rfl (by simp [enc, Value.oneCell']) (by unfold maxLen; omega) (by omega) (by simp; omega) ?_; intro v7 w7 ho7 hg7)
                  go_roundg (gk - 1)
                  case measure => omega
                  case rel =>
                    refine ⟨k + 1, by go_num, by omega, by omega, by rw [HP.out], ?_, (HBE.out.alloc hbs _).grown hg7 (by simp; omega) (fun q hq => (HO.out.lt q hq).1)⟩
                    rw [HS.out, encs_app, List.length_append]
                    exact ho7
              · have hke : k = l.length := by omega
                have HLAST := Lib.hid HI.out.last
                have HBW : Hid (∀ X, Below (wo.heap.size + 1) (wo.alloc (.cells #[.int .i64 c, .int .i64 L, .int .i64 i, .bool q] 66)) X → Below wo.heap.size wo X) := Lib.hid (fun X hX => ((Below.refl wo.heap.size wo).alloc (Nat.le_refl _) _).trans (hX.mono (by omega)))
                have hO := HO.out
                by_cases hjl : j0 < l.length
                · have hpl : Pf k = true := by rw [HPF.out k]; simp; omega
                  rw [hpl]
                  have HF : Hid (insRow l ⟨c, L, i, q⟩ = IP k) := Lib.hid (by rw [HLAST.out, if_pos hjl, HIP.out, hke])
                  obtain ⟨a5, c5, hv5, _⟩ := rown_rows hO
                  subst hv5
                  have HP := Lib.hid (rtok_put HT.out (HBW.out _ HBE.out) (W.row_base HO.out wo.heap.size (fun g hg => by have := (HO.out.lt g hg).1; omega)) hb0)
                  clear hpl hO hke
                  go_wp2
                  go_ret2
                  rw [HB2.out, HF.out]
                  exact ⟨_, rfl, HP.out.1, HP.out.2⟩
                · have hpl : Pf k = false := by rw [HPF.out k]; simp; omega
                  rw [hpl]
                  have HF : Hid (insRow l ⟨c, L, i, q⟩ = IP k ++ [⟨c, L, i, q⟩]) := Lib.hid (by rw [HLAST.out, if_neg hjl, HIP.out, hke])
                  clear hpl hO hke
                  go_wp2_with (at_builtin; refine wpList_app1 rfl _ _ _ rfl (wo.heap.size + 1) elR _ _ _ rfl HO.out 1 (enc ⟨c, L, i, q⟩).toArray rfl rfl (by simp [enc, Value.oneCell']) (by unfold maxLen; omega) (by omega) hbs ?_; intro v7 w7 ho7 hg7
                               obtain ⟨r0, r1, r2, ⟨a7, c7, rfl⟩, HP⟩ := open_last HT.out hb0 HBE.out hbs HO.out ho7 hg7
                               clear ho7 hg7)
                  go_ret2
                  rw [HB2.out, HF.out]
                  exact ⟨_, rfl, HP.out.1, HP.out.2⟩
  · have HB : Hid (R = (0, 1, l)) := Lib.hid (by rw [HR.out]; unfold openR; rw [if_pos (by simpa using hmay)])
    have hr : c < 0 ∨ 4 ≤ c ∨ i < 2 ∨ 128 < i := by unfold mayB at hmay; simp at hmay; omega
    clear hmay ht
    by_cases a1 : c < 0
    · clear hr
      go_enter Try.func22, Try.ntmps22
      go_wp2
      go_ret2
      rw [HB.out]
      exact ⟨v, rfl, HT.out, W.Chg.refl _ _⟩
    · by_cases a2 : 4 ≤ c
      · clear hr
        go_enter Try.func22, Try.ntmps22
        go_wp2
        go_ret2
        rw [HB.out]
        exact ⟨v, rfl, HT.out, W.Chg.refl _ _⟩
      · by_cases a3 : i < 2
        · clear hr
          go_enter Try.func22, Try.ntmps22
          go_wp2
          go_ret2
          rw [HB.out]
          exact ⟨v, rfl, HT.out, W.Chg.refl _ _⟩
        · have a4 : 128 < i := by omega
          clear hr
          go_enter Try.func22, Try.ntmps22
          go_wp2
          go_ret2
          rw [HB.out]
          exact ⟨v, rfl, HT.out, W.Chg.refl _ _⟩
end Go.Proofs.Ytembgdjdljflhaa
