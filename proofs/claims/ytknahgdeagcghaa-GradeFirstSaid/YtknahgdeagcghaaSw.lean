/- The world of the sort: a row of places, and the floats that they are the places of. -/
import Derived.Test.YtknahgdeagcghaaCells
import Derived.Test.YtknahgdeagcghaaM
import Derived.BigRegion
import Derived.BigQuiet
import Derived.Deep.QuietTactic
namespace Go.Proofs.Ytknahgdeagcghaa
open Go.RowKit Fl
set_option linter.unusedVariables false

/-- A float's worth in the order: NaNs least. -/
def ukey (x : Nat) : Int := if isNan x then -1180591620717411303424 else key x
/-- What 'before' answers. -/
def cmpI (K : Int → Int) (i j : Int) : Int := if K j < K i then -1 else if K i = K j then 0 else 1
theorem cmpI_lt (K : Int → Int) (i j : Int) : decide (cmpI K i j < 0) = St.lt K i j := by
  unfold cmpI St.lt
  split
  · rename_i h; simp [h]
  · rename_i h
    split <;> simp <;> omega

structure Ctx where
  xs : List Nat
  b : Nat
  off : Nat
  N : Nat
  cf : Nat
  g : Nat
  n : Nat
  cap : Nat
def Ctx.K (C : Ctx) (i : Int) : Int := ukey (C.xs.getD i.toNat 0)
def Ctx.cv (C : Ctx) : Value := .func (.func 23) #[.slice (some ⟨C.b, C.off, none⟩) C.N C.cf] #[]
/-- The context's standing facts. -/
structure CtxOk (C : Ctx) : Prop where
  ne : C.b ≠ C.g
  wf : ∀ i, C.xs.getD i 0 < 18446744073709551616
  N : C.N ≤ 100
  n : C.n ≤ 100
structure SW (C : Ctx) (w0 w : World) (l : List Int) : Prop where
  row : IRow 3 w C.g C.n l
  flt : ∀ i, i < C.N → w.cell? ⟨C.b, C.off + i, none⟩ = some (.float .f64 (C.xs.getD i 0))
  inr : ∀ x ∈ l, 0 ≤ x ∧ x < C.N
  chg : Chg C.g w0 w
theorem SW.drewN {C : Ctx} {w0 w : World} {l : List Int} (h : SW C w0 w l) (k : Nat) : SW C w0 (w.drewN k) l := ⟨h.row.keep rfl, h.flt, h.inr, h.chg.drewN k⟩
theorem SW.drew {C : Ctx} {w0 w : World} {l : List Int} (h : SW C w0 w l) : SW C w0 w.drew l := ⟨h.row.keep rfl, h.flt, h.inr, h.chg.drew⟩
theorem SW.at {C : Ctx} {w0 w : World} {l : List Int} (h : SW C w0 w l) (i : Nat) (hi : i < C.n) : 0 ≤ l.getD i 0 ∧ l.getD i 0 < C.N :=
  h.inr _ (St.mem_at l i (by rw [h.row.len]; exact hi))
theorem SW.swapped {C : Ctx} {w0 w : World} {l : List Int} (h : SW C w0 w l) (hC : CtxOk C) (i j : Nat) (hi : i < C.n) (hj : j < C.n) :
    SW C w0 (((w.setCell ⟨C.g, i, none⟩ (.int .i64 (l.getD j 0))).setCell ⟨C.g, j, none⟩ (.int .i64 (l.getD i 0))).drew) (St.swp l i j) := by
  refine ⟨(h.row.swp i j hi hj).keep rfl, fun k hk => ?_, fun x hx => ?_, (h.chg.set2 i j _ _).drew⟩
  · show ((w.setCell ⟨C.g, i, none⟩ _).setCell ⟨C.g, j, none⟩ _).cell? _ = _
    rw [World.cell?_setCell_other _ _ _ _ (by intro e; exact hC.ne (congrArg Addr.block e).symm), World.cell?_setCell_other _ _ _ _ (by intro e; exact hC.ne (congrArg Addr.block e).symm)]
    exact h.flt k hk
  · unfold St.swp at hx
    rcases List.mem_or_eq_of_mem_set hx with hx | rfl
    · rcases List.mem_or_eq_of_mem_set hx with hx | rfl
      · exact h.inr x hx
      · exact h.at j hj
    · exact h.at i hi
/-- What a swap's walk wants. -/
theorem SW.cells {C : Ctx} {w0 w : World} {l : List Int} (h : SW C w0 w l) (i j : Nat) (hi : i < C.n) (hj : j < C.n) (v : Value) :
    w.cell? ⟨C.g, i, none⟩ = some (.int .i64 (l.getD i 0)) ∧ w.cell? ⟨C.g, j, none⟩ = some (.int .i64 (l.getD j 0)) ∧ w.frozen? ⟨C.g, i, none⟩ = false ∧ w.frozen? ⟨C.g, j, none⟩ = false ∧
      ∃ u, (w.setCell ⟨C.g, i, none⟩ v).cell? ⟨C.g, j, none⟩ = some u := by
  refine ⟨h.row.cell i hi, h.row.cell j hj, h.row.frozen i, h.row.frozen j, ?_⟩
  by_cases e : i = j
  · subst e
    exact ⟨v, World.cell?_setCell_same' _ _ _ (by rw [h.row.cell i hi]; rfl)⟩
  · exact ⟨_, (World.cell?_setCell_other _ _ _ _ (by intro e'; exact e (congrArg Addr.off e'))).trans (h.row.cell j hj)⟩

theorem ukey_cmp (a b : Nat) (ha : a < 18446744073709551616) (hb : b < 18446744073709551616) :
    (if nanB a || nanB b then cmpF a b else cmpF b a) = if ukey b < ukey a then -1 else if ukey a = ukey b then 0 else 1 := by
  have ka : -9300000000000000000 < key a ∧ (isNan a = true → key a = 18446744073709551616) ∧ (isNan a = false → key a < 18446744073709551616) := by
    unfold key; refine ⟨?_, ?_, ?_⟩
    · split
      · omega
      · split <;> omega
    · intro h; rw [if_pos h]
    · intro h; rw [if_neg (by simp [h])]; split <;> omega
  have kb : -9300000000000000000 < key b ∧ (isNan b = true → key b = 18446744073709551616) ∧ (isNan b = false → key b < 18446744073709551616) := by
    unfold key; refine ⟨?_, ?_, ?_⟩
    · split
      · omega
      · split <;> omega
    · intro h; rw [if_pos h]
    · intro h; rw [if_neg (by simp [h])]; split <;> omega
  rw [cmpF_key a b ha hb, cmpF_key b a hb ha, nanB_isNan a ha, nanB_isNan b hb]
  unfold ukey
  obtain ⟨a1, a2, a3⟩ := ka
  obtain ⟨b1, b2, b3⟩ := kb
  generalize key a = x at *
  generalize key b = y at *
  cases hna : isNan a <;> cases hnb : isNan b
  all_goals
    (try replace a2 := a2 hna); (try replace b2 := b2 hnb); (try replace a3 := a3 hna); (try replace b3 := b3 hnb)
    simp only [Bool.or_true, Bool.or_false, Bool.or_self, if_true, if_false, Bool.false_eq_true]
    (repeat' split) <;> first | rfl | (exfalso; omega)

set_option maxHeartbeats 1000000 in
theorem before_any (C : Ctx) (hC : CtxOk C) (W : World) (hf : ∀ i, i < C.N → W.cell? ⟨C.b, C.off + i, none⟩ = some (.float .f64 (C.xs.getD i 0))) (i j : Int) (hi : 0 ≤ i ∧ i < C.N) (hj : 0 ≤ j ∧ j < C.N) :
    Calls Try.prog 23 #[.slice (some ⟨C.b, C.off, none⟩) C.N C.cf, .int .i64 i, .int .i64 j] W fun e w' => e = .returned (.int .i64 (cmpI C.K i j)) ∧ ∃ k, w' = W.drewN k := by
  obtain ⟨p, rfl⟩ : ∃ p : Nat, i = (p : Int) := ⟨i.toNat, by omega⟩
  obtain ⟨q, rfl⟩ : ∃ q : Nat, j = (q : Int) := ⟨j.toNat, by omega⟩
  have cp := hf p (by omega)
  have cq := hf q (by omega)
  have wp := hC.wf p
  have wq := hC.wf q
  have hk := ukey_cmp _ _ wp wq
  have hN := hC.N
  unfold cmpI Ctx.K
  rw [Int.toNat_natCast, Int.toNat_natCast]
  generalize C.xs.getD p 0 = x at *
  generalize C.xs.getD q 0 = y at *
  rw [← hk]
  clear hk hC hf
  generalize C.off = off at *
  generalize C.b = b at *
  generalize C.cf = cf at *
  generalize C.N = N at *
  obtain ⟨p1, p2⟩ := hi
  obtain ⟨q1, q2⟩ := hj
  cases hx : nanB x with
  | true =>
    go_enter Try.func23, Try.ntmps23
    go_wp2
    go_quiet (fail)
    go_wp2_with (first
      | (go_at_call 19; refine (none_any _ _).mono ?_; rintro e w' ⟨rfl, rfl⟩)
      | (go_at_call 11; refine (compare_any _ _ _ (by assumption) (by assumption)).mono ?_; rintro e w' ⟨rfl, rfl⟩))
    all_goals
      go_ret
      exact ⟨ret_int (by simp_all), _, rfl⟩
  | false =>
    cases hy : nanB y with
    | true =>
      go_enter Try.func23, Try.ntmps23
      go_wp2
      go_quiet (fail)
      go_wp2_with (first
        | (go_at_call 19; refine (none_any _ _).mono ?_; rintro e w' ⟨rfl, rfl⟩)
        | (go_at_call 11; refine (compare_any _ _ _ (by assumption) (by assumption)).mono ?_; rintro e w' ⟨rfl, rfl⟩))
      all_goals
        go_ret
        exact ⟨ret_int (by simp_all), _, rfl⟩
    | false =>
      go_enter Try.func23, Try.ntmps23
      go_wp2
      go_quiet (fail)
      go_wp2_with (first
        | (go_at_call 19; refine (none_any _ _).mono ?_; rintro e w' ⟨rfl, rfl⟩)
        | (go_at_call 11; refine (compare_any _ _ _ (by assumption) (by assumption)).mono ?_; rintro e w' ⟨rfl, rfl⟩))
      all_goals
        go_ret
        exact ⟨ret_int (by simp_all), _, rfl⟩
end Go.Proofs.Ytknahgdeagcghaa
