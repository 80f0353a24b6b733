/- The walk of the reference's ReadTokens. -/
import Derived.Test.YtembgdjdljflhaaR2
namespace Go.Proofs.Ytembgdjdljflhaa
open Go.RowKit
set_option linter.unusedVariables false
set_option linter.unusedSimpArgs false

def tbB (r y : TRow) : Bool := (y.i == r.i && (y.b || r.b)) || decide (r.c < y.c) || (y.c == r.c && decide (r.h ≤ y.h))
def bad0B (r : TRow) : Bool := decide (4 ≤ r.c) || decide (4 ≤ r.h) || decide (r.i < 2) || decide (128 < r.i)
def small (r : TRow) : Prop := 0 ≤ r.c ∧ r.c < 256 ∧ 0 ≤ r.h ∧ r.h < 256 ∧ 0 ≤ r.i ∧ r.i < 65536
theorem tb_beside (r y : TRow) (hr : small r) (hy : small y) : (!besideB r y) = tbB r y := by
  unfold besideB tbB against small at *
  have w : ∀ z : Int, -300 < z → z < 300 → wrap64 z = z := fun z h1 h2 => by
    rw [wrap64]; omega
  have key : ∀ d : Int, (decide (d < 0) = decide (¬ (0 ≤ d))) := fun d => by rw [decide_eq_decide]; omega
  by_cases hc : y.c = r.c
  · rw [if_neg (by simp [hc]), w _ (by omega) (by omega), Bool.eq_iff_iff]
    cases hb : r.b <;> cases hb2 : y.b <;> simp <;> omega
  · rw [if_pos hc, w _ (by omega) (by omega), Bool.eq_iff_iff]
    cases hb : r.b <;> cases hb2 : y.b <;> simp <;> omega
theorem badRow_eq (acc : List TRow) (r : TRow) (hr : small r) (ha : ∀ y ∈ acc, small y) : badRow acc r = (bad0B r || acc.any (tbB r)) := by
  have h1 : has (fun x => !besideB r x) acc = acc.any (tbB r) := by
    unfold has
    rw [Bool.eq_iff_iff]
    simp only [List.any_eq_true]
    constructor
    · rintro ⟨x, hx, h⟩; exact ⟨x, hx, by rw [← tb_beside r x hr (ha x hx)]; exact h⟩
    · rintro ⟨x, hx, h⟩; exact ⟨x, hx, by rw [tb_beside r x hr (ha x hx)]; exact h⟩
  unfold badRow bad0B mayB
  rw [h1]
  unfold small at hr
  congr 1
  rw [Bool.eq_iff_iff]
  simp
  omega
end Go.Proofs.Ytembgdjdljflhaa
