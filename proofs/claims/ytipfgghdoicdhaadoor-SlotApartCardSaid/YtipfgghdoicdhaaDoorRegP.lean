/- Regions that draw their order: a load under a condition that ends far off: the way from it to its end is told. -/
import Derived.Test.YtipfgghdoicdhaaDoorRegL
namespace Go.Proofs.YtipfgghdoicdhaaDoor.W
open Go.RowKit
set_option linter.unusedVariables false
set_option linter.unusedSimpArgs false

section
variable {P : Program} {ops : Array Oper} {Q : Exit → Act → World → Prop} {md : Region.Mode} {cs : List (Nat × (World → Prop))}

/-- Operation d waits for i, by this way. -/
def pathB (md : Region.Mode) (ops : Array Oper) : Nat → List Nat → Nat → Bool
  | d, [], i => match ops[d]? with
    | none => false
    | some o => o.after.any fun e => Region.binds md e && e.on == i
  | d, x :: xs, i => (match ops[d]? with
    | none => false
    | some o => o.after.any fun e => Region.binds md e && e.on == x) && pathB md ops x xs i
theorem step_open {L : Array Bool} (hc : Closed md ops L) {d x : Nat} (hx : L.getD x true = false) (h : (match ops[d]? with
    | none => false
    | some o => o.after.any fun e => Region.binds md e && e.on == x) = true) : L.getD d true = false := by
  cases ho : ops[d]? with
  | none => rw [ho] at h; cases h
  | some o =>
    simp only [ho] at h
    obtain ⟨e, he, h1⟩ := Array.any_eq_true'.1 h
    simp only [Bool.and_eq_true, beq_iff_eq] at h1
    cases hd : L.getD d true with
    | false => rfl
    | true =>
      have h2 := hc d o ho hd e he h1.1
      obtain ⟨_, rfl⟩ := h1
      rw [Array.getD_eq_getD_getElem?] at hx h2
      cases hq : L[e.on]? with
      | none => rw [hq] at h2; cases h2
      | some b => rw [hq] at hx h2; simp at hx h2; rw [hx] at h2; cases h2
theorem path_open {L : Array Bool} (hc : Closed md ops L) {i : Nat} (hi : L.getD i true = false) : ∀ (xs : List Nat) (d : Nat), pathB md ops d xs i = true → L.getD d true = false := by
  intro xs
  induction xs with
  | nil => intro d h; exact step_open hc hi h
  | cons x xs ih =>
    intro d h
    unfold pathB at h
    rw [Bool.and_eq_true] at h
    exact step_open hc (ih x h.2) h.1
theorem wpAnyL_loadP (k : Nat) (xs : List Nat) {i d : Nat} {C : World → Prop} {oi : Oper} {v : Value} {fuel : Nat} {L : Array Bool} {a : Act} {w : World} (hk : cs[k]? = some (d, C)) (hi : ops[i]? = some oi)
    (hs : Region.noSelect ops = true) (hcl : closedB md ops L = true) (hf : Region.free md ops L i = true) (hr : (Region.ready md ops L).contains i = true) (hne : cs.all (fun c => c.1 != i) = true) (hanc : pathB md ops d xs i = true)
    (hQ : ∀ c a w, Q (.panic c) (a.put oi.dst v) w → Q (.panic c) a w) (hy : YieldsIf P ops C oi v a) (hS : HoldC cs L w)
    (h : HoldC cs (L.setIfInBounds i true) w → wpAnyL P md ops Q cs fuel (L.setIfInBounds i true) (a.put oi.dst v) w) : wpAnyL P md ops Q cs (fuel + 1) L a w :=
  wpAnyL_first hi (Region.noSelect_spec hs) hQ (fun L w h1 h2 h3 => h3 _ (List.mem_of_getElem? hk) (path_open h1 h2 _ _ hanc)) (fun c hc => by simpa using List.all_eq_true.1 hne c hc) fuel L a w (closed_of hcl) (Region.free_spec hi hf) (by simpa using hr) hy hS (h (hS.set _))
end
end Go.Proofs.YtipfgghdoicdhaaDoor.W
