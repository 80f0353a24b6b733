/- Regions that draw their order: conditions on the world that need hold only up to the operation that uses what was loaded under them. -/
import Derived.Test.YtaiihklfeoeoeaaB0
import Derived.Deep.RegionHeld
namespace Go.Proofs.Ytaiihklfeoeoeaa.W
open Go.RowKit
set_option linter.unusedVariables false
set_option linter.unusedSimpArgs false

section
variable {P : Program} {ops : Array Oper} {Q : Exit → Act → World → Prop} {md : Region.Mode} {cs : List (Nat × (World → Prop))}

/-- Each condition holds as long as its operation has not come up. -/
def HoldC (cs : List (Nat × (World → Prop))) (L : Array Bool) (w : World) : Prop := ∀ c ∈ cs, L.getD c.1 true = false → c.2 w
theorem HoldC.nil {L : Array Bool} {w : World} : HoldC [] L w := fun c hc => by cases hc
theorem HoldC.cons {L : Array Bool} {w : World} {d : Nat} {C : World → Prop} (h : C w) (hr : HoldC cs L w) : HoldC ((d, C) :: cs) L w := fun c hc h0 => by
  rcases List.mem_cons.1 hc with rfl | hc
  · exact h
  · exact hr c hc h0
theorem HoldC.past {L : Array Bool} {w : World} {d : Nat} {C : World → Prop} (h : L.getD d true = true) (hr : HoldC cs L w) : HoldC ((d, C) :: cs) L w := fun c hc h0 => by
  rcases List.mem_cons.1 hc with rfl | hc
  · rw [h] at h0; cases h0
  · exact hr c hc h0
theorem getD_set_false {L : Array Bool} {i j : Nat} (h : (L.setIfInBounds i true).getD j true = false) : L.getD j true = false := by
  by_cases hij : i = j
  · subst hij
    rw [Array.getD_eq_getD_getElem?] at h
    by_cases hl : i < L.size
    · simp [hl] at h
    · simp [Array.getElem?_eq_none (Nat.le_of_not_lt hl), hl] at h
  · rwa [getD_set_ne true hij] at h
theorem HoldC.set {L : Array Bool} {w : World} (h : HoldC cs L w) (i : Nat) : HoldC cs (L.setIfInBounds i true) w := fun c hc h0 => h c hc (getD_set_false h0)

/-- As 'wpAnyH', the conditions bound to the operations that have not come up. -/
def wpAnyL (P : Program) (md : Region.Mode) (ops : Array Oper) (Q : Exit → Act → World → Prop) (cs : List (Nat × (World → Prop))) : Nat → Array Bool → Act → World → Prop
  | 0, L, a, w => Region.ready md ops L = [] ∧ Q .normal a w
  | n + 1, L, a, w => (Region.ready md ops L = [] → Q .normal a w) ∧
    ∀ i ∈ Region.ready md ops L, wpOp P ops Q i (fun a' w' => HoldC cs (L.setIfInBounds i true) w' ∧ wpAnyL P md ops Q cs n (L.setIfInBounds i true) a' w') a w
theorem wpAny_of_L : ∀ (n : Nat) (L : Array Bool) (a : Act) (w : World), wpAnyL P md ops Q cs n L a w → wpAny P md ops Q n L a w
  | 0, _, _, _, h => h
  | n + 1, _, _, _, h => ⟨h.1, fun i hi => wpOp_mono (fun a' w' h' => wpAny_of_L n _ a' w' h'.2) (h.2 i hi)⟩

/-- What has come up has all that it waits for behind it. -/
def closedB (md : Region.Mode) (ops : Array Oper) (L : Array Bool) : Bool :=
  (List.range ops.size).all fun j => !(L.getD j true) || match ops[j]? with
    | none => true
    | some o => o.after.all fun e => !Region.binds md e || L.getD e.on false
def Closed (md : Region.Mode) (ops : Array Oper) (L : Array Bool) : Prop := ∀ j o, ops[j]? = some o → L.getD j true = true → ∀ e ∈ o.after, Region.binds md e = true → L.getD e.on false = true
theorem closed_of {L : Array Bool} (h : closedB md ops L = true) : Closed md ops L := fun j o hj hl e he hb => by
  unfold closedB at h
  rw [List.all_eq_true] at h
  have h1 := h j (List.mem_range.2 (Array.getElem?_eq_some_iff.1 hj).1)
  simp only [hj, hl, Bool.not_true, Bool.false_or] at h1
  have h2 := Array.all_eq_true_iff_forall_mem.1 h1 e he
  simpa [hb] using h2
theorem Closed.step {L : Array Bool} (h : Closed md ops L) {i : Nat} (hi : i ∈ Region.ready md ops L) : Closed md ops (L.setIfInBounds i true) := fun j o hj hl e he hb => by
  obtain ⟨h0, oi, ho, hall⟩ := mem_ready.1 hi
  by_cases hij : i = j
  · subst hij
    rw [ho] at hj; cases hj
    exact getD_set_true (hall e he hb)
  · rw [getD_set_ne true hij] at hl
    exact getD_set_true (h j o hj hl e he hb)
/-- Operation d waits for i, at whatever distance. -/
def ancB (md : Region.Mode) (ops : Array Oper) : Nat → Nat → Nat → Bool
  | 0, _, _ => false
  | n + 1, d, i => match ops[d]? with
    | none => false
    | some o => o.after.any fun e => Region.binds md e && (e.on == i || ancB md ops n e.on i)
theorem anc_open {L : Array Bool} (hc : Closed md ops L) {i : Nat} (hi : L.getD i true = false) : ∀ n d, ancB md ops n d i = true → L.getD d true = false := by
  intro n
  induction n with
  | zero => intro d h; cases h
  | succ n ih =>
    intro d h
    unfold ancB at h
    cases ho : ops[d]? with
    | none => rw [ho] at h; cases h
    | some o =>
      simp only [ho] at h
      obtain ⟨e, he, h1⟩ := Array.any_eq_true'.1 h
      simp only [Bool.and_eq_true, Bool.or_eq_true, beq_iff_eq] at h1
      cases hd : L.getD d true with
      | false => rfl
      | true =>
        have h2 := hc d o ho hd e he h1.1
        rcases h1.2 with rfl | h3
        · rw [Array.getD_eq_getD_getElem?] at hi h2
          cases hx : L[e.on]? with
          | none => rw [hx] at h2; cases h2
          | some b => rw [hx] at hi h2; simp at hi h2; rw [hi] at h2; cases h2
        · have h4 := ih e.on h3
          rw [Array.getD_eq_getD_getElem?] at h4 h2
          cases hx : L[e.on]? with
          | none => rw [hx] at h2; cases h2
          | some b => rw [hx] at h4 h2; simp at h4 h2; rw [h4] at h2; cases h2

theorem wpAnyL_first {i : Nat} {oi : Oper} {v : Value} {C : World → Prop} (hi : ops[i]? = some oi) (hsel : ∀ (j : Nat) (o : Oper) cs b, ops[j]? = some o → o.op ≠ .select cs b)
    (hQ : ∀ c a w, Q (.panic c) (a.put oi.dst v) w → Q (.panic c) a w) (hC : ∀ L w, Closed md ops L → L.getD i true = false → HoldC cs L w → C w) (hne : ∀ c ∈ cs, c.1 ≠ i) :
    ∀ (fuel : Nat) (L : Array Bool) (a : Act) (w : World), Closed md ops L →
      (∀ j oj, ops[j]? = some oj → j ≠ i → L.getD j true = false → (∀ e ∈ oj.after, Region.binds md e = true → e.on ≠ i) → oi.apart ops oj = true) →
      i ∈ Region.ready md ops L → YieldsIf P ops C oi v a → HoldC cs L w →
      wpAnyL P md ops Q cs fuel (L.setIfInBounds i true) (a.put oi.dst v) w → wpAnyL P md ops Q cs (fuel + 1) L a w := by
  intro fuel
  induction fuel with
  | zero =>
    intro L a w hcl _ hr hy hS H
    refine ⟨fun h => (by rw [h] at hr; cases hr), fun j hj => ?_⟩
    by_cases hji : j = i
    · subst hji; exact hy.wpOp hi (hC L w hcl (mem_ready.1 hr).1 hS) ⟨hS.set _, H⟩
    · have := ready_mono hj hji
      rw [H.1] at this
      cases this
  | succ fuel ih =>
    intro L a w hcl hfree hr hy hS H
    refine ⟨fun h => (by rw [h] at hr; cases hr), fun j hj => ?_⟩
    by_cases hji : j = i
    · subst hji; exact hy.wpOp hi (hC L w hcl (mem_ready.1 hr).1 hS) ⟨hS.set _, H⟩
    · have h1 := H.2 j (ready_mono hj hji)
      obtain ⟨hjun, oj, hoj, hall⟩ := mem_ready.1 hj
      have h0 := (mem_ready.1 hr).1
      have hnot : ∀ e ∈ oj.after, Region.binds md e = true → e.on ≠ i := fun e he hb heq => by
        have h1 := hall e he hb
        rw [heq] at h1
        rcases Nat.lt_or_ge i L.size with h' | h'
        · simp [h'] at h0 h1; rw [h0] at h1; cases h1
        · simp [Array.getElem?_eq_none h'] at h1
      have h2 := wpOp_putIf hoj (hfree j oj hoj hji hjun hnot) (fun cs b => hsel i oi cs b hi) (fun cs b => hsel j oj cs b hoj) hQ hy h1
      refine wpOp_mono (fun a' w' h3 => ?_) h2
      have hS' : HoldC cs (L.setIfInBounds j true) w' := fun c hc h4 => h3.2.1 c hc (by
        rw [Array.setIfInBounds_comm _ _ (Ne.symm hji), getD_set_ne true (Ne.symm (hne c hc))]
        exact h4)
      refine ⟨hS', ih (L.setIfInBounds j true) a' w' (hcl.step hj) (fun k ok hk hki hun hno => ?_) (ready_mono hr (Ne.symm hji)) h3.1 hS' ?_⟩
      · refine hfree k ok hk hki ?_ hno
        by_cases hjk : j = k
        · subst hjk; exact hjun
        · rw [getD_set_ne true hjk] at hun; exact hun
      · rw [Array.setIfInBounds_comm _ _ hji]
        exact h3.2.2

/-- Taken first: an operation that yields its value in whatever world. -/
theorem wpAnyL_take {i : Nat} {oi : Oper} {v : Value} {fuel : Nat} {L : Array Bool} {a : Act} {w : World} (hi : ops[i]? = some oi)
    (hs : Region.noSelect ops = true) (hcl : closedB md ops L = true) (hf : Region.free md ops L i = true) (hr : (Region.ready md ops L).contains i = true) (hne : cs.all (fun c => c.1 != i) = true)
    (hQ : ∀ c a w, Q (.panic c) (a.put oi.dst v) w → Q (.panic c) a w) (hy : YieldsIf P ops (fun _ => True) oi v a) (hS : HoldC cs L w)
    (h : HoldC cs (L.setIfInBounds i true) w → wpAnyL P md ops Q cs fuel (L.setIfInBounds i true) (a.put oi.dst v) w) : wpAnyL P md ops Q cs (fuel + 1) L a w :=
  wpAnyL_first hi (Region.noSelect_spec hs) hQ (fun _ _ _ _ _ => trivial) (fun c hc => by simpa using List.all_eq_true.1 hne c hc) fuel L a w (closed_of hcl) (Region.free_spec hi hf) (by simpa using hr) hy hS (h (hS.set _))
/-- Taken first: a load, under condition number k. -/
theorem wpAnyL_load (k : Nat) {i d : Nat} {C : World → Prop} {oi : Oper} {v : Value} {fuel : Nat} {L : Array Bool} {a : Act} {w : World} (hk : cs[k]? = some (d, C)) (hi : ops[i]? = some oi)
    (hs : Region.noSelect ops = true) (hcl : closedB md ops L = true) (hf : Region.free md ops L i = true) (hr : (Region.ready md ops L).contains i = true) (hne : cs.all (fun c => c.1 != i) = true) (hanc : ancB md ops ops.size d i = true)
    (hQ : ∀ c a w, Q (.panic c) (a.put oi.dst v) w → Q (.panic c) a w) (hy : YieldsIf P ops C oi v a) (hS : HoldC cs L w)
    (h : HoldC cs (L.setIfInBounds i true) w → wpAnyL P md ops Q cs fuel (L.setIfInBounds i true) (a.put oi.dst v) w) : wpAnyL P md ops Q cs (fuel + 1) L a w :=
  wpAnyL_first hi (Region.noSelect_spec hs) hQ (fun L w h1 h2 h3 => h3 _ (List.mem_of_getElem? hk) (anc_open h1 h2 _ _ hanc)) (fun c hc => by simpa using List.all_eq_true.1 hne c hc) fuel L a w (closed_of hcl) (Region.free_spec hi hf) (by simpa using hr) hy hS (h (hS.set _))
theorem wpAnyL_done {L : Array Bool} {a : Act} {w : World} (hr : Region.ready md ops L = []) (h : Q .normal a w) : ∀ fuel, wpAnyL P md ops Q cs fuel L a w
  | 0 => ⟨hr, h⟩
  | _ + 1 => ⟨fun _ => h, by rw [hr]; simp⟩
def AllReadyL (P : Program) (md : Region.Mode) (ops : Array Oper) (Q : Exit → Act → World → Prop) (cs : List (Nat × (World → Prop))) (fuel : Nat) (L : Array Bool) (a : Act) (w : World) (rs : List Nat) : Prop :=
  ∀ i ∈ rs, wpOp P ops Q i (fun a' w' => HoldC cs (L.setIfInBounds i true) w' ∧ wpAnyL P md ops Q cs fuel (L.setIfInBounds i true) a' w') a w
theorem AllReadyL.nil {fuel : Nat} {L : Array Bool} {a : Act} {w : World} : AllReadyL P md ops Q cs fuel L a w [] := fun _ h => by cases h
theorem AllReadyL.cons {fuel : Nat} {L : Array Bool} {a : Act} {w : World} {i : Nat} {o : Oper} {rs : List Nat} (ho : ops[i]? = some o)
    (h : ∀ K' : Act → World → Prop, Shut (∀ a w, HoldC cs (L.setIfInBounds i true) w → (HoldC cs (L.setIfInBounds i true) w → wpAnyL P md ops Q cs fuel (L.setIfInBounds i true) a w) → K' a w) → if Region.wanted o (yielded ops a.tmps) = true then Oper.wp P o a w K' Q else K' (a.put o.dst undef) w)
    (hs : AllReadyL P md ops Q cs fuel L a w rs) : AllReadyL P md ops Q cs fuel L a w (i :: rs) := fun j hj => by
  rcases List.mem_cons.1 hj with rfl | hj
  · exact wpOp_step ho (fun K' hK => h K' (fun a w hS hW => hK a w ⟨hS, hW hS⟩))
  · exact hs j hj
theorem wpAnyL_ready {rs : List Nat} {fuel : Nat} {L : Array Bool} {a : Act} {w : World} (hr : Region.ready md ops L = rs) (hne : rs ≠ [])
    (h : AllReadyL P md ops Q cs fuel L a w rs) : wpAnyL P md ops Q cs (fuel + 1) L a w := ⟨fun h0 => absurd (hr ▸ h0) hne, hr ▸ h⟩
/-- The beginning. -/
theorem wp_region_L {id : Nat} {a : Act} {w : World} (cs : List (Nat × (World → Prop))) (hm : P.follows .mixedOrders = true) (hS : HoldC cs (Array.replicate ops.size false) w.drew)
    (h : HoldC cs (Array.replicate ops.size false) w.drew → wpAnyL P .any ops Q cs ops.size (Array.replicate ops.size false) a w.drew) : (Code.region id ops true).wp P Q a w :=
  wp_region_any hm (wpAny_of_L _ _ _ _ (h hS))
end
end Go.Proofs.Ytaiihklfeoeoeaa.W
