/- Loops over functions: what is walked plainly serves in a round too. -/
import Derived.Test.YtipfgghdoicdhaaDoorRegL
import Derived.Test.YtipfgghdoicdhaaDoorD4
import Derived.RangeFuncNested
import Derived.RangeFuncBound
import Derived.RangeFuncCalls
import Derived.RangeFuncLeaves
import Derived.Shelf.Abstract
import Derived.OwnWalkIn
import Derived.TacticsInMore
import Derived.LoopNIn
import Derived.LoopIn
namespace Go.Proofs.YtipfgghdoicdhaaDoor.W
open Go.RowKit
set_option linter.unusedVariables false
set_option linter.unusedSimpArgs false

/-- The wide fence, or a round in it. -/
def Wide (F : Fence) : Prop := F = Fence.wide ∨ ∃ l, F = Fence.wide.inRound l
theorem wide_w : Wide Fence.wide := .inl rfl
theorem wide_r (l : Nat) : Wide (Fence.wide.inRound l) := .inr ⟨l, rfl⟩
theorem Wide.calls {F : Fence} (hF : Wide F) {n : Nat} {P : Program} {f : FuncId} {args : Array Value} {w : World} {R : Ending → World → Prop} (h : Calls P f args w R) : CallsIn F n P f args w R := by
  rcases hF with rfl | ⟨l, rfl⟩
  · exact callsIn_wide.2 h
  · exact CallsIn.inRound l (callsIn_wide.2 h)
theorem Wide.rows {F : Fence} (hF : Wide F) {n : Nat} {P : Program} {row : String} {args : Array Value} {w : World} {R : Value → World → Prop} (h : Rows P row args w R) : RowsIn F n P row args w R := by
  have h1 : RowsIn Fence.wide n P row args w R := fun c cs _ => by
    obtain ⟨v, w', r, s⟩ := h c cs
    exact ⟨v, w', r, stepsIn_wide.2 s⟩
  rcases hF with rfl | ⟨l, rfl⟩
  · exact h1
  · exact h1
theorem Wide.fn {F : Fence} (hF : Wide F) (f : FuncId) : F.fn f := by rcases hF with rfl | ⟨l, rfl⟩ <;> trivial
theorem Wide.depth {F : Fence} (hF : Wide F) : F.depth = none := by rcases hF with rfl | ⟨l, rfl⟩ <;> rfl

section
variable {F : Fence} {n : Nat} {P : Program} {ops : Array Oper} {Q : Exit → Act → World → Prop} {a : Act} {w : World}
theorem wpIn_of_op {o : Oper} {K : Act → World → Prop} (hF : Wide F) (hnd : ∀ c, o.op ≠ .defer c) (h : o.wp P a w K Q) : o.wpIn F n P a w K Q := by
  unfold Oper.wpIn
  refine ⟨fun f _ => hF.fn f, ?_⟩
  rw [Oper.semAt_eq _ _ _ hnd]
  unfold Oper.wp at h
  revert h
  generalize hr : (execOp a.eval o).run P w = r
  intro h
  cases r with
  | ok x w' =>
    cases x <;> simp only [Oper.upon, Oper.uponIn] at h ⊢
    case value => exact h
    case skip => exact h
    case defer => exact h
    case enter f args =>
      refine ⟨fun hd => (by rw [hF.depth] at hd; cases hd), hF.calls (Calls.mono h (fun e w'' he => ?_))⟩
      cases e <;> exact he
    case row row args => exact ⟨fun hd => (by rw [hF.depth] at hd; cases hd), hF.rows h⟩
  | halt x w' => cases x <;> simp only [Oper.upon, Oper.uponIn] at h ⊢ <;> exact h
/-- An operation of a plain region in a fence, by a law of the plain walk. -/
theorem wpListIn_op {o : Oper} {rest : List Oper} (hgd : o.guard = none) (hF : Wide F) (hnd : ∀ c, o.op ≠ .defer c) (v : Value) (w' : World) (hrun : (execOp a.eval o).run P w = .ok (.value v) w') (h : wpListIn F n P ops Q rest (a.put o.dst v) w') : wpListIn F n P ops Q (o :: rest) a w := by
  unfold wpListIn
  rw [if_pos (by simp [Region.wanted, hgd])]
  refine wpIn_of_op hF hnd ?_
  unfold Oper.wp
  rw [hrun]
  exact h
theorem wpListIn_skip {o : Oper} {rest : List Oper} (hgd : o.guard = none) (hF : Wide F) (hnd : ∀ c, o.op ≠ .defer c) (w' : World) (hrun : (execOp a.eval o).run P w = .ok .skip w') (h : wpListIn F n P ops Q rest (a.put o.dst undef) w') : wpListIn F n P ops Q (o :: rest) a w := by
  unfold wpListIn
  rw [if_pos (by simp [Region.wanted, hgd])]
  refine wpIn_of_op hF hnd ?_
  unfold Oper.wp
  rw [hrun]
  exact h
theorem wpListIn_load_midW {rest : List Oper} {op : Oper} (hF : Wide F) (hgd : op.guard = none) (ty : TypeId) (x : Operand) (ho : op.op = .load ty x)
    (b o : Nat) (hx : a.eval x = .pointer (some ⟨b, o, none⟩)) (cs : List Value) (d : TypeDesc) (hc : w.rangeAt b o cs) (hu : P.underlying ty = some d) (hd : d.isRow = true) (hi : (P.info? ty).map (·.size) = some cs.length)
    (h : wpListIn F n P ops Q rest (a.put op.dst (.agg cs.toArray)) w) : wpListIn F n P ops Q (op :: rest) a w := by
  refine wpListIn_op hgd hF (fun c e => by rw [ho] at e; cases e) _ w ?_ h
  unfold execOp
  simp only [ho, hx, Instr.loadAt, Instr.sureAddr, Sem.run_bind, Sem.run_pure, Result.andThen_ok, run_loadVar_mid w b o ty cs d hc hu hd hi]
/-- 'var x T = v' in a fence. -/
theorem wpListIn_varW {rest : List Oper} {o1 o2 : Oper} (hF : Wide F) (g1 : o1.guard = none) (g2 : o2.guard = none) (t : TypeId) (x y : Operand) (h1 : o1.op = .alloc t) (h2 : o2.op = .store t x y) (N : Nat) (hN : w.heap.size = N) (c : Array Value)
    (hx : (a.put o1.dst (.pointer (some ⟨N, 0, none⟩))).eval x = .pointer (some ⟨N, 0, none⟩)) (hy : (a.put o1.dst (.pointer (some ⟨N, 0, none⟩))).eval y = .agg c)
    (i : TypeInfo) (z : Value) (hi : P.info? t = some i) (hz : i.zero = some z) (hzs : z.cells.size = c.size) (his : i.size = c.size) (hone : c.all (·.oneCell') = true)
    (h : wpListIn F n P ops Q rest ((a.put o1.dst (.pointer (some ⟨N, 0, none⟩))).put o2.dst undef) (w.alloc (.cells c t))) : wpListIn F n P ops Q (o1 :: o2 :: rest) a w := by
  subst hN
  refine wpListIn_op g1 hF (fun c e => by rw [h1] at e; cases e) (.pointer (some ⟨w.heap.size, 0, none⟩)) (w.alloc (.cells z.cells t)) ?_ ?_
  · unfold execOp
    simp only [h1, Instr.alloc, zeroValue, typeInfo, run_program, hi, hz, newVar, newRow, run_newObj_alloc, Sem.run_pure, Sem.run_bind, Result.andThen_ok]
  · have hst := run_storeAt_new (P := P) w t z.cells c (by rw [hi, Option.map_some, his]) hzs hone
    refine wpListIn_skip g2 hF (fun c e => by rw [h2] at e; cases e) (w.alloc (.cells c t)) ?_ h
    unfold execOp
    simp only [h2, hx, hy, Sem.run_bind, hst, Result.andThen_ok]
    rfl
theorem wpOpIn_of {i : Nat} {K : Act → World → Prop} (hF : Wide F) (hlet : ¬ LetsOut Q) (hnd : ∀ (o : Oper), ops[i]? = some o → ∀ c, o.op ≠ .defer c) (h : wpOp P ops Q i K a w) : wpOpIn F n P ops Q i K a w := by
  unfold wpOp at h
  unfold wpOpIn
  cases ho : ops[i]? with
  | none => rw [ho] at h; exact h
  | some o =>
    simp only [ho] at h ⊢
    by_cases hw : Region.wanted o (yielded ops a.tmps) = true
    · simp only [hw, if_true] at h ⊢
      rcases h with h | h
      · exact wpIn_of_op hF (hnd o ho) h
      · exact absurd h.2 hlet
    · simp only [hw] at h ⊢
      exact ⟨fun f _ => hF.fn f, h⟩
theorem wpAnyIn_of {md : Region.Mode} (hF : Wide F) (hlet : ¬ LetsOut Q) (hnd : ∀ (i : Nat) (o : Oper), ops[i]? = some o → ∀ c, o.op ≠ .defer c) :
    ∀ (k : Nat) (L : Array Bool) (a : Act) (w : World), wpAny P md ops Q k L a w → wpAnyIn F n P md ops Q k L a w
  | 0, _, _, _, h => h
  | k + 1, _, _, _, h => ⟨h.1, fun i hi => wpOpIn_of hF hlet (hnd i) (wpOp_mono (fun a' w' h' => wpAnyIn_of hF hlet hnd k _ a' w' h') (h.2 i hi))⟩
def noDefer (ops : Array Oper) : Bool := ops.all fun o => match o.op with
  | .defer _ => false
  | _ => true
theorem noDefer_spec (h : noDefer ops = true) (i : Nat) (o : Oper) (ho : ops[i]? = some o) (c : Call) : o.op ≠ .defer c := fun e => by
  have := Array.all_eq_true_iff_forall_mem.1 h o (Array.mem_of_getElem? ho)
  rw [e] at this
  cases this
/-- A region that draws its order, in a fence. -/
theorem wpIn_region_L {id : Nat} (hF : Wide F) (hlet : ¬ LetsOut Q) (hnd : noDefer ops = true) (cs : List (Nat × (World → Prop))) (hm : P.follows .mixedOrders = true) (hS : HoldC cs (Array.replicate ops.size false) w.drew)
    (h : HoldC cs (Array.replicate ops.size false) w.drew → wpAnyL P .any ops Q cs ops.size (Array.replicate ops.size false) a w.drew) : (Code.region id ops true).wpIn F n P Q a w :=
  wpIn_region_any hm (wpAnyIn_of hF hlet (noDefer_spec hnd) _ _ _ _ (wpAny_of_L _ _ _ _ (h hS)))
end
end Go.Proofs.YtipfgghdoicdhaaDoor.W
