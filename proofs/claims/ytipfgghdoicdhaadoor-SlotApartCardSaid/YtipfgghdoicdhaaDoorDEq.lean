/- Whether two sectors are the same. -/
import Derived.Test.YtipfgghdoicdhaaDoorD3
import Derived.DeepKeys
import Derived.Laws.StructEq
namespace Go.Proofs.YtipfgghdoicdhaaDoor.W
open Go.RowKit
set_option linter.unusedVariables false
set_option linter.unusedSimpArgs false

def lit8 (x : UInt8) : Lit := .int .u8 (x.toNat : Int)
theorem lit8_inj {a b : UInt8} (h : lit8 a = lit8 b) : a = b := by
  unfold lit8 at h
  injection h with _ h
  exact UInt8.toNat_inj.1 (by omega)
theorem map_lit8_inj : ∀ {l m : List UInt8}, l.map lit8 = m.map lit8 → l = m
  | [], [], _ => rfl
  | [], _ :: _, h => by cases h
  | _ :: _, [], h => by cases h
  | a :: l, b :: m, h => by
    simp only [List.map_cons, List.cons.injEq] at h
    rw [lit8_inj h.1, map_lit8_inj h.2]
theorem keyLits_u8 (x : UInt8) (d : Nat) : Tryd.prog.keyLits (d + 1) 5 [bv x] = some [lit8 x] := by
  have hw : (Lit.int .u8 (x.toNat : Int)).wf = true := by
    have := x.toNat_lt
    have h1 : IntKind.u8.min = 0 := rfl
    have h2 : IntKind.u8.max = 255 := rfl
    simp only [Lit.wf, h1, h2, Bool.and_eq_true, decide_eq_true_eq]
    omega
  unfold Program.keyLits bv lit8
  simp [Tryd.underlying5, hw]
theorem mapM_some {α β : Type} (f : α → Option β) (g : α → β) : ∀ l : List α, (∀ x ∈ l, f x = some (g x)) → l.mapM f = some (l.map g)
  | [], _ => rfl
  | a :: l, h => by
    rw [List.mapM_cons, h a (by simp), mapM_some f g l (fun x hx => h x (by simp [hx]))]
    rfl
theorem cells_u8 : Tryd.prog.cellsOf 5 = 1 := by kernel_rfl
theorem cells_arr : Tryd.prog.cellsOf 75 = 64 := by kernel_rfl
theorem cells_sec : Tryd.prog.cellsOf 77 = 64 := by kernel_rfl
theorem range_flat (l : List UInt8) : ((List.range l.length).map (fun i => [lit8 (l.getD i 0)])).flatten = l.map lit8 := by
  have h : (List.range l.length).map (fun i => [lit8 (l.getD i 0)]) = l.map (fun x => [lit8 x]) := by
    refine List.ext_getElem (by simp) (fun i h1 h2 => ?_)
    simp at h1 h2
    simp [List.getD_eq_getElem?_getD, List.getElem?_eq_getElem h2]
  rw [h]
  clear h
  induction l with
  | nil => rfl
  | cons a l ih => simp [ih]
theorem keyLits_arr (l : List UInt8) (hl : l.length = 64) (d : Nat) : Tryd.prog.keyLits (d + 2) 75 (bvs l) = some (l.map lit8) := by
  unfold Program.keyLits
  simp only [Tryd.underlying75]
  rw [if_pos (by rw [bvs_len, hl, cells_arr]), cells_u8]
  rw [mapM_some _ (fun i => [lit8 (l.getD i 0)]) (List.range 64) (fun i hi => ?_)]
  · have := range_flat l
    rw [hl] at this
    simp only [Option.map_some, this]
  · have hi' : i < l.length := by rw [hl]; exact List.mem_range.1 hi
    have : ((bvs l).drop (i * 1)).take 1 = [bv (l.getD i 0)] := by
      rw [Nat.mul_one]
      have hi2 : i < (bvs l).length := by rw [bvs_len]; exact hi'
      rw [List.drop_eq_getElem_cons hi2]
      simp [bvs, List.getD_eq_getElem?_getD, List.getElem?_eq_getElem hi']
    rw [this]
    exact keyLits_u8 _ _
theorem keyLits_sec (l : List UInt8) (hl : l.length = 64) : Tryd.prog.keyLits 3 77 (bvs l) = some (l.map lit8) := by
  unfold Program.keyLits
  simp only [Tryd.underlying77]
  rw [if_pos ⟨by rw [bvs_len, hl, cells_sec], by decide +kernel⟩]
  simp only [List.mapM_cons, List.mapM_nil, List.drop_zero, cells_arr]
  rw [List.take_of_length_le (by rw [bvs_len, hl]; omega), keyLits_arr l hl]
  simp
theorem neq_sec (l m : List UInt8) (hl : l.length = 64) (hm : m.length = 64) (w : World) :
    (binOp .neq 77 (.agg (bvs l).toArray) (.agg (bvs m).toArray)).run Tryd.prog w = .ok (.bool (!decide (l = m))) w := by
  rw [run_neq_struct]
  obtain ⟨r, h1, h2⟩ := run_equalIn_deep (P := Tryd.prog) 9997 3 77 (by kernel_rfl) w 3 3 (.agg (bvs l).toArray) (.agg (bvs m).toArray) (l.map lit8) (m.map lit8)
    (by simp [Value.formed, Tryd.underlying77, bvs_len, hl, cells_sec]) (by simp [Value.formed, Tryd.underlying77, bvs_len, hm, cells_sec])
    (by simpa [Value.cells] using keyLits_sec l hl) (by simpa [Value.cells] using keyLits_sec m hm)
  have hr : r = decide (l = m) := by
    by_cases e : l = m
    · rw [decide_eq_true e]; exact h2.2 (by rw [e])
    · rw [decide_eq_false e]
      cases r with
      | false => rfl
      | true => exact absurd (map_lit8_inj (h2.1 rfl)) e
  rw [← hr]
  have h3 : (Op.equalIn 10000 77 (.agg (bvs l).toArray) (.agg (bvs m).toArray)).run Tryd.prog w = .ok r w := h1
  rw [h3]
  rfl
end Go.Proofs.YtipfgghdoicdhaaDoor.W
