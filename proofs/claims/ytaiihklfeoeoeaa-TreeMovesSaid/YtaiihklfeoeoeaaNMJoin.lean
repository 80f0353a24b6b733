/- The walks of Join and Parent. -/
import Derived.Test.YtaiihklfeoeoeaaNMTexts
import Derived.Test.YtaiihklfeoeoeaaNMRSplit
import Derived.Lib.Join
import Derived.Deep.RegionHeld3
namespace Go.Proofs.Ytaiihklfeoeoeaa.NM
open Go.RowKit
set_option linter.unusedVariables false

theorem joinTail_eq (r : List Bs) : Lib.joinTail [47] r = tailB r := by
  induction r with
  | nil => rfl
  | cons p ps ih =>
    have : Lib.joinTail [47] (p :: ps) = [47] ++ p ++ Lib.joinTail [47] ps := by simp [Lib.joinTail]
    rw [this, ih]; simp [tailB]
theorem join_eq (l : List Bs) : 47 :: Lib.join l [47] = joinB l := by
  cases l with
  | nil => rfl
  | cons p ps =>
    rw [Lib.join_cons, joinTail_eq]
    simp [joinB, tailB]
theorem tail_len (l : List Bs) (h : ∀ p ∈ l, p.length ≤ 100) : (tailB l).length ≤ 101 * l.length := by
  induction l with
  | nil => simp [tailB]
  | cons p ps ih =>
    have h1 := h p (by simp)
    have h2 := ih (fun q hq => h q (List.mem_cons_of_mem _ hq))
    simp only [tailB, List.length_cons, List.length_append]
    omega
theorem joinB_len (l : List Bs) (h : ∀ p ∈ l, p.length ≤ 100) : (joinB l).length ≤ 101 * l.length + 1 := by
  unfold joinB
  split
  · simp
  · have := tail_len l h; omega

theorem mk_append (a b : Bs) : mk a ++ mk b = mk (a ++ b) := by
  apply Go.WideShapes.bytes_inj
  simp

set_option maxHeartbeats 4000000 in
theorem join_any (A : Option Addr) (l : List Bs) (c top : Nat) (w : World) (hr : RowAt w w.heap.size A l.length (fun i => .string (mk (l.getD i [])))) (hc : l.length ≤ c) (hn : l.length ≤ 100) (hl : ∀ p ∈ l, p.length ≤ 100) :
    Calls Try.prog 56 #[.slice A l.length c] w fun e w' => e = .returned (.string (mk (joinB l))) ∧ Below w.heap.size w w' := by
  rcases hr with h0 | ⟨b, off, rfl, hlt, hcells⟩
  · have e : l = [] := List.eq_nil_of_length_eq_zero h0
    subst e
    go_enter Try.func56, Try.ntmps56
    go_wp2_with fail
    refine (Try.strings_Join_none A c _ _).mono ?_
    rintro e w' ⟨rfl, rfl⟩
    go_wp2
    go_ret
    refine ⟨?_, Below.refl _ _⟩
    exact congrArg (fun b => Ending.returned (.string b)) (mk_append [47] [])
  · have hj := Try.strings_Join b off c (l.map mk) (mk [47]) w (by
        intro j x hx
        rw [List.getElem?_map] at hx
        obtain ⟨y, hy, rfl⟩ := Option.map_eq_some_iff.1 hx
        have hjl : j < l.length := (List.getElem?_eq_some_iff.1 hy).1
        rw [hcells j hjl]; simp only [List.getD_eq_getElem?_getD, hy, Option.getD_some]) hlt (by simp; omega) (by simpa using hc) (by
        have e : (l.map mk).map (·.data.toList) = l := by rw [List.map_map]; exact List.map_id l
        rw [e]
        have h1 := congrArg List.length (join_eq l)
        have h2 := joinB_len l hl
        simp only [List.length_cons] at h1
        show (Lib.join l [47]).length ≤ _
        omega)
    have e : (l.map mk).map (·.data.toList) = l := by rw [List.map_map]; exact List.map_id l
    rw [e, List.length_map] at hj
    have HJ := Lib.hid hj
    have hlen : (Lib.join l [47]).length ≤ 11000 := by
      have h1 := congrArg List.length (join_eq l)
      have h2 := joinB_len l hl
      simp only [List.length_cons] at h1
      omega
    have hje := join_eq l
    obtain ⟨X, hX⟩ : ∃ X, Lib.join l [47] = X := ⟨_, rfl⟩
    have hadd : ∀ W, (Op.stringOp .add ⟨#[47]⟩ (mk X)).run Try.prog W = .ok (.string (⟨#[47]⟩ ++ mk X)) W := fun W => run_string_add_sum W _ _ (by
      have h1 : (mk X).size = X.length := by rw [size_len, data_mk]
      have h2 : (ByteArray.mk #[47]).size = 1 := rfl
      rw [h1, h2, ← hX]; omega)
    rw [hX] at hje
    have HE := Lib.hid hje
    have HX := Lib.hid hX
    clear hj hcells e hlen hje hX
    go_enter Try.func56, Try.ntmps56
    go_wp2_with fail
    have hj := HJ.out
    rw [HX.out] at hj
    refine hj.mono ?_
    clear hj
    rintro e w' ⟨rfl, hb⟩
    go_wp2
    go_ret
    refine ⟨?_, hb⟩
    rw [← HE.out]
    exact congrArg (fun b => Ending.returned (.string b)) (mk_append [47] X)

theorem bt0 {w w1 w2 : World} (h1 : Below w.heap.size w w1) (h2 : Below w1.heap.size w1 w2) : Below w.heap.size w w2 := h1.trans (h2.mono h1.size)
/-- What Parent answers; 'ok' 0, 'arg' 1, 'name' 12. -/
def ParentPost (w : World) (s : Bs) (e : Ending) (w' : World) : Prop :=
  Below w.heap.size w w' ∧ match splitB s with
  | none => e = .returned (.tuple #[.string (mk []), .string (mk []), .int .i64 12])
  | some l => if l = [] then e = .returned (.tuple #[.string (mk []), .string (mk []), .int .i64 1])
    else e = .returned (.tuple #[.string (mk (joinB l.dropLast)), .string (mk (l.getLastD [])), .int .i64 0])

theorem dropLast_getD {l : List Bs} {m : Nat} (h : l.length = m + 1) : ∀ i, i < m → l.dropLast.getD i [] = l.getD i [] := by
  intro i hi
  simp only [List.getD_eq_getElem?_getD]
  rw [List.getElem?_dropLast, if_pos (by omega)]
theorem last_getD {l : List Bs} {m : Nat} (h : l.length = m + 1) : l.getD m [] = l.getLastD [] := by
  rw [List.getLastD_eq_getLast?, List.getLast?_eq_getElem?, List.getD_eq_getElem?_getD]
  have : l.length - 1 = m := by omega
  rw [this]

set_option maxHeartbeats 4000000 in
set_option maxRecDepth 100000 in
theorem parent_any (s : ByteArray) (w : World) (hs : s.size ≤ maxLen) : Calls Try.prog 41 #[.string s] w (ParentPost w s.data.toList) := by
  cases hsp : splitB s.data.toList with
  | none =>
    have HSP := Lib.hid hsp
    go_enter Try.func41, Try.ntmps41
    go_wp2_with fail
    refine (split_any s w hs).mono ?_
    rintro e w1 ⟨hb1, he⟩
    rw [hsp] at he
    subst he
    clear hsp
    go_wp2
    go_ret3
    refine ⟨hb1, ?_⟩
    rw [HSP.out]
    rfl
  | some l =>
    have h8 := (split_some hsp).2.1
    have HM := Lib.hid (split_some hsp).1
    go_enter Try.func41, Try.ntmps41
    go_wp2_with fail
    refine (split_any s w hs).mono ?_
    rintro e w1 ⟨hb1, he⟩
    rw [hsp] at he
    obtain ⟨v, rfl, a, c, rfl, hcap, hr⟩ := he
    have HSP := Lib.hid hsp
    clear hsp
    by_cases h0 : l.length = 0
    · have hzb : ((l.length : Int) == 0) = true := by rw [h0]; rfl
      have HL : Hid (l = []) := List.eq_nil_of_length_eq_zero h0
      clear h0 hr
      go_wp2
      go_ret3
      refine ⟨hb1, ?_⟩
      rw [HSP.out]
      simp only [HL.out, if_true]
      rfl
    · have hzb : ((l.length : Int) == 0) = false := by rw [beq_eq_false_iff_ne]; omega
      rcases hr with h | ⟨x, o, rfl, hx, hc⟩
      · exact absurd h h0
      have HC := Lib.hid hc
      clear hc
      go_wp2
      obtain ⟨m, hm⟩ : ∃ m, l.length = m + 1 := ⟨l.length - 1, by omega⟩
      have hcl := HC.out m (by omega)
      have e1 : (l.length : Int) - 1 = (m : Int) := by omega
      rw [e1]
      have hdl : l.dropLast.length = m := by rw [List.length_dropLast]; omega
      have hm0 : (0 : Int) ≤ (m : Int) := by omega
      have hm1 : (m : Int) < (l.length : Int) := by omega
      have hm2 : (m : Int) ≤ (c : Int) := by omega
      have hmc : m ≤ c := by omega
      have cj : ∀ C, m ≤ C → ∀ W, Below w1.heap.size w1 W → Calls Try.prog 56 #[.slice (some ⟨x, o, none⟩) m C] W fun e w' => e = .returned (.string (mk (joinB l.dropLast))) ∧ Below W.heap.size W w' := by
        intro C hC W hW
        have hrow : RowAt W W.heap.size (some ⟨x, o, none⟩) l.dropLast.length (fun i => .string (mk (l.dropLast.getD i []))) := by
          refine .inr ⟨x, o, rfl, Nat.lt_of_lt_of_le hx hW.size, fun i hi => ?_⟩
          show _ = some (Value.string (mk (l.dropLast.getD i [])))
          rw [dropLast_getD hm i (by omega)]
          exact (hW.cell (p := ⟨x, o + i, none⟩) hx).trans (HC.out i (by omega))
        have := join_any (some ⟨x, o, none⟩) l.dropLast C 0 W hrow (by omega) (by omega) (fun p hp => by
          have := (may_len (HM.out p (List.dropLast_subset l hp))).2; omega)
        rw [hdl] at this
        exact this
      have CJ := Lib.hid cj
      have HD := Lib.hid hm
      clear cj hm e1 hdl
      generalize hlv : l.getD m [] = lv at *
      have HLV := Lib.hid hlv
      clear hlv
      go_region_held3 (fun w' => w'.cell? ⟨x, o + m, none⟩ = some (.string (mk lv)))
        (first
          | go_keep
          | exact (hbj.cell (p := ⟨x, o + m, none⟩) hx).trans hcl)
        (first
          | (go_at_call 56; refine (CJ.out _ (by omega) _ (by first | exact Below.refl _ _ | exact (Below.refl _ _).drew)).mono ?_; rintro e wj ⟨rfl, hbj0⟩; have hbj : Below w1.heap.size w1 wj := by first | exact hbj0 | exact (Below.refl _ _).drew.trans hbj0))
      go_wp2
      go_ret3
      refine ⟨bt0 hb1 hbj, ?_⟩
      rw [HSP.out]
      have hne : ¬ l = [] := by intro e; exact h0 (by rw [e]; rfl)
      simp only [hne, if_false]
      rw [← last_getD HD.out, HLV.out]
      rfl
end Go.Proofs.Ytaiihklfeoeoeaa.NM
