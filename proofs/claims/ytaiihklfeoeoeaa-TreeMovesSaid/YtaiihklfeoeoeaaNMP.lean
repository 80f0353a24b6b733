/- Names and paths as lists of bytes: the plain law of chapter 9. No program in sight. -/
import Derived.Lib.Bytealg
namespace Go.Proofs.Ytaiihklfeoeoeaa.NM

abbrev Bs := List UInt8
/-- No byte 0, no stroke. -/
def okB (l : Bs) : Bool := l.all (fun c => c != 0 && c != 47)
/-- Whether a text may be a name. -/
def mayB (l : Bs) : Bool := decide (1 ≤ l.length) && decide (l.length ≤ 12) && (l != [46]) && (l != [46, 46]) && okB l
theorem okB_iff (l : Bs) : okB l = true ↔ ∀ c ∈ l, c ≠ 0 ∧ c ≠ 47 := by
  unfold okB
  simp only [List.all_eq_true, Bool.and_eq_true, bne_iff_ne, ne_eq]
/-- A text, cut at each stroke. -/
def cuts : Bs → List Bs
  | [] => [[]]
  | c :: r => if c = 47 then [] :: cuts r else match cuts r with | p :: ps => (c :: p) :: ps | [] => [[c]]
/-- A path's names; 'none': it is no path. -/
def splitB (l : Bs) : Option (List Bs) :=
  if l = [47] then some [] else match l with
  | [] => none
  | c :: r => if c = 47 && (cuts r).all mayB && decide ((cuts r).length ≤ 8) then some (cuts r) else none
/-- Names as a path. -/
def tailB : List Bs → Bs
  | [] => []
  | p :: ps => 47 :: (p ++ tailB ps)
def joinB (l : List Bs) : Bs := if l = [] then [47] else tailB l
def withinB (a b : Bs) : Bool := match splitB a, splitB b with
  | some l, some k => k.isPrefixOf l
  | _, _ => false
def parentB (l : Bs) : Option (Option (Bs × Bs)) := match splitB l with
  | none => none
  | some ls => if ls = [] then some none else some (some (joinB ls.dropLast, ls.getLastD []))

theorem cuts_ne (l : Bs) : cuts l ≠ [] := by
  induction l with
  | nil => simp [cuts]
  | cons c r ih =>
    unfold cuts
    split
    · simp
    · split <;> simp
theorem cuts_stroke (r : Bs) : cuts (47 :: r) = [] :: cuts r := by simp [cuts]
theorem cuts_other {c : UInt8} (h : c ≠ 47) (r : Bs) : ∃ p ps, cuts r = p :: ps ∧ cuts (c :: r) = (c :: p) :: ps := by
  obtain ⟨p, ps, e⟩ := List.exists_cons_of_ne_nil (cuts_ne r)
  refine ⟨p, ps, e, ?_⟩
  simp [cuts, h, e]
/-- A piece without a stroke, ahead of the end or of a stroke. -/
theorem cuts_end (p : Bs) (h : (47 : UInt8) ∉ p) : cuts p = [p] := by
  induction p with
  | nil => rfl
  | cons c r ih =>
    simp only [List.mem_cons, not_or] at h
    obtain ⟨q, qs, e1, e2⟩ := cuts_other (fun x => h.1 x.symm) r
    rw [ih h.2] at e1
    injection e1 with e1 e3
    subst e1; subst e3
    exact e2
theorem cuts_app (p : Bs) (h : (47 : UInt8) ∉ p) (r : Bs) : cuts (p ++ 47 :: r) = p :: cuts r := by
  induction p with
  | nil => exact cuts_stroke r
  | cons c q ih =>
    simp only [List.mem_cons, not_or] at h
    obtain ⟨p', ps', e1, e2⟩ := cuts_other (fun x => h.1 x.symm) (q ++ 47 :: r)
    rw [ih h.2] at e1
    injection e1 with e1 e3
    subst e1; subst e3
    exact e2
theorem tail_cuts (r : Bs) : tailB (cuts r) = 47 :: r := by
  induction r with
  | nil => rfl
  | cons c r ih =>
    by_cases h : c = 47
    · subst h; rw [cuts_stroke]; simp [tailB, ih]
    · obtain ⟨p, ps, e1, e2⟩ := cuts_other h r
      rw [e1] at ih
      rw [e2]
      simp only [tailB] at ih ⊢
      injection ih with _ ih
      rw [List.cons_append, ih]
theorem cuts_tail (l : List Bs) (hl : l ≠ []) (h : ∀ p ∈ l, (47 : UInt8) ∉ p) : ∃ r, tailB l = 47 :: r ∧ cuts r = l := by
  induction l with
  | nil => exact absurd rfl hl
  | cons p ps ih =>
    refine ⟨p ++ tailB ps, rfl, ?_⟩
    by_cases hp : ps = []
    · subst hp
      rw [tailB, List.append_nil]
      exact cuts_end p (h p (by simp))
    · obtain ⟨r, e1, e2⟩ := ih hp (fun q hq => h q (List.mem_cons_of_mem _ hq))
      rw [e1, cuts_app p (h p (by simp)), e2]

theorem may_stroke {p : Bs} (h : mayB p = true) : (47 : UInt8) ∉ p := by
  simp only [mayB, Bool.and_eq_true, okB_iff] at h
  intro hm
  exact (h.2 47 hm).2 rfl
theorem may_len {p : Bs} (h : mayB p = true) : 1 ≤ p.length ∧ p.length ≤ 12 := by
  simp only [mayB, Bool.and_eq_true, decide_eq_true_eq] at h
  exact ⟨h.1.1.1.1, h.1.1.1.2⟩

theorem split_join (l : List Bs) (h : ∀ p ∈ l, mayB p = true) (h8 : l.length ≤ 8) : splitB (joinB l) = some l := by
  unfold joinB
  by_cases hl : l = []
  · subst hl; rfl
  · rw [if_neg hl]
    obtain ⟨r, e1, e2⟩ := cuts_tail l hl (fun p hp => may_stroke (h p hp))
    rw [e1]
    have hr : r ≠ [] := by
      rintro rfl
      simp [cuts] at e2
      subst e2
      have := may_len (h [] (by simp))
      simp at this
    unfold splitB
    rw [if_neg (by simp [hr])]
    have : l.all mayB = true := List.all_eq_true.2 h
    simp [e2, this, h8]

theorem split_some {s : Bs} {l : List Bs} (h : splitB s = some l) : (∀ p ∈ l, mayB p = true) ∧ l.length ≤ 8 ∧ joinB l = s := by
  unfold splitB at h
  split at h
  · injection h with h; subst h
    rename_i e; subst e
    exact ⟨by simp, by simp, rfl⟩
  · split at h
    · cases h
    · rename_i c r
      split at h
      · rename_i hc
        injection h with h; subst h
        simp only [Bool.and_eq_true, decide_eq_true_eq, List.all_eq_true] at hc
        obtain ⟨⟨rfl, h2⟩, h3⟩ := hc
        refine ⟨h2, h3, ?_⟩
        unfold joinB
        rw [if_neg (cuts_ne _), tail_cuts]
      · cases h

theorem split_inj {a b : Bs} {l : List Bs} (h1 : splitB a = some l) (h2 : splitB b = some l) : a = b :=
  (split_some h1).2.2.symm.trans (split_some h2).2.2

theorem within_trans {a b c : Bs} (h1 : withinB a b = true) (h2 : withinB b c = true) : withinB a c = true := by
  unfold withinB at *
  cases ha : splitB a <;> cases hb : splitB b <;> cases hc : splitB c <;> simp_all
  exact List.IsPrefix.trans h2 h1
theorem within_both {a b : Bs} (h1 : withinB a b = true) (h2 : withinB b a = true) : a = b := by
  unfold withinB at *
  cases ha : splitB a <;> cases hb : splitB b <;> simp_all
  have : _ = _ := List.IsPrefix.eq_of_length_le h1 h2.length_le
  subst this
  exact split_inj ha hb
theorem within_self (a : Bs) : withinB a a = (splitB a).isSome := by
  unfold withinB
  cases splitB a <;> simp

theorem indexByte_neg (l : Bs) (c : UInt8) : Lib.indexByte l c < 0 ↔ c ∉ l := by
  induction l with
  | nil => simp [Lib.indexByte]
  | cons b l ih =>
    have hge := Lib.indexByte_ge l c
    unfold Lib.indexByte
    by_cases h : b = c
    · subst h; simp
    · have h' : ¬ c = b := fun x => h x.symm
      simp only [beq_iff_eq, h, if_false, List.mem_cons, h', false_or, ← ih]
      split <;> omega
end Go.Proofs.Ytaiihklfeoeoeaa.NM
