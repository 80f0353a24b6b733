/- GradeFirst, plainly: of the row that was sorted; a slice of floats that came in; the row of those seen. -/
import Derived.Test.YtknahgdeagcghaaOrd
import Derived.Test.YtknahgdeagcghaaBest
import Derived.Deep.Grids
import Derived.OpenShut
namespace Go.Proofs.Ytknahgdeagcghaa
open Go.RowKit Fl
set_option linter.unusedVariables false
set_option linter.unusedSimpArgs false

/-- A slice of floats that came in. -/
def IsFl (w : World) (a : Option Addr) (len : Nat) (X : Nat → Nat) : Prop :=
  (a = none ∧ len = 0) ∨ ∃ x, a = some x ∧ len ≤ maxLen ∧ ∀ i, i < len → w.cell? (x.add i) = some (.float .f64 (X i)) ∧ X i < 18446744073709551616

section
open Go.ChangeShapes Go.WideShapes Go.Deep
variable {H : Type} {enc : TypeId × Value → H} {P : Program} {w : World} {base : Nat} {held : Bool}
theorem trod_f64 {e : TypeId} (he : P.underlying e = some (.float .f64)) {spare : Nat → Bool} {fuel : Nat} {v : Value} {x : DataW H × List MemPlace} (h : DataW.trod enc P w base spare held fuel e [v] = some x) :
    ∃ b, v = .float .f64 b ∧ b < 18446744073709551616 := by
  cases fuel with
  | zero => simp [DataW.trod] at h
  | succ n =>
    simp only [DataW.trod, he] at h
    cases v with
    | float k b =>
      simp only at h
      split at h
      · rename_i g
        obtain ⟨rfl, g2⟩ := g
        exact ⟨b, rfl, by simpa [Lit.wf] using g2⟩
      · cases h
    | _ => simp at h
theorem open_floats {t e : TypeId} {fuel : Nat} {cs : List Value} {x : DataW H × List MemPlace} (ht : P.underlying t = some (.slice e)) (he : P.underlying e = some (.float .f64)) (hc : P.cellsOf e = 1)
    (h : DataW.trod enc P w base (fun _ => true) held fuel t cs = some x) :
    cs = [.slice none 0 0] ∨
    ∃ (a : Addr) (len cap : Nat) (X : Nat → Nat), cs = [.slice (some a) len cap] ∧ len ≤ cap ∧ cap ≤ maxLen ∧ ∀ i, i < cap → w.cell? (a.add i) = some (.float .f64 (X i)) ∧ X i < 18446744073709551616 := by
  rcases open_slice1 ht hc h with h0 | ⟨a, len, cap, m, n, V, D, Pl, rfl, hb, hl, hm, hmm, rfl, hx⟩
  · exact Or.inl h0.1
  right
  simp only [if_true] at hmm
  subst hmm
  obtain ⟨X, hX⟩ := choose_lt (α := Nat) (p := fun i b => V i = .float .f64 b ∧ b < 18446744073709551616) (fun i hi => trod_f64 he (hx i hi).2)
  exact ⟨a, len, m, X, rfl, hl, hm, fun i hi => ⟨by rw [(hx i hi).1, (hX i hi).1], (hX i hi).2⟩⟩
end

/-- Block g holds bools, and whatever behind them. -/
def SRow (w : World) (g n : Nat) (f : Nat → Bool) : Prop :=
  ∃ cs : Array Value, w.heap[g]? = some (.cells cs 4 (0, 0)) ∧ cs.size = n ∧ ∀ i, i < n → cs[i]? = some (.bool (f i))
theorem SRow.cell {w : World} {g n : Nat} {f : Nat → Bool} (h : SRow w g n f) (i : Nat) (hi : i < n) : w.cell? ⟨g, i, none⟩ = some (.bool (f i)) := by
  obtain ⟨cs, h1, h2, h4⟩ := h
  simp [World.cell?, h1, h4 i hi]
theorem SRow.frozen {w : World} {g n : Nat} {f : Nat → Bool} (h : SRow w g n f) (i : Nat) : w.frozen? ⟨g, i, none⟩ = false := by
  obtain ⟨cs, h1, _⟩ := h
  simp [World.frozen?, h1]
theorem SRow.set {w : World} {g n : Nat} {f f' : Nat → Bool} (h : SRow w g n f) (i : Nat) (x : Bool) (hf : ∀ j, j < n → f' j = if i = j then x else f j) : SRow (w.setCell ⟨g, i, none⟩ (.bool x)) g n f' := by
  obtain ⟨cs, h1, h2, h4⟩ := h
  refine ⟨cs.setIfInBounds i (.bool x), ?_, by simpa using h2, fun j hj => ?_⟩
  · have hlt : g < w.heap.size := (Array.getElem?_eq_some_iff.1 h1).1
    have h' : w.heap[g] = .cells cs 4 (0, 0) := by simpa [Array.getElem?_eq_getElem hlt] using h1
    show (w.heap.modify g _)[g]? = _
    rw [Array.getElem?_eq_getElem (by simpa using hlt), Array.getElem_modify_self, h']
    rfl
  · rw [Array.getElem?_setIfInBounds, hf j hj]
    by_cases e : i = j
    · subst e
      rw [if_pos rfl, if_pos (by omega), if_pos rfl]
    · rw [if_neg e, if_neg e, h4 j hj]
theorem SRow.drew {w : World} {g n k : Nat} {f : Nat → Bool} (h : SRow w g n f) : SRow (w.drewN k) g n f := h

/-- What is known of the row of places. -/
structure Placed (xs : List Nat) (n : Nat) (L : List Int) : Prop where
  perm : L.Perm (places n)
  sort : St.Sorted (fkey xs) L
theorem Placed.len {xs : List Nat} {n : Nat} {L : List Int} (h : Placed xs n L) : L.length = n := by rw [h.perm.length_eq, places_len]
theorem Placed.mem {xs : List Nat} {n : Nat} {L : List Int} (h : Placed xs n L) (i : Nat) (hi : i < n) : ∃ p : Nat, L.getD i 0 = (p : Int) ∧ p < n := by
  have := places_mem (h.perm.mem_iff.1 (St.mem_at L i (by rw [h.len]; exact hi)))
  exact ⟨(L.getD i 0).toNat, by omega, by omega⟩
theorem places_nodup (n : Nat) : (places n).Nodup := (places_inc n).imp (fun {a b} h => by omega)
theorem Placed.fresh {xs : List Nat} {n : Nat} {L : List Int} (h : Placed xs n L) (i : Nat) (hi : i < n) : L.getD i 0 ∉ L.take i := by
  have hd : L.Nodup := h.perm.nodup_iff.2 (places_nodup n)
  have hl := h.len
  intro hm
  obtain ⟨j, h1, h2, h3⟩ := St.mem_take_at hm
  have e : L[i]'(by omega) = L[j] := by
    rw [List.getD_eq_getElem?_getD, List.getD_eq_getElem?_getD, List.getElem?_eq_getElem (by omega), List.getElem?_eq_getElem h2] at h3
    exact h3
  have := (List.nodup_iff_pairwise_ne.1 hd)
  have := (List.pairwise_iff_getElem.1 this) j i h2 (by omega) h1
  exact this e.symm
theorem Placed.next {xs : List Nat} {n : Nat} {L : List Int} (h : Placed xs n L) (i p q : Nat) (hi : i + 1 < n) (hq : L.getD i 0 = (q : Int)) (hp : L.getD (i + 1) 0 = (p : Int)) : ukey (xs.getD p 0) ≤ ukey (xs.getD q 0) := by
  have := St.K_of_r (St.sorted_at h.sort (Nat.lt_succ_self i) (by rw [h.len]; exact hi))
  rw [hq, hp] at this
  simpa [fkey] using this
theorem Placed.best {xs : List Nat} {n : Nat} {L : List Int} (h : Placed xs n L) (hn : 0 < n) {r : Int} (hr : BestIs xs n r) (p : Nat) (hp : L.getD 0 0 = (p : Int)) (hpn : p < n) :
    r = p ∨ (r = -1 ∧ isNan (xs.getD p 0) = true) := by
  rcases hr with ⟨rfl, ha⟩ | ⟨q, h1, rfl, h2, h3⟩
  · exact .inr ⟨rfl, ha p hpn⟩
  · left
    by_cases e : q = p
    · rw [e]
    · exfalso
      have hb := h3 p hpn (fun h => e h.symm)
      have hm : (q : Int) ∈ L := h.perm.mem_iff.2 (by simp only [places, List.mem_map, List.mem_range]; exact ⟨q, h1, rfl⟩)
      obtain ⟨j, hj, he⟩ := List.getElem_of_mem hm
      have hj0 : 0 < j := by
        rcases Nat.eq_zero_or_pos j with h0 | h0
        · subst h0
          rw [List.getD_eq_getElem?_getD, List.getElem?_eq_getElem hj] at hp
          simp only [Option.getD_some] at hp
          omega
        · exact h0
      have hs := St.sorted_at h.sort hj0 hj
      have e2 : L.getD j 0 = (q : Int) := by rw [List.getD_eq_getElem?_getD, List.getElem?_eq_getElem hj]; exact he
      rw [hp, e2] at hs
      unfold St.r fkey at hs
      simp only [Int.toNat_natCast] at hs
      omega

theorem nan_yes {x : Nat} (hx : x < 18446744073709551616) (h : isNan x = true) : (FloatKind.f64.format.order x x != some .eq) = true ∧ (FloatKind.f64.format.order x x == some .eq) = false := by
  have : nanB x = true := by rw [nanB_isNan x hx]; exact h
  unfold nanB at this
  exact ⟨this, by simpa [bne] using this⟩
theorem nan_no {x : Nat} (hx : x < 18446744073709551616) (h : isNan x = false) : (FloatKind.f64.format.order x x != some .eq) = false ∧ (FloatKind.f64.format.order x x == some .eq) = true := by
  have : nanB x = false := by rw [nanB_isNan x hx]; exact h
  unfold nanB at this
  exact ⟨this, by simpa [bne] using this⟩
theorem cmp_high {x y : Nat} (hx : x < 18446744073709551616) (hy : y < 18446744073709551616) (nx : isNan x = false) (ny : isNan y = false) (h : ukey y ≤ ukey x) : ¬ cmpF x y < 0 := by
  rw [cmpF_key x y hx hy]
  rw [ukey_num nx, ukey_num ny] at h
  split
  · omega
  · split <;> omega
end Go.Proofs.Ytknahgdeagcghaa
