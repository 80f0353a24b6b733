/- A slice of deeds that came in: rows of four cells, two of them strings; Room. -/
import Derived.Test.YtaiihklfeoeoeaaTOwn
import Derived.Deep.Slices
import Derived.ChangeSlices
import Derived.ChangeArms
namespace Go.Proofs.Ytaiihklfeoeoeaa.W
open Go.RowKit Go.ChangeShapes Go.WideShapes
open Go.Proofs.Ytaiihklfeoeoeaa.NM
set_option linter.unusedVariables false
set_option linter.unusedSimpArgs false

/-- A deed. -/
structure Dd where
  c : Int
  p : List UInt8
  q : List UInt8
  d : Bool
instance : Inhabited Dd := ⟨⟨0, [], [], false⟩⟩
def DeedsAt (w : World) (a : Option Addr) (n : Nat) (f : Nat → Dd) : Prop :=
  n = 0 ∨ ∃ g o, a = some ⟨g, o, none⟩ ∧ ∀ i, i < n → w.cell? ⟨g, o + i * 4, none⟩ = some (.int .i64 (f i).c) ∧ w.cell? ⟨g, o + i * 4 + 1, none⟩ = some (.string (mk (f i).p)) ∧ w.cell? ⟨g, o + i * 4 + 2, none⟩ = some (.string (mk (f i).q)) ∧
    w.cell? ⟨g, o + i * 4 + 3, none⟩ = some (.bool (f i).d) ∧ (Lit.int .i64 (f i).c).wf = true ∧ (f i).p.length ≤ maxLen ∧ (f i).q.length ≤ maxLen
theorem DeedsAt.keep {w w' : World} {a : Option Addr} {n : Nat} {f : Nat → Dd} (h : DeedsAt w a n f) (hc : Chg [] w w') : DeedsAt w' a n f := by
  rcases h with h | ⟨g, o, rfl, h⟩
  · exact .inl h
  · refine .inr ⟨g, o, rfl, fun i hi => ?_⟩
    obtain ⟨h1, h2, h3, h4, h5⟩ := h i hi
    exact ⟨hc.cell h1 (by simp), hc.cell h2 (by simp), hc.cell h3 (by simp), hc.cell h4 (by simp), h5⟩

section
variable {H : Type} {enc : TypeId × Value → H} {w : World} {base : Nat} {held : Bool}
theorem fieldsD : ∃ f0 f1 f2 f3 : Field, Try.prog.underlying 48 = some (.struct #[f0, f1, f2, f3]) ∧ f0.offset = 0 ∧ f1.offset = 1 ∧ f2.offset = 2 ∧ f3.offset = 3 ∧
    Try.prog.underlying f0.type = some (.int .i64) ∧ Try.prog.underlying f1.type = some .string ∧ Try.prog.underlying f2.type = some .string ∧ Try.prog.underlying f3.type = some .bool ∧
    Try.prog.cellsOf f0.type = 1 ∧ Try.prog.cellsOf f1.type = 1 ∧ Try.prog.cellsOf f2.type = 1 ∧ Try.prog.cellsOf f3.type = 1 :=
  ⟨_, _, _, _, Try.underlying48, rfl, rfl, rfl, rfl, by kernel_rfl, by kernel_rfl, by kernel_rfl, by kernel_rfl, by kernel_rfl, by kernel_rfl, by kernel_rfl, by kernel_rfl⟩
theorem cellsD : Try.prog.cellsOf 48 = 4 := by kernel_rfl

set_option maxRecDepth 100000 in
theorem open_deeds {fuel : Nat} {cs : List Value} {x : DataW H × List MemPlace} (h : DataW.trod enc Try.prog w base (fun _ => true) held fuel 40 cs = some x) :
    (cs = [.slice none 0 0]) ∨ ∃ (a : Addr) (len cap : Nat) (f : Nat → Dd), cs = [.slice (some a) len cap] ∧ len ≤ cap ∧ cap ≤ maxLen ∧ DeedsAt w (some a) len f := by
  rcases Go.Deep.open_slice Try.underlying40 h with ⟨h0, _⟩ | ⟨a, len, cap, m, n, D, Pl, rfl, hb, hl, hm, hmm, hx, hel⟩
  · exact .inl h0
  · right
    have hlm : len ≤ m := by rw [hmm]; split <;> omega
    obtain ⟨f0, f1, f2, f3, hs, o0, o1, o2, o3, t0, t1, t2, t3, c0, c1, c2, c3⟩ := fieldsD
    have each : ∀ i, i < len → ∃ r : Dd, w.cell? (a.add (i * 4)) = some (.int .i64 r.c) ∧ w.cell? (a.add (i * 4 + 1)) = some (.string (mk r.p)) ∧ w.cell? (a.add (i * 4 + 2)) = some (.string (mk r.q)) ∧ w.cell? (a.add (i * 4 + 3)) = some (.bool r.d) ∧
        (Lit.int .i64 r.c).wf = true ∧ r.p.length ≤ maxLen ∧ r.q.length ≤ maxLen := by
      intro i hi
      obtain ⟨cs', h1, h2⟩ := hel i (by omega)
      rw [cellsD] at h1
      obtain ⟨_, hlen, hcell⟩ := World.cells?_some h1
      obtain ⟨xs, k, hk, hxy, _, hxl, hf⟩ := DataW.trod_struct hs h2
      match xs, hxl, cs', hlen with
      | [y0, y1, y2, y3], _, [v0, v1, v2, v3], _ =>
        have g0 := hf 0 f0 rfl
        have g1 := hf 1 f1 rfl
        have g2 := hf 2 f2 rfl
        have g3 := hf 3 f3 rfl
        simp [o0, o1, o2, o3, c0, c1, c2, c3] at g0 g1 g2 g3
        have e0 := hcell 0 (by omega)
        have e1 := hcell 1 (by omega)
        have e2 := hcell 2 (by omega)
        have e3 := hcell 3 (by omega)
        rw [Go.Deep.add_add] at e0 e1 e2 e3
        obtain ⟨z0, q0, _, z0w⟩ := DataW.trod_int t0 g0
        obtain ⟨z1, q1, _, z1w⟩ := DataW.trod_string t1 g1
        obtain ⟨z2, q2, _, z2w⟩ := DataW.trod_string t2 g2
        obtain ⟨z3, q3, _⟩ := DataW.trod_bool t3 g3
        simp at q0 q1 q2 q3
        subst q0; subst q1; subst q2; subst q3
        refine ⟨⟨z0, z1.data.toList, z2.data.toList, z3⟩, by simpa using e0, by simpa [mk_data] using e1, by simpa [mk_data] using e2, by simpa using e3, ?_, by rw [← size_len]; exact z1w, by rw [← size_len]; exact z2w⟩
        first | exact z0w | exact z0w.1
    obtain ⟨f, hf⟩ := Go.Deep.choose_lt each
    refine ⟨a, len, cap, f, rfl, hl, hm, ?_⟩
    by_cases h0 : len = 0
    · exact .inl h0
    · right
      obtain ⟨g, o, spot⟩ := a
      have hc := (hf 0 (by omega)).1
      have hspot : spot = none := by simpa [Addr.add] using World.cell?_spot hc
      subst hspot
      refine ⟨g, o, rfl, fun i hi => ?_⟩
      obtain ⟨c0, c1, c2, c3, c4⟩ := hf i hi
      rw [add_none] at c0 c1 c2 c3
      exact ⟨c0, by simpa [Nat.add_assoc] using c1, by simpa [Nat.add_assoc] using c2, by simpa [Nat.add_assoc] using c3, c4⟩
end

/-! ### Room -/
def roomB (n : Nat) (f : Nat → Dd) (most : Int) : Bool := decide ((n : Int) ≤ most) && (List.range n).all (fun i => decide ((f i).p.length ≤ 300) && decide ((f i).q.length ≤ 300))
theorem room_true {n : Nat} {f : Nat → Dd} {most : Int} (h : roomB n f most = true) : (n : Int) ≤ most ∧ ∀ i, i < n → (f i).p.length ≤ 300 ∧ (f i).q.length ≤ 300 := by
  unfold roomB at h
  simp at h
  exact h
theorem room_far {n : Nat} {f : Nat → Dd} {most : Int} (h : ¬ (n : Int) ≤ most) : roomB n f most = false := by unfold roomB; rw [decide_eq_false h]; rfl
theorem room_long {n i : Nat} {f : Nat → Dd} {most : Int} (hi : i < n) (h : ¬ ((f i).p.length ≤ 300 ∧ (f i).q.length ≤ 300)) : roomB n f most = false := by
  cases hr : roomB n f most with
  | false => rfl
  | true => exact absurd ((room_true hr).2 i hi) h
theorem room_ok {n : Nat} {f : Nat → Dd} {most : Int} (h1 : (n : Int) ≤ most) (h2 : ∀ i, i < n → (f i).p.length ≤ 300 ∧ (f i).q.length ≤ 300) : roomB n f most = true := by
  unfold roomB
  rw [decide_eq_true h1]
  simp
  exact h2

set_option maxHeartbeats 2000000 in
set_option maxRecDepth 100000 in
theorem room_any (a : Option Addr) (n cap : Nat) (f : Nat → Dd) (most : Int) (w : World) (h : DeedsAt w a n f) (hn : n ≤ maxLen) :
    Calls Try.prog 15 #[.slice a n cap, .int .i64 most] w fun e w' => e = .returned (.bool (roomB n f most)) ∧ w = w' := by
  unfold maxLen at hn
  have H := Lib.hid h
  obtain ⟨R, hR⟩ : ∃ R, R = roomB n f most := ⟨_, rfl⟩
  have HR := Lib.hid hR
  rw [← hR]
  clear h hR
  by_cases hm : (n : Int) ≤ most
  · have HM := Lib.hid hm
    go_enter Try.func15, Try.ntmps15
    go_wp2
    go_loop [5] (fun v5 => ∃ k : Nat, v5 = .int .i64 k ∧ k ≤ n ∧ Hid (∀ i, i < k → (f i).p.length ≤ 300 ∧ (f i).q.length ≤ 300)) (fun v5 => n - (intOf v5).toNat)
    case atStart => exact ⟨0, rfl, by omega, Lib.hid (fun i hi => by omega)⟩
    case round =>
      obtain ⟨k, rfl, hk, HQ⟩ := hrel
      by_cases hlt : k < n
      · obtain ⟨g, o, rfl, hc1, hc2, hl1, hl2⟩ : ∃ g o, a = some ⟨g, o, none⟩ ∧ w.cell? ⟨g, o + k * 4 + 1, none⟩ = some (.string (mk (f k).p)) ∧ w.cell? ⟨g, o + k * 4 + 2, none⟩ = some (.string (mk (f k).q)) ∧ (f k).p.length ≤ maxLen ∧ (f k).q.length ≤ maxLen := by
          rcases H.out with h0 | ⟨g, o, h1, h2⟩
          · omega
          · obtain ⟨c0, c1, c2, c3, c4, c5, c6⟩ := h2 k hlt
            exact ⟨g, o, h1, c1, c2, c5, c6⟩
        unfold maxLen at hl1 hl2
        have hkz : (k : Int) < (n : Int) := by omega
        have HP : Hid ((mk (f k).p).size = (f k).p.length ∧ (mk (f k).q).size = (f k).q.length) := Lib.hid ⟨by rw [size_len], by rw [size_len]⟩
        by_cases h1 : (f k).p.length ≤ 300
        · by_cases h2 : (f k).q.length ≤ 300
          · have HN : Hid (∀ i, i < k + 1 → (f i).p.length ≤ 300 ∧ (f i).q.length ≤ 300) := Lib.hid (fun i hi => by
              rcases Nat.lt_or_ge i k with h | h
              · exact HQ.out i h
              · obtain rfl : i = k := by omega
                exact ⟨h1, h2⟩)
            generalize (f k).p = P at *
            generalize (f k).q = Q at *
            go_wp2
            go_round
            case rel => exact ⟨k + 1, by go_num, by omega, HN⟩
            case measure => simp [intOf]; omega
          · have HA : Hid (R = false) := Lib.hid (by rw [HR.out]; exact room_long hlt (fun h => h2 h.2))
            generalize (f k).p = P at *
            generalize (f k).q = Q at *
            go_wp2
            go_ret
            rw [HA.out]
            exact ⟨rfl, rfl⟩
        · have HA : Hid (R = false) := Lib.hid (by rw [HR.out]; exact room_long hlt (fun h => h1 h.1))
          generalize (f k).p = P at *
          go_wp2
          go_ret
          rw [HA.out]
          exact ⟨rfl, rfl⟩
      · have HA : Hid (R = true) := Lib.hid (by rw [HR.out]; exact room_ok HM.out (fun i hi => HQ.out i (by omega)))
        go_wp2
        go_ret
        rw [HA.out]
        exact ⟨rfl, rfl⟩
  · have HA : Hid (R = false) := Lib.hid (by rw [HR.out]; exact room_far hm)
    go_enter Try.func15, Try.ntmps15
    go_wp2
    go_ret
    rw [HA.out]
    exact ⟨rfl, rfl⟩
end Go.Proofs.Ytaiihklfeoeoeaa.W
