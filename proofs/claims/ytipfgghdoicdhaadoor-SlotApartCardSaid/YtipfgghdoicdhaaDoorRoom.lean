/- The law's Room. -/
import Derived.Test.YtipfgghdoicdhaaDoorDeeds
namespace Go.Proofs.YtipfgghdoicdhaaDoor.W
open Go.RowKit
set_option linter.unusedVariables false
set_option linter.unusedSimpArgs false

def small (d : Dd) : Prop := d.key.length ≤ 100 ∧ d.b.length ≤ 600
instance (d : Dd) : Decidable (small d) := inferInstanceAs (Decidable (_ ∧ _))
def Few (n most : Nat) (f : Nat → Dd) : Prop := n ≤ most ∧ ∀ i, i < n → small (f i)

set_option maxHeartbeats 8000000 in
set_option maxRecDepth 100000 in
theorem room_any (a : Option Addr) (n cap most : Nat) (f : Nat → Dd) (w : World) (h : DeedsAt w a n f) (hm : most ≤ 1000) :
    Calls Tryd.prog 21 #[.slice a n cap, .int .i64 (most : Int)] w fun e w' => (e = .returned (.bool true) ∧ Few n most f ∨ e = .returned (.bool false)) ∧ w = w' := by
  by_cases hn : n ≤ most
  · have hz : ¬ (most : Int) < (n : Int) := by omega
    have HD := Lib.hid h
    clear h
    go_enter Tryd.func21, Tryd.ntmps21
    go_wp2
    go_loopg [5] n (fun g' s5 wr => ∃ k : Nat, s5 = .int .i64 k ∧ k ≤ n ∧ n ≤ k + g' ∧ w = wr ∧ Hid (∀ i, i < k → small (f i)))
    case atStart => exact ⟨0, rfl, by omega, by omega, rfl, Lib.hid (fun i hi => by omega)⟩
    case round =>
      obtain ⟨k, rfl, hk, hkg, rfl, HF⟩ := hrel
      by_cases hlt : k < n
      · obtain ⟨g, o, rfl, hc⟩ : ∃ g o, a = some ⟨g, o, none⟩ ∧ ∀ i, i < n → w.cell? ⟨g, o + i * 5 + 3, none⟩ = some (f i).kv ∧ w.cell? ⟨g, o + i * 5 + 4, none⟩ = some (f i).bv ∧ Came w (f i).kv (f i).key ∧ Came w (f i).bv (f i).b := by
          rcases HD.out with h | ⟨g, o, rfl, h⟩
          · omega
          · refine ⟨g, o, rfl, fun i hi => ?_⟩
            obtain ⟨_, _, _, h4, h5, h6, h7, _⟩ := h i hi
            exact ⟨h4, h5, h6, h7⟩
        obtain ⟨c3, c4, m3, m4⟩ := hc k hlt
        obtain ⟨a3, q3, e3⟩ := m3.1.slice
        obtain ⟨a4, q4, e4⟩ := m4.1.slice
        rw [e3] at c3
        rw [e4] at c4
        clear hc m3 m4 e3 e4
        have hkz : (k : Int) < (n : Int) := by omega
        have hkz1 : (k : Int).toNat = k := by omega
        obtain ⟨l3, h3⟩ : ∃ l3, l3 = (f k).key.length := ⟨_, rfl⟩
        obtain ⟨l4, h4⟩ : ∃ l4, l4 = (f k).b.length := ⟨_, rfl⟩
        rw [← h3] at c3
        rw [← h4] at c4
        have H3 := Lib.hid h3
        have H4 := Lib.hid h4
        clear h3 h4
        by_cases hsm : l3 ≤ 100
        · have hz3 : ¬ (100 : Int) < (l3 : Int) := by omega
          by_cases hsb : l4 ≤ 600
          · have hz4 : ¬ (600 : Int) < (l4 : Int) := by omega
            go_wp2
            go_roundg (gk - 1)
            case measure => omega
            case rel => exact ⟨k + 1, by go_num, by omega, by omega, rfl, Lib.hid (fun i hi => by
              by_cases hik : i = k
              · subst hik; exact ⟨by rw [← H3.out]; exact hsm, by rw [← H4.out]; exact hsb⟩
              · exact HF.out i (by omega))⟩
          · have hz4 : (600 : Int) < (l4 : Int) := by omega
            go_wp2
            go_ret
            exact ⟨.inr rfl, rfl⟩
        · have hz3 : (100 : Int) < (l3 : Int) := by omega
          go_wp2
          go_ret
          exact ⟨.inr rfl, rfl⟩
      · have hkn : k = n := by omega
        go_wp2
        go_ret
        exact ⟨.inl ⟨rfl, hn, fun i hi => HF.out i (by omega)⟩, rfl⟩
  · have hz : (most : Int) < (n : Int) := by omega
    clear h
    go_enter Tryd.func21, Tryd.ntmps21
    go_wp2
    go_ret
    exact ⟨.inr rfl, rfl⟩
end Go.Proofs.YtipfgghdoicdhaaDoor.W
