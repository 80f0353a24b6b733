/- The reference's Copy. -/
import Derived.Test.YtipfgghdoicdhaaDoorPNum0
namespace Go.Proofs.YtipfgghdoicdhaaDoor.W
open Go.RowKit
set_option linter.unusedVariables false
set_option linter.unusedSimpArgs false

set_option maxHeartbeats 4000000 in
set_option maxRecDepth 100000 in
/-- Copy. -/
theorem rcopy_any (v : Value) (l : List UInt8) (w : World) (h : BytesAt w v l) (hl : l.length ≤ 1000000000) :
    Calls Tryd.prog 39 #[v] w fun e w' => ∃ v', e = .returned v' ∧ BRow w' v' l ∧ (∀ g, v'.ownBlock = some g → w.heap.size ≤ g) ∧ Chg [] w w' := by
  obtain ⟨a, cap, rfl, h1, h2, h3⟩ := h
  have H3 := Lib.hid h3
  clear h3
  go_enter Tryd.func39, Tryd.ntmps39
  go_wp2
  go_loopg [3, 4] l.length (fun g' s3 s4 wr => ∃ (k : Nat) (a3 : Option Addr) (c3 : Nat), s3 = .slice a3 (l.take k).length c3 ∧ s4 = .int .i64 k ∧ k ≤ l.length ∧ l.length ≤ k + g' ∧ Hid (BRow wr s3 (l.take k) ∧ (∀ g, s3.ownBlock = some g → w.heap.size ≤ g) ∧ Chg [] w wr))
  case atStart => exact ⟨0, none, 0, rfl, rfl, by omega, by omega, Lib.hid ⟨BRow.nil _, by simp [Value.ownBlock], Chg.refl _ _⟩⟩
  case round =>
    obtain ⟨k, a3, c3, rfl, rfl, hk, hkg, HR⟩ := hrel
    obtain ⟨s3, hs3⟩ : ∃ s3, s3 = Value.slice a3 (l.take k).length c3 := ⟨_, rfl⟩
    have HS3 := Lib.hid hs3
    rw [← hs3] at HR
    clear hs3
    by_cases hlt : k < l.length
    · rcases H3.out with ⟨h0, _⟩ | ⟨g, o, rfl, hcell⟩
      · rw [h0] at hlt; simp at hlt
      have hcl : wr.cell? ⟨g, o + k, none⟩ = some (.int .u8 ((l.getD k 0).toNat : Int)) := HR.out.2.2.cell (hcell k hlt) (by simp)
      obtain ⟨c, hc⟩ : ∃ c, c = l.getD k 0 := ⟨_, rfl⟩
      rw [← hc] at hcl
      have HT : Hid (l.take (k + 1) = l.take k ++ [c]) := Lib.hid (by rw [hc]; exact take_snocU l k hlt)
      have HB := Lib.hid (one_byte wr c _ rfl)
      unfold bv at HB
      have HR2 := Lib.hid (HR.out.1.keep (w' := wr.alloc (.cells #[.int .u8 (c.toNat : Int)] 5)) (fun g hg => heap_alloc_old wr _ (HR.out.1.lt g hg)))
      have hkz : (k : Int) < (l.length : Int) := by omega
      have hkz1 : (k : Int).toNat = k := by omega
      have hsz : Hid ((l.take k).length + [c].length ≤ 140737488355328) := Lib.hid (by rw [List.length_take]; simp; omega)
      clear hc hcell
      go_wp2_with (at_builtin; refine wpList_appB rfl (.tmp 11) (.tmp 16) rfl s3 (l.take k) HS3.out.symm HR2.out _ [c] rfl HB.out hsz.out ?_; intro v1 w1 ho1 hg1 hat1)
      have HO1 := Lib.hid ho1
      have HG1 := Lib.hid hg1
      have HA1 := Lib.hid hat1
      clear ho1 hg1 hat1
      go_roundg (gk - 1)
      case measure => omega
      case rel =>
        have hr : BRow w1 v1 (l.take (k + 1)) := by rw [HT.out]; exact HO1.out
        obtain ⟨a, c4, he, _⟩ := hr.bytes
        refine ⟨k + 1, a, c4, he, by go_num, by omega, by omega, Lib.hid ⟨hr, fun g hg => ?_, (HR.out.2.2.alloc _).grown HG1.out (fun g hg => .inr (HR.out.2.1 g hg))⟩⟩
        rcases HA1.out with h | h
        · exact HR.out.2.1 g (by rw [← h]; exact hg)
        · rw [h] at hg
          have h1 := HR.out.2.2.size
          have h2 : wr.heap.size + 1 = g := by simpa using hg
          omega
    · have hkn : k = l.length := by omega
      have HK : Hid (l.take k = l) := Lib.hid (by rw [hkn, List.take_length])
      clear hkn
      go_wp2
      go_ret
      exact ⟨s3, by rw [HS3.out]; rfl, by have := HR.out.1; rwa [HK.out] at this, HR.out.2.1, HR.out.2.2⟩

set_option maxHeartbeats 4000000 in
set_option maxRecDepth 100000 in
/-- Copy of nothing. -/
theorem rcopy_zero (a : Option Addr) (c : Nat) (w : World) : Calls Tryd.prog 39 #[.slice a 0 c] w fun e w' => e = .returned (.slice none 0 0) ∧ w = w' := by
  go_enter Tryd.func39, Tryd.ntmps39
  go_wp2
  go_loopg [3, 4] 0 (fun g' s3 s4 wr => s3 = .slice none 0 0 ∧ s4 = .int .i64 0 ∧ w = wr)
  case atStart => exact ⟨rfl, rfl, rfl⟩
  case round =>
    obtain ⟨rfl, rfl, rfl⟩ := hrel
    go_wp2
    go_ret
    exact ⟨rfl, rfl⟩
end Go.Proofs.YtipfgghdoicdhaaDoor.W
