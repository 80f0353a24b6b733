/- Labels: the name of a number. -/
import Derived.Test.YtaiihklfeoeoeaaTOwn
import Derived.Test.YtaiihklfeoeoeaaTFullP
import Derived.Lib.ConvBytes
namespace Go.Proofs.Ytaiihklfeoeoeaa.W
open Go.RowKit
open Go.Proofs.Ytaiihklfeoeoeaa.NM
set_option linter.unusedVariables false
set_option linter.unusedSimpArgs false

def labT (n k : Nat) : List UInt8 := (lab n).drop (3 - k)
def p10 (k : Nat) : Nat := if k = 0 then 1 else if k = 1 then 10 else if k = 2 then 100 else 1000
theorem labT_succ {n k : Nat} (hk : k < 3) : labT n (k + 1) = UInt8.ofNat (97 + n / p10 k % 10) :: labT n k := by
  match k, hk with
  | 0, _ => simp [labT, lab, p10]
  | 1, _ => simp [labT, lab, p10]
  | 2, _ => simp [labT, lab, p10]
theorem p10_succ {n k : Nat} (hk : k < 3) : n / p10 k / 10 = n / p10 (k + 1) := by
  match k, hk with
  | 0, _ => simp [p10]
  | 1, _ => simp [p10]; omega
  | 2, _ => simp [p10]; omega
theorem byte_conv (w : World) (z : Nat) (hz : z < 256) : (convert 22 9 (.slice (some ⟨w.heap.size, 0, none⟩) 1 1)).run Try.prog (w.alloc (.cells #[.int .u8 (z : Int)] 5)) = .ok (.string (mk [UInt8.ofNat z])) (w.alloc (.cells #[.int .u8 (z : Int)] 5)) := by
  refine run_convert_bytes_back _ 22 9 5 ⟨w.heap.size, 0, none⟩ 1 [UInt8.ofNat z] Try.underlying22 Try.underlying5 Try.underlying9 (fun j hj => ?_)
  obtain rfl : j = 0 := by simpa using hj
  rw [add_none]
  have hh := heap_alloc_new w (.cells #[.int .u8 (z : Int)] 5)
  simp only [World.cell?, hh]
  simp
  omega

set_option maxHeartbeats 2000000 in
set_option maxRecDepth 100000 in
theorem label_any (n : Nat) (w : World) (hn : n < 1000) : Calls Try.prog 10 #[.int .i64 (n : Int)] w fun e w' => e = .returned (.string (mk (lab n))) ∧ Chg [] w w' := by
  have HC0 := Lib.hid (Chg.refl [] w)
  go_enter Try.func10, Try.ntmps10
  go_wp2
  go_loopg [0, 3, 4] 3 (fun gh v0 v3 v4 wr => ∃ (k m : Nat) (s : List UInt8), k ≤ 3 ∧ 3 ≤ k + gh ∧ v4 = .int .i64 k ∧ v0 = .int .i64 m ∧ v3 = .string (mk s) ∧ m < 1000 ∧ s.length ≤ 3 ∧ Hid (m = n / p10 k) ∧ Hid (s = labT n k) ∧ Hid (Chg [] w wr))
  case atStart => exact ⟨0, n, [], by omega, by omega, rfl, rfl, rfl, hn, by simp, Lib.hid (by simp [p10]), Lib.hid rfl, HC0⟩
  case round =>
    obtain ⟨k, m, s, hk, hkg, rfl, rfl, rfl, hm, hsl, HM, HS, HC⟩ := hrel
    by_cases hlt : k < 3
    · have hcv := byte_conv wr (97 + m % 10) (by omega)
      have HZ := Lib.hid (HC.out.alloc (.cells #[.int .u8 (((97 + m % 10 : Nat)) : Int)] 5))
      have e1 : (((97 + m % 10 : Nat)) : Int) = 97 + (m : Int) % 10 := by omega
      rw [e1] at hcv HZ
      obtain ⟨x, hx⟩ : ∃ x, x = UInt8.ofNat (97 + m % 10) := ⟨_, rfl⟩
      rw [← hx] at hcv
      have HX : Hid (x :: s = labT n (k + 1)) := Lib.hid (by rw [labT_succ hlt, ← HS.out, hx, HM.out])
      clear e1 hx
      go_wp2
      go_roundg (2 - k)
      case measure => omega
      case rel =>
        refine ⟨k + 1, m / 10, x :: s, by omega, by omega, by go_num, by go_num, ?_, by omega, ?_, Lib.hid (by rw [HM.out, p10_succ hlt]), HX, HZ⟩
        · show Value.string (mk [x] ++ mk s) = _
          rw [mk_append]; rfl
        · rw [HX.out]; unfold labT; simp [lab]
    · have HR : Hid (s = lab n) := Lib.hid (by
        obtain rfl : k = 3 := by omega
        exact HS.out)
      go_wp2
      go_ret
      rw [HR.out]
      exact ⟨rfl, HC.out⟩
end Go.Proofs.Ytaiihklfeoeoeaa.W
