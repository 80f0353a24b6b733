/- Plain: what chapter 1's eyes and pens compute. -/
import Derived.Test.YtaiihklfeoeoeaaB0
namespace Go.Proofs.Ytaiihklfeoeoeaa.W
set_option linter.unusedVariables false
set_option linter.unusedSimpArgs false

def beNum (l : List UInt8) : Nat := l.foldl (fun x c => x * 256 + c.toNat) 0
theorem beNum_snoc (l : List UInt8) (c : UInt8) : beNum (l ++ [c]) = beNum l * 256 + c.toNat := by simp [beNum]
theorem beNum_from (l : List UInt8) : ∀ x : Nat, l.foldl (fun x c => x * 256 + c.toNat) x < (x + 1) * 256 ^ l.length := by
  induction l with
  | nil => intro x; simp
  | cons c l ih =>
    intro x
    have h := ih (x * 256 + c.toNat)
    rw [List.foldl_cons, List.length_cons, Nat.pow_succ']
    have hc := c.toNat_lt
    have h2 : (x * 256 + c.toNat + 1) * 256 ^ l.length ≤ ((x + 1) * 256) * 256 ^ l.length := Nat.mul_le_mul_right _ (by omega)
    rw [← Nat.mul_assoc]
    omega
theorem beNum_lt (l : List UInt8) : beNum l < 256 ^ l.length := by
  have := beNum_from l 0
  simpa [beNum] using this
theorem take_snocU (l : List UInt8) (k : Nat) (h : k < l.length) : l.take (k + 1) = l.take k ++ [l.getD k 0] := by
  rw [List.take_succ_eq_append_getElem h, List.getD_eq_getElem?_getD, List.getElem?_eq_getElem h]; rfl
theorem getD_take (l : List UInt8) (n k : Nat) (h : k < n) : (l.take n).getD k 0 = l.getD k 0 := by
  simp [List.getD_eq_getElem?_getD, List.getElem?_take, h]
theorem getD_drop (l : List UInt8) (n k : Nat) : (l.drop n).getD k 0 = l.getD (n + k) 0 := by
  simp [List.getD_eq_getElem?_getD, List.getElem?_drop]
theorem pow6 (k : Nat) (h : k ≤ 6) : 256 ^ k ≤ 281474976710656 := by
  have : 256 ^ k ≤ 256 ^ 6 := Nat.pow_le_pow_right (by omega) h
  simpa using this
theorem beNum_take_le (l : List UInt8) (k : Nat) (h : k ≤ 6) : beNum (l.take k) < 281474976710656 := by
  refine Nat.lt_of_lt_of_le (beNum_lt _) (pow6 _ ?_)
  exact Nat.le_trans (List.length_take_le _ _) h
theorem or_byte (a : Nat) (c : UInt8) : a * 256 ||| c.toNat = a * 256 + c.toNat := by
  have h := Nat.shiftLeft_add_eq_or_of_lt (show c.toNat < 2 ^ 8 from c.toNat_lt) a
  rw [Nat.shiftLeft_eq] at h
  exact h.symm

/-- Num: the number, the bytes that are left, the error. -/
def eyeNum (l : List UInt8) (bad : Int) (n : Nat) : Int × List UInt8 × Int :=
  if bad ≠ 0 then (0, l, bad) else if l.length < n then (0, l, 2) else ((beNum (l.take n) : Int), l.drop n, 0)
def eyeBool (l : List UInt8) (bad : Int) : Bool × List UInt8 × Int :=
  if bad ≠ 0 then (false, l, bad) else match l with
  | [] => (false, [], 2)
  | c :: r => if 1 < c.toNat then (false, c :: r, 4) else (c.toNat == 1, r, 0)
end Go.Proofs.Ytaiihklfeoeoeaa.W
