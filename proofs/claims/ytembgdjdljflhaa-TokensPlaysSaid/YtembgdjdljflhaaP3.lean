/- Rows written: the plain bytes; read back they are the same. -/
import Derived.Test.YtembgdjdljflhaaR5
import Derived.Test.YtembgdjdljflhaaPNum
namespace Go.Proofs.Ytembgdjdljflhaa
open Go.RowKit
set_option linter.unusedVariables false
set_option linter.unusedSimpArgs false

/-- One row's bytes. -/
def rowBytes (r : TRow) : List UInt8 := W.beBytes 1 r.c.toNat ++ W.beBytes 1 r.h.toNat ++ W.beBytes 2 r.i.toNat ++ [if r.b then 1 else 0]
def rowsBytes (l : List TRow) : List UInt8 := l.flatMap rowBytes
def tokBytes (l : List TRow) : List UInt8 := W.beBytes 1 l.length ++ rowsBytes l
theorem rowBytes_len (r : TRow) : (rowBytes r).length = 5 := by simp [rowBytes, W.beBytes_len]
theorem rowsBytes_len (l : List TRow) : (rowsBytes l).length = 5 * l.length := by
  induction l with
  | nil => rfl
  | cons r l ih =>
    unfold rowsBytes at *
    rw [List.flatMap_cons, List.length_append, ih, rowBytes_len, List.length_cons]; omega
theorem tokBytes_len (l : List TRow) : (tokBytes l).length = 1 + 5 * l.length := by
  unfold tokBytes
  rw [List.length_append, W.beBytes_len, rowsBytes_len]
theorem beNum_bytes (n x : Nat) : ∀ a : Nat, (W.beBytes n x).foldl (fun y c => y * 256 + c.toNat) a = a * 256 ^ n + x % 256 ^ n := by
  induction n with
  | zero => intro a; simp [W.beBytes, Nat.mod_one]
  | succ n ih =>
    intro a
    unfold W.beBytes
    rw [List.foldl_cons, ih, UInt8.toNat_ofNat']
    have h1 : x % 256 ^ (n + 1) = (x / 256 ^ n % 256) * 256 ^ n + x % 256 ^ n := by
      rw [Nat.pow_succ, Nat.mod_mul, Nat.mul_comm, Nat.add_comm]
    rw [show (2 : Nat) ^ 8 = 256 from rfl, h1, Nat.pow_succ, Nat.add_mul, Nat.mul_assoc a 256, Nat.mul_comm 256 (256 ^ n), Nat.add_assoc]
theorem eyeNum_back (n x : Nat) (l : List UInt8) (hx : x < 256 ^ n) : W.eyeNum (W.beBytes n x ++ l) 0 n = ((x : Int), l, 0) := by
  unfold W.eyeNum
  have hl := W.beBytes_len n x
  rw [if_neg (by simp), if_neg (by rw [List.length_append]; omega), List.take_append_of_le_length (by omega), List.take_of_length_le (by omega), List.drop_append_of_le_length (by omega), List.drop_of_length_le (by omega)]
  unfold W.beNum
  rw [beNum_bytes, Nat.zero_mul, Nat.zero_add, Nat.mod_eq_of_lt hx]
  rfl
theorem eyeBool_back (b : Bool) (l : List UInt8) : W.eyeBool ((if b then 1 else 0) :: l) 0 = (b, l, 0) := by
  cases b <;> simp [W.eyeBool]
def inR (r : TRow) : Prop := 0 ≤ r.c ∧ r.c < 4 ∧ 0 ≤ r.h ∧ r.h < 4 ∧ 2 ≤ r.i ∧ r.i ≤ 128
theorem rdRow_back (r : TRow) (l : List UInt8) (h : inR r) : rdRow (rowBytes r ++ l) = (r, l, 0) := by
  unfold inR at h
  unfold rdRow rowBytes
  simp only [List.append_assoc]
  rw [eyeNum_back 1 _ _ (by omega)]
  simp only
  rw [eyeNum_back 1 _ _ (by omega)]
  simp only
  rw [eyeNum_back 2 _ _ (by omega)]
  simp only [List.cons_append, List.nil_append]
  rw [eyeBool_back]
  have e1 : (r.c.toNat : Int) = r.c := by omega
  have e2 : (r.h.toNat : Int) = r.h := by omega
  have e3 : (r.i.toNat : Int) = r.i := by omega
  rw [e1, e2, e3]
theorem rdRows_back (l : List TRow) : ∀ acc : List TRow, (∀ r ∈ l, inR r) → (acc ++ l).Pairwise lt → (acc ++ l).Pairwise apartR → (∀ r ∈ acc, inR r) → rdRows l.length acc (rowsBytes l) = (acc ++ l, [], 0) := by
  induction l with
  | nil => intro acc _ _ _ _; simp [rdRows, rowsBytes]
  | cons r l ih =>
    intro acc hr ho ha hacc
    have hin := hr r (List.mem_cons_self ..)
    have hb : rowsBytes (r :: l) = rowBytes r ++ rowsBytes l := rfl
    rw [hb, List.length_cons]
    unfold rdRows
    rw [rdRow_back r _ hin]
    simp only
    rw [if_neg (by simp), if_neg ?_]
    · have := ih (acc ++ [r]) (fun x hx => hr x (List.mem_cons_of_mem _ hx)) (by simpa using ho) (by simpa using ha) (by
        intro x hx
        rcases List.mem_append.1 hx with h | h
        · exact hacc x h
        · rw [List.mem_singleton] at h; rw [h]; exact hin)
      rw [this]; simp
    · have hs : ∀ x : TRow, inR x → small x := fun x hx => by unfold inR at hx; unfold small; omega
      rw [badRow_eq acc r (hs r hin) (fun y hy => hs y (hacc y hy))]
      rw [Bool.not_eq_true, Bool.or_eq_false_iff]
      constructor
      · unfold bad0B inR at *; simp; omega
      · rw [List.any_eq_false]
        intro y hy
        have h1 := (List.pairwise_append.1 ho).2.2 y hy r (List.mem_cons_self ..)
        have h2 := (List.pairwise_append.1 ha).2.2 y hy r (List.mem_cons_self ..)
        unfold tbB
        unfold lt at h1
        unfold apartR at h2
        by_cases he : y.i = r.i
        · obtain ⟨q1, q2⟩ := h2 he
          simp [q1, q2]; omega
        · simp [he]; omega
/-- What was written is read back. -/
theorem rdTok_back (l : List TRow) (hin : ∀ r ∈ l, inR r) (ho : l.Pairwise lt) (ha : l.Pairwise apartR) (hl : l.length < 256) : rdTok (tokBytes l) = (l, [], 0) := by
  unfold rdTok tokBytes
  rw [eyeNum_back 1 _ _ (by omega)]
  simp only
  rw [if_neg (by simp), Int.toNat_natCast]
  have := rdRows_back l [] hin (by simpa using ho) (by simpa using ha) (by simp)
  simpa using this
end Go.Proofs.Ytembgdjdljflhaa
