/- Go's stable sort, plainly: insertion in blocks, then merging in place by turns. What it makes of a list is sorted, and a permutation of it. -/
namespace Go.Proofs.Ytknahgdeagcghaa.St

/-- Two places change. -/
def swp (l : List Int) (i j : Nat) : List Int := (l.set i (l.getD j 0)).set j (l.getD i 0)
theorem getD_mid (A : List Int) (x : Int) (C : List Int) (n : Nat) (h : n = A.length) : (A ++ x :: C).getD n 0 = x := by subst h; simp
theorem set_mid (A : List Int) (x y : Int) (C : List Int) (n : Nat) (h : n = A.length) : (A ++ x :: C).set n y = A ++ y :: C := by subst h; simp
theorem swp_len (l : List Int) (i j : Nat) : (swp l i j).length = l.length := by simp [swp]
theorem swp_mid (A B C : List Int) (x y : Int) (i j : Nat) (hi : i = A.length) (hj : j = A.length + 1 + B.length) : swp (A ++ x :: (B ++ y :: C)) i j = A ++ y :: (B ++ x :: C) := by
  unfold swp
  have h1 : (A ++ x :: (B ++ y :: C)).getD i 0 = x := getD_mid _ _ _ _ hi
  have h2 : (A ++ x :: (B ++ y :: C)).getD j 0 = y := by
    have : A ++ x :: (B ++ y :: C) = (A ++ x :: B) ++ y :: C := by simp
    rw [this]; exact getD_mid _ _ _ _ (by simp; omega)
  rw [h1, h2, set_mid A x y _ i hi]
  have : A ++ y :: (B ++ y :: C) = (A ++ y :: B) ++ y :: C := by simp
  rw [this, set_mid _ y x _ j (by simp; omega)]
  simp
theorem swp_mid' (A B C : List Int) (x y : Int) (i j : Nat) (hi : i = A.length) (hj : j = A.length + 1 + B.length) : swp (A ++ x :: (B ++ y :: C)) j i = A ++ y :: (B ++ x :: C) := by
  unfold swp
  have h1 : (A ++ x :: (B ++ y :: C)).getD i 0 = x := getD_mid _ _ _ _ hi
  have h2 : (A ++ x :: (B ++ y :: C)).getD j 0 = y := by
    have : A ++ x :: (B ++ y :: C) = (A ++ x :: B) ++ y :: C := by simp
    rw [this]; exact getD_mid _ _ _ _ (by simp; omega)
  rw [h1, h2]
  have : A ++ x :: (B ++ y :: C) = (A ++ x :: B) ++ y :: C := by simp
  rw [this, set_mid _ y x _ j (by simp; omega)]
  have : (A ++ x :: B) ++ x :: C = A ++ x :: (B ++ x :: C) := by simp
  rw [this, set_mid A x y _ i hi]
theorem swp_near (A C : List Int) (x y : Int) (i j : Nat) (hi : i = A.length) (hj : j = A.length + 1) : swp (A ++ x :: y :: C) i j = A ++ y :: x :: C := swp_mid A [] C x y i j hi (by simpa using hj)
theorem swp_near' (A C : List Int) (x y : Int) (i j : Nat) (hi : i = A.length) (hj : j = A.length + 1) : swp (A ++ x :: y :: C) j i = A ++ y :: x :: C := swp_mid' A [] C x y i j hi (by simpa using hj)

/-! ### The order: by a key, the greatest first; of equals the one that stood first -/
def r (K : Int → Int) (x y : Int) : Prop := K y < K x ∨ (K x = K y ∧ x < y)
/-- The test of the sort: does y go ahead of x? -/
def lt (K : Int → Int) (y x : Int) : Bool := decide (K x < K y)
theorem r_trans {K : Int → Int} {x y z : Int} (h : r K x y) (k : r K y z) : r K x z := by unfold r at *; omega
theorem lt_r {K : Int → Int} {x y : Int} (h : lt K y x = true) : r K y x := by unfold lt at h; unfold r; simp at h; omega
theorem r_of_nlt {K : Int → Int} {x y : Int} (hxy : x < y) (h : lt K y x = false) : r K x y := by unfold lt at h; unfold r; simp at h; omega
def Sorted (K : Int → Int) (l : List Int) : Prop := l.Pairwise (r K)

/-! ### Insertion -/
def insIn (K : Int → Int) (a : Nat) : Nat → List Int → List Int
  | 0, l => l
  | j + 1, l => if a < j + 1 ∧ lt K (l.getD (j + 1) 0) (l.getD j 0) = true then insIn K a j (swp l (j + 1) j) else l
def insOut (K : Int → Int) (a : Nat) : Nat → Nat → List Int → List Int
  | _, 0, l => l
  | i, k + 1, l => insOut K a (i + 1) k (insIn K a i l)
def insSort (K : Int → Int) (a b : Nat) (l : List Int) : List Int := insOut K a (a + 1) (b - (a + 1)) l
theorem insIn_len (K : Int → Int) (a : Nat) : ∀ j l, (insIn K a j l).length = l.length := by
  intro j
  induction j with
  | zero => intro l; rfl
  | succ j ih => intro l; unfold insIn; split
                 · rw [ih, swp_len]
                 · rfl
theorem insOut_len (K : Int → Int) (a : Nat) : ∀ k i l, (insOut K a i k l).length = l.length := by
  intro k
  induction k with
  | zero => intro i l; rfl
  | succ k ih => intro i l; unfold insOut; rw [ih, insIn_len]
theorem insSort_len (K : Int → Int) (a b : Nat) (l : List Int) : (insSort K a b l).length = l.length := insOut_len K a _ _ l

theorem insIn_ok (K : Int → Int) (P S : List Int) (x : Int) : ∀ (n : Nat) (D1 D2 : List Int), D1.length = n → Sorted K (D1 ++ D2) → (∀ y ∈ D2, r K x y) → (∀ y ∈ D1, y < x) → ∀ j, j = P.length + n →
    ∃ E, insIn K P.length j (P ++ (D1 ++ x :: (D2 ++ S))) = P ++ (E ++ S) ∧ E.Perm (x :: (D1 ++ D2)) ∧ Sorted K E := by
  intro n
  induction n with
  | zero =>
    intro D1 D2 h1 hs h2 h3 j hj
    have : D1 = [] := List.eq_nil_of_length_eq_zero h1
    subst this
    refine ⟨x :: D2, ?_, by simp, ?_⟩
    · cases j with
      | zero => rfl
      | succ j => unfold insIn; rw [if_neg (by omega)]; simp
    · exact List.pairwise_cons.2 ⟨h2, hs⟩
  | succ n ih =>
    intro D1 D2 h1 hs h2 h3 j hj
    obtain ⟨D, d, rfl⟩ : ∃ D d, D1 = D ++ [d] := ⟨D1.dropLast, D1.getLast (by intro e; simp [e] at h1), (List.dropLast_concat_getLast _).symm⟩
    have hDl : D.length = n := by simpa using h1
    obtain ⟨j, rfl⟩ : ∃ k, j = k + 1 := ⟨j - 1, by omega⟩
    have hform : P ++ (D ++ [d] ++ x :: (D2 ++ S)) = (P ++ D) ++ d :: x :: (D2 ++ S) := by simp
    have g1 : (P ++ (D ++ [d] ++ x :: (D2 ++ S))).getD j 0 = d := by rw [hform]; exact getD_mid _ _ _ _ (by simp; omega)
    have g2 : (P ++ (D ++ [d] ++ x :: (D2 ++ S))).getD (j + 1) 0 = x := by
      have : P ++ (D ++ [d] ++ x :: (D2 ++ S)) = (P ++ D ++ [d]) ++ x :: (D2 ++ S) := by simp
      rw [this]; exact getD_mid _ _ _ _ (by simp; omega)
    unfold insIn
    rw [g1, g2]
    by_cases hlt : lt K x d = true
    · rw [if_pos ⟨by omega, hlt⟩, hform, swp_near' (P ++ D) _ d x j (j + 1) (by simp; omega) (by simp; omega)]
      have hdd := (List.pairwise_append.1 (List.append_assoc D [d] D2 ▸ hs : Sorted K (D ++ ([d] ++ D2))))
      obtain ⟨E, e1, e2, e3⟩ := ih D (d :: D2) hDl (by simpa using hs) (by
        intro y hy
        rcases List.mem_cons.1 hy with rfl | hy
        · exact lt_r hlt
        · exact h2 y hy) (fun y hy => h3 y (by simp [hy])) j (by omega)
      refine ⟨E, ?_, ?_, e3⟩
      · rw [← e1]; simp
      · refine e2.trans ?_
        simp
    · rw [if_neg (fun h => hlt h.2)]
      have hlt' : lt K x d = false := by simpa using hlt
      have hdx : r K d x := r_of_nlt (h3 d (by simp)) hlt'
      refine ⟨D ++ [d] ++ x :: D2, by simp, ?_, ?_⟩
      · exact List.perm_middle
      · have hs' := List.pairwise_append.1 hs
        refine List.pairwise_append.2 ⟨hs'.1, List.pairwise_cons.2 ⟨h2, hs'.2.1⟩, ?_⟩
        intro u hu v hv
        rcases List.mem_cons.1 hv with rfl | hv
        · rcases List.mem_append.1 hu with hu | hu
          · exact r_trans ((List.pairwise_append.1 hs'.1).2.2 u hu d (by simp)) hdx
          · have : u = d := by simpa using hu
            rw [this]; exact hdx
        · exact hs'.2.2 u hu v hv
theorem insOut_ok (K : Int → Int) (P : List Int) : ∀ (k : Nat) (D T S : List Int), T.length = k → Sorted K D → (∀ x ∈ D, ∀ y ∈ T, x < y) → T.Pairwise (· < ·) → ∀ i, i = P.length + D.length →
    ∃ E, insOut K P.length i k (P ++ (D ++ (T ++ S))) = P ++ (E ++ S) ∧ E.Perm (D ++ T) ∧ Sorted K E := by
  intro k
  induction k with
  | zero =>
    intro D T S hT hs _ _ i hi
    have : T = [] := List.eq_nil_of_length_eq_zero hT
    subst this
    exact ⟨D, by simp [insOut], by simp, hs⟩
  | succ k ih =>
    intro D T S hT hs hlt hinc i hi
    cases T with
    | nil => simp at hT
    | cons x T =>
      have hinc' := List.pairwise_cons.1 hinc
      obtain ⟨E, e1, e2, e3⟩ := insIn_ok K P (T ++ S) x D.length D [] rfl (by simpa using hs) (by simp) (fun y hy => hlt y hy x (by simp)) i hi
      simp only [List.nil_append, List.append_nil] at e1 e2
      obtain ⟨F, f1, f2, f3⟩ := ih E T S (by simpa using hT) e3 (by
        intro u hu v hv
        have := e2.subset hu
        rcases List.mem_cons.1 this with rfl | hu'
        · exact hinc'.1 v hv
        · exact hlt u hu' v (by simp [hv])) hinc'.2 (i + 1) (by have := e2.length_eq; simp at this; omega)
      refine ⟨F, ?_, ?_, f3⟩
      · unfold insOut
        rw [← f1, ← e1]
        simp
      · refine f2.trans ?_
        refine (e2.append_right T).trans ?_
        exact List.perm_middle.symm
theorem insSort_ok (K : Int → Int) (P B S : List Int) (hinc : B.Pairwise (· < ·)) (a b : Nat) (ha : a = P.length) (hb : b = a + B.length) :
    ∃ E, insSort K a b (P ++ (B ++ S)) = P ++ (E ++ S) ∧ E.Perm B ∧ Sorted K E := by
  subst ha
  cases B with
  | nil =>
    refine ⟨[], ?_, List.Perm.refl _, List.Pairwise.nil⟩
    unfold insSort
    have : b - (P.length + 1) = 0 := by simp at hb; omega
    rw [this]; rfl
  | cons x T =>
    have hinc' := List.pairwise_cons.1 hinc
    obtain ⟨E, e1, e2, e3⟩ := insOut_ok K P T.length [x] T S rfl (List.pairwise_singleton _ _) (by
      intro u hu v hv
      have : u = x := by simpa using hu
      rw [this]; exact hinc'.1 v hv) hinc'.2 (P.length + 1) rfl
    refine ⟨E, ?_, by simpa using e2, e3⟩
    unfold insSort
    have : b - (P.length + 1) = T.length := by simp at hb; omega
    rw [this, ← e1]
    simp

/-! ### Two ranges change places; two neighbours turn round -/
def swapR (a b : Nat) : Nat → Nat → List Int → List Int
  | _, 0, l => l
  | i, k + 1, l => swapR a b (i + 1) k (swp l (a + i) (b + i))
theorem swapR_len (a b : Nat) : ∀ k i l, (swapR a b i k l).length = l.length := by
  intro k
  induction k with
  | zero => intro i l; rfl
  | succ k ih => intro i l; unfold swapR; rw [ih, swp_len]
theorem swapR_ok : ∀ (k : Nat) (P X Y Z S : List Int), X.length = k → Z.length = k → ∀ (a b i : Nat), a + i = P.length → b + i = P.length + X.length + Y.length →
    swapR a b i k (P ++ (X ++ (Y ++ (Z ++ S)))) = P ++ (Z ++ (Y ++ (X ++ S))) := by
  intro k
  induction k with
  | zero =>
    intro P X Y Z S hX hZ a b i ha hb
    rw [List.eq_nil_of_length_eq_zero hX, List.eq_nil_of_length_eq_zero hZ]; rfl
  | succ k ih =>
    intro P X Y Z S hX hZ a b i ha hb
    cases X with
    | nil => simp at hX
    | cons x X =>
      cases Z with
      | nil => simp at hZ
      | cons z Z =>
        unfold swapR
        have h1 : P ++ (x :: X ++ (Y ++ (z :: Z ++ S))) = P ++ x :: ((X ++ Y) ++ z :: (Z ++ S)) := by simp
        rw [h1, swp_mid P (X ++ Y) (Z ++ S) x z _ _ ha (by simp at hb ⊢; omega)]
        have h2 : P ++ z :: ((X ++ Y) ++ x :: (Z ++ S)) = (P ++ [z]) ++ (X ++ ((Y ++ [x]) ++ (Z ++ S))) := by simp
        rw [h2, ih (P ++ [z]) X (Y ++ [x]) Z S (by simpa using hX) (by simpa using hZ) a b (i + 1) (by simp; omega) (by simp at hb ⊢; omega)]
        simp
def rot (m : Nat) : Nat → Nat → Nat → List Int → Nat × List Int
  | 0, i, _, l => (i, l)
  | f + 1, i, j, l => if i = j then (i, l) else if j < i then rot m f (i - j) j (swapR (m - i) m 0 j l) else rot m f i (j - i) (swapR (m - i) (m + j - i) 0 i l)
/-- More rounds change nothing. -/
theorem rot_more (m : Nat) : ∀ f i j l, 0 < i → 0 < j → i + j ≤ f + 1 → ∀ f', f ≤ f' → rot m f' i j l = rot m f i j l := by
  intro f
  induction f with
  | zero => intro i j l hi hj h; omega
  | succ f ih =>
    intro i j l hi hj h f' hf
    obtain ⟨f', rfl⟩ : ∃ k, f' = k + 1 := ⟨f' - 1, by omega⟩
    unfold rot
    split
    · rfl
    · split
      · exact ih _ _ _ (by omega) hj (by omega) f' (by omega)
      · exact ih _ _ _ hi (by omega) (by omega) f' (by omega)
def rotr (m i j : Nat) (l : List Int) : Nat × List Int := rot m (i + j) i j l
theorem rotr_eq (m i : Nat) (l : List Int) (hi : 0 < i) : rotr m i i l = (i, l) := by
  unfold rotr
  obtain ⟨k, hk⟩ : ∃ k, i + i = k + 1 := ⟨i + i - 1, by omega⟩
  rw [hk]; unfold rot; rw [if_pos rfl]
theorem rotr_gt (m i j : Nat) (l : List Int) (hj : 0 < j) (h : j < i) : rotr m i j l = rotr m (i - j) j (swapR (m - i) m 0 j l) := by
  unfold rotr
  obtain ⟨k, hk⟩ : ∃ k, i + j = k + 1 := ⟨i + j - 1, by omega⟩
  rw [hk]; conv => lhs; unfold rot
  rw [if_neg (by omega), if_pos h]
  exact rot_more m _ _ _ _ (by omega) hj (by omega) _ (by omega)
theorem rotr_lt (m i j : Nat) (l : List Int) (hi : 0 < i) (h : i < j) : rotr m i j l = rotr m i (j - i) (swapR (m - i) (m + j - i) 0 i l) := by
  unfold rotr
  obtain ⟨k, hk⟩ : ∃ k, i + j = k + 1 := ⟨i + j - 1, by omega⟩
  rw [hk]; conv => lhs; unfold rot
  rw [if_neg (by omega), if_neg (by omega)]
  exact rot_more m _ _ _ _ hi (by omega) (by omega) _ (by omega)
def rotate (a m b : Nat) (l : List Int) : List Int := swapR (m - (rotr m (m - a) (b - m) l).1) m 0 (rotr m (m - a) (b - m) l).1 (rotr m (m - a) (b - m) l).2
theorem rotr_ok : ∀ (n : Nat) (P A B S : List Int), A.length + B.length ≤ n → 0 < A.length → 0 < B.length → ∀ m, m = P.length + A.length →
    (let q := rotr m A.length B.length (P ++ (A ++ (B ++ S))); swapR (m - q.1) m 0 q.1 q.2) = P ++ (B ++ (A ++ S)) := by
  intro n
  induction n with
  | zero => intro P A B S h hA; omega
  | succ n ih =>
    intro P A B S h hA hB m hm
    rcases Nat.lt_trichotomy A.length B.length with hlt | heq | hgt
    · -- the last A.length of B go ahead
      obtain ⟨B1, B2, rfl, hB2⟩ : ∃ B1 B2, B = B1 ++ B2 ∧ B2.length = A.length := ⟨B.take (B.length - A.length), B.drop (B.length - A.length), (List.take_append_drop _ _).symm, by simp; omega⟩
      have hl : (B1 ++ B2).length = B1.length + A.length := by simp [hB2]
      rw [rotr_lt m _ _ _ hA hlt]
      have h1 : P ++ (A ++ (B1 ++ B2 ++ S)) = P ++ (A ++ (B1 ++ (B2 ++ S))) := by simp
      rw [h1, swapR_ok A.length P A B1 B2 S rfl hB2 _ _ 0 (by omega) (by omega), hl, Nat.add_sub_cancel]
      have h2 : P ++ (B2 ++ (B1 ++ (A ++ S))) = P ++ (B2 ++ (B1 ++ (A ++ S))) := rfl
      have := ih P B2 B1 (A ++ S) (by omega) (by omega) (by omega) m (by omega)
      rw [hB2] at this
      rw [this]; simp
    · have e : rotr m A.length B.length (P ++ (A ++ (B ++ S))) = (A.length, P ++ (A ++ (B ++ S))) := by rw [← heq]; exact rotr_eq m _ _ hA
      rw [e]
      have := swapR_ok A.length P A [] B S rfl heq.symm (m - A.length) m 0 (by omega) (by simp; omega)
      simpa using this
    · obtain ⟨A1, A2, rfl, hA1⟩ : ∃ A1 A2, A = A1 ++ A2 ∧ A1.length = B.length := ⟨A.take B.length, A.drop B.length, (List.take_append_drop _ _).symm, by simp; omega⟩
      have hl : (A1 ++ A2).length = B.length + A2.length := by simp [hA1]
      rw [rotr_gt m _ _ _ hB hgt]
      have h1 : P ++ (A1 ++ A2 ++ (B ++ S)) = P ++ (A1 ++ (A2 ++ (B ++ S))) := by simp
      have hsub : (A1 ++ A2).length - B.length = A2.length := by omega
      rw [h1, swapR_ok B.length P A1 A2 B S hA1 rfl _ _ 0 (by omega) (by omega), hsub]
      have h2 : P ++ (B ++ (A2 ++ (A1 ++ S))) = (P ++ B) ++ (A2 ++ (A1 ++ S)) := by simp
      rw [h2]
      have := ih (P ++ B) A2 A1 S (by omega) (by omega) (by omega) m (by simp; omega)
      rw [hA1] at this
      rw [this]; simp
theorem rotate_ok (P A B S : List Int) (hA : 0 < A.length) (hB : 0 < B.length) (a m b : Nat) (ha : a = P.length) (hm : m = a + A.length) (hb : b = m + B.length) :
    rotate a m b (P ++ (A ++ (B ++ S))) = P ++ (B ++ (A ++ S)) := by
  unfold rotate
  have h1 : m - a = A.length := by omega
  have h2 : b - m = B.length := by omega
  rw [h1, h2]
  exact rotr_ok _ P A B S (Nat.le_refl _) hA hB m (by omega)

/-! ### Search by halves -/
def bs (p : Nat → Bool) : Nat → Nat → Nat → Nat
  | 0, i, _ => i
  | f + 1, i, j => if i < j then (if p ((i + j) / 2) = true then bs p f ((i + j) / 2 + 1) j else bs p f i ((i + j) / 2)) else i
theorem bs_more (p : Nat → Bool) : ∀ f i j, j - i ≤ f → ∀ f', f ≤ f' → bs p f' i j = bs p f i j := by
  intro f
  induction f with
  | zero =>
    intro i j h f' hf
    cases f' with
    | zero => rfl
    | succ f' => unfold bs; rw [if_neg (by omega)]
  | succ f ih =>
    intro i j h f' hf
    obtain ⟨f', rfl⟩ : ∃ k, f' = k + 1 := ⟨f' - 1, by omega⟩
    unfold bs
    split
    · split
      · exact ih _ _ (by omega) f' (by omega)
      · exact ih _ _ (by omega) f' (by omega)
    · rfl
def bsr (p : Nat → Bool) (i j : Nat) : Nat := bs p (j - i) i j
theorem bsr_end (p : Nat → Bool) (i j : Nat) (h : j ≤ i) : bsr p i j = i := by
  unfold bsr
  have : j - i = 0 := by omega
  rw [this]; rfl
theorem bsr_yes (p : Nat → Bool) (i j : Nat) (h : i < j) (hp : p ((i + j) / 2) = true) : bsr p i j = bsr p ((i + j) / 2 + 1) j := by
  unfold bsr
  obtain ⟨k, hk⟩ : ∃ k, j - i = k + 1 := ⟨j - i - 1, by omega⟩
  rw [hk]; conv => lhs; unfold bs
  rw [if_pos h, if_pos hp]
  exact bs_more p _ _ _ (by omega) _ (by omega)
theorem bsr_no (p : Nat → Bool) (i j : Nat) (h : i < j) (hp : p ((i + j) / 2) = false) : bsr p i j = bsr p i ((i + j) / 2) := by
  unfold bsr
  obtain ⟨k, hk⟩ : ∃ k, j - i = k + 1 := ⟨j - i - 1, by omega⟩
  rw [hk]; conv => lhs; unfold bs
  rw [if_pos h, if_neg (by simp [hp])]
  exact bs_more p _ _ _ (by omega) _ (by omega)
theorem bsr_ok (p : Nat → Bool) : ∀ (n i j : Nat), j - i ≤ n → i ≤ j → (∀ h k, i ≤ h → h < k → k < j → p k = true → p h = true) →
    i ≤ bsr p i j ∧ bsr p i j ≤ j ∧ (∀ h, i ≤ h → h < bsr p i j → p h = true) ∧ (∀ h, bsr p i j ≤ h → h < j → p h = false) := by
  intro n
  induction n with
  | zero => intro i j h hij _; rw [bsr_end p i j (by omega)]; exact ⟨Nat.le_refl _, hij, fun h a b => by omega, fun h a b => by omega⟩
  | succ n ih =>
    intro i j h hij hm
    rcases Nat.lt_or_ge i j with hlt | hge
    · cases hp : p ((i + j) / 2) with
      | true =>
        rw [bsr_yes p i j hlt hp]
        obtain ⟨h1, h2, h3, h4⟩ := ih ((i + j) / 2 + 1) j (by omega) (by omega) (fun a b c d e f => hm a b (by omega) d e f)
        refine ⟨by omega, h2, fun a ha hb => ?_, h4⟩
        rcases Nat.lt_or_ge a ((i + j) / 2 + 1) with q | q
        · rcases Nat.lt_or_ge a ((i + j) / 2) with q' | q'
          · exact hm a _ ha q' (by omega) hp
          · obtain rfl : a = (i + j) / 2 := by omega
            exact hp
        · exact h3 a q hb
      | false =>
        rw [bsr_no p i j hlt hp]
        obtain ⟨h1, h2, h3, h4⟩ := ih i ((i + j) / 2) (by omega) (by omega) (fun a b c d e f => hm a b c d (by omega) f)
        refine ⟨h1, by omega, h3, fun a ha hb => ?_⟩
        rcases Nat.lt_or_ge a ((i + j) / 2) with q | q
        · exact h4 a ha q
        · cases hpa : p a with
          | false => rfl
          | true =>
            rcases Nat.lt_or_ge ((i + j) / 2) a with q' | q'
            · rw [hm _ a (by omega) q' hb hpa] at hp; cases hp
            · obtain rfl : a = (i + j) / 2 := by omega
              rw [hp] at hpa; cases hpa
    · rw [bsr_end p i j hge]; exact ⟨Nat.le_refl _, hij, fun h a b => by omega, fun h a b => by omega⟩
end Go.Proofs.Ytknahgdeagcghaa.St
