/- Go's stable sort, plainly: the merge in place, and the whole. -/
import Derived.Test.YtknahgdeagcghaaSort
namespace Go.Proofs.Ytknahgdeagcghaa.St

def upS : Nat → Nat → List Int → List Int
  | _, 0, l => l
  | k, n + 1, l => upS (k + 1) n (swp l k (k + 1))
def downS : Nat → Nat → List Int → List Int
  | _, 0, l => l
  | k, n + 1, l => downS (k - 1) n (swp l k (k - 1))
theorem upS_len : ∀ n k l, (upS k n l).length = l.length := by
  intro n
  induction n with
  | zero => intro k l; rfl
  | succ n ih => intro k l; unfold upS; rw [ih, swp_len]
theorem downS_len : ∀ n k l, (downS k n l).length = l.length := by
  intro n
  induction n with
  | zero => intro k l; rfl
  | succ n ih => intro k l; unfold downS; rw [ih, swp_len]
theorem upS_ok : ∀ (n : Nat) (P : List Int) (x : Int) (R T : List Int), R.length = n → ∀ k, k = P.length → upS k n (P ++ x :: (R ++ T)) = P ++ (R ++ x :: T) := by
  intro n
  induction n with
  | zero => intro P x R T h k hk; rw [List.eq_nil_of_length_eq_zero h]; rfl
  | succ n ih =>
    intro P x R T h k hk
    cases R with
    | nil => simp at h
    | cons y R =>
      unfold upS
      have h1 : P ++ x :: (y :: R ++ T) = P ++ x :: y :: (R ++ T) := by simp
      rw [h1, swp_near P (R ++ T) x y k (k + 1) hk (by omega)]
      have h2 : P ++ y :: x :: (R ++ T) = (P ++ [y]) ++ x :: (R ++ T) := by simp
      rw [h2, ih (P ++ [y]) x R T (by simpa using h) (k + 1) (by simp; omega)]
      simp
theorem downS_ok : ∀ (n : Nat) (P : List Int) (y : Int) (L T : List Int), L.length = n → ∀ k, k = P.length + n → downS k n (P ++ (L ++ y :: T)) = P ++ y :: (L ++ T) := by
  intro n
  induction n with
  | zero => intro P y L T h k hk; rw [List.eq_nil_of_length_eq_zero h]; rfl
  | succ n ih =>
    intro P y L T h k hk
    obtain ⟨D, d, rfl⟩ : ∃ D d, L = D ++ [d] := ⟨L.dropLast, L.getLast (by intro e; simp [e] at h), (List.dropLast_concat_getLast _).symm⟩
    have hD : D.length = n := by simpa using h
    unfold downS
    have h1 : P ++ (D ++ [d] ++ y :: T) = (P ++ D) ++ d :: y :: T := by simp
    rw [h1, swp_near' (P ++ D) T d y (k - 1) k (by simp; omega) (by simp; omega)]
    have h2 : P ++ D ++ y :: d :: T = P ++ (D ++ y :: (d :: T)) := by simp
    rw [h2, ih P y D (d :: T) hD (k - 1) (by omega)]
    simp

def symM (K : Int → Int) : Nat → Nat → Nat → Nat → List Int → List Int
  | 0, _, _, _, l => l
  | f + 1, a, m, b, l =>
    if m - a = 1 then upS a (bsr (fun h => lt K (l.getD h 0) (l.getD a 0)) m b - 1 - a) l
    else if b - m = 1 then downS m (m - bsr (fun h => !lt K (l.getD m 0) (l.getD h 0)) a m) l
    else
      let mid := (a + b) / 2
      let n := mid + m
      let start := bsr (fun c => !lt K (l.getD (n - 1 - c) 0) (l.getD c 0)) (if mid < m then n - b else a) (if mid < m then mid else m)
      let e := n - start
      let l1 := if start < m ∧ m < e then rotate start m e l else l
      let l2 := if a < start ∧ start < mid then symM K f a start mid l1 else l1
      if mid < e ∧ e < b then symM K f mid e b l2 else l2

theorem at_L (P L R S : List Int) (h : Nat) (a : Nat) (ha : a = P.length) (h1 : a ≤ h) (h2 : h < a + L.length) : (P ++ (L ++ (R ++ S))).getD h 0 = L.getD (h - a) 0 := by
  simp only [List.getD_eq_getElem?_getD]
  rw [List.getElem?_append_right (by omega), List.getElem?_append_left (by omega)]
  subst ha; rfl
theorem at_R (P L R S : List Int) (h : Nat) (m : Nat) (hm : m = P.length + L.length) (h1 : m ≤ h) (h2 : h < m + R.length) : (P ++ (L ++ (R ++ S))).getD h 0 = R.getD (h - m) 0 := by
  simp only [List.getD_eq_getElem?_getD]
  rw [List.getElem?_append_right (by omega), List.getElem?_append_right (by omega), List.getElem?_append_left (by omega)]
  congr 2; omega
theorem mem_at (l : List Int) (i : Nat) (h : i < l.length) : l.getD i 0 ∈ l := by
  rw [List.getD_eq_getElem?_getD, List.getElem?_eq_getElem h]; exact List.getElem_mem h
theorem sorted_at {K : Int → Int} {l : List Int} (h : Sorted K l) {i j : Nat} (hij : i < j) (hj : j < l.length) : r K (l.getD i 0) (l.getD j 0) := by
  rw [List.getD_eq_getElem?_getD, List.getElem?_eq_getElem (by omega), List.getD_eq_getElem?_getD, List.getElem?_eq_getElem hj]
  exact List.pairwise_iff_getElem.1 h i j (by omega) hj hij
theorem mem_take_at {l : List Int} {n : Nat} {x : Int} (h : x ∈ l.take n) : ∃ i, i < n ∧ i < l.length ∧ x = l.getD i 0 := by
  obtain ⟨i, hi, e⟩ := List.mem_iff_getElem.1 h
  simp at hi
  refine ⟨i, by omega, by omega, ?_⟩
  rw [List.getD_eq_getElem?_getD, List.getElem?_eq_getElem (by omega), ← e]
  simp
theorem mem_drop_at {l : List Int} {n : Nat} {x : Int} (h : x ∈ l.drop n) : ∃ i, n ≤ i ∧ i < l.length ∧ x = l.getD i 0 := by
  obtain ⟨i, hi, e⟩ := List.mem_iff_getElem.1 h
  simp at hi
  refine ⟨n + i, by omega, by omega, ?_⟩
  rw [List.getD_eq_getElem?_getD, List.getElem?_eq_getElem (by omega), ← e]
  simp
theorem K_of_r {K : Int → Int} {x y : Int} (h : r K x y) : K y ≤ K x := by unfold r at h; omega
theorem lt_true {K : Int → Int} {y x : Int} : lt K y x = true ↔ K x < K y := by unfold lt; simp
theorem lt_false {K : Int → Int} {y x : Int} : lt K y x = false ↔ K y ≤ K x := by unfold lt; simp
theorem sorted_glue {K : Int → Int} {A B : List Int} (hA : Sorted K A) (hB : Sorted K B) (h : ∀ x ∈ A, ∀ y ∈ B, r K x y) : Sorted K (A ++ B) := List.pairwise_append.2 ⟨hA, hB, h⟩

set_option maxHeartbeats 1000000 in
theorem symM_ok (K : Int → Int) : ∀ (f : Nat) (P L R S : List Int), Sorted K L → Sorted K R → (∀ x ∈ L, ∀ y ∈ R, x < y) → 0 < L.length → 0 < R.length → ∀ (a m b : Nat), a = P.length → m = a + L.length → b = m + R.length → b - a ≤ f →
    ∃ M, symM K f a m b (P ++ (L ++ (R ++ S))) = P ++ (M ++ S) ∧ M.Perm (L ++ R) ∧ Sorted K M := by
  intro f
  induction f with
  | zero => intro P L R S _ _ _ hl _ a m b ha hm hb hf; omega
  | succ f ih =>
    intro P L R S sL sR hx hl hr a m b ha hm hb hf
    unfold symM
    by_cases c1 : m - a = 1
    · rw [if_pos c1]
      obtain ⟨x, rfl⟩ : ∃ x, L = [x] := List.length_eq_one_iff.1 (by omega)
      have hm1 : m = a + 1 := by simpa using hm
      have gx : (P ++ ([x] ++ (R ++ S))).getD a 0 = x := by have := getD_mid P x (R ++ S) a ha; simpa using this
      have gR : ∀ h, m ≤ h → h < b → (P ++ ([x] ++ (R ++ S))).getD h 0 = R.getD (h - m) 0 := fun h h1 h2 => at_R P [x] R S h m (by simp; omega) h1 (by omega)
      have hb' := bsr_ok (fun h => lt K ((P ++ ([x] ++ (R ++ S))).getD h 0) ((P ++ ([x] ++ (R ++ S))).getD a 0)) (b - m) m b (Nat.le_refl _) (by omega) (by
        intro h k h1 h2 h3 h4
        simp only [gx] at h4 ⊢
        rw [gR k (by omega) h3] at h4
        rw [gR h h1 (by omega)]
        rw [lt_true] at h4 ⊢
        have := K_of_r (sorted_at sR (i := h - m) (j := k - m) (by omega) (by omega))
        omega)
      obtain ⟨b1, b2, b3, b4⟩ := hb'
      generalize bsr (fun h => lt K ((P ++ ([x] ++ (R ++ S))).getD h 0) ((P ++ ([x] ++ (R ++ S))).getD a 0)) m b = i at *
      have hform : P ++ ([x] ++ (R ++ S)) = P ++ x :: (R.take (i - m) ++ (R.drop (i - m) ++ S)) := by
        rw [← List.append_assoc (R.take _), List.take_append_drop]; rfl
      have hlen : (R.take (i - m)).length = i - 1 - a := by simp; omega
      refine ⟨R.take (i - m) ++ x :: R.drop (i - m), ?_, ?_, ?_⟩
      · rw [hform, upS_ok _ P x _ _ hlen a ha]; simp
      · refine List.perm_middle.trans ?_
        rw [List.take_append_drop]; simp
      · refine sorted_glue (sR.sublist (List.take_sublist _ _)) (List.pairwise_cons.2 ⟨?_, sR.sublist (List.drop_sublist _ _)⟩) ?_
        · intro y hy
          obtain ⟨k, k1, k2, rfl⟩ := mem_drop_at hy
          have := b4 (m + k) (by omega) (by omega)
          simp only [gx] at this
          rw [gR _ (by omega) (by omega), Nat.add_sub_cancel_left] at this
          exact r_of_nlt (hx x (by simp) _ (mem_at R k k2)) this
        · intro y hy z hz
          obtain ⟨k, k1, k2, rfl⟩ := mem_take_at hy
          rcases List.mem_cons.1 hz with rfl | hz
          · have := b3 (m + k) (by omega) (by omega)
            simp only [gx] at this
            rw [gR _ (by omega) (by omega), Nat.add_sub_cancel_left] at this
            exact lt_r this
          · obtain ⟨k', k1', k2', rfl⟩ := mem_drop_at hz
            exact sorted_at sR (by omega) k2'
    · rw [if_neg c1]
      by_cases c2 : b - m = 1
      · rw [if_pos c2]
        obtain ⟨y, rfl⟩ : ∃ y, R = [y] := List.length_eq_one_iff.1 (by omega)
        have gy : (P ++ (L ++ ([y] ++ S))).getD m 0 = y := by
          have := at_R P L [y] S m m (by omega) (Nat.le_refl _) (by simp)
          rw [this]; simp
        have gL : ∀ h, a ≤ h → h < m → (P ++ (L ++ ([y] ++ S))).getD h 0 = L.getD (h - a) 0 := fun h h1 h2 => at_L P L [y] S h a ha h1 (by omega)
        have hb' := bsr_ok (fun h => !lt K ((P ++ (L ++ ([y] ++ S))).getD m 0) ((P ++ (L ++ ([y] ++ S))).getD h 0)) (m - a) a m (Nat.le_refl _) (by omega) (by
          intro h k h1 h2 h3 h4
          simp only [gy] at h4 ⊢
          rw [gL k (by omega) h3] at h4
          rw [gL h h1 (by omega)]
          rw [Bool.not_eq_true', lt_false] at h4 ⊢
          have := K_of_r (sorted_at sL (i := h - a) (j := k - a) (by omega) (by omega))
          omega)
        obtain ⟨b1, b2, b3, b4⟩ := hb'
        generalize bsr (fun h => !lt K ((P ++ (L ++ ([y] ++ S))).getD m 0) ((P ++ (L ++ ([y] ++ S))).getD h 0)) a m = i at *
        have hform : P ++ (L ++ ([y] ++ S)) = (P ++ L.take (i - a)) ++ (L.drop (i - a) ++ y :: S) := by
          rw [List.append_assoc P, ← List.append_assoc (L.take _), List.take_append_drop]; rfl
        have hlen : (L.drop (i - a)).length = m - i := by simp; omega
        refine ⟨L.take (i - a) ++ y :: L.drop (i - a), ?_, ?_, ?_⟩
        · rw [hform, downS_ok _ (P ++ L.take (i - a)) y _ S hlen m (by simp; omega)]; simp
        · refine List.perm_middle.trans ?_
          rw [List.take_append_drop]
          exact (List.perm_append_singleton y L).symm
        · refine sorted_glue (sL.sublist (List.take_sublist _ _)) (List.pairwise_cons.2 ⟨?_, sL.sublist (List.drop_sublist _ _)⟩) ?_
          · intro z hz
            obtain ⟨k, k1, k2, rfl⟩ := mem_drop_at hz
            have := b4 (a + k) (by omega) (by omega)
            simp only [gy] at this
            rw [gL _ (by omega) (by omega), Nat.add_sub_cancel_left, Bool.not_eq_false'] at this
            exact lt_r this
          · intro u hu z hz
            obtain ⟨k, k1, k2, rfl⟩ := mem_take_at hu
            rcases List.mem_cons.1 hz with rfl | hz
            · have := b3 (a + k) (by omega) (by omega)
              simp only [gy] at this
              rw [gL _ (by omega) (by omega), Nat.add_sub_cancel_left, Bool.not_eq_true'] at this
              exact r_of_nlt (hx _ (mem_at L k k2) z (by simp)) this
            · obtain ⟨k', k1', k2', rfl⟩ := mem_drop_at hz
              exact sorted_at sL (by omega) k2'
      · rw [if_neg c2]
        simp only
        have gL : ∀ h, a ≤ h → h < m → (P ++ (L ++ (R ++ S))).getD h 0 = L.getD (h - a) 0 := fun h h1 h2 => at_L P L R S h a ha h1 (by omega)
        have gR : ∀ h, m ≤ h → h < b → (P ++ (L ++ (R ++ S))).getD h 0 = R.getD (h - m) 0 := fun h h1 h2 => at_R P L R S h m (by omega) h1 (by omega)
        obtain ⟨mid, hmid⟩ : ∃ mid, mid = (a + b) / 2 := ⟨_, rfl⟩
        obtain ⟨n, hn⟩ : ∃ n, n = mid + m := ⟨_, rfl⟩
        rw [← hmid, ← hn]
        obtain ⟨s0, hs0⟩ : ∃ s0, s0 = (if mid < m then n - b else a) := ⟨_, rfl⟩
        obtain ⟨r0, hr0⟩ : ∃ r0, r0 = (if mid < m then mid else m) := ⟨_, rfl⟩
        rw [← hs0, ← hr0]
        have hb : (mid < m ∧ s0 = n - b ∧ r0 = mid) ∨ (m ≤ mid ∧ s0 = a ∧ r0 = m) := by
          by_cases c : mid < m
          · left; rw [if_pos c] at hs0 hr0; exact ⟨c, hs0, hr0⟩
          · right; rw [if_neg c] at hs0 hr0; exact ⟨by omega, hs0, hr0⟩
        have hb' := bsr_ok (fun c => !lt K ((P ++ (L ++ (R ++ S))).getD (n - 1 - c) 0) ((P ++ (L ++ (R ++ S))).getD c 0)) (r0 - s0) s0 r0 (Nat.le_refl _) (by omega) (by
          intro h k h1 h2 h3 h4
          (try simp only at h4 ⊢)
          rw [gL k (by omega) (by omega), gR (n - 1 - k) (by omega) (by omega)] at h4
          rw [gL h (by omega) (by omega), gR (n - 1 - h) (by omega) (by omega)]
          rw [Bool.not_eq_true', lt_false] at h4 ⊢
          have q1 := K_of_r (sorted_at sL (i := h - a) (j := k - a) (by omega) (by omega))
          have q2 := K_of_r (sorted_at sR (i := n - 1 - k - m) (j := n - 1 - h - m) (by omega) (by omega))
          omega)
        obtain ⟨b1, b2, b3, b4⟩ := hb'
        generalize bsr (fun c => !lt K ((P ++ (L ++ (R ++ S))).getD (n - 1 - c) 0) ((P ++ (L ++ (R ++ S))).getD c 0)) s0 r0 = st at *
        obtain ⟨e, he⟩ : ∃ e, e = n - st := ⟨_, rfl⟩
        rw [← he]
        obtain ⟨L1, hL1⟩ : ∃ L1, L1 = L.take (st - a) := ⟨_, rfl⟩
        obtain ⟨L2, hL2⟩ : ∃ L2, L2 = L.drop (st - a) := ⟨_, rfl⟩
        obtain ⟨R1, hR1⟩ : ∃ R1, R1 = R.take (e - m) := ⟨_, rfl⟩
        obtain ⟨R2, hR2⟩ : ∃ R2, R2 = R.drop (e - m) := ⟨_, rfl⟩
        have eL : L = L1 ++ L2 := by rw [hL1, hL2, List.take_append_drop]
        have eR : R = R1 ++ R2 := by rw [hR1, hR2, List.take_append_drop]
        have lL1 : L1.length = st - a := by rw [hL1]; simp; omega
        have lL2 : L2.length = m - st := by rw [hL2]; simp; omega
        have lR1 : R1.length = e - m := by rw [hR1]; simp; omega
        have lR2 : R2.length = b - e := by rw [hR2]; simp; omega
        -- what stands left stands ahead
        have x1 : ∀ x ∈ L1, ∀ y ∈ R2, r K x y := by
          intro x hxm y hym
          rw [hL1] at hxm; rw [hR2] at hym
          obtain ⟨i, i1, i2, rfl⟩ := mem_take_at hxm
          obtain ⟨j, j1, j2, rfl⟩ := mem_drop_at hym
          have := b3 (st - 1) (by omega) (by omega)
          (try simp only at this)
          rw [gL (st - 1) (by omega) (by omega), gR (n - 1 - (st - 1)) (by omega) (by omega), Bool.not_eq_true'] at this
          have q := r_of_nlt (hx _ (mem_at L (st - 1 - a) (by omega)) _ (mem_at R (n - 1 - (st - 1) - m) (by omega))) this
          have q1 : r K (L.getD i 0) (R.getD (n - 1 - (st - 1) - m) 0) := by
            rcases Nat.lt_or_ge i (st - 1 - a) with c | c
            · exact r_trans (sorted_at sL c (by omega)) q
            · obtain rfl : i = st - 1 - a := by omega
              exact q
          rcases Nat.lt_or_ge (n - 1 - (st - 1) - m) j with c | c
          · exact r_trans q1 (sorted_at sR c j2)
          · obtain rfl : j = n - 1 - (st - 1) - m := by omega
            exact q1
        have x2 : ∀ x ∈ R1, ∀ y ∈ L2, r K x y := by
          intro x hxm y hym
          rw [hR1] at hxm; rw [hL2] at hym
          obtain ⟨i, i1, i2, rfl⟩ := mem_take_at hxm
          obtain ⟨j, j1, j2, rfl⟩ := mem_drop_at hym
          have := b4 st (by omega) (by omega)
          (try simp only at this)
          rw [gL st (by omega) (by omega), gR (n - 1 - st) (by omega) (by omega), Bool.not_eq_false'] at this
          have q := lt_r this
          have q1 : r K (R.getD i 0) (L.getD (st - a) 0) := by
            rcases Nat.lt_or_ge i (n - 1 - st - m) with c | c
            · exact r_trans (sorted_at sR c (by omega)) q
            · obtain rfl : i = n - 1 - st - m := by omega
              exact q
          rcases Nat.lt_or_ge (st - a) j with c | c
          · exact r_trans q1 (sorted_at sL c j2)
          · obtain rfl : j = st - a := by omega
            exact q1
        have sL' : Sorted K (L1 ++ L2) := eL ▸ sL
        have sR' : Sorted K (R1 ++ R2) := eR ▸ sR
        have pL := List.pairwise_append.1 sL'
        have pR := List.pairwise_append.1 sR'
        have hx' : ∀ x ∈ L1 ++ L2, ∀ y ∈ R1 ++ R2, x < y := by rw [← eL, ← eR]; exact hx
        have f1 : (if st < m ∧ m < e then rotate st m e (P ++ (L ++ (R ++ S))) else P ++ (L ++ (R ++ S))) = P ++ (L1 ++ (R1 ++ (L2 ++ (R2 ++ S)))) := by
          rw [eL, eR]
          have h1 : P ++ (L1 ++ L2 ++ (R1 ++ R2 ++ S)) = (P ++ L1) ++ (L2 ++ (R1 ++ (R2 ++ S))) := by simp
          rw [h1]
          by_cases c : st < m ∧ m < e
          · rw [if_pos c, rotate_ok (P ++ L1) L2 R1 (R2 ++ S) (by omega) (by omega) st m e (by simp; omega) (by omega) (by omega)]; simp
          · rw [if_neg c]
            rcases Nat.lt_or_ge st m with c' | c'
            · have : R1 = [] := List.eq_nil_of_length_eq_zero (by omega)
              rw [this]; simp
            · have : L2 = [] := List.eq_nil_of_length_eq_zero (by omega)
              rw [this]; simp
        rw [f1]
        obtain ⟨M1, f2, p1, s1⟩ : ∃ M1, (if a < st ∧ st < mid then symM K f a st mid (P ++ (L1 ++ (R1 ++ (L2 ++ (R2 ++ S))))) else P ++ (L1 ++ (R1 ++ (L2 ++ (R2 ++ S))))) = P ++ (M1 ++ (L2 ++ (R2 ++ S))) ∧ M1.Perm (L1 ++ R1) ∧ Sorted K M1 := by
          by_cases c : a < st ∧ st < mid
          · rw [if_pos c]
            exact ih P L1 R1 (L2 ++ (R2 ++ S)) pL.1 pR.1 (fun x h1 y h2 => hx' x (by simp [h1]) y (by simp [h2])) (by omega) (by omega) a st mid ha (by omega) (by omega) (by omega)
          · rw [if_neg c]
            refine ⟨L1 ++ R1, by simp, List.Perm.refl _, ?_⟩
            rcases Nat.lt_or_ge a st with c' | c'
            · have : R1 = [] := List.eq_nil_of_length_eq_zero (by omega)
              rw [this, List.append_nil]; exact pL.1
            · have : L1 = [] := List.eq_nil_of_length_eq_zero (by omega)
              rw [this]; exact pR.1
        rw [f2]
        have lM1 : M1.length = mid - a := by rw [p1.length_eq]; simp; omega
        have h3 : P ++ (M1 ++ (L2 ++ (R2 ++ S))) = (P ++ M1) ++ (L2 ++ (R2 ++ S)) := by simp
        rw [h3]
        obtain ⟨M2, f3, p2, s2⟩ : ∃ M2, (if mid < e ∧ e < b then symM K f mid e b ((P ++ M1) ++ (L2 ++ (R2 ++ S))) else (P ++ M1) ++ (L2 ++ (R2 ++ S))) = (P ++ M1) ++ (M2 ++ S) ∧ M2.Perm (L2 ++ R2) ∧ Sorted K M2 := by
          by_cases c : mid < e ∧ e < b
          · rw [if_pos c]
            exact ih (P ++ M1) L2 R2 S pL.2.1 pR.2.1 (fun x h1 y h2 => hx' x (by simp [h1]) y (by simp [h2])) (by omega) (by omega) mid e b (by simp; omega) (by omega) (by omega) (by omega)
          · rw [if_neg c]
            refine ⟨L2 ++ R2, by simp, List.Perm.refl _, ?_⟩
            rcases Nat.lt_or_ge mid e with c' | c'
            · have : R2 = [] := List.eq_nil_of_length_eq_zero (by omega)
              rw [this, List.append_nil]; exact pL.2.1
            · have : L2 = [] := List.eq_nil_of_length_eq_zero (by omega)
              rw [this]; exact pR.2.1
        rw [f3]
        refine ⟨M1 ++ M2, by simp, ?_, ?_⟩
        · refine (p1.append p2).trans ?_
          rw [eL, eR]
          have : L1 ++ R1 ++ (L2 ++ R2) = L1 ++ ((R1 ++ L2) ++ R2) := by simp
          rw [this]
          have : L1 ++ L2 ++ (R1 ++ R2) = L1 ++ ((L2 ++ R1) ++ R2) := by simp
          rw [this]
          exact (List.perm_append_comm.append_right R2).append_left L1
        · refine sorted_glue s1 s2 ?_
          intro x hx1 y hy1
          rcases List.mem_append.1 (p1.subset hx1) with u | u <;> rcases List.mem_append.1 (p2.subset hy1) with v | v
          · exact pL.2.2 x u y v
          · exact x1 x u y v
          · exact x2 x u y v
          · exact pR.2.2 x u y v
end Go.Proofs.Ytknahgdeagcghaa.St
