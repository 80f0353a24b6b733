/- bytes.Trim of noughts; package slot's noughts. -/
import Derived.Test.YtipfgghdoicdhaaDoorRegL
namespace Go.Proofs.YtipfgghdoicdhaaDoor.W
open Go.RowKit
set_option linter.unusedVariables false
set_option linter.unusedSimpArgs false

def ltrim (l : List UInt8) : List UInt8 := l.dropWhile (· == 0)
def rtrim (l : List UInt8) : List UInt8 := (l.reverse.dropWhile (· == 0)).reverse
def allZ (l : List UInt8) : Bool := l.all (· == 0)
theorem ltrim_nil (l : List UInt8) : (ltrim l = []) ↔ allZ l = true := by
  unfold ltrim allZ
  induction l with
  | nil => simp
  | cons a l ih =>
    rw [List.dropWhile_cons, List.all_cons]
    by_cases h : (a == 0) = true
    · rw [if_pos h, ih, h, Bool.true_and]
    · rw [if_neg h]
      simp at h
      simp [h]
theorem allZ_rtrim (l : List UInt8) : allZ (rtrim l) = allZ l := by
  unfold rtrim allZ
  rw [List.all_reverse, ← List.all_reverse (l := l)]
  generalize l.reverse = m
  induction m with
  | nil => rfl
  | cons a m ih =>
    rw [List.dropWhile_cons]
    by_cases h : (a == 0) = true
    · rw [if_pos h, ih, List.all_cons, h, Bool.true_and]
    · rw [if_neg h]
theorem trimmed_len (l : List UInt8) : (ltrim (rtrim l)).length = 0 ↔ allZ l = true := by
  rw [List.length_eq_zero_iff, ltrim_nil, allZ_rtrim]
theorem ltrim_at (l : List UInt8) (k : Nat) (hk : k ≤ l.length) (hz : ∀ q, q < k → l.getD q 0 = 0) (hs : k < l.length → l.getD k 0 ≠ 0) : ltrim l = l.drop k := by
  induction l generalizing k with
  | nil => simp at hk; subst hk; rfl
  | cons a l ih =>
    unfold ltrim
    rw [List.dropWhile_cons]
    cases k with
    | zero =>
      have := hs (by simp)
      simp at this
      rw [if_neg (by simpa using this)]
      rfl
    | succ k =>
      have h0 := hz 0 (by omega)
      simp at h0
      rw [if_pos (by simpa using h0)]
      exact ih k (by simpa using hk) (fun q hq => by simpa using hz (q + 1) (by omega)) (fun h => by simpa using hs (by simpa using h))
theorem rtrim_at (l : List UInt8) (k : Nat) (hk : k ≤ l.length) (hz : ∀ q, k ≤ q → q < l.length → l.getD q 0 = 0) (hs : 0 < k → l.getD (k - 1) 0 ≠ 0) : rtrim l = l.take k := by
  unfold rtrim
  have hr : ∀ q, q < l.length → l.reverse.getD q 0 = l.getD (l.length - 1 - q) 0 := by
    intro q hq
    simp only [List.getD_eq_getElem?_getD]
    rw [List.getElem?_reverse hq]
  have h := ltrim_at l.reverse (l.length - k) (by simp) (fun q hq => by
    rw [hr q (by omega)]
    exact hz _ (by omega) (by omega)) (fun h => by
    simp at h
    rw [hr _ (by omega)]
    have : l.length - 1 - (l.length - k) = k - 1 := by omega
    rw [this]
    exact hs (by omega))
  unfold ltrim at h
  rw [h, List.reverse_drop]
  simp
  congr 1
  omega

theorem bv_eq_zero (a : UInt8) : (((a.toNat : Int) == 0) = true) ↔ a = 0 := by
  rw [beq_iff_eq]
  constructor
  · intro h; exact UInt8.toNat_inj.1 (by simpa using h)
  · rintro rfl; rfl

set_option maxHeartbeats 4000000 in
set_option maxRecDepth 100000 in
theorem trimL_any (v : Value) (l : List UInt8) (w : World) (h : BytesAt w v l) (hl : l.length ≤ 1000000000) :
    Calls Tryd.prog 83 #[v, .int .u8 0] w fun e w' => (∃ v', e = .returned v' ∧ BytesAt w v' (ltrim l)) ∧ w = w' := by
  obtain ⟨a, cap, rfl, h1, h2, h3⟩ := h
  unfold maxLen at h2
  by_cases hn : l = []
  · subst hn
    go_enter Tryd.func83, Tryd.ntmps83
    go_wp2
    go_loopg [0] 0 (fun g' s0 wr => ∃ a cap, s0 = .slice a 0 cap ∧ wr = w)
    case atStart => exact ⟨_, _, rfl, rfl⟩
    case round =>
      obtain ⟨a1, cap1, rfl, rfl⟩ := hrel
      go_wp2
      go_ret
      exact ⟨⟨_, rfl, BytesAt.nil _⟩, rfl⟩
  · rcases h3 with ⟨rfl, _⟩ | ⟨g, o, rfl, hc⟩
    · exact absurd rfl hn
    have HC := Lib.hid hc
    have hpos : 0 < l.length := List.length_pos_iff.2 hn
    clear hc hn
    go_enter Tryd.func83, Tryd.ntmps83
    go_wp2
    go_loopg [0] l.length (fun g' s0 wr => ∃ (k o' : Nat), s0 = .slice (some ⟨g, o', none⟩) (l.length - k) (cap - k) ∧ k ≤ l.length ∧ l.length ≤ k + g' ∧ (k < l.length → o' = o + k) ∧ Hid (∀ q, q < k → l.getD q 0 = 0) ∧ wr = w)
    case atStart => exact ⟨0, o, rfl, by omega, by omega, fun _ => rfl, Lib.hid (fun q hq => absurd hq (by omega)), rfl⟩
    case round =>
      obtain ⟨k, o', rfl, hk, hkg, ho, HZ, rfl⟩ := hrel
      by_cases hlt : k < l.length
      · obtain rfl := ho hlt
        have hcell := HC.out k hlt
        obtain ⟨x, hx⟩ : ∃ x, x = l.getD k 0 := ⟨_, rfl⟩
        rw [← hx] at hcell
        unfold bv at hcell
        have HX := Lib.hid hx
        clear hx ho
        obtain ⟨m, hm⟩ : ∃ m, m = l.length - k := ⟨_, rfl⟩
        obtain ⟨c, hcc⟩ : ∃ c, c = cap - k := ⟨_, rfl⟩
        rw [← hm, ← hcc]
        have hm1 : 1 ≤ m := by omega
        have hm2 : m ≤ c := by omega
        have hm3 : c ≤ 9223372036854775807 := by omega
        have HM := Lib.hid hm
        have HCC := Lib.hid hcc
        clear hm hcc
        have hmz : (0 : Int) < (m : Int) := by omega
        have hmd : decide ((m : Int) > 0) = true := decide_eq_true (by omega)
        have hmd2 : decide (0 < m) = true := decide_eq_true (by omega)
        by_cases hx0 : x = 0
        · have hq : (((x.toNat : Int)) == 0) = true := (bv_eq_zero x).2 hx0
          have HZ1 : Hid (∀ q, q < k + 1 → l.getD q 0 = 0) := Lib.hid (fun q hq => by
            rcases Nat.lt_or_ge q k with h | h
            · exact HZ.out q h
            · obtain rfl : q = k := by omega
              rw [← HX.out, hx0])
          clear hx0
          by_cases hc1 : c = 1
          · obtain rfl : m = 1 := by omega
            subst hc1
            go_wp2
            go_roundg (gk - 1)
            case measure => have := HM.out; omega
            case rel => exact ⟨k + 1, o + k, by rw [show l.length - (k + 1) = 0 by (have := HM.out; omega), show cap - (k + 1) = 0 by (have := HCC.out; omega)], by omega, by omega, fun h => by (have := HM.out; omega), HZ1, rfl⟩
          · go_wp2
            go_roundg (gk - 1)
            case measure => have := HM.out; omega
            case rel => exact ⟨k + 1, o + k + 1, by rw [show l.length - (k + 1) = m - 1 by (have := HM.out; omega), show cap - (k + 1) = c - 1 by (have := HCC.out; omega)], by omega, by omega, fun h => by omega, HZ1, rfl⟩
        · have hq : (((x.toNat : Int)) == 0) = false := by
            cases h : ((x.toNat : Int) == 0)
            · rfl
            · exact absurd ((bv_eq_zero x).1 h) hx0
          have HT : Hid (ltrim l = l.drop k) := Lib.hid (ltrim_at l k hk HZ.out (fun _ => by rw [← HX.out]; exact hx0))
          have hm0 : ((m : Int) == 0) = false := by simp; omega
          clear hx0
          go_wp2
          go_ret
          refine ⟨⟨_, rfl, ?_⟩, rfl⟩
          rw [HT.out, HM.out, HCC.out]
          refine ⟨_, cap - k, by rw [List.length_drop]; rfl, by rw [List.length_drop]; omega, by unfold maxLen; omega, .inr ⟨g, o + k, rfl, fun i hi => ?_⟩⟩
          rw [List.length_drop] at hi
          have hg : (l.drop k).getD i 0 = l.getD (k + i) 0 := by simp [List.getD_eq_getElem?_getD, List.getElem?_drop]
          rw [hg, Nat.add_assoc]
          exact HC.out (k + i) (by omega)
      · obtain rfl : k = l.length := by omega
        have HT : Hid (ltrim l = []) := Lib.hid (by rw [ltrim_at l l.length (Nat.le_refl _) HZ.out (fun h => absurd h (by omega))]; simp)
        rw [Nat.sub_self]
        clear ho
        go_wp2
        go_ret
        exact ⟨⟨_, rfl, by rw [HT.out]; exact BytesAt.nil _⟩, rfl⟩

set_option maxHeartbeats 4000000 in
set_option maxRecDepth 100000 in
theorem trimR_any (v : Value) (l : List UInt8) (w : World) (h : BytesAt w v l) (hl : l.length ≤ 1000000000) :
    Calls Tryd.prog 84 #[v, .int .u8 0] w fun e w' => (∃ v', e = .returned v' ∧ BytesAt w v' (rtrim l)) ∧ w = w' := by
  obtain ⟨a, cap, rfl, h1, h2, h3⟩ := h
  have HB := Lib.hid (show BytesAt w (.slice a l.length cap) l from ⟨a, cap, rfl, h1, h2, h3⟩)
  unfold maxLen at h2
  by_cases hn : l = []
  · subst hn
    go_enter Tryd.func84, Tryd.ntmps84
    go_wp2
    go_loopg [0] 0 (fun g' s0 wr => s0 = .slice a 0 cap ∧ wr = w)
    case atStart => exact ⟨rfl, rfl⟩
    case round =>
      obtain ⟨rfl, rfl⟩ := hrel
      go_wp2
      go_ret
      exact ⟨⟨_, rfl, HB.out⟩, rfl⟩
  · rcases h3 with ⟨rfl, _⟩ | ⟨g, o, rfl, hc⟩
    · exact absurd rfl hn
    have HC := Lib.hid hc
    have hpos : 0 < l.length := List.length_pos_iff.2 hn
    clear hc hn
    go_enter Tryd.func84, Tryd.ntmps84
    go_wp2
    go_loopg [0] l.length (fun g' s0 wr => ∃ (k : Nat), s0 = .slice (some ⟨g, o, none⟩) k cap ∧ k ≤ l.length ∧ k ≤ g' ∧ Hid (∀ q, k ≤ q → q < l.length → l.getD q 0 = 0) ∧ wr = w)
    case atStart => exact ⟨l.length, rfl, by omega, by omega, Lib.hid (fun q hq hq2 => absurd hq2 (by omega)), rfl⟩
    case round =>
      obtain ⟨k, rfl, hk, hkg, HZ, rfl⟩ := hrel
      cases k with
      | zero =>
        have HT : Hid (rtrim l = []) := Lib.hid (by rw [rtrim_at l 0 (by omega) HZ.out (fun h => absurd h (by omega))]; simp)
        go_wp2
        go_ret
        refine ⟨⟨_, rfl, ?_⟩, rfl⟩
        rw [HT.out]
        exact ⟨_, cap, rfl, by simp, by unfold maxLen; omega, .inr ⟨g, o, rfl, fun i hi => absurd hi (by simp)⟩⟩
      | succ k =>
        have hcell := HC.out k (by omega)
        obtain ⟨x, hx⟩ : ∃ x, x = l.getD k 0 := ⟨_, rfl⟩
        rw [← hx] at hcell
        unfold bv at hcell
        have HX := Lib.hid hx
        clear hx
        have hkz : ((k + 1 : Nat) : Int) - 1 = (k : Int) := by omega
        have hkc : k ≤ cap := by omega
        have hkt : (k : Int).toNat = k := by omega
        by_cases hx0 : x = 0
        · have hq : (((x.toNat : Int)) == 0) = true := (bv_eq_zero x).2 hx0
          have HZ1 : Hid (∀ q, k ≤ q → q < l.length → l.getD q 0 = 0) := Lib.hid (fun q hq hql => by
            rcases Nat.lt_or_ge k q with h | h
            · exact HZ.out q h hql
            · obtain rfl : q = k := by omega
              rw [← HX.out, hx0])
          clear hx0
          go_wp2
          go_roundg k
          case measure => omega
          case rel => exact ⟨k, rfl, by omega, by omega, HZ1, rfl⟩
        · have hq : (((x.toNat : Int)) == 0) = false := by
            cases h : ((x.toNat : Int) == 0)
            · rfl
            · exact absurd ((bv_eq_zero x).1 h) hx0
          have HT : Hid (rtrim l = l.take (k + 1)) := Lib.hid (rtrim_at l (k + 1) hk HZ.out (fun _ => by rw [show k + 1 - 1 = k by omega, ← HX.out]; exact hx0))
          clear hx0
          go_wp2
          go_ret
          refine ⟨⟨_, rfl, ?_⟩, rfl⟩
          rw [HT.out]
          have hlen : (l.take (k + 1)).length = k + 1 := by rw [List.length_take]; omega
          refine ⟨some ⟨g, o, none⟩, cap, by rw [hlen]; rfl, by omega, by unfold maxLen; omega, .inr ⟨g, o, rfl, fun i hi => ?_⟩⟩
          rw [hlen] at hi
          have hg : (l.take (k + 1)).getD i 0 = l.getD i 0 := by simp [List.getD_eq_getElem?_getD, List.getElem?_take, hi]
          rw [hg]
          exact HC.out i (by omega)

set_option maxHeartbeats 4000000 in
set_option maxRecDepth 100000 in
theorem trim_any (v : Value) (l : List UInt8) (w : World) (h : BytesAt w v l) (hl : l.length ≤ 1000000000) :
    Calls Tryd.prog 77 #[v, .string { data := #[0] }] w fun e w' => (∃ v', e = .returned v' ∧ BytesAt w v' (ltrim (rtrim l))) ∧ ∃ n, w' = w.drewN n := by
  have hdr : ∀ {u : Value} {m : List UInt8}, BytesAt w u m → BytesAt w.drew u m := fun h => h.keep (fun _ _ => rfl)
  have CR := Lib.hid (trimR_any v l w.drew (hdr h) hl)
  have hrl : (rtrim l).length ≤ l.length := by
    unfold rtrim
    rw [List.length_reverse]
    exact Nat.le_trans (List.Sublist.length_le (List.dropWhile_sublist _)) (by simp)
  have CL := Lib.hid (fun u (hu : BytesAt w.drew u (rtrim l)) => trimL_any u (rtrim l) w.drew hu (by omega))
  obtain ⟨a, cap, rfl, h1, h2, h3⟩ := h
  by_cases hn : l = []
  · subst hn
    go_enter Tryd.func77, Tryd.ntmps77
    go_wp2
    go_ret
    exact ⟨⟨_, rfl, by rw [show ltrim (rtrim []) = [] from rfl]; exact BytesAt.nil _⟩, 0, rfl⟩
  · have hpos : 0 < l.length := List.length_pos_iff.2 hn
    have hl0 : ((l.length : Int) == 0) = false := by simp; omega
    clear h3 hn hdr hrl
    go_enter Tryd.func77, Tryd.ntmps77
    go_wp2_with fail
    refine wp_region_L [] (by kernel_rfl) ?_ (fun hHeld => ?_)
    · exact HoldC.nil
    refine wpAnyL_take (i := 0) (oi := _) (v := ?_) rfl (by kernel_rfl) (by kernel_rfl) (by kernel_rfl) (by kernel_rfl) (by kernel_rfl) (fun _ _ _ h => h) (Or.inl ⟨by rfl, ?_⟩) (by assumption) (fun hNew => ?_)
    rotate_left
    · intro w _
      go_simp
      try with_reducible rfl
    clear hHeld
    have hHeld := hNew
    clear hNew
    try simp only [List.getElem_toArray, List.getElem_cons_succ, List.getElem_cons_zero, Act.put, List.setIfInBounds_toArray, List.set_cons_zero, List.set_cons_succ]
    refine wpAnyL_take (i := 1) (oi := _) (v := ?_) rfl (by kernel_rfl) (by kernel_rfl) (by kernel_rfl) (by kernel_rfl) (by kernel_rfl) (fun _ _ _ h => h) (Or.inl ⟨by rfl, ?_⟩) (by assumption) (fun hNew => ?_)
    rotate_left
    · intro w _
      go_simp
      try with_reducible rfl
    clear hHeld
    have hHeld := hNew
    clear hNew
    try simp only [List.getElem_toArray, List.getElem_cons_succ, List.getElem_cons_zero, Act.put, List.setIfInBounds_toArray, List.set_cons_zero, List.set_cons_succ]
    refine wpAnyL_take (i := 2) (oi := _) (v := ?_) rfl (by kernel_rfl) (by kernel_rfl) (by kernel_rfl) (by kernel_rfl) (by kernel_rfl) (fun _ _ _ h => h) (Or.inl ⟨by rfl, ?_⟩) (by assumption) (fun hNew => ?_)
    rotate_left
    · intro w _
      go_simp
      try with_reducible rfl
    clear hHeld
    have hHeld := hNew
    clear hNew
    try simp only [List.getElem_toArray, List.getElem_cons_succ, List.getElem_cons_zero, Act.put, List.setIfInBounds_toArray, List.set_cons_zero, List.set_cons_succ]
    refine wpAnyL_take (i := 4) (oi := _) (v := ?_) rfl (by kernel_rfl) (by kernel_rfl) (by kernel_rfl) (by kernel_rfl) (by kernel_rfl) (fun _ _ _ h => h) (Or.inl ⟨by rfl, ?_⟩) (by assumption) (fun hNew => ?_)
    rotate_left
    · intro w _
      go_simp
      try with_reducible rfl
    clear hHeld
    have hHeld := hNew
    clear hNew
    try simp only [List.getElem_toArray, List.getElem_cons_succ, List.getElem_cons_zero, Act.put, List.setIfInBounds_toArray, List.set_cons_zero, List.set_cons_succ]
    refine wpAnyL_take (i := 5) (oi := _) (v := ?_) rfl (by kernel_rfl) (by kernel_rfl) (by kernel_rfl) (by kernel_rfl) (by kernel_rfl) (fun _ _ _ h => h) (Or.inl ⟨by rfl, ?_⟩) (by assumption) (fun hNew => ?_)
    rotate_left
    · intro w _
      go_simp
      try with_reducible rfl
    clear hHeld
    have hHeld := hNew
    clear hNew
    try simp only [List.getElem_toArray, List.getElem_cons_succ, List.getElem_cons_zero, Act.put, List.setIfInBounds_toArray, List.set_cons_zero, List.set_cons_succ]
    refine wpAnyL_ready (rs := [3]) (by kernel_rfl) (by simp) ?_
    refine AllReadyL.cons (o := _) rfl (fun K hK => ?_) AllReadyL.nil
    try simp only [List.getElem_toArray, List.getElem_cons_succ, List.getElem_cons_zero]
    go_simp
    refine CR.out.mono ?_
    rintro e w' ⟨⟨v1, rfl, hv1⟩, hq⟩
    subst hq
    try go_wp2_with fail
    clear hHeld
    refine hK.out _ _ ?_ (fun hHeld => ?_)
    · exact HoldC.nil
    clear hK K
    try simp only [List.getElem_toArray, List.getElem_cons_succ, List.getElem_cons_zero, Act.put, List.setIfInBounds_toArray, List.set_cons_zero, List.set_cons_succ]
    refine wpAnyL_ready (rs := [6]) (by kernel_rfl) (by simp) ?_
    refine AllReadyL.cons (o := _) rfl (fun K hK => ?_) AllReadyL.nil
    try simp only [List.getElem_toArray, List.getElem_cons_succ, List.getElem_cons_zero]
    go_simp
    refine (CL.out v1 hv1).mono ?_
    rintro e w' ⟨⟨v2, rfl, hv2⟩, hq⟩
    subst hq
    try go_wp2_with fail
    clear hHeld
    refine hK.out _ _ ?_ (fun hHeld => ?_)
    · exact HoldC.nil
    clear hK K
    try simp only [List.getElem_toArray, List.getElem_cons_succ, List.getElem_cons_zero, Act.put, List.setIfInBounds_toArray, List.set_cons_zero, List.set_cons_succ]
    refine wpAnyL_take (i := 7) (oi := _) (v := ?_) rfl (by kernel_rfl) (by kernel_rfl) (by kernel_rfl) (by kernel_rfl) (by kernel_rfl) (fun _ _ _ h => h) (Or.inl ⟨by rfl, ?_⟩) (by assumption) (fun hNew => ?_)
    rotate_left
    · intro w _
      go_simp
      try with_reducible rfl
    clear hHeld
    have hHeld := hNew
    clear hNew
    try simp only [List.getElem_toArray, List.getElem_cons_succ, List.getElem_cons_zero, Act.put, List.setIfInBounds_toArray, List.set_cons_zero, List.set_cons_succ]
    refine wpAnyL_done (by kernel_rfl) ?_ _
    clear hHeld
    have HV2 := Lib.hid hv2
    clear hv1 hv2 CR CL
    go_wp2
    go_ret
    exact ⟨⟨v2, rfl, HV2.out.keep (fun _ _ => rfl)⟩, 1, rfl⟩

set_option maxHeartbeats 4000000 in
set_option maxRecDepth 100000 in
theorem noughts_any (v : Value) (l : List UInt8) (w : World) (h : BytesAt w v l) (hl : l.length ≤ 1000000000) :
    Calls Tryd.prog 63 #[v] w fun e w' => e = .returned (.bool (allZ l)) ∧ ∃ n, w' = w.drewN n := by
  have CT := Lib.hid (trim_any v l w h hl)
  have hz := trimmed_len l
  have HZ : Hid ((((ltrim (rtrim l)).length : Int) == 0) = allZ l) := Lib.hid (by
    rw [Bool.eq_iff_iff, ← hz]
    simp)
  clear hz h
  go_enter Tryd.func63, Tryd.ntmps63
  go_wp2_with fail
  refine CT.out.mono ?_
  rintro e w' ⟨⟨v1, rfl, a, cap, rfl, _⟩, n, rfl⟩
  clear CT
  go_wp2
  go_ret
  exact ⟨by rw [← HZ.out]; rfl, n, rfl⟩
end Go.Proofs.YtipfgghdoicdhaaDoor.W
