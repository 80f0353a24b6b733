/- Package slot: Used, Key, Free, Find; bytes.Equal. -/
import Derived.Test.YtipfgghdoicdhaaDoorS0
import Derived.Laws.IdiomStrings
import Derived.Laws.BytesArg
namespace Go.Proofs.YtipfgghdoicdhaaDoor.W
open Go.RowKit
set_option linter.unusedVariables false
set_option linter.unusedSimpArgs false

theorem SS.used_true {s : SS} {i : Int} (h : s.has i) : s.used i = (s.row i).used := by unfold SS.used; rw [decide_eq_true h, Bool.true_and]
theorem SS.used_false {s : SS} {i : Int} (h : ¬ s.has i) : s.used i = false := by unfold SS.used; rw [decide_eq_false h, Bool.false_and]

set_option maxHeartbeats 2000000 in
set_option maxRecDepth 100000 in
theorem sused_any (q p : Nat) (U : List Nat) (s : SS) (i : Int) (w : World) (h : SlotsAt w q p U s) : Calls Tryd.prog 24 #[.pointer (some ⟨q, 0, none⟩), .int .i64 i] w fun e w' => e = .returned (.bool (s.used i)) ∧ w = w' := by
  have CH := Lib.hid (shas_any q p U s i w h)
  by_cases hi : s.has i
  · rw [decide_eq_true hi] at CH
    obtain ⟨S, rv, R, H⟩ := h
    obtain ⟨h0, h1⟩ := hi
    obtain ⟨j, rfl⟩ := Int.eq_ofNat_of_zero_le h0
    obtain ⟨g, cap, kv, hrv, hcap, hcm, hR, k0, k1, k2, k3, k4⟩ := H.at j (by omega)
    have c2 := blk_cell H.obj.head 2 _ rfl
    subst hrv
    have HX : Hid (s.used (j : Int) = (s.rows.getD j noRow).used) := Lib.hid (by rw [SS.used_true ⟨h0, h1⟩]; rfl)
    rw [HX.out]
    generalize s.rows.getD j noRow = r at *
    generalize s.rows.length = n at *
    have hjz : (j : Int) < (n : Int) := h1
    have hjz1 : (j : Int).toNat = j := by omega
    clear H hR k3 k4
    go_enter Tryd.func24, Tryd.ntmps24
    go_wp2_with (go_at_call 49; refine CH.out.mono ?_; rintro e w' ⟨rfl, hq⟩; subst hq)
    go_ret
    exact ⟨rfl, rfl⟩
  · rw [decide_eq_false hi] at CH
    rw [SS.used_false hi]
    clear hi h
    go_enter Tryd.func24, Tryd.ntmps24
    go_wp2_with (go_at_call 49; refine CH.out.mono ?_; rintro e w' ⟨rfl, hq⟩; subst hq)
    go_ret
    exact ⟨rfl, rfl⟩

set_option maxHeartbeats 2000000 in
set_option maxRecDepth 100000 in
theorem skey_any (q p : Nat) (U : List Nat) (s : SS) (i : Int) (w : World) (h : SlotsAt w q p U s) : Calls Tryd.prog 47 #[.pointer (some ⟨q, 0, none⟩), .int .i64 i] w fun e w' => (∃ v, e = .returned v ∧ BRow w' v (s.key i)) ∧ Chg [] w w' := by
  have CU := Lib.hid (sused_any q p U s i w h)
  by_cases hu : s.used i = true
  · have hi : s.has i := by
      by_cases hi : s.has i
      · exact hi
      · rw [SS.used_false hi] at hu; cases hu
    have hk : s.key i = (s.row i).key := by unfold SS.key; rw [if_pos hu]
    rw [hu] at CU
    obtain ⟨S, rv, R, H⟩ := h
    obtain ⟨h0, h1⟩ := hi
    obtain ⟨j, rfl⟩ := Int.eq_ofNat_of_zero_le h0
    obtain ⟨g, cap, kv, hrv, hcap, hcm, hR, k0, k1, k2, k3, k4⟩ := H.at j (by omega)
    have c2 := blk_cell H.obj.head 2 _ rfl
    subst hrv
    have hkl : (s.rows.getD j noRow).key.length ≤ 40 := by
      rw [List.getD_eq_getElem?_getD, List.getElem?_eq_getElem (show j < s.rows.length by omega)]
      exact (H.ok.rows _ (List.getElem_mem _)).2
    have CC := Lib.hid (clone_any kv _ w k3 (by omega))
    have HX : Hid (s.key (j : Int) = (s.rows.getD j noRow).key) := Lib.hid (by rw [hk]; rfl)
    rw [HX.out]
    generalize s.rows.getD j noRow = r at *
    generalize s.rows.length = n at *
    have hjz : (j : Int) < (n : Int) := h1
    have hjz1 : (j : Int).toNat = j := by omega
    obtain ⟨ak, ck, hkv⟩ := k3.slice
    subst hkv
    clear H hR k3 k4 hu hk hkl
    go_enter Tryd.func47, Tryd.ntmps47
    go_wp2_with (go_at_call 24; refine CU.out.mono ?_; rintro e w' ⟨rfl, hq⟩; subst hq)
    refine CC.out.mono ?_
    rintro e w1 ⟨v1, rfl, hr, hn, hc⟩
    have HR := Lib.hid (And.intro hr hc)
    clear hr hn hc CC
    go_wp2
    go_ret
    exact ⟨⟨_, rfl, HR.out.1⟩, HR.out.2⟩
  · have hu' : s.used i = false := by simpa using hu
    have hk : s.key i = [] := by unfold SS.key; rw [if_neg hu]
    rw [hu'] at CU
    rw [hk]
    clear hu hu' hk h
    go_enter Tryd.func47, Tryd.ntmps47
    go_wp2_with (go_at_call 24; refine CU.out.mono ?_; rintro e w' ⟨rfl, hq⟩; subst hq)
    go_ret
    exact ⟨⟨_, rfl, BRow.nil _⟩, Chg.refl _ _⟩

theorem rowFree_cons (r : SRow) (l : List SRow) (k : Nat) : rowFree (r :: l) k = if r.used = false then (k : Int) else rowFree l (k + 1) := rfl
theorem rowFind_cons (key : List UInt8) (r : SRow) (l : List SRow) (k : Nat) : rowFind key (r :: l) k = if r.used && decide (r.key = key) then (k : Int) else rowFind key l (k + 1) := rfl
theorem rowFree_drop (l : List SRow) (k : Nat) (hk : k ≤ l.length) (h : ∀ q, q < k → (l.getD q noRow).used = true) : ∀ j, rowFree l j = rowFree (l.drop k) (j + k) := by
  induction l generalizing k with
  | nil => intro j; simp at hk; subst hk; rfl
  | cons r l ih =>
    intro j
    cases k with
    | zero => rfl
    | succ k =>
      have h0 := h 0 (by omega)
      simp at h0
      rw [List.drop_succ_cons, rowFree_cons, if_neg (by simp [h0]), ih k (by simpa using hk) (fun q hq => by simpa using h (q + 1) (by omega)) (j + 1), show j + 1 + k = j + (k + 1) by omega]
theorem rowFind_drop (key : List UInt8) (l : List SRow) (k : Nat) (hk : k ≤ l.length) (h : ∀ q, q < k → ((l.getD q noRow).used && decide ((l.getD q noRow).key = key)) = false) : ∀ j, rowFind key l j = rowFind key (l.drop k) (j + k) := by
  induction l generalizing k with
  | nil => intro j; simp at hk; subst hk; rfl
  | cons r l ih =>
    intro j
    cases k with
    | zero => rfl
    | succ k =>
      have h0 : (r.used && decide (r.key = key)) = false := by simpa using h 0 (by omega)
      rw [List.drop_succ_cons, rowFind_cons, if_neg (by rw [h0]; simp), ih k (by simpa using hk) (fun q hq => by simpa using h (q + 1) (by omega)) (j + 1), show j + 1 + k = j + (k + 1) by omega]

set_option maxHeartbeats 4000000 in
set_option maxRecDepth 100000 in
theorem sfree_any (q p : Nat) (U : List Nat) (s : SS) (w : World) (h : SlotsAt w q p U s) : Calls Tryd.prog 20 #[.pointer (some ⟨q, 0, none⟩)] w fun e w' => e = .returned (.int .i64 s.free) ∧ w = w' := by
  have CC := Lib.hid (scount_any q p U s w h)
  obtain ⟨S, rv, R, H⟩ := h
  have HH := Lib.hid H
  obtain ⟨a, cap0, hrv, hcap⟩ := H.form
  have c2 := blk_cell H.obj.head 2 _ rfl
  have hfew := H.few
  obtain ⟨n, hn⟩ : ∃ n, n = s.rows.length := ⟨_, rfl⟩
  rw [← hn] at CC hrv hcap
  have HN := Lib.hid hn
  have HRV := Lib.hid hrv
  subst hrv
  have hnf : n ≤ 1000 := by omega
  clear H hfew hn
  go_enter Tryd.func20, Tryd.ntmps20
  go_wp2_with (go_at_call 22; refine CC.out.mono ?_; rintro e w' ⟨rfl, hq⟩; subst hq)
  go_loop [6] (fun i => ∃ k : Nat, k ≤ n ∧ i = .int .i64 k ∧ Hid (∀ x, x < k → (s.rows.getD x noRow).used = true)) (fun i => n - (intOf i).toNat)
  case atStart => exact ⟨0, Nat.zero_le _, rfl, Lib.hid (fun q hq => absurd hq (by omega))⟩
  case round =>
    obtain ⟨k, hk, rfl, HZ⟩ := hrel
    by_cases hlt : k < n
    · obtain ⟨g, cap, kv, hrv2, hcap2, hcm, hR, k0, k1, k2, k3, k4⟩ := HH.out.at k (by rw [← HN.out]; exact hlt)
      have hF := rowFree_drop s.rows k (by rw [← HN.out]; omega) HZ.out 0
      rw [List.drop_eq_getElem_cons (by rw [← HN.out]; exact hlt)] at hF
      have hge : s.rows.getD k noRow = s.rows[k]'(by rw [← HN.out]; exact hlt) := by rw [List.getD_eq_getElem?_getD, List.getElem?_eq_getElem]; rfl
      rw [← hge] at hF
      have HRK : Hid (s.rows.getD k noRow = s.rows.getD k noRow) := Lib.hid rfl
      rw [← HN.out] at hrv2
      obtain ⟨rfl, rfl⟩ : a = some ⟨g, 0, none⟩ ∧ cap0 = cap := by
        have := Value.slice.inj hrv2
        exact ⟨this.1, this.2.2⟩
      have hkz : (k : Int) < (n : Int) := by omega
      have hkz1 : (k : Int).toNat = k := by omega
      have hu : ∃ u, u = (s.rows.getD k noRow).used := ⟨_, rfl⟩
      obtain ⟨u, hu⟩ := hu
      rw [← hu] at k0
      have HU := Lib.hid hu
      have HF := Lib.hid hF
      clear hu hF hge hrv2 hR k1 k2 k3 k4
      cases u
      · have HX : Hid (s.free = (k : Int)) := Lib.hid (by
          unfold SS.free
          rw [HF.out, rowFree_cons]
          rw [if_pos HU.out.symm]
          simp)
        go_wp2
        go_ret
        exact ⟨by rw [HX.out]; rfl, rfl⟩
      · have HZ1 : Hid (∀ x, x < k + 1 → (s.rows.getD x noRow).used = true) := Lib.hid (fun x hx => by
          rcases Nat.lt_or_ge x k with h | h
          · exact HZ.out x h
          · obtain rfl : x = k := by omega
            exact HU.out.symm)
        go_wp2
        go_round
        case rel => exact ⟨k + 1, by omega, by go_num, HZ1⟩
        case measure => simp [intOf]; omega
    · have hkn : k = n := by omega
      have HX : Hid (s.free = -1) := Lib.hid (by
        unfold SS.free
        rw [rowFree_drop s.rows k (by rw [hkn, HN.out]; exact Nat.le_refl _) HZ.out 0, List.drop_of_length_le (by rw [hkn, HN.out]; exact Nat.le_refl _)]
        rfl)
      clear hkn
      go_wp2
      go_ret
      exact ⟨by rw [HX.out]; rfl, rfl⟩

theorem bytes_string (w : World) (v : Value) (l : List UInt8) (h : BytesAt w v l) : (convert 31 9 v).run Tryd.prog w = .ok (.string ⟨l.toArray⟩) w := by
  obtain ⟨a, cap, rfl, h1, h2, h3⟩ := h
  rcases h3 with ⟨rfl, rfl⟩ | ⟨g, o, rfl, hc⟩
  · cases a with
    | none => exact run_convert_bytes_nil w 31 5 Tryd.underlying31 Tryd.underlying5 _ _ 9 Tryd.underlying9
    | some a => exact run_convert_bytes_back w 31 9 5 a 0 [] Tryd.underlying31 Tryd.underlying5 Tryd.underlying9 (fun j hj => absurd hj (by simp))
  · refine run_convert_bytes_back w 31 9 5 ⟨g, o, none⟩ cap l Tryd.underlying31 Tryd.underlying5 Tryd.underlying9 (fun j hj => ?_)
    rw [add_none, hc j hj, List.getD_eq_getElem?_getD, List.getElem?_eq_getElem hj]
    rfl

set_option maxHeartbeats 2000000 in
set_option maxRecDepth 100000 in
theorem equal_any (u v : Value) (l m : List UInt8) (w : World) (hu : BytesAt w u l) (hv : BytesAt w v m) :
    Calls Tryd.prog 62 #[u, v] w fun e w' => e = .returned (.bool (decide (l = m))) ∧ w = w' := by
  have h1 := bytes_string w u l hu
  have h2 := bytes_string w v m hv
  clear hu hv
  go_enter Tryd.func62, Tryd.ntmps62
  go_wp2
  go_ret
  exact ⟨ret_bool (show (l == m) = decide (l = m) by rw [Bool.eq_iff_iff]; simp), rfl⟩

set_option maxHeartbeats 4000000 in
set_option maxRecDepth 100000 in
theorem sfind_any (q p : Nat) (U : List Nat) (s : SS) (kv0 : Value) (key : List UInt8) (w : World) (h : SlotsAt w q p U s) (hk0 : BytesAt w kv0 key) : Calls Tryd.prog 34 #[.pointer (some ⟨q, 0, none⟩), kv0] w fun e w' => e = .returned (.int .i64 (s.find key)) ∧ w = w' := by
  have CC := Lib.hid (scount_any q p U s w h)
  obtain ⟨S, rv, R, H⟩ := h
  have HH := Lib.hid H
  obtain ⟨a, cap0, hrv, hcap⟩ := H.form
  have c2 := blk_cell H.obj.head 2 _ rfl
  have hfew := H.few
  have HK0 := Lib.hid hk0
  obtain ⟨n, hn⟩ : ∃ n, n = s.rows.length := ⟨_, rfl⟩
  rw [← hn] at CC hrv hcap
  have HN := Lib.hid hn
  have HRV := Lib.hid hrv
  subst hrv
  have hnf : n ≤ 1000 := by omega
  clear H hfew hn hk0
  go_enter Tryd.func34, Tryd.ntmps34
  go_wp2_with (go_at_call 22; refine CC.out.mono ?_; rintro e w' ⟨rfl, hq⟩; subst hq)
  go_loop [8] (fun i => ∃ k : Nat, k ≤ n ∧ i = .int .i64 k ∧ Hid (∀ x, x < k → ((s.rows.getD x noRow).used && decide ((s.rows.getD x noRow).key = key)) = false)) (fun i => n - (intOf i).toNat)
  case atStart => exact ⟨0, Nat.zero_le _, rfl, Lib.hid (fun q hq => absurd hq (by omega))⟩
  case round =>
    obtain ⟨k, hk, rfl, HZ⟩ := hrel
    by_cases hlt : k < n
    · obtain ⟨g, cap, kv, hrv2, hcap2, hcm, hR, k0, k1, k2, k3, k4⟩ := HH.out.at k (by rw [← HN.out]; exact hlt)
      have hF := rowFind_drop key s.rows k (by rw [← HN.out]; omega) HZ.out 0
      rw [List.drop_eq_getElem_cons (by rw [← HN.out]; exact hlt)] at hF
      have hge : s.rows.getD k noRow = s.rows[k]'(by rw [← HN.out]; exact hlt) := by rw [List.getD_eq_getElem?_getD, List.getElem?_eq_getElem]; rfl
      rw [← hge] at hF
      rw [← HN.out] at hrv2
      obtain ⟨rfl, rfl⟩ : a = some ⟨g, 0, none⟩ ∧ cap0 = cap := by
        have := Value.slice.inj hrv2
        exact ⟨this.1, this.2.2⟩
      have hkz : (k : Int) < (n : Int) := by omega
      have hkz1 : (k : Int).toNat = k := by omega
      obtain ⟨u, hu⟩ : ∃ u, u = (s.rows.getD k noRow).used := ⟨_, rfl⟩
      rw [← hu] at k0
      have HU := Lib.hid hu
      have HF := Lib.hid hF
      have CE := Lib.hid (equal_any kv kv0 _ key w k3 HK0.out)
      obtain ⟨ak, ck, hkv⟩ := k3.slice
      subst hkv
      clear hu hF hge hrv2 hR k1 k3 k4
      have stepZ : ((s.rows.getD k noRow).used && decide ((s.rows.getD k noRow).key = key)) = false → Hid (∀ x, x < k + 1 → ((s.rows.getD x noRow).used && decide ((s.rows.getD x noRow).key = key)) = false) := fun h9 => Lib.hid (fun x hx => by
        rcases Nat.lt_or_ge x k with h | h
        · exact HZ.out x h
        · obtain rfl : x = k := by omega
          exact h9)
      have HS := Lib.hid stepZ
      clear stepZ
      cases u
      · have HZ1 := HS.out (by rw [← HU.out]; rfl)
        clear CE
        go_wp2
        go_round
        case rel => exact ⟨k + 1, by omega, by go_num, HZ1⟩
        case measure => simp [intOf]; omega
      · by_cases he : (s.rows.getD k noRow).key = key
        · rw [decide_eq_true he] at CE
          have HX : Hid (s.find key = (k : Int)) := Lib.hid (by
            unfold SS.find
            rw [HF.out, rowFind_cons, if_pos (by rw [← HU.out, decide_eq_true he]; rfl)]
            simp)
          clear he
          go_wp2_with (go_at_call 62; refine CE.out.mono ?_; rintro e w' ⟨rfl, hq⟩; subst hq)
          go_ret
          exact ⟨by rw [HX.out]; rfl, rfl⟩
        · rw [decide_eq_false he] at CE
          have HZ1 := HS.out (by rw [decide_eq_false he, Bool.and_false])
          clear he
          go_wp2_with (go_at_call 62; refine CE.out.mono ?_; rintro e w' ⟨rfl, hq⟩; subst hq)
          go_round
          case rel => exact ⟨k + 1, by omega, by go_num, HZ1⟩
          case measure => simp [intOf]; omega
    · have hkn : k = n := by omega
      have HX : Hid (s.find key = -1) := Lib.hid (by
        unfold SS.find
        rw [rowFind_drop key s.rows k (by rw [hkn, HN.out]; exact Nat.le_refl _) HZ.out 0, List.drop_of_length_le (by rw [hkn, HN.out]; exact Nat.le_refl _)]
        rfl)
      clear hkn
      go_wp2
      go_ret
      exact ⟨by rw [HX.out]; rfl, rfl⟩
end Go.Proofs.YtipfgghdoicdhaaDoor.W
