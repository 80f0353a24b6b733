/- Texts laid together. -/
import Derived.Test.YtipfgghdoicdhaaDoorPB4
import Derived.Test.YtipfgghdoicdhaaDoorPB3
import Derived.Deep.MidRow
import Derived.Test.YtipfgghdoicdhaaDoorPB2
import Derived.Test.YtipfgghdoicdhaaDoorPB1
import Derived.LoopTactic
/- The law's looks. -/
namespace Go.Proofs.YtipfgghdoicdhaaDoor.W
open Go.RowKit
set_option linter.unusedVariables false
set_option linter.unusedSimpArgs false

def SS.Tidy (s : SS) : Prop := ∀ r ∈ s.rows, r.used = false → r.key = []
theorem SS.get_len {s : SS} (h : s.Ok) (i : Int) : (s.get i).1.length ≤ 448 := by
  unfold SS.get
  split
  · simp
  · split
    · simp
    · split
      · simp
      · rename_i hi _ _
        unfold SS.data
        rw [List.length_take]
        have hi : s.has i := by simpa using hi
        have hl : i.toNat < s.rows.length := by
          have := hi.1
          have := hi.2
          omega
        have : (s.row i).n ≤ 448 := by
          unfold SS.row
          rw [List.getD_eq_getElem?_getD, List.getElem?_eq_getElem hl]
          exact (h.rows _ (List.getElem_mem hl)).1
        omega
theorem SS.key_row {s : SS} (ht : s.Tidy) (j : Nat) (hj : j < s.rows.length) : s.key (j : Int) = (s.rows.getD j noRow).key ∧ s.used (j : Int) = (s.rows.getD j noRow).used := by
  have hh : s.has (j : Int) := ⟨by omega, by omega⟩
  have hr : s.row (j : Int) = s.rows.getD j noRow := rfl
  have hm : s.rows.getD j noRow ∈ s.rows := by rw [List.getD_eq_getElem?_getD, List.getElem?_eq_getElem hj]; exact List.getElem_mem hj
  refine ⟨?_, by rw [SS.used_true hh, hr]⟩
  unfold SS.key
  rw [SS.used_true hh, hr]
  by_cases hu : (s.rows.getD j noRow).used = true
  · rw [if_pos hu]
  · rw [if_neg hu]
    exact (ht _ hm (by simpa using hu)).symm
theorem SlotsAt.okk {w : World} {q p : Nat} {U : List Nat} {s : SS} (h : SlotsAt w q p U s) : s.Ok := by
  obtain ⟨S, rv, R, H⟩ := h
  exact H.ok

set_option maxHeartbeats 16000000 in
set_option maxRecDepth 100000 in
theorem looks_any (q p q2 m : Nat) (U W A : List Nat) (s : SS) (w : World) (hS : SlotsAt w q p U s) (hR : RSlotsAt w q2 m W A s) (ht : s.Tidy) :
    Calls Tryd.prog 16 #[.pointer (some ⟨q, 0, none⟩), .pointer (some ⟨q2, 0, none⟩)] w fun e w' => e = .returned (.bool true) ∧ Chg [] w w' := by
  have hcd : Chg [] w w.drew := by exact (Chg.refl [] w).drew
  have CC := Lib.hid (scount_any q p U s w.drew (hS.keep0 hcd))
  have CF := Lib.hid (sfree_any q p U s w.drew (hS.keep0 hcd))
  have CRF := Lib.hid (rfree_any q2 m W A s w.drew (hR.keep hcd (by simp)))
  have HS := Lib.hid hS
  have HR := Lib.hid hR
  have HT := Lib.hid ht
  have hok := hS.okk
  have HOK := Lib.hid hok
  obtain ⟨V, F, rv, R, H⟩ := hR
  obtain ⟨a0, cap0, hrv0, hcap0⟩ := H.form
  have hfew := H.few
  have c2 : w.cell? ⟨q2, 2, none⟩ = some rv := blk_cell H.obj.head 2 _ rfl
  obtain ⟨n, hn⟩ : ∃ n, n = s.rows.length := ⟨_, rfl⟩
  rw [← hn] at hrv0 hcap0 hfew CC
  have HN := Lib.hid hn
  have hn1 : n ≤ 1000 := by omega
  have HH := Lib.hid H
  have HRV := Lib.hid hrv0
  subst hrv0
  clear hS ht H hn hok hcd hfew
  have HC2 := Lib.hid c2
  go_enter Tryd.func16, Tryd.ntmps16
  go_wp2_with fail
  refine wp_region_L [(10, fun w' => w'.cell? ⟨q2, 2, none⟩ = some (.slice a0 n cap0))] (by kernel_rfl) ?_ (fun hHeld => ?_)
  · exact (HoldC.cons (c2) HoldC.nil)
  refine wpAnyL_take (i := 0) (oi := _) (v := ?_) rfl (by kernel_rfl) (by kernel_rfl) (by kernel_rfl) (by kernel_rfl) (by kernel_rfl) (fun _ _ _ h => h) (Or.inl ⟨by rfl, ?_⟩) (by assumption) (fun hNew => ?_)
  rotate_left
  · intro w _
    go_simp
    try with_reducible rfl
  clear hHeld
  have hHeld := hNew
  clear hNew
  try simp only [List.getElem_toArray, List.getElem_cons_succ, List.getElem_cons_zero, Act.put, List.setIfInBounds_toArray, List.set_cons_zero, List.set_cons_succ]
  refine wpAnyL_take (i := 2) (oi := _) (v := ?_) rfl (by kernel_rfl) (by kernel_rfl) (by kernel_rfl) (by kernel_rfl) (by kernel_rfl) (fun _ _ _ h => h) (Or.inl ⟨by rfl, ?_⟩) (by assumption) (fun hNew => ?_)
  rotate_left
  · intro w _
    go_simp
    try with_reducible rfl
  clear hHeld
  have hHeld := hNew
  clear hNew
  try simp only [List.getElem_toArray, List.getElem_cons_succ, List.getElem_cons_zero, Act.put, List.setIfInBounds_toArray, List.set_cons_zero, List.set_cons_succ]
  refine wpAnyL_take (i := 3) (oi := _) (v := ?_) rfl (by kernel_rfl) (by kernel_rfl) (by kernel_rfl) (by kernel_rfl) (by kernel_rfl) (fun _ _ _ h => h) (Or.inl ⟨by rfl, ?_⟩) (by assumption) (fun hNew => ?_)
  rotate_left
  · intro w _
    go_simp
    try with_reducible rfl
  clear hHeld
  have hHeld := hNew
  clear hNew
  try simp only [List.getElem_toArray, List.getElem_cons_succ, List.getElem_cons_zero, Act.put, List.setIfInBounds_toArray, List.set_cons_zero, List.set_cons_succ]
  refine wpAnyL_take (i := 4) (oi := _) (v := ?_) rfl (by kernel_rfl) (by kernel_rfl) (by kernel_rfl) (by kernel_rfl) (by kernel_rfl) (fun _ _ _ h => h) (Or.inl ⟨by rfl, ?_⟩) (by assumption) (fun hNew => ?_)
  rotate_left
  · intro w _
    go_simp
    try with_reducible rfl
  clear hHeld
  have hHeld := hNew
  clear hNew
  try simp only [List.getElem_toArray, List.getElem_cons_succ, List.getElem_cons_zero, Act.put, List.setIfInBounds_toArray, List.set_cons_zero, List.set_cons_succ]
  refine wpAnyL_load 0 (i := 5) (oi := _) (v := ?_) rfl rfl (by kernel_rfl) (by kernel_rfl) (by kernel_rfl) (by kernel_rfl) (by kernel_rfl) (by kernel_rfl) (fun _ _ _ h => h) (Or.inl ⟨by rfl, ?_⟩) (by assumption) (fun hNew => ?_)
  rotate_left
  · intro w hSw
    (try dsimp only at hSw)
    go_simp
    try with_reducible rfl
  clear hHeld
  have hHeld := hNew
  clear hNew
  try simp only [List.getElem_toArray, List.getElem_cons_succ, List.getElem_cons_zero, Act.put, List.setIfInBounds_toArray, List.set_cons_zero, List.set_cons_succ]
  refine wpAnyL_take (i := 6) (oi := _) (v := ?_) rfl (by kernel_rfl) (by kernel_rfl) (by kernel_rfl) (by kernel_rfl) (by kernel_rfl) (fun _ _ _ h => h) (Or.inl ⟨by rfl, ?_⟩) (by assumption) (fun hNew => ?_)
  rotate_left
  · intro w _
    go_simp
    try with_reducible rfl
  clear hHeld
  have hHeld := hNew
  clear hNew
  try simp only [List.getElem_toArray, List.getElem_cons_succ, List.getElem_cons_zero, Act.put, List.setIfInBounds_toArray, List.set_cons_zero, List.set_cons_succ]
  refine wpAnyL_ready (rs := [1]) (by kernel_rfl) (by simp) ?_
  refine AllReadyL.cons (o := _) rfl (fun K hK => ?_) AllReadyL.nil
  try simp only [List.getElem_toArray, List.getElem_cons_succ, List.getElem_cons_zero]
  go_simp
  refine CC.out.mono ?_
  rintro e w' ⟨rfl, hq⟩
  subst hq
  try go_wp2_with fail
  clear hHeld
  refine hK.out _ _ ?_ (fun hHeld => ?_)
  · exact (HoldC.cons (c2) HoldC.nil)
  clear hK K
  try simp only [List.getElem_toArray, List.getElem_cons_succ, List.getElem_cons_zero, Act.put, List.setIfInBounds_toArray, List.set_cons_zero, List.set_cons_succ]
  refine wpAnyL_take (i := 7) (oi := _) (v := ?_) rfl (by kernel_rfl) (by kernel_rfl) (by kernel_rfl) (by kernel_rfl) (by kernel_rfl) (fun _ _ _ h => h) (Or.inl ⟨by rfl, ?_⟩) (by assumption) (fun hNew => ?_)
  rotate_left
  · intro w _
    go_simp
    try with_reducible rfl
  clear hHeld
  have hHeld := hNew
  clear hNew
  try simp only [List.getElem_toArray, List.getElem_cons_succ, List.getElem_cons_zero, Act.put, List.setIfInBounds_toArray, List.set_cons_zero, List.set_cons_succ]
  refine wpAnyL_take (i := 8) (oi := _) (v := ?_) rfl (by kernel_rfl) (by kernel_rfl) (by kernel_rfl) (by kernel_rfl) (by kernel_rfl) (fun _ _ _ h => h) (Or.inl ⟨by rfl, ?_⟩) (by assumption) (fun hNew => ?_)
  rotate_left
  · intro w _
    go_simp
    try with_reducible rfl
  clear hHeld
  have hHeld := hNew
  clear hNew
  try simp only [List.getElem_toArray, List.getElem_cons_succ, List.getElem_cons_zero, Act.put, List.setIfInBounds_toArray, List.set_cons_zero, List.set_cons_succ]
  refine wpAnyL_take (i := 9) (oi := _) (v := ?_) rfl (by kernel_rfl) (by kernel_rfl) (by kernel_rfl) (by kernel_rfl) (by kernel_rfl) (fun _ _ _ h => h) (Or.inl ⟨by rfl, ?_⟩) (by assumption) (fun hNew => ?_)
  rotate_left
  · intro w _
    go_simp
    try with_reducible rfl
  clear hHeld
  have hHeld := hNew
  clear hNew
  try simp only [List.getElem_toArray, List.getElem_cons_succ, List.getElem_cons_zero, Act.put, List.setIfInBounds_toArray, List.set_cons_zero, List.set_cons_succ]
  refine wpAnyL_take (i := 11) (oi := _) (v := ?_) rfl (by kernel_rfl) (by kernel_rfl) (by kernel_rfl) (by kernel_rfl) (by kernel_rfl) (fun _ _ _ h => h) (Or.inl ⟨by rfl, ?_⟩) (by assumption) (fun hNew => ?_)
  rotate_left
  · intro w _
    go_simp
    try with_reducible rfl
  clear hHeld
  have hHeld := hNew
  clear hNew
  try simp only [List.getElem_toArray, List.getElem_cons_succ, List.getElem_cons_zero, Act.put, List.setIfInBounds_toArray, List.set_cons_zero, List.set_cons_succ]
  refine wpAnyL_ready (rs := [10]) (by kernel_rfl) (by simp) ?_
  refine AllReadyL.cons (o := _) rfl (fun K hK => ?_) AllReadyL.nil
  try simp only [List.getElem_toArray, List.getElem_cons_succ, List.getElem_cons_zero]
  go_simp
  refine CF.out.mono ?_
  rintro e w' ⟨rfl, hq⟩
  subst hq
  try go_wp2_with fail
  clear hHeld
  refine hK.out _ _ ?_ (fun hHeld => ?_)
  · exact (HoldC.past (by kernel_rfl) HoldC.nil)
  clear hK K
  try simp only [List.getElem_toArray, List.getElem_cons_succ, List.getElem_cons_zero, Act.put, List.setIfInBounds_toArray, List.set_cons_zero, List.set_cons_succ]
  refine wpAnyL_ready (rs := [12]) (by kernel_rfl) (by simp) ?_
  refine AllReadyL.cons (o := _) rfl (fun K hK => ?_) AllReadyL.nil
  try simp only [List.getElem_toArray, List.getElem_cons_succ, List.getElem_cons_zero]
  go_simp
  refine CRF.out.mono ?_
  rintro e w' ⟨rfl, hq⟩
  subst hq
  try go_wp2_with fail
  clear hHeld
  refine hK.out _ _ ?_ (fun hHeld => ?_)
  · exact (HoldC.past (by kernel_rfl) HoldC.nil)
  clear hK K
  try simp only [List.getElem_toArray, List.getElem_cons_succ, List.getElem_cons_zero, Act.put, List.setIfInBounds_toArray, List.set_cons_zero, List.set_cons_succ]
  refine wpAnyL_take (i := 13) (oi := _) (v := ?_) rfl (by kernel_rfl) (by kernel_rfl) (by kernel_rfl) (by kernel_rfl) (by kernel_rfl) (fun _ _ _ h => h) (Or.inl ⟨by rfl, ?_⟩) (by assumption) (fun hNew => ?_)
  rotate_left
  · intro w _
    go_simp
    try with_reducible rfl
  clear hHeld
  have hHeld := hNew
  clear hNew
  try simp only [List.getElem_toArray, List.getElem_cons_succ, List.getElem_cons_zero, Act.put, List.setIfInBounds_toArray, List.set_cons_zero, List.set_cons_succ]
  refine wpAnyL_take (i := 14) (oi := _) (v := ?_) rfl (by kernel_rfl) (by kernel_rfl) (by kernel_rfl) (by kernel_rfl) (by kernel_rfl) (fun _ _ _ h => h) (Or.inl ⟨by rfl, ?_⟩) (by assumption) (fun hNew => ?_)
  rotate_left
  · intro w _
    go_simp
    try with_reducible rfl
  clear hHeld
  have hHeld := hNew
  clear hNew
  try simp only [List.getElem_toArray, List.getElem_cons_succ, List.getElem_cons_zero, Act.put, List.setIfInBounds_toArray, List.set_cons_zero, List.set_cons_succ]
  refine wpAnyL_done (by kernel_rfl) ?_ _
  clear hHeld
  clear CC CF CRF c2
  go_wp2_with fail
  go_loopg [5, 6, 7, 8, 9] (n + 2) (fun g' s5 s6 s7 s8 s9 wr => ∃ k : Nat, s5 = .int .i64 ((k : Int) - 1) ∧ k ≤ n + 2 ∧ n + 2 ≤ k + g' ∧ Hid (Chg [] w wr))
  case atStart => exact ⟨0, rfl, by omega, by omega, Lib.hid ((by exact (Chg.refl [] w).drew))⟩
  case round =>
    obtain ⟨k, rfl, hk, hkg, HC⟩ := hrel
    have c2 := HC.out.cell HC2.out (by simp)
    by_cases hlt : k ≤ n + 1
    · have hle : decide ((k : Int) - 1 ≤ (n : Int)) = true := decide_eq_true (by omega)
      have CG := Lib.hid (sget_any q p U s ((k : Int) - 1) wr (HS.out.keep0 HC.out))
      have CRG := Lib.hid (fun w1 (h : Chg [] w w1) => rget_any q2 m W A s ((k : Int) - 1) w1 (HR.out.keep h (by simp)))
      have hgl := SS.get_len HOK.out ((k : Int) - 1)
      obtain ⟨rg, hrg⟩ : ∃ rg, rg = s.get ((k : Int) - 1) := ⟨_, rfl⟩
      rw [← hrg] at CG CRG hgl
      obtain ⟨gb, ge⟩ := rg
      dsimp only at hgl
      clear hrg
      go_wp2_with fail
      refine CG.out.mono ?_
      rintro e w1 ⟨⟨v1, rfl, hb1, ho1⟩, hc1⟩
      have HB1 := Lib.hid hb1
      have HC1 := Lib.hid (HC.out.trans hc1 (by simp))
      clear hb1 ho1 hc1 CG
      go_wp2_with fail
      refine (CRG.out w1 HC1.out).mono ?_
      rintro e w2 ⟨⟨v2, rfl, hb2, ho2⟩, hc2⟩
      have HB2 := Lib.hid hb2
      have HC3 := Lib.hid (HC1.out.trans hc2 (by simp))
      have CSM := Lib.hid (same_any v1 v2 gb gb w2 (HB1.out.chg hc2 (by simp)) hb2 (by omega) (by omega))
      rw [decide_eq_true rfl] at CSM
      clear hb2 ho2 hc2 CRG
      go_wp2_with fail
      refine CSM.out.mono ?_
      rintro e w3 ⟨rfl, nn, hq⟩
      have HC4 : Hid (Chg [] w w3) := Lib.hid (by rw [hq]; exact HC3.out.drewN nn)
      clear hq CSM HC3 HB2 HB1 HC1 c2 HC
      have c2 := HC4.out.cell HC2.out (by simp)
      have hS3 := HS.out.keep0 HC4.out
      have hR3 := HH.out.keep HC4.out (by simp)
      by_cases hin : 1 ≤ k ∧ k < n + 1
      · obtain ⟨j, rfl⟩ : ∃ j, k = j + 1 := ⟨k - 1, by omega⟩
        have hjn : j < n := by omega
        have hjl : j < s.rows.length := by rw [← HN.out]; exact hjn
        obtain ⟨g, cap, kv, hrv, hcap, hcm, k0, k1, _, k3, k4⟩ := hR3.at j hjl
        obtain ⟨hky, hus⟩ := SS.key_row HT.out j hjl
        rw [← HN.out] at hrv
        obtain ⟨rfl, rfl⟩ : a0 = some ⟨g, 0, none⟩ ∧ cap0 = cap := by
          have := Value.slice.inj hrv
          exact ⟨this.1, this.2.2⟩
        have hcd3 : Chg [] w3 w3.drew := by exact (Chg.refl [] w3).drew
        have hS4 := hS3.keep0 hcd3
        have CU := Lib.hid (sused_any q p U s (j : Int) w3.drew hS4)
        have CK := Lib.hid (skey_any q p U s (j : Int) w3.drew hS4)
        rw [hus] at CU
        rw [hky] at CK
        have hkl : (s.rows.getD j noRow).key.length ≤ 40 := by
          rw [List.getD_eq_getElem?_getD, List.getElem?_eq_getElem hjl]
          exact (HOK.out.rows _ (List.getElem_mem _)).2
        generalize s.rows.getD j noRow = r at *
        obtain ⟨ru, rn, rk⟩ := r
        dsimp only at CU CK k0 k1 k3 hkl
        have HK3 := Lib.hid k3
        have hjz : (j : Int) < (n : Int) := by omega
        have hjz1 : (j : Int).toNat = j := by omega
        have hj1 : ((j + 1 : Nat) : Int) - 1 = (j : Int) := by omega
        have q0 : decide ((j : Int) < 0) = false := decide_eq_false (by omega)
        have q1 : ((j : Int) == (n : Int)) = false := by simp; omega
        obtain ⟨ak, ck, hkv⟩ := k3.slice
        subst hkv
        clear hky hus hrv hcm k3 k4 hS3 hS4 hR3 hcd3 hin
        rw [hj1]
        go_wp2_with fail
        refine wp_region_L [(15, fun w' => w'.cell? ⟨q2, 2, none⟩ = some (.slice (some ⟨g, 0, none⟩) n cap0)), (15, fun w' => w'.cell? ⟨g, j * 3, none⟩ = some (.bool ru)), (24, fun w' => w'.cell? ⟨q2, 2, none⟩ = some (.slice (some ⟨g, 0, none⟩) n cap0)), (24, fun w' => w'.cell? ⟨g, j * 3 + 1, none⟩ = some (.slice ak rk.length ck)), (37, fun w' => w'.cell? ⟨q2, 2, none⟩ = some (.slice (some ⟨g, 0, none⟩) n cap0)), (37, fun w' => w'.cell? ⟨g, j * 3 + 1, none⟩ = some (.slice ak rk.length ck)), (47, fun w' => w'.cell? ⟨q2, 2, none⟩ = some (.slice (some ⟨g, 0, none⟩) n cap0)), (47, fun w' => w'.cell? ⟨g, j * 3 + 1, none⟩ = some (.slice ak rk.length ck))] (by kernel_rfl) ?_ (fun hHeld => ?_)
        · exact (HoldC.cons (c2) (HoldC.cons (k0) (HoldC.cons (c2) (HoldC.cons (k1) (HoldC.cons (c2) (HoldC.cons (k1) (HoldC.cons (c2) (HoldC.cons (k1) HoldC.nil))))))))
        refine wpAnyL_take (i := 0) (oi := _) (v := ?_) rfl (by kernel_rfl) (by kernel_rfl) (by kernel_rfl) (by kernel_rfl) (by kernel_rfl) (fun _ _ _ h => h) (Or.inl ⟨by rfl, ?_⟩) (by assumption) (fun hNew => ?_)
        rotate_left
        · intro w _
          go_simp
          try with_reducible rfl
        clear hHeld
        have hHeld := hNew
        clear hNew
        try simp only [List.getElem_toArray, List.getElem_cons_succ, List.getElem_cons_zero, Act.put, List.setIfInBounds_toArray, List.set_cons_zero, List.set_cons_succ]
        refine wpAnyL_take (i := 1) (oi := _) (v := ?_) rfl (by kernel_rfl) (by kernel_rfl) (by kernel_rfl) (by kernel_rfl) (by kernel_rfl) (fun _ _ _ h => h) (Or.inl ⟨by rfl, ?_⟩) (by assumption) (fun hNew => ?_)
        rotate_left
        · intro w _
          go_simp
          try with_reducible rfl
        clear hHeld
        have hHeld := hNew
        clear hNew
        try simp only [List.getElem_toArray, List.getElem_cons_succ, List.getElem_cons_zero, Act.put, List.setIfInBounds_toArray, List.set_cons_zero, List.set_cons_succ]
        refine wpAnyL_take (i := 3) (oi := _) (v := ?_) rfl (by kernel_rfl) (by kernel_rfl) (by kernel_rfl) (by kernel_rfl) (by kernel_rfl) (fun _ _ _ h => h) (Or.inl ⟨by rfl, ?_⟩) (by assumption) (fun hNew => ?_)
        rotate_left
        · intro w _
          go_simp
          try with_reducible rfl
        clear hHeld
        have hHeld := hNew
        clear hNew
        try simp only [List.getElem_toArray, List.getElem_cons_succ, List.getElem_cons_zero, Act.put, List.setIfInBounds_toArray, List.set_cons_zero, List.set_cons_succ]
        refine wpAnyL_take (i := 4) (oi := _) (v := ?_) rfl (by kernel_rfl) (by kernel_rfl) (by kernel_rfl) (by kernel_rfl) (by kernel_rfl) (fun _ _ _ h => h) (Or.inl ⟨by rfl, ?_⟩) (by assumption) (fun hNew => ?_)
        rotate_left
        · intro w _
          go_simp
          try with_reducible rfl
        clear hHeld
        have hHeld := hNew
        clear hNew
        try simp only [List.getElem_toArray, List.getElem_cons_succ, List.getElem_cons_zero, Act.put, List.setIfInBounds_toArray, List.set_cons_zero, List.set_cons_succ]
        refine wpAnyL_take (i := 5) (oi := _) (v := ?_) rfl (by kernel_rfl) (by kernel_rfl) (by kernel_rfl) (by kernel_rfl) (by kernel_rfl) (fun _ _ _ h => h) (Or.inl ⟨by rfl, ?_⟩) (by assumption) (fun hNew => ?_)
        rotate_left
        · intro w _
          go_simp
          try with_reducible rfl
        clear hHeld
        have hHeld := hNew
        clear hNew
        try simp only [List.getElem_toArray, List.getElem_cons_succ, List.getElem_cons_zero, Act.put, List.setIfInBounds_toArray, List.set_cons_zero, List.set_cons_succ]
        refine wpAnyL_take (i := 7) (oi := _) (v := ?_) rfl (by kernel_rfl) (by kernel_rfl) (by kernel_rfl) (by kernel_rfl) (by kernel_rfl) (fun _ _ _ h => h) (Or.inl ⟨by rfl, ?_⟩) (by assumption) (fun hNew => ?_)
        rotate_left
        · intro w _
          go_simp
          try with_reducible rfl
        clear hHeld
        have hHeld := hNew
        clear hNew
        try simp only [List.getElem_toArray, List.getElem_cons_succ, List.getElem_cons_zero, Act.put, List.setIfInBounds_toArray, List.set_cons_zero, List.set_cons_succ]
        refine wpAnyL_loadP 0 [12, 11, 10, 9, 8] (i := 6) (oi := _) (v := ?_) rfl rfl (by kernel_rfl) (by kernel_rfl) (by kernel_rfl) (by kernel_rfl) (by kernel_rfl) (by kernel_rfl) (fun _ _ _ h => h) (Or.inl ⟨by rfl, ?_⟩) (by assumption) (fun hNew => ?_)
        rotate_left
        · intro w hSw
          (try dsimp only at hSw)
          go_simp
          try with_reducible rfl
        clear hHeld
        have hHeld := hNew
        clear hNew
        try simp only [List.getElem_toArray, List.getElem_cons_succ, List.getElem_cons_zero, Act.put, List.setIfInBounds_toArray, List.set_cons_zero, List.set_cons_succ]
        refine wpAnyL_take (i := 8) (oi := _) (v := ?_) rfl (by kernel_rfl) (by kernel_rfl) (by kernel_rfl) (by kernel_rfl) (by kernel_rfl) (fun _ _ _ h => h) (Or.inl ⟨by rfl, ?_⟩) (by assumption) (fun hNew => ?_)
        rotate_left
        · intro w _
          go_simp
          try with_reducible rfl
        clear hHeld
        have hHeld := hNew
        clear hNew
        try simp only [List.getElem_toArray, List.getElem_cons_succ, List.getElem_cons_zero, Act.put, List.setIfInBounds_toArray, List.set_cons_zero, List.set_cons_succ]
        refine wpAnyL_take (i := 9) (oi := _) (v := ?_) rfl (by kernel_rfl) (by kernel_rfl) (by kernel_rfl) (by kernel_rfl) (by kernel_rfl) (fun _ _ _ h => h) (Or.inl ⟨by rfl, ?_⟩) (by assumption) (fun hNew => ?_)
        rotate_left
        · intro w _
          go_simp
          try with_reducible rfl
        clear hHeld
        have hHeld := hNew
        clear hNew
        try simp only [List.getElem_toArray, List.getElem_cons_succ, List.getElem_cons_zero, Act.put, List.setIfInBounds_toArray, List.set_cons_zero, List.set_cons_succ]
        refine wpAnyL_loadP 1 [12, 11] (i := 10) (oi := _) (v := ?_) rfl rfl (by kernel_rfl) (by kernel_rfl) (by kernel_rfl) (by kernel_rfl) (by kernel_rfl) (by kernel_rfl) (fun _ _ _ h => h) (Or.inl ⟨by rfl, ?_⟩) (by assumption) (fun hNew => ?_)
        rotate_left
        · intro w hSw
          (try dsimp only at hSw)
          go_simp
          try with_reducible rfl
        clear hHeld
        have hHeld := hNew
        clear hNew
        try simp only [List.getElem_toArray, List.getElem_cons_succ, List.getElem_cons_zero, Act.put, List.setIfInBounds_toArray, List.set_cons_zero, List.set_cons_succ]
        refine wpAnyL_ready (rs := [2]) (by kernel_rfl) (by simp) ?_
        refine AllReadyL.cons (o := _) rfl (fun K hK => ?_) AllReadyL.nil
        try simp only [List.getElem_toArray, List.getElem_cons_succ, List.getElem_cons_zero]
        go_simp
        refine CU.out.mono ?_
        rintro e w' ⟨rfl, hq⟩
        subst hq
        try go_wp2_with fail
        clear hHeld
        refine hK.out _ _ ?_ (fun hHeld => ?_)
        · exact (HoldC.cons (c2) (HoldC.cons (k0) (HoldC.cons (c2) (HoldC.cons (k1) (HoldC.cons (c2) (HoldC.cons (k1) (HoldC.cons (c2) (HoldC.cons (k1) HoldC.nil))))))))
        clear hK K
        try simp only [List.getElem_toArray, List.getElem_cons_succ, List.getElem_cons_zero, Act.put, List.setIfInBounds_toArray, List.set_cons_zero, List.set_cons_succ]
        refine wpAnyL_take (i := 11) (oi := _) (v := ?_) rfl (by kernel_rfl) (by kernel_rfl) (by kernel_rfl) (by kernel_rfl) (by kernel_rfl) (fun _ _ _ h => h) (Or.inl ⟨by rfl, ?_⟩) (by assumption) (fun hNew => ?_)
        rotate_left
        · intro w _
          go_simp
          try with_reducible rfl
        clear hHeld
        have hHeld := hNew
        clear hNew
        try simp only [List.getElem_toArray, List.getElem_cons_succ, List.getElem_cons_zero, Act.put, List.setIfInBounds_toArray, List.set_cons_zero, List.set_cons_succ]
        refine wpAnyL_take (i := 12) (oi := _) (v := ?_) rfl (by kernel_rfl) (by kernel_rfl) (by kernel_rfl) (by kernel_rfl) (by kernel_rfl) (fun _ _ _ h => h) (Or.inl ⟨by rfl, ?_⟩) (by assumption) (fun hNew => ?_)
        rotate_left
        · intro w _
          go_simp
          try with_reducible rfl
        clear hHeld
        have hHeld := hNew
        clear hNew
        try simp only [List.getElem_toArray, List.getElem_cons_succ, List.getElem_cons_zero, Act.put, List.setIfInBounds_toArray, List.set_cons_zero, List.set_cons_succ]
        refine wpAnyL_take (i := 13) (oi := _) (v := ?_) rfl (by kernel_rfl) (by kernel_rfl) (by kernel_rfl) (by kernel_rfl) (by kernel_rfl) (fun _ _ _ h => h) (Or.inl ⟨by rfl, ?_⟩) (by assumption) (fun hNew => ?_)
        rotate_left
        · intro w _
          go_simp
          try with_reducible rfl
        clear hHeld
        have hHeld := hNew
        clear hNew
        try simp only [List.getElem_toArray, List.getElem_cons_succ, List.getElem_cons_zero, Act.put, List.setIfInBounds_toArray, List.set_cons_zero, List.set_cons_succ]
        refine wpAnyL_take (i := 14) (oi := _) (v := ?_) rfl (by kernel_rfl) (by kernel_rfl) (by kernel_rfl) (by kernel_rfl) (by kernel_rfl) (fun _ _ _ h => h) (Or.inl ⟨by rfl, ?_⟩) (by assumption) (fun hNew => ?_)
        rotate_left
        · intro w _
          go_simp
          try with_reducible rfl
        clear hHeld
        have hHeld := hNew
        clear hNew
        try simp only [List.getElem_toArray, List.getElem_cons_succ, List.getElem_cons_zero, Act.put, List.setIfInBounds_toArray, List.set_cons_zero, List.set_cons_succ]
        refine wpAnyL_take (i := 16) (oi := _) (v := ?_) rfl (by kernel_rfl) (by kernel_rfl) (by kernel_rfl) (by kernel_rfl) (by kernel_rfl) (fun _ _ _ h => h) (Or.inl ⟨by rfl, ?_⟩) (by assumption) (fun hNew => ?_)
        rotate_left
        · intro w _
          go_simp
          try with_reducible rfl
        clear hHeld
        have hHeld := hNew
        clear hNew
        try simp only [List.getElem_toArray, List.getElem_cons_succ, List.getElem_cons_zero, Act.put, List.setIfInBounds_toArray, List.set_cons_zero, List.set_cons_succ]
        refine wpAnyL_take (i := 17) (oi := _) (v := ?_) rfl (by kernel_rfl) (by kernel_rfl) (by kernel_rfl) (by kernel_rfl) (by kernel_rfl) (fun _ _ _ h => h) (Or.inl ⟨by rfl, ?_⟩) (by assumption) (fun hNew => ?_)
        rotate_left
        · intro w _
          go_simp
          try with_reducible rfl
        clear hHeld
        have hHeld := hNew
        clear hNew
        try simp only [List.getElem_toArray, List.getElem_cons_succ, List.getElem_cons_zero, Act.put, List.setIfInBounds_toArray, List.set_cons_zero, List.set_cons_succ]
        refine wpAnyL_take (i := 18) (oi := _) (v := ?_) rfl (by kernel_rfl) (by kernel_rfl) (by kernel_rfl) (by kernel_rfl) (by kernel_rfl) (fun _ _ _ h => h) (Or.inl ⟨by rfl, ?_⟩) (by assumption) (fun hNew => ?_)
        rotate_left
        · intro w _
          go_simp
          try with_reducible rfl
        clear hHeld
        have hHeld := hNew
        clear hNew
        try simp only [List.getElem_toArray, List.getElem_cons_succ, List.getElem_cons_zero, Act.put, List.setIfInBounds_toArray, List.set_cons_zero, List.set_cons_succ]
        refine wpAnyL_take (i := 20) (oi := _) (v := ?_) rfl (by kernel_rfl) (by kernel_rfl) (by kernel_rfl) (by kernel_rfl) (by kernel_rfl) (fun _ _ _ h => h) (Or.inl ⟨by rfl, ?_⟩) (by assumption) (fun hNew => ?_)
        rotate_left
        · intro w _
          go_simp
          try with_reducible rfl
        clear hHeld
        have hHeld := hNew
        clear hNew
        try simp only [List.getElem_toArray, List.getElem_cons_succ, List.getElem_cons_zero, Act.put, List.setIfInBounds_toArray, List.set_cons_zero, List.set_cons_succ]
        refine wpAnyL_loadP 2 [23, 22, 21] (i := 19) (oi := _) (v := ?_) rfl rfl (by kernel_rfl) (by kernel_rfl) (by kernel_rfl) (by kernel_rfl) (by kernel_rfl) (by kernel_rfl) (fun _ _ _ h => h) (Or.inl ⟨by rfl, ?_⟩) (by assumption) (fun hNew => ?_)
        rotate_left
        · intro w hSw
          (try dsimp only at hSw)
          go_simp
          try with_reducible rfl
        clear hHeld
        have hHeld := hNew
        clear hNew
        try simp only [List.getElem_toArray, List.getElem_cons_succ, List.getElem_cons_zero, Act.put, List.setIfInBounds_toArray, List.set_cons_zero, List.set_cons_succ]
        refine wpAnyL_take (i := 21) (oi := _) (v := ?_) rfl (by kernel_rfl) (by kernel_rfl) (by kernel_rfl) (by kernel_rfl) (by kernel_rfl) (fun _ _ _ h => h) (Or.inl ⟨by rfl, ?_⟩) (by assumption) (fun hNew => ?_)
        rotate_left
        · intro w _
          go_simp
          try with_reducible rfl
        clear hHeld
        have hHeld := hNew
        clear hNew
        try simp only [List.getElem_toArray, List.getElem_cons_succ, List.getElem_cons_zero, Act.put, List.setIfInBounds_toArray, List.set_cons_zero, List.set_cons_succ]
        refine wpAnyL_take (i := 22) (oi := _) (v := ?_) rfl (by kernel_rfl) (by kernel_rfl) (by kernel_rfl) (by kernel_rfl) (by kernel_rfl) (fun _ _ _ h => h) (Or.inl ⟨by rfl, ?_⟩) (by assumption) (fun hNew => ?_)
        rotate_left
        · intro w _
          go_simp
          try with_reducible rfl
        clear hHeld
        have hHeld := hNew
        clear hNew
        try simp only [List.getElem_toArray, List.getElem_cons_succ, List.getElem_cons_zero, Act.put, List.setIfInBounds_toArray, List.set_cons_zero, List.set_cons_succ]
        refine wpAnyL_loadP 3 [] (i := 23) (oi := _) (v := ?_) rfl rfl (by kernel_rfl) (by kernel_rfl) (by kernel_rfl) (by kernel_rfl) (by kernel_rfl) (by kernel_rfl) (fun _ _ _ h => h) (Or.inl ⟨by rfl, ?_⟩) (by assumption) (fun hNew => ?_)
        rotate_left
        · intro w hSw
          (try dsimp only at hSw)
          go_simp
          try with_reducible rfl
        clear hHeld
        have hHeld := hNew
        clear hNew
        try simp only [List.getElem_toArray, List.getElem_cons_succ, List.getElem_cons_zero, Act.put, List.setIfInBounds_toArray, List.set_cons_zero, List.set_cons_succ]
        refine wpAnyL_ready (rs := [15]) (by kernel_rfl) (by simp) ?_
        refine AllReadyL.cons (o := _) rfl (fun K hK => ?_) AllReadyL.nil
        try simp only [List.getElem_toArray, List.getElem_cons_succ, List.getElem_cons_zero]
        go_simp
        refine CK.out.mono ?_
        rintro e w4 ⟨⟨v4, rfl, hb4⟩, hc4⟩
        have hc4' : Chg [] w3 w4 := (by exact (Chg.refl [] w3).drew : Chg [] w3 w3.drew).trans hc4 (by simp)
        have CS2 := Lib.hid (same_any v4 (.slice ak rk.length ck) rk rk w4 hb4.bytes (HK3.out.chg hc4' (by simp)) (by omega) (by omega))
        rw [decide_eq_true rfl] at CS2
        have d2 := hc4'.cell c2 (by simp)
        have d1 := hc4'.cell k1 (by simp)
        have HC5 := Lib.hid hc4'
        clear hb4 hc4 hc4' CK CU
        try go_wp2_with fail
        clear hHeld
        refine hK.out _ _ ?_ (fun hHeld => ?_)
        · exact (HoldC.past (by kernel_rfl) (HoldC.past (by kernel_rfl) (HoldC.cons (d2) (HoldC.cons (d1) (HoldC.cons (d2) (HoldC.cons (d1) (HoldC.cons (d2) (HoldC.cons (d1) HoldC.nil))))))))
        clear hK K
        try simp only [List.getElem_toArray, List.getElem_cons_succ, List.getElem_cons_zero, Act.put, List.setIfInBounds_toArray, List.set_cons_zero, List.set_cons_succ]
        refine wpAnyL_ready (rs := [24]) (by kernel_rfl) (by simp) ?_
        refine AllReadyL.cons (o := _) rfl (fun K hK => ?_) AllReadyL.nil
        try simp only [List.getElem_toArray, List.getElem_cons_succ, List.getElem_cons_zero]
        go_simp
        refine CS2.out.mono ?_
        rintro e w5 ⟨rfl, n5, hq5⟩
        have hc5 : Chg [] w3 w5 := by rw [hq5]; exact HC5.out.drewN n5
        have g2 := hc5.cell c2 (by simp)
        have g1 := hc5.cell k1 (by simp)
        have CF2 := Lib.hid (sfind_any q p U s (.slice ak rk.length ck) rk w5 (HS.out.keep0 (HC4.out.trans hc5 (by simp))) (HK3.out.chg hc5 (by simp)))
        have CRF2 := Lib.hid (rfind_any q2 m W A s (.slice ak rk.length ck) rk w5 (HR.out.keep (HC4.out.trans hc5 (by simp)) (by simp)) (HK3.out.chg hc5 (by simp)) (by omega))
        have HC6 : Hid (Chg [] w w5) := Lib.hid (HC4.out.trans hc5 (by simp))
        clear hq5 hc5 d1 d2 HC5 CS2
        try go_wp2_with fail
        clear hHeld
        refine hK.out _ _ ?_ (fun hHeld => ?_)
        · exact (HoldC.past (by kernel_rfl) (HoldC.past (by kernel_rfl) (HoldC.past (by kernel_rfl) (HoldC.past (by kernel_rfl) (HoldC.cons (g2) (HoldC.cons (g1) (HoldC.cons (g2) (HoldC.cons (g1) HoldC.nil))))))))
        clear hK K
        try simp only [List.getElem_toArray, List.getElem_cons_succ, List.getElem_cons_zero, Act.put, List.setIfInBounds_toArray, List.set_cons_zero, List.set_cons_succ]
        refine wpAnyL_take (i := 25) (oi := _) (v := ?_) rfl (by kernel_rfl) (by kernel_rfl) (by kernel_rfl) (by kernel_rfl) (by kernel_rfl) (fun _ _ _ h => h) (Or.inl ⟨by rfl, ?_⟩) (by assumption) (fun hNew => ?_)
        rotate_left
        · intro w _
          go_simp
          try with_reducible rfl
        clear hHeld
        have hHeld := hNew
        clear hNew
        try simp only [List.getElem_toArray, List.getElem_cons_succ, List.getElem_cons_zero, Act.put, List.setIfInBounds_toArray, List.set_cons_zero, List.set_cons_succ]
        refine wpAnyL_take (i := 26) (oi := _) (v := ?_) rfl (by kernel_rfl) (by kernel_rfl) (by kernel_rfl) (by kernel_rfl) (by kernel_rfl) (fun _ _ _ h => h) (Or.inl ⟨by rfl, ?_⟩) (by assumption) (fun hNew => ?_)
        rotate_left
        · intro w _
          go_simp
          try with_reducible rfl
        clear hHeld
        have hHeld := hNew
        clear hNew
        try simp only [List.getElem_toArray, List.getElem_cons_succ, List.getElem_cons_zero, Act.put, List.setIfInBounds_toArray, List.set_cons_zero, List.set_cons_succ]
        refine wpAnyL_take (i := 27) (oi := _) (v := ?_) rfl (by kernel_rfl) (by kernel_rfl) (by kernel_rfl) (by kernel_rfl) (by kernel_rfl) (fun _ _ _ h => h) (Or.inl ⟨by rfl, ?_⟩) (by assumption) (fun hNew => ?_)
        rotate_left
        · intro w _
          go_simp
          try with_reducible rfl
        clear hHeld
        have hHeld := hNew
        clear hNew
        try simp only [List.getElem_toArray, List.getElem_cons_succ, List.getElem_cons_zero, Act.put, List.setIfInBounds_toArray, List.set_cons_zero, List.set_cons_succ]
        refine wpAnyL_take (i := 28) (oi := _) (v := ?_) rfl (by kernel_rfl) (by kernel_rfl) (by kernel_rfl) (by kernel_rfl) (by kernel_rfl) (fun _ _ _ h => h) (Or.inl ⟨by rfl, ?_⟩) (by assumption) (fun hNew => ?_)
        rotate_left
        · intro w _
          go_simp
          try with_reducible rfl
        clear hHeld
        have hHeld := hNew
        clear hNew
        try simp only [List.getElem_toArray, List.getElem_cons_succ, List.getElem_cons_zero, Act.put, List.setIfInBounds_toArray, List.set_cons_zero, List.set_cons_succ]
        refine wpAnyL_take (i := 29) (oi := _) (v := ?_) rfl (by kernel_rfl) (by kernel_rfl) (by kernel_rfl) (by kernel_rfl) (by kernel_rfl) (fun _ _ _ h => h) (Or.inl ⟨by rfl, ?_⟩) (by assumption) (fun hNew => ?_)
        rotate_left
        · intro w _
          go_simp
          try with_reducible rfl
        clear hHeld
        have hHeld := hNew
        clear hNew
        try simp only [List.getElem_toArray, List.getElem_cons_succ, List.getElem_cons_zero, Act.put, List.setIfInBounds_toArray, List.set_cons_zero, List.set_cons_succ]
        refine wpAnyL_take (i := 30) (oi := _) (v := ?_) rfl (by kernel_rfl) (by kernel_rfl) (by kernel_rfl) (by kernel_rfl) (by kernel_rfl) (fun _ _ _ h => h) (Or.inl ⟨by rfl, ?_⟩) (by assumption) (fun hNew => ?_)
        rotate_left
        · intro w _
          go_simp
          try with_reducible rfl
        clear hHeld
        have hHeld := hNew
        clear hNew
        try simp only [List.getElem_toArray, List.getElem_cons_succ, List.getElem_cons_zero, Act.put, List.setIfInBounds_toArray, List.set_cons_zero, List.set_cons_succ]
        refine wpAnyL_take (i := 31) (oi := _) (v := ?_) rfl (by kernel_rfl) (by kernel_rfl) (by kernel_rfl) (by kernel_rfl) (by kernel_rfl) (fun _ _ _ h => h) (Or.inl ⟨by rfl, ?_⟩) (by assumption) (fun hNew => ?_)
        rotate_left
        · intro w _
          go_simp
          try with_reducible rfl
        clear hHeld
        have hHeld := hNew
        clear hNew
        try simp only [List.getElem_toArray, List.getElem_cons_succ, List.getElem_cons_zero, Act.put, List.setIfInBounds_toArray, List.set_cons_zero, List.set_cons_succ]
        refine wpAnyL_take (i := 33) (oi := _) (v := ?_) rfl (by kernel_rfl) (by kernel_rfl) (by kernel_rfl) (by kernel_rfl) (by kernel_rfl) (fun _ _ _ h => h) (Or.inl ⟨by rfl, ?_⟩) (by assumption) (fun hNew => ?_)
        rotate_left
        · intro w _
          go_simp
          try with_reducible rfl
        clear hHeld
        have hHeld := hNew
        clear hNew
        try simp only [List.getElem_toArray, List.getElem_cons_succ, List.getElem_cons_zero, Act.put, List.setIfInBounds_toArray, List.set_cons_zero, List.set_cons_succ]
        refine wpAnyL_take (i := 38) (oi := _) (v := ?_) rfl (by kernel_rfl) (by kernel_rfl) (by kernel_rfl) (by kernel_rfl) (by kernel_rfl) (fun _ _ _ h => h) (Or.inl ⟨by rfl, ?_⟩) (by assumption) (fun hNew => ?_)
        rotate_left
        · intro w _
          go_simp
          try with_reducible rfl
        clear hHeld
        have hHeld := hNew
        clear hNew
        try simp only [List.getElem_toArray, List.getElem_cons_succ, List.getElem_cons_zero, Act.put, List.setIfInBounds_toArray, List.set_cons_zero, List.set_cons_succ]
        refine wpAnyL_take (i := 39) (oi := _) (v := ?_) rfl (by kernel_rfl) (by kernel_rfl) (by kernel_rfl) (by kernel_rfl) (by kernel_rfl) (fun _ _ _ h => h) (Or.inl ⟨by rfl, ?_⟩) (by assumption) (fun hNew => ?_)
        rotate_left
        · intro w _
          go_simp
          try with_reducible rfl
        clear hHeld
        have hHeld := hNew
        clear hNew
        try simp only [List.getElem_toArray, List.getElem_cons_succ, List.getElem_cons_zero, Act.put, List.setIfInBounds_toArray, List.set_cons_zero, List.set_cons_succ]
        refine wpAnyL_take (i := 40) (oi := _) (v := ?_) rfl (by kernel_rfl) (by kernel_rfl) (by kernel_rfl) (by kernel_rfl) (by kernel_rfl) (fun _ _ _ h => h) (Or.inl ⟨by rfl, ?_⟩) (by assumption) (fun hNew => ?_)
        rotate_left
        · intro w _
          go_simp
          try with_reducible rfl
        clear hHeld
        have hHeld := hNew
        clear hNew
        try simp only [List.getElem_toArray, List.getElem_cons_succ, List.getElem_cons_zero, Act.put, List.setIfInBounds_toArray, List.set_cons_zero, List.set_cons_succ]
        refine wpAnyL_take (i := 41) (oi := _) (v := ?_) rfl (by kernel_rfl) (by kernel_rfl) (by kernel_rfl) (by kernel_rfl) (by kernel_rfl) (fun _ _ _ h => h) (Or.inl ⟨by rfl, ?_⟩) (by assumption) (fun hNew => ?_)
        rotate_left
        · intro w _
          go_simp
          try with_reducible rfl
        clear hHeld
        have hHeld := hNew
        clear hNew
        try simp only [List.getElem_toArray, List.getElem_cons_succ, List.getElem_cons_zero, Act.put, List.setIfInBounds_toArray, List.set_cons_zero, List.set_cons_succ]
        refine wpAnyL_take (i := 43) (oi := _) (v := ?_) rfl (by kernel_rfl) (by kernel_rfl) (by kernel_rfl) (by kernel_rfl) (by kernel_rfl) (fun _ _ _ h => h) (Or.inl ⟨by rfl, ?_⟩) (by assumption) (fun hNew => ?_)
        rotate_left
        · intro w _
          go_simp
          try with_reducible rfl
        clear hHeld
        have hHeld := hNew
        clear hNew
        try simp only [List.getElem_toArray, List.getElem_cons_succ, List.getElem_cons_zero, Act.put, List.setIfInBounds_toArray, List.set_cons_zero, List.set_cons_succ]
        refine wpAnyL_loadP 4 [36, 35, 34] (i := 32) (oi := _) (v := ?_) rfl rfl (by kernel_rfl) (by kernel_rfl) (by kernel_rfl) (by kernel_rfl) (by kernel_rfl) (by kernel_rfl) (fun _ _ _ h => h) (Or.inl ⟨by rfl, ?_⟩) (by assumption) (fun hNew => ?_)
        rotate_left
        · intro w hSw
          (try dsimp only at hSw)
          go_simp
          try with_reducible rfl
        clear hHeld
        have hHeld := hNew
        clear hNew
        try simp only [List.getElem_toArray, List.getElem_cons_succ, List.getElem_cons_zero, Act.put, List.setIfInBounds_toArray, List.set_cons_zero, List.set_cons_succ]
        refine wpAnyL_take (i := 34) (oi := _) (v := ?_) rfl (by kernel_rfl) (by kernel_rfl) (by kernel_rfl) (by kernel_rfl) (by kernel_rfl) (fun _ _ _ h => h) (Or.inl ⟨by rfl, ?_⟩) (by assumption) (fun hNew => ?_)
        rotate_left
        · intro w _
          go_simp
          try with_reducible rfl
        clear hHeld
        have hHeld := hNew
        clear hNew
        try simp only [List.getElem_toArray, List.getElem_cons_succ, List.getElem_cons_zero, Act.put, List.setIfInBounds_toArray, List.set_cons_zero, List.set_cons_succ]
        refine wpAnyL_take (i := 35) (oi := _) (v := ?_) rfl (by kernel_rfl) (by kernel_rfl) (by kernel_rfl) (by kernel_rfl) (by kernel_rfl) (fun _ _ _ h => h) (Or.inl ⟨by rfl, ?_⟩) (by assumption) (fun hNew => ?_)
        rotate_left
        · intro w _
          go_simp
          try with_reducible rfl
        clear hHeld
        have hHeld := hNew
        clear hNew
        try simp only [List.getElem_toArray, List.getElem_cons_succ, List.getElem_cons_zero, Act.put, List.setIfInBounds_toArray, List.set_cons_zero, List.set_cons_succ]
        refine wpAnyL_loadP 5 [] (i := 36) (oi := _) (v := ?_) rfl rfl (by kernel_rfl) (by kernel_rfl) (by kernel_rfl) (by kernel_rfl) (by kernel_rfl) (by kernel_rfl) (fun _ _ _ h => h) (Or.inl ⟨by rfl, ?_⟩) (by assumption) (fun hNew => ?_)
        rotate_left
        · intro w hSw
          (try dsimp only at hSw)
          go_simp
          try with_reducible rfl
        clear hHeld
        have hHeld := hNew
        clear hNew
        try simp only [List.getElem_toArray, List.getElem_cons_succ, List.getElem_cons_zero, Act.put, List.setIfInBounds_toArray, List.set_cons_zero, List.set_cons_succ]
        refine wpAnyL_loadP 6 [46, 45, 44] (i := 42) (oi := _) (v := ?_) rfl rfl (by kernel_rfl) (by kernel_rfl) (by kernel_rfl) (by kernel_rfl) (by kernel_rfl) (by kernel_rfl) (fun _ _ _ h => h) (Or.inl ⟨by rfl, ?_⟩) (by assumption) (fun hNew => ?_)
        rotate_left
        · intro w hSw
          (try dsimp only at hSw)
          go_simp
          try with_reducible rfl
        clear hHeld
        have hHeld := hNew
        clear hNew
        try simp only [List.getElem_toArray, List.getElem_cons_succ, List.getElem_cons_zero, Act.put, List.setIfInBounds_toArray, List.set_cons_zero, List.set_cons_succ]
        refine wpAnyL_take (i := 44) (oi := _) (v := ?_) rfl (by kernel_rfl) (by kernel_rfl) (by kernel_rfl) (by kernel_rfl) (by kernel_rfl) (fun _ _ _ h => h) (Or.inl ⟨by rfl, ?_⟩) (by assumption) (fun hNew => ?_)
        rotate_left
        · intro w _
          go_simp
          try with_reducible rfl
        clear hHeld
        have hHeld := hNew
        clear hNew
        try simp only [List.getElem_toArray, List.getElem_cons_succ, List.getElem_cons_zero, Act.put, List.setIfInBounds_toArray, List.set_cons_zero, List.set_cons_succ]
        refine wpAnyL_take (i := 45) (oi := _) (v := ?_) rfl (by kernel_rfl) (by kernel_rfl) (by kernel_rfl) (by kernel_rfl) (by kernel_rfl) (fun _ _ _ h => h) (Or.inl ⟨by rfl, ?_⟩) (by assumption) (fun hNew => ?_)
        rotate_left
        · intro w _
          go_simp
          try with_reducible rfl
        clear hHeld
        have hHeld := hNew
        clear hNew
        try simp only [List.getElem_toArray, List.getElem_cons_succ, List.getElem_cons_zero, Act.put, List.setIfInBounds_toArray, List.set_cons_zero, List.set_cons_succ]
        refine wpAnyL_loadP 7 [] (i := 46) (oi := _) (v := ?_) rfl rfl (by kernel_rfl) (by kernel_rfl) (by kernel_rfl) (by kernel_rfl) (by kernel_rfl) (by kernel_rfl) (fun _ _ _ h => h) (Or.inl ⟨by rfl, ?_⟩) (by assumption) (fun hNew => ?_)
        rotate_left
        · intro w hSw
          (try dsimp only at hSw)
          go_simp
          try with_reducible rfl
        clear hHeld
        have hHeld := hNew
        clear hNew
        try simp only [List.getElem_toArray, List.getElem_cons_succ, List.getElem_cons_zero, Act.put, List.setIfInBounds_toArray, List.set_cons_zero, List.set_cons_succ]
        refine wpAnyL_ready (rs := [37]) (by kernel_rfl) (by simp) ?_
        refine AllReadyL.cons (o := _) rfl (fun K hK => ?_) AllReadyL.nil
        try simp only [List.getElem_toArray, List.getElem_cons_succ, List.getElem_cons_zero]
        go_simp
        refine CF2.out.mono ?_
        rintro e w' ⟨rfl, hq⟩
        subst hq
        try go_wp2_with fail
        clear hHeld
        refine hK.out _ _ ?_ (fun hHeld => ?_)
        · exact (HoldC.past (by kernel_rfl) (HoldC.past (by kernel_rfl) (HoldC.past (by kernel_rfl) (HoldC.past (by kernel_rfl) (HoldC.past (by kernel_rfl) (HoldC.past (by kernel_rfl) (HoldC.cons (g2) (HoldC.cons (g1) HoldC.nil))))))))
        clear hK K
        try simp only [List.getElem_toArray, List.getElem_cons_succ, List.getElem_cons_zero, Act.put, List.setIfInBounds_toArray, List.set_cons_zero, List.set_cons_succ]
        refine wpAnyL_ready (rs := [47]) (by kernel_rfl) (by simp) ?_
        refine AllReadyL.cons (o := _) rfl (fun K hK => ?_) AllReadyL.nil
        try simp only [List.getElem_toArray, List.getElem_cons_succ, List.getElem_cons_zero]
        go_simp
        refine CRF2.out.mono ?_
        rintro e w6 ⟨rfl, hc6⟩
        have HC7 : Hid (Chg [] w w6) := Lib.hid (HC6.out.trans hc6 (by simp))
        clear hc6 CRF2 CF2 g1 g2
        try go_wp2_with fail
        clear hHeld
        refine hK.out _ _ ?_ (fun hHeld => ?_)
        · exact (HoldC.past (by kernel_rfl) (HoldC.past (by kernel_rfl) (HoldC.past (by kernel_rfl) (HoldC.past (by kernel_rfl) (HoldC.past (by kernel_rfl) (HoldC.past (by kernel_rfl) (HoldC.past (by kernel_rfl) (HoldC.past (by kernel_rfl) HoldC.nil))))))))
        clear hK K
        try simp only [List.getElem_toArray, List.getElem_cons_succ, List.getElem_cons_zero, Act.put, List.setIfInBounds_toArray, List.set_cons_zero, List.set_cons_succ]
        refine wpAnyL_take (i := 48) (oi := _) (v := ?_) rfl (by kernel_rfl) (by kernel_rfl) (by kernel_rfl) (by kernel_rfl) (by kernel_rfl) (fun _ _ _ h => h) (Or.inl ⟨by rfl, ?_⟩) (by assumption) (fun hNew => ?_)
        rotate_left
        · intro w _
          go_simp
          try with_reducible rfl
        clear hHeld
        have hHeld := hNew
        clear hNew
        try simp only [List.getElem_toArray, List.getElem_cons_succ, List.getElem_cons_zero, Act.put, List.setIfInBounds_toArray, List.set_cons_zero, List.set_cons_succ]
        refine wpAnyL_take (i := 49) (oi := _) (v := ?_) rfl (by kernel_rfl) (by kernel_rfl) (by kernel_rfl) (by kernel_rfl) (by kernel_rfl) (fun _ _ _ h => h) (Or.inl ⟨by rfl, ?_⟩) (by assumption) (fun hNew => ?_)
        rotate_left
        · intro w _
          go_simp
          try with_reducible rfl
        clear hHeld
        have hHeld := hNew
        clear hNew
        try simp only [List.getElem_toArray, List.getElem_cons_succ, List.getElem_cons_zero, Act.put, List.setIfInBounds_toArray, List.set_cons_zero, List.set_cons_succ]
        refine wpAnyL_done (by kernel_rfl) ?_ _
        clear hHeld
        clear c2 k0 k1
        go_wp2
        go_roundg (gk - 1)
        case measure => omega
        case rel => exact ⟨j + 2, by first | rfl | go_num | (push_cast; congr 1; omega), by omega, by omega, HC7⟩
      · have hnh : ¬ s.has ((k : Int) - 1) := fun hh => by
          obtain ⟨a1, a2⟩ := hh
          rw [← HN.out] at a2
          omega
        have CU := Lib.hid (sused_any q p U s ((k : Int) - 1) w3 hS3)
        have CK := Lib.hid (skey_any q p U s ((k : Int) - 1) w3 hS3)
        rw [SS.used_false hnh] at CU
        rw [show s.key ((k : Int) - 1) = [] by unfold SS.key; rw [SS.used_false hnh]; rfl] at CK
        clear hnh hS3 hR3
        have hcase : decide ((k : Int) - 1 < 0) = true ∨ (decide ((k : Int) - 1 < 0) = false ∧ (((k : Int) - 1 == (n : Int)) = true)) := by
          by_cases h0 : (k : Int) - 1 < 0
          · exact .inl (decide_eq_true h0)
          · refine .inr ⟨decide_eq_false h0, ?_⟩
            simp
            omega
        rcases hcase with h0 | ⟨h0, h1⟩
        · go_wp2_with fail
          refine CU.out.mono ?_
          rintro e w' ⟨rfl, hq⟩
          subst hq
          go_wp2_with fail
          refine CK.out.mono ?_
          rintro e w4 ⟨⟨v4, rfl, hb4⟩, hc4⟩
          obtain ⟨a4, c4, hv4⟩ := hb4.bytes.slice
          subst hv4
          have HC5 := Lib.hid (HC4.out.trans hc4 (by simp))
          clear hb4 hc4 CK CU
          go_wp2
          go_roundg (gk - 1)
          case measure => omega
          case rel => exact ⟨k + 1, by first | rfl | go_num | (push_cast; congr 1; omega), by omega, by omega, HC5⟩
        · go_wp2_with fail
          refine CU.out.mono ?_
          rintro e w' ⟨rfl, hq⟩
          subst hq
          go_wp2_with fail
          refine CK.out.mono ?_
          rintro e w4 ⟨⟨v4, rfl, hb4⟩, hc4⟩
          obtain ⟨a4, c4, hv4⟩ := hb4.bytes.slice
          subst hv4
          have HC5 := Lib.hid (HC4.out.trans hc4 (by simp))
          clear hb4 hc4 CK CU
          go_wp2
          go_roundg (gk - 1)
          case measure => omega
          case rel => exact ⟨k + 1, by first | rfl | go_num | (push_cast; congr 1; omega), by omega, by omega, HC5⟩
    · have hle : decide ((k : Int) - 1 ≤ (n : Int)) = false := decide_eq_false (by omega)
      go_wp2
      go_ret
      exact ⟨rfl, HC.out⟩
end Go.Proofs.YtipfgghdoicdhaaDoor.W

/- The reference's slots: Clear. -/
namespace Go.Proofs.YtipfgghdoicdhaaDoor.W
open Go.RowKit
set_option linter.unusedVariables false
set_option linter.unusedSimpArgs false

theorem DS.write_dead {d : DS} (h : d.dead = true) (k : Int) (b : List UInt8) : d.write k b = (14, d) := by unfold DS.write; rw [if_pos h]
theorem DS.sync_dead {d : DS} (h : d.dead = true) : d.sync = (14, d) := by unfold DS.sync; rw [if_pos h]
theorem DS.lays_dead {d : DS} (h : d.dead = true) (pos : Nat) (b : List UInt8) : d.lays pos b = (14, d) := by
  unfold DS.lays
  cases nsec b.length with
  | zero => exact DS.sync_dead h
  | succ k =>
    unfold DS.lay
    rw [DS.write_dead h]
    rfl
theorem DS.lays_one {d : DS} (pos : Nat) (b : List UInt8) (h : nsec b.length = 1) : d.lays pos b = if (d.write (pos : Int) (secAt b 0)).1 ≠ 0 then d.write (pos : Int) (secAt b 0) else (d.write (pos : Int) (secAt b 0)).2.sync := by
  unfold DS.lays
  rw [h]
  rfl
theorem secAt_zero : secAt (zeros 64) 0 = zeros 64 := by kernel_rfl
/-- What a change of the slots answers. -/
def RSidPost (w : World) (q m : Nat) (W A : List Nat) (r : Int × SS) (e : Ending) (w' : World) : Prop := e = .returned (.int .i64 r.1) ∧ RSid w w' q m W A r.2
theorem RSidPost.same {w : World} {q m : Nat} {W A : List Nat} {s : SS} {c : Int} (h : RSlotsAt w q m W A s) : RSidPost w q m W A (c, s) (.returned (.int .i64 c)) w := ⟨rfl, RSid.same h⟩
theorem RSlotsOk.here {w : World} {q m : Nat} {V F W A : List Nat} {s : SS} {rv : Value} {R : List (SRow × Value)} (h : RSlotsOk w q m V F W A s rv R) : RSlotsAt w q m W A s := ⟨V, F, rv, R, h⟩

set_option maxHeartbeats 8000000 in
set_option maxRecDepth 100000 in
theorem rclear_any (q m : Nat) (W A : List Nat) (s : SS) (i : Int) (w : World) (h : RSlotsAt w q m W A s) (ho : s.d.ops ≤ 900000000) (hw : s.d.since.length ≤ 900000) :
    Calls Tryd.prog 30 #[.pointer (some ⟨q, 0, none⟩), .int .i64 i] w (RSidPost w q m W A (s.clear i)) := by
  have HS := Lib.hid h
  obtain ⟨V, F, rv, R, H⟩ := h
  have HH := Lib.hid H
  have c0 : w.cell? ⟨q, 0, none⟩ = some (.pointer (some ⟨m, 0, none⟩)) := blk_cell H.obj.head 0 _ rfl
  have c1 : w.cell? ⟨q, 1, none⟩ = some (.int .i64 (s.first : Int)) := blk_cell H.obj.head 1 _ rfl
  have c2 : w.cell? ⟨q, 2, none⟩ = some rv := blk_cell H.obj.head 2 _ rfl
  obtain ⟨a0, cap0, hrv0, hcap0⟩ := H.form
  have hfew := H.few
  by_cases hi : s.has i
  · have hi' := hi
    obtain ⟨h0, h1⟩ := hi'
    obtain ⟨j, rfl⟩ := Int.eq_ofNat_of_zero_le h0
    have hjl : j < s.rows.length := by omega
    obtain ⟨g, cap, kv, hrv, hcap, hcm, k0, k1, k2, k3, k4⟩ := H.at j hjl
    have hrow : s.row (j : Int) = s.rows.getD j noRow := rfl
    have hroom := H.ok.room
    have q0 : decide ((j : Int) < 0) = false := decide_eq_false (by omega)
    by_cases hu : (s.row (j : Int)).used = false
    · have hg : s.clear (j : Int) = (6, s) := by unfold SS.clear; rw [if_neg (by simpa using hi), if_pos hu]
      have HP := Lib.hid (RSidPost.same (c := 6) HS.out)
      have HG := Lib.hid hg
      rw [HG.out]
      rw [hrow] at hu
      rw [hu] at k0
      subst hrv
      generalize s.rows.getD j noRow = r at *
      generalize s.rows.length = n at *
      have hjz : (j : Int) < (n : Int) := by omega
      have hjz1 : (j : Int).toNat = j := by omega
      have hnj : ¬ n ≤ j := by omega
      clear H HH c0 c1 k1 k2 k3 k4 hu hg hi hrow hroom hrv0
      go_enter Tryd.func30, Tryd.ntmps30
      go_wp2
      go_ret
      exact HP.out
    · have hu' : (s.rows.getD j noRow).used = true := by rw [← hrow]; simpa using hu
      rw [hu'] at k0
      have hg : s.clear (j : Int) = if (s.d.lays (s.pos j) (zeros 64)).1 ≠ 0 then ((s.d.lays (s.pos j) (zeros 64)).1, { s with d := (s.d.lays (s.pos j) (zeros 64)).2 }) else
            (0, { s with d := (s.d.lays (s.pos j) (zeros 64)).2, rows := s.rows.set j noRow }) := by
        unfold SS.clear
        rw [if_neg (by simpa using hi), if_neg hu]
        rfl
      have hpos : s.pos (j : Int) = s.first + 8 * j := rfl
      obtain ⟨p6, hnd, -⟩ := H.disk.read
      have hfj : ((s.first : Int) + (j : Int) * 8) = ((s.pos (j : Int) : Nat) : Int) := by rw [hpos]; omega
      have hpl : s.pos (j : Int) + 8 ≤ s.d.n := by rw [hpos]; omega
      have hff : s.first ≤ 4160 := by omega
      have hj5 : j ≤ 1000 := by omega
      have hnj : ¬ s.rows.length ≤ j := by omega
      have hjz : (j : Int) < (s.rows.length : Int) := by omega
      have hjz1 : (j : Int).toNat = j := by omega
      by_cases hd : s.d.dead = true
      · have hgg : s.clear (j : Int) = (14, s) := by rw [hg, DS.lays_dead hd, if_pos (by simp)]
        have HP := Lib.hid (RSidPost.same (c := 14) HS.out)
        have HG := Lib.hid hgg
        rw [HG.out]
        rw [hd] at p6
        subst hrv
        generalize s.rows.length = n at *
        clear H HH c1 k1 k2 k3 k4 hu hg hgg hi hrow hroom hrv0 hpos hfj hpl hd
        go_enter Tryd.func30, Tryd.ntmps30
        go_wp2
        go_ret
        exact HP.out
      · have hd' : s.d.dead = false := by simpa using hd
        rw [hd'] at p6
        have hwo := DS.write_ok s.d ((s.pos (j : Int) : Nat) : Int) (zeros 64)
        have hso := DS.sync_ok (s.d.write ((s.pos (j : Int) : Nat) : Int) (zeros 64)).2
        rw [DS.lays_one (s.pos j) (zeros 64) rfl, secAt_zero] at hg
        have CW := Lib.hid (fun wr v (hc : Chg [] w wr) (hv : BytesAt wr v (zeros 64)) hvo => rwrite_any m V F s.d (s.pos j) v (zeros 64) wr (H.disk.keep hc (by simp)) (by omega) (by omega) (by omega) (by simp [zeros]) hv hvo)
        obtain ⟨pos, hpp⟩ : ∃ pos, pos = s.pos (j : Int) := ⟨_, rfl⟩
        rw [← hpp] at hg hfj hpl CW hwo hso
        obtain ⟨Z, hZ⟩ : ∃ Z, Z = s.clear (j : Int) := ⟨_, rfl⟩
        rw [← hZ] at hg ⊢
        obtain ⟨n, hn⟩ : ∃ n, n = s.rows.length := ⟨_, rfl⟩
        rw [← hn] at hrv hcap hnj hjz hjl
        have HN := Lib.hid hn
        subst hrv
        clear H k1 k2 k3 k4 hu hu' hi hrow hroom hrv0 hpos hd hd' hZ hpp hn hfew h1 hcap0
        generalize s.d.write (pos : Int) (zeros 64) = zw at *
        obtain ⟨r1, d1⟩ := zw
        dsimp only at hg CW hwo hso
        generalize hzs : d1.sync = zs at *
        have HZS := Lib.hid hzs
        clear hzs
        obtain ⟨r2, d2⟩ := zs
        dsimp only at hg hso
        have HG := Lib.hid hg
        clear hg
        have hmk := make_64
        obtain ⟨fst, hfst⟩ : ∃ fst, fst = s.first := ⟨_, rfl⟩
        rw [← hfst] at c1 hfj hff
        clear hfst
        have hwr : Hid (IntKind.i64.wrap ((fst : Int) + IntKind.i64.wrap ((j : Int) * 8)) = (pos : Int)) := Lib.hid (by rw [IntWalk.i64_in ((j : Int) * 8) ⟨by omega, by omega⟩, IntWalk.i64_in _ ⟨by omega, by omega⟩]; exact hfj)
        go_enter Tryd.func30, Tryd.ntmps30
        go_wp2_with fail
        refine wp_region_L [(12, fun w' => w'.cell? ⟨q, 0, none⟩ = some (.pointer (some ⟨m, 0, none⟩))), (12, fun w' => w'.cell? ⟨q, 1, none⟩ = some (.int .i64 (fst : Int)))] (by kernel_rfl) ?_ (fun hHeld => ?_)
        · exact (HoldC.cons (c0) (HoldC.cons (c1) HoldC.nil))
        refine wpAnyL_take (i := 0) (oi := _) (v := ?_) rfl (by kernel_rfl) (by kernel_rfl) (by kernel_rfl) (by kernel_rfl) (by kernel_rfl) (fun _ _ _ h => h) (Or.inl ⟨by rfl, ?_⟩) (by assumption) (fun hNew => ?_)
        rotate_left
        · intro w _
          go_simp
          try with_reducible rfl
        clear hHeld
        have hHeld := hNew
        clear hNew
        try simp only [List.getElem_toArray, List.getElem_cons_succ, List.getElem_cons_zero, Act.put, List.setIfInBounds_toArray, List.set_cons_zero, List.set_cons_succ]
        refine wpAnyL_take (i := 1) (oi := _) (v := ?_) rfl (by kernel_rfl) (by kernel_rfl) (by kernel_rfl) (by kernel_rfl) (by kernel_rfl) (fun _ _ _ h => h) (Or.inl ⟨by rfl, ?_⟩) (by assumption) (fun hNew => ?_)
        rotate_left
        · intro w _
          go_simp
          try with_reducible rfl
        clear hHeld
        have hHeld := hNew
        clear hNew
        try simp only [List.getElem_toArray, List.getElem_cons_succ, List.getElem_cons_zero, Act.put, List.setIfInBounds_toArray, List.set_cons_zero, List.set_cons_succ]
        refine wpAnyL_take (i := 2) (oi := _) (v := ?_) rfl (by kernel_rfl) (by kernel_rfl) (by kernel_rfl) (by kernel_rfl) (by kernel_rfl) (fun _ _ _ h => h) (Or.inl ⟨by rfl, ?_⟩) (by assumption) (fun hNew => ?_)
        rotate_left
        · intro w _
          go_simp
          try with_reducible rfl
        clear hHeld
        have hHeld := hNew
        clear hNew
        try simp only [List.getElem_toArray, List.getElem_cons_succ, List.getElem_cons_zero, Act.put, List.setIfInBounds_toArray, List.set_cons_zero, List.set_cons_succ]
        refine wpAnyL_take (i := 4) (oi := _) (v := ?_) rfl (by kernel_rfl) (by kernel_rfl) (by kernel_rfl) (by kernel_rfl) (by kernel_rfl) (fun _ _ _ h => h) (Or.inl ⟨by rfl, ?_⟩) (by assumption) (fun hNew => ?_)
        rotate_left
        · intro w _
          go_simp
          try with_reducible rfl
        clear hHeld
        have hHeld := hNew
        clear hNew
        try simp only [List.getElem_toArray, List.getElem_cons_succ, List.getElem_cons_zero, Act.put, List.setIfInBounds_toArray, List.set_cons_zero, List.set_cons_succ]
        refine wpAnyL_take (i := 5) (oi := _) (v := ?_) rfl (by kernel_rfl) (by kernel_rfl) (by kernel_rfl) (by kernel_rfl) (by kernel_rfl) (fun _ _ _ h => h) (Or.inl ⟨by rfl, ?_⟩) (by assumption) (fun hNew => ?_)
        rotate_left
        · intro w _
          go_simp
          try with_reducible rfl
        clear hHeld
        have hHeld := hNew
        clear hNew
        try simp only [List.getElem_toArray, List.getElem_cons_succ, List.getElem_cons_zero, Act.put, List.setIfInBounds_toArray, List.set_cons_zero, List.set_cons_succ]
        refine wpAnyL_take (i := 6) (oi := _) (v := ?_) rfl (by kernel_rfl) (by kernel_rfl) (by kernel_rfl) (by kernel_rfl) (by kernel_rfl) (fun _ _ _ h => h) (Or.inl ⟨by rfl, ?_⟩) (by assumption) (fun hNew => ?_)
        rotate_left
        · intro w _
          go_simp
          try with_reducible rfl
        clear hHeld
        have hHeld := hNew
        clear hNew
        try simp only [List.getElem_toArray, List.getElem_cons_succ, List.getElem_cons_zero, Act.put, List.setIfInBounds_toArray, List.set_cons_zero, List.set_cons_succ]
        refine wpAnyL_take (i := 8) (oi := _) (v := ?_) rfl (by kernel_rfl) (by kernel_rfl) (by kernel_rfl) (by kernel_rfl) (by kernel_rfl) (fun _ _ _ h => h) (Or.inl ⟨by rfl, ?_⟩) (by assumption) (fun hNew => ?_)
        rotate_left
        · intro w _
          go_simp
          try with_reducible rfl
        clear hHeld
        have hHeld := hNew
        clear hNew
        try simp only [List.getElem_toArray, List.getElem_cons_succ, List.getElem_cons_zero, Act.put, List.setIfInBounds_toArray, List.set_cons_zero, List.set_cons_succ]
        refine wpAnyL_take (i := 9) (oi := _) (v := ?_) rfl (by kernel_rfl) (by kernel_rfl) (by kernel_rfl) (by kernel_rfl) (by kernel_rfl) (fun _ _ _ h => h) (Or.inl ⟨by rfl, ?_⟩) (by assumption) (fun hNew => ?_)
        rotate_left
        · intro w _
          go_simp
          try with_reducible rfl
        clear hHeld
        have hHeld := hNew
        clear hNew
        try simp only [List.getElem_toArray, List.getElem_cons_succ, List.getElem_cons_zero, Act.put, List.setIfInBounds_toArray, List.set_cons_zero, List.set_cons_succ]
        refine wpAnyL_load 0 (i := 3) (oi := _) (v := ?_) rfl rfl (by kernel_rfl) (by kernel_rfl) (by kernel_rfl) (by kernel_rfl) (by kernel_rfl) (by kernel_rfl) (fun _ _ _ h => h) (Or.inl ⟨by rfl, ?_⟩) (by assumption) (fun hNew => ?_)
        rotate_left
        · intro w hSw
          (try dsimp only at hSw)
          go_simp
          try with_reducible rfl
        clear hHeld
        have hHeld := hNew
        clear hNew
        try simp only [List.getElem_toArray, List.getElem_cons_succ, List.getElem_cons_zero, Act.put, List.setIfInBounds_toArray, List.set_cons_zero, List.set_cons_succ]
        refine wpAnyL_load 1 (i := 7) (oi := _) (v := ?_) rfl rfl (by kernel_rfl) (by kernel_rfl) (by kernel_rfl) (by kernel_rfl) (by kernel_rfl) (by kernel_rfl) (fun _ _ _ h => h) (Or.inl ⟨by rfl, ?_⟩) (by assumption) (fun hNew => ?_)
        rotate_left
        · intro w hSw
          (try dsimp only at hSw)
          go_simp
          try with_reducible rfl
        clear hHeld
        have hHeld := hNew
        clear hNew
        try simp only [List.getElem_toArray, List.getElem_cons_succ, List.getElem_cons_zero, Act.put, List.setIfInBounds_toArray, List.set_cons_zero, List.set_cons_succ]
        refine wpAnyL_take (i := 10) (oi := _) (v := ?_) rfl (by kernel_rfl) (by kernel_rfl) (by kernel_rfl) (by kernel_rfl) (by kernel_rfl) (fun _ _ _ h => h) (Or.inl ⟨by rfl, ?_⟩) (by assumption) (fun hNew => ?_)
        rotate_left
        · intro w _
          go_simp
          try with_reducible rfl
        clear hHeld
        have hHeld := hNew
        clear hNew
        try simp only [List.getElem_toArray, List.getElem_cons_succ, List.getElem_cons_zero, Act.put, List.setIfInBounds_toArray, List.set_cons_zero, List.set_cons_succ]
        refine wpAnyL_ready (rs := [11]) (by kernel_rfl) (by simp) ?_
        refine AllReadyL.cons (o := _) rfl (fun K hK => ?_) AllReadyL.nil
        try simp only [List.getElem_toArray, List.getElem_cons_succ, List.getElem_cons_zero]
        go_simp
        obtain ⟨z, hz⟩ : ∃ z, z = w.heap.size := ⟨_, rfl⟩
        have HZ := Lib.hid hz
        rw [← hz]
        obtain ⟨w1, hw1⟩ : ∃ w1, w1 = (w.alloc (.cells Z64 5)).drew := ⟨_, rfl⟩
        rw [← hw1]
        have hc1 : Chg [] w w1 := by rw [hw1]; exact ((Chg.refl [] w).alloc _).drew
        have hB1 : BytesAt w1 (.slice (some ⟨z, 0, none⟩) 64 64) (zeros 64) := (row_of_block (w := w1) (N := z) (l := zeros 64) (by rw [hw1, hz]; exact heap_alloc_new w _) (by simp [zeros, maxLen])).bytes
        have CW1 := Lib.hid (CW.out w1 _ hc1 hB1 (fun x hx hm => by
          obtain rfl : z = x := by simpa [Value.ownBlock] using hx
          have h1 := HH.out.lim z (HH.out.aF z (HH.out.sub.2.2.2.2 z hm))
          omega))
        have HC1 := Lib.hid hc1
        have e0 := hc1.cell c0 (by simp)
        have e1 := hc1.cell c1 (by simp)
        clear hc1 hB1 hz hw1
        clear hHeld
        refine hK.out _ _ ?_ (fun hHeld => ?_)
        · exact (HoldC.cons (e0) (HoldC.cons (e1) HoldC.nil))
        clear hK K
        try simp only [List.getElem_toArray, List.getElem_cons_succ, List.getElem_cons_zero, Act.put, List.setIfInBounds_toArray, List.set_cons_zero, List.set_cons_succ]
        refine wpAnyL_ready (rs := [12]) (by kernel_rfl) (by simp) ?_
        refine AllReadyL.cons (o := _) rfl (fun K hK => ?_) AllReadyL.nil
        try simp only [List.getElem_toArray, List.getElem_cons_succ, List.getElem_cons_zero]
        go_simp
        try rw [hwr.out]
        refine CW1.out.mono ?_
        rintro e w3 ⟨rfl, hd3⟩
        have HS3 := Lib.hid (RSid.pre HC1.out ((HH.out.keep HC1.out (by simp)).did hd3 hwo.1))
        clear hd3 CW CW1 e0 e1 HC1
        try go_wp2_with fail
        clear hHeld
        refine hK.out _ _ ?_ (fun hHeld => ?_)
        · exact (HoldC.past (by kernel_rfl) (HoldC.past (by kernel_rfl) HoldC.nil))
        clear hK K
        try simp only [List.getElem_toArray, List.getElem_cons_succ, List.getElem_cons_zero, Act.put, List.setIfInBounds_toArray, List.set_cons_zero, List.set_cons_succ]
        refine wpAnyL_take (i := 13) (oi := _) (v := ?_) rfl (by kernel_rfl) (by kernel_rfl) (by kernel_rfl) (by kernel_rfl) (by kernel_rfl) (fun _ _ _ h => h) (Or.inl ⟨by rfl, ?_⟩) (by assumption) (fun hNew => ?_)
        rotate_left
        · intro w _
          go_simp
          try with_reducible rfl
        clear hHeld
        have hHeld := hNew
        clear hNew
        try simp only [List.getElem_toArray, List.getElem_cons_succ, List.getElem_cons_zero, Act.put, List.setIfInBounds_toArray, List.set_cons_zero, List.set_cons_succ]
        refine wpAnyL_done (by kernel_rfl) ?_ _
        clear hHeld
        clear c0 c1 c2 p6 k0
        by_cases hr1 : r1 = 0
        · subst hr1
          obtain ⟨W3, A3, ⟨V3, F3, rv3, R3, H3⟩, hW3, hA3, hC3⟩ := HS3.out
          have c03 : w3.cell? ⟨q, 0, none⟩ = some (.pointer (some ⟨m, 0, none⟩)) := blk_cell H3.obj.head 0 _ rfl
          have CS := Lib.hid (rsync_any m V3 F3 d1 w3 H3.disk (by omega))
          rw [HZS.out] at CS
          dsimp only at CS
          have H30 := Lib.hid H3
          have HG3 := Lib.hid (And.intro hW3 (And.intro hA3 hC3))
          clear H3 hW3 hA3 hC3
          go_wp2_with fail
          refine CS.out.mono ?_
          rintro e w4 ⟨rfl, hd4⟩
          have hs4 := H30.out.did hd4 (by show d2.n = d1.n; exact hso.1)
          have HS4 : Hid (RSid w w4 q m W A { s with d := d2 }) := Lib.hid (RSid.glue HG3.out.1 HG3.out.2.1 HG3.out.2.2 hs4)
          have HGZ : Hid (Z = if r2 ≠ 0 then (r2, { s with d := d2 }) else (0, { s with d := d2, rows := s.rows.set j noRow })) := Lib.hid (by
            have := HG.out
            simpa using this)
          clear hs4 hd4 CS c03 H30 HG3 HS3
          by_cases hr2 : r2 = 0
          · subst hr2
            obtain ⟨W4, A4, ⟨V4, F4, rv4, R4, H4⟩, hW4, hA4, hC4⟩ := HS4.out
            have c24 : w4.cell? ⟨q, 2, none⟩ = some rv4 := blk_cell H4.obj.head 2 _ rfl
            have hjr : j < ({ s with d := d2 } : SS).rows.length := by show j < s.rows.length; rw [← HN.out]; exact hjl
            obtain ⟨g4, cap4, kv4, hrv4, hcap4, hcm4, _, _, _, _, _⟩ := H4.at j hjr
            rw [show ({ s with d := d2 } : SS).rows.length = s.rows.length from rfl, ← HN.out] at hrv4 hcap4
            have hrv5 : rv4 = .slice (some ⟨g4, 0, none⟩) ({ s with d := d2 } : SS).rows.length cap4 := by
              rw [hrv4, HN.out]
            obtain ⟨A5, hs5, hA5, hC5⟩ := H4.setRow (N := w4.heap.size) j hjr g4 cap4 hrv5 noRow (.slice none 0 0) (BytesAt.nil _) (by simp [Value.ownBlock]) (by simp [Value.ownBlock]) (Nat.le_refl _) ⟨by decide, by decide⟩
            have HSR : Hid (RSid w (w4.setCells g4 (j * 3) [.bool false, .slice none 0 0, .int .i64 0]) q m W A { s with d := d2, rows := s.rows.set j noRow }) := Lib.hid (RSid.glue hW4 hA4 hC4 ⟨W4, A5, hs5, fun x hx => .inl hx, hA5, hC5⟩)
            have TH := Lib.hid (H4.there j hjr g4 cap4 hrv5)
            have HGF : Hid (Z = (0, { s with d := d2, rows := s.rows.set j noRow })) := Lib.hid (by rw [HGZ.out]; simp)
            subst hrv4
            clear H4 hW4 hA4 hC4 hs5 hA5 hC5 hrv5 HGZ HS4
            go_wp2_with (refine wpList_store_mid (by rfl) 95 (.tmp 64) (.tmp 63) (by rfl) g4 (j * 3) #[.bool false, .slice none 0 0, .int .i64 0] (by rfl) (by rfl) TH.out (by kernel_rfl) (by simp [Value.oneCell']) ?_)
            go_ret
            rw [HGF.out]
            exact ⟨rfl, HSR.out⟩
          · have q2 : (r2 == 0) = false := by simp [hr2]
            have HGF : Hid (Z = (r2, { s with d := d2 })) := Lib.hid (by rw [HGZ.out, if_pos hr2])
            clear HGZ hr2
            go_wp2
            go_ret
            rw [HGF.out]
            exact ⟨rfl, HS4.out⟩
        · have q2 : (r1 == 0) = false := by simp [hr1]
          have HGF : Hid (Z = (r1, { s with d := d1 })) := Lib.hid (by rw [HG.out, if_pos hr1, if_pos hr1])
          clear hr1
          go_wp2
          go_ret
          rw [HGF.out]
          exact ⟨rfl, HS3.out⟩
  · have hg : s.clear i = (1, s) := by unfold SS.clear; rw [if_pos (by simpa using hi)]
    have HP := Lib.hid (RSidPost.same (c := 1) HS.out)
    have HG := Lib.hid hg
    rw [HG.out]
    have HI := Lib.hid hi
    subst hrv0
    generalize hnn : s.rows.length = n at *
    have HNN := Lib.hid hnn
    clear H HH hg hi hfew c0 c1
    by_cases h0 : i < 0
    · have q0 : decide (i < 0) = true := decide_eq_true h0
      go_enter Tryd.func30, Tryd.ntmps30
      go_wp2
      go_ret
      exact HP.out
    · have q0 : decide (i < 0) = false := decide_eq_false h0
      have q1 : decide (i ≥ (n : Int)) = true := decide_eq_true (by
        have h9 := HI.out
        unfold SS.has at h9
        have h8 := HNN.out
        omega)
      go_enter Tryd.func30, Tryd.ntmps30
      go_wp2
      go_ret
      exact HP.out
end Go.Proofs.YtipfgghdoicdhaaDoor.W

/- The reference's padded. -/
namespace Go.Proofs.YtipfgghdoicdhaaDoor.W
open Go.RowKit
set_option linter.unusedVariables false
set_option linter.unusedSimpArgs false

/-- Sectors in a row of rows. -/
structure PadAt (w0 w : World) (v : Value) (b : List UInt8) (j : Nat) (PV : List Value) : Prop where
  row : w.ownsRow 0 31 1 v j PV
  secs : ∀ k, k < j → BytesAt w (PV.getD k undef) (secAt b k) ∧ ∀ g, (PV.getD k undef).ownBlock = some g → w0.heap.size ≤ g ∧ v.ownBlock ≠ some g
  new : ∀ g, v.ownBlock = some g → w0.heap.size ≤ g
theorem PadAt.keep {w0 w w' : World} {v : Value} {b : List UInt8} {j : Nat} {PV : List Value} (h : PadAt w0 w v b j PV) (hc : Chg [] w w') : PadAt w0 w' v b j PV :=
  ⟨row_keep h.row (fun g hg => hc.block g (World.ownsRow.lt h.row g hg).2 (by simp)), fun k hk => ⟨(h.secs k hk).1.chg hc (by simp), (h.secs k hk).2⟩, h.new⟩
/-- What padded answers. -/
def PadPost (w : World) (b : List UInt8) (e : Ending) (w' : World) : Prop := ∃ v PV, e = .returned v ∧ PadAt w w' v b (nsec b.length) PV ∧ Chg [] w w'
theorem nsec_lt {j n : Nat} (h : j < nsec n) : j * 64 < n := by unfold nsec at h; omega
theorem nsec_le {j n : Nat} (h : ¬ j < nsec n) : n ≤ j * 64 := by unfold nsec at h; omega

set_option maxHeartbeats 8000000 in
set_option maxRecDepth 100000 in
theorem rpadded_any (bv : Value) (b : List UInt8) (w : World) (hb : BytesAt w bv b) (hl : b.length ≤ 1000000) :
    Calls Tryd.prog 58 #[bv] w (PadPost w b) := by
  obtain ⟨av, cv, rfl⟩ := hb.slice
  have HB := Lib.hid hb
  have hcv : b.length ≤ cv ∧ cv ≤ 9223372036854775807 := by
    obtain ⟨a', c', he, h1, h2, _⟩ := hb
    have : cv = c' := (Value.slice.inj he).2.2
    unfold maxLen at h2
    omega
  have hmk := make_64
  obtain ⟨m, hm⟩ : ∃ m, m = nsec b.length := ⟨_, rfl⟩
  have HM := Lib.hid hm
  have hm4 : m ≤ 20000 := by rw [hm]; unfold nsec; omega
  obtain ⟨i3, hi3, hz3, hs3, hy3⟩ := info_parts facts_bytes
  have I3 := Lib.hid (And.intro hi3 (And.intro hz3 (And.intro hs3 hy3)))
  clear hb hm hi3 hz3 hs3 hy3
  go_enter Tryd.func58, Tryd.ntmps58
  go_wp2
  go_loopg [3, 4] m (fun g' s3 s4 wr => ∃ (j t : Nat) (a3 : Option Addr) (c3 : Nat) (PV : List Value), s3 = .slice a3 j c3 ∧ s4 = .int .i64 (t : Int) ∧ j ≤ m ∧ m ≤ j + g' ∧ t ≤ 2000000 ∧ Hid (t = j * 64) ∧ Hid (PadAt w wr (.slice a3 j c3) b j PV ∧ Chg [] w wr))
  case atStart => exact ⟨0, 0, none, 0, [], rfl, rfl, by omega, by omega, by omega, Lib.hid rfl, Lib.hid ⟨⟨World.ownsRow_nil _ _ _ _, fun k hk => by omega, by simp [Value.ownBlock]⟩, Chg.refl _ _⟩⟩
  case round =>
    obtain ⟨j, t, a3, c3, PV, rfl, rfl, hj, hjg, ht, HTT, HP⟩ := hrel
    by_cases hlt : j < m
    · have hjb : t < b.length := by have h1 := HTT.out; have h2 := HM.out; rw [h2] at hlt; have := nsec_lt hlt; omega
      have htz : (t : Int) < (b.length : Int) := by omega
      have htz1 : (t : Int).toNat = t := by omega
      have htz0 : (0 : Int) ≤ (t : Int) := by omega
      have HBr := Lib.hid (HB.out.chg HP.out.2 (by simp))
      obtain ⟨g, o, rfl⟩ : ∃ g o, av = some ⟨g, o, none⟩ := by
        obtain ⟨a', c', he, _, _, h3⟩ := HBr.out
        obtain rfl : av = a' := (Value.slice.inj he).1
        rcases h3 with ⟨rfl, _⟩ | ⟨g, o, e, _⟩
        · simp at hjb
        · exact ⟨g, o, e⟩
      obtain ⟨w1, hw1⟩ : ∃ w1, w1 = wr.alloc (.cells Z64 5) := ⟨_, rfl⟩
      have hc1 : Chg [] wr w1 := by rw [hw1]; exact (Chg.refl _ _).alloc _
      have hN1 : Hid (w1.heap[wr.heap.size]? = some (.cells Z64 5 (0, 0))) := Lib.hid (by rw [hw1]; exact heap_alloc_new wr _)
      have HB1 := Lib.hid (bytes_drop (k := t) (HBr.out.chg hc1 (by simp)) (by omega) (o + t) (fun _ => rfl))
      have HC1 := Lib.hid hc1
      have HW1 := Lib.hid hw1
      have hcj : t < cv := by omega
      have hcj2 : ¬ cv = t := by omega
      clear hc1 hw1
      go_wp2_with (rw [← HW1.out]; refine wpList_pad (by rfl) (.tmp 13) (.tmp 16) (by rfl) wr.heap.size (by rfl) _ (by rfl) (b.drop t) HB1.out hN1.out ?_; intro w2 np hr2 hb2 hl2; refine stay_of ?_)
      have hc2 := chg_pad HC1.out hb2
      have hcA : Chg [] w2 (w2.alloc (.cells #[.slice (some ⟨wr.heap.size, 0, none⟩) 64 64] 31)) := (Chg.refl _ _).alloc _
      have hP2 := HP.out.1.keep (hc2.trans hcA (by simp))
      have hsz : wr.heap.size < w2.heap.size := hl2
      have HR2 := Lib.hid (hr2.bytes.chg hcA (by simp))
      have HCA := Lib.hid ((HP.out.2.trans hc2 (by simp)).trans hcA (by simp))
      have HPA := Lib.hid hP2
      have HNW := Lib.hid (news_one (w := w2) (e := 31) (u := .slice (some ⟨wr.heap.size, 0, none⟩) 64 64) rfl)
      have hwle := HP.out.2.size
      have hwle2 := hc2.size
      have HOB : Hid (∀ g, (Value.slice a3 j c3).ownBlock = some g → g < wr.heap.size) := Lib.hid (fun g hg => (World.ownsRow.lt HP.out.1.row g hg).2)
      unfold Stay
      clear hr2 hb2 hc2 hcA hP2 HP
      go_wp2_with (at_builtin; refine wpList_append_lies _ rfl (.tmp 18) (.tmp 20) 22 rfl 0 31 i3 (.slice none 0 0) 1 24 Tryd.underlying22 I3.out.1 I3.out.2.1 I3.out.2.2.1 I3.out.2.2.2 rfl (by omega) (.slice a3 j c3) j PV rfl HPA.out.row ⟨w2.heap.size, 0, none⟩ 1 1 [.slice (some ⟨wr.heap.size, 0, none⟩) 64 64] rfl rfl HNW.out (fun u hu => by rw [List.mem_singleton.1 hu]; rfl) (by omega) (by unfold maxLen; omega) (by omega) (Nat.zero_le _) _ rfl ?_; intro g5 cap5 w5 hrow hg hat hlt5)
      have HAP := Lib.hid (And.intro hrow (And.intro hg (And.intro hat hlt5)))
      clear hrow hg hat hlt5
      go_roundg (gk - 1)
      case measure => omega
      case rel =>
        obtain ⟨hrow, hg, hat, hlt5⟩ := HAP.out
        have hsA : (w2.alloc (.cells #[.slice (some ⟨wr.heap.size, 0, none⟩) 64 64] 31)).heap.size = w2.heap.size + 1 := by simp
        have hPVl : PV.length = j := by have := HPA.out.row.1; omega
        have hkeep : ∀ v l, BytesAt (w2.alloc (.cells #[.slice (some ⟨wr.heap.size, 0, none⟩) 64 64] 31)) v l → (∀ g, v.ownBlock = some g → (Value.slice a3 j c3).ownBlock ≠ some g) → BytesAt w5 v l := fun v l hv hne => hv.chg ((Chg.refl (Value.slice a3 j c3).ownBlock.toList _).grown hg (fun k hk => .inl (by rw [hk]; simp))) (fun g hg2 hm => hne g hg2 (by simpa using hm))
        have hgn : ∀ g, g < w2.heap.size → (Value.slice a3 j c3).ownBlock ≠ some g → g ≠ g5 := fun g h1 h2 e => by
          rcases hat with h4 | h4
          · exact h2 (by rw [e]; exact h4)
          · rw [hsA] at h4; omega
        refine ⟨j + 1, t + 64, some ⟨g5, 0, none⟩, cap5, PV ++ [.slice (some ⟨wr.heap.size, 0, none⟩) 64 64], rfl, by go_num, by omega, by omega, by omega, Lib.hid (by have := HTT.out; omega), Lib.hid ⟨⟨hrow, fun k hk => ?_, fun g hg2 => ?_⟩, ?_⟩⟩
        · by_cases hkj : k < j
          · have e1 : (PV ++ [Value.slice (some ⟨wr.heap.size, 0, none⟩) 64 64]).getD k undef = PV.getD k undef := by
              rw [List.getD_eq_getElem?_getD, List.getElem?_append_left (by omega), List.getD_eq_getElem?_getD]
            rw [e1]
            obtain ⟨b1, b2⟩ := HPA.out.secs k hkj
            refine ⟨hkeep _ _ b1 (fun g hg2 => (b2 g hg2).2), fun g hg2 => ⟨(b2 g hg2).1, fun he => ?_⟩⟩
            have hgs : g < w2.heap.size ∨ w2.heap.size ≤ g := by omega
            have hlen : secAt b k ≠ [] := fun e => by have := secAt_len b k; rw [e] at this; simp at this
            have hlt9 := b1.lt hlen g hg2
            have he : g5 = g := by simpa [Value.ownBlock] using he
            rcases hat with h4 | h4
            · exact (b2 g hg2).2 (by rw [← he]; exact h4)
            · omega
          · obtain rfl : k = j := by omega
            have e1 : (PV ++ [Value.slice (some ⟨wr.heap.size, 0, none⟩) 64 64]).getD k undef = .slice (some ⟨wr.heap.size, 0, none⟩) 64 64 := by
              rw [List.getD_eq_getElem?_getD, List.getElem?_append_right (by omega), hPVl, Nat.sub_self]; rfl
            rw [e1]
            have hsec : secAt b k = pad (b.drop t) := by rw [HTT.out, secAt_pad]
            rw [hsec]
            refine ⟨hkeep _ _ HR2.out (fun g hg2 he => ?_), fun g hg2 => ?_⟩
            · have h1 := HOB.out g he
              have h2 : wr.heap.size = g := by simpa [Value.ownBlock] using hg2
              omega
            · have h2 : wr.heap.size = g := by simpa [Value.ownBlock] using hg2
              refine ⟨by omega, fun he => ?_⟩
              have he : g5 = g := by simpa [Value.ownBlock] using he
              rcases hat with h4 | h4
              · have h1 := HOB.out g5 h4; omega
              · omega
        · have he : g5 = g := by simpa [Value.ownBlock] using hg2
          rcases hat with h4 | h4
          · rw [← he]; exact HPA.out.new g5 h4
          · omega
        · exact HCA.out.grown hg (fun k hk => .inr (HPA.out.new k hk))
    · have hjm : j = m := by omega
      have htb : ¬ (t : Int) < (b.length : Int) := by
        have h1 := HTT.out
        have h2 := HM.out
        rw [h2] at hlt
        have := nsec_le hlt
        omega
      have HPM : Hid (PadAt w wr (.slice a3 j c3) b (nsec b.length) PV) := Lib.hid (by rw [← HM.out, ← hjm]; exact HP.out.1)
      clear hjm
      go_wp2
      go_ret
      exact ⟨_, PV, rfl, HPM.out, HP.out.2⟩
end Go.Proofs.YtipfgghdoicdhaaDoor.W

/- The reference's slots: Put. -/
namespace Go.Proofs.YtipfgghdoicdhaaDoor.W
open Go.RowKit
set_option linter.unusedVariables false
set_option linter.unusedSimpArgs false

theorem PadAt.keepW {w0 w w' : World} {v : Value} {b : List UInt8} {j : Nat} {PV : List Value} {W : List Nat} (h : PadAt w0 w v b j PV) (hc : Chg W w w') (hW : ∀ x ∈ W, x < w0.heap.size) : PadAt w0 w' v b j PV := by
  have hn : ∀ g, w0.heap.size ≤ g → g ∉ W := fun g hg hm => by have := hW g hm; omega
  exact ⟨row_keep h.row (fun g hg => hc.block g (World.ownsRow.lt h.row g hg).2 (hn g (h.new g hg))), fun k hk => ⟨(h.secs k hk).1.chg hc (fun g hg => hn g ((h.secs k hk).2 g hg).1), (h.secs k hk).2⟩, h.new⟩
theorem PadAt.form {w0 w : World} {v : Value} {b : List UInt8} {j : Nat} {PV : List Value} (h : PadAt w0 w v b j PV) : ∃ a cap, v = .slice a j cap := by
  rcases h.row.2 with ⟨h1, h2⟩ | ⟨g, cap, cur, h1, _⟩
  · exact ⟨none, 0, by rw [h1, h2]⟩
  · exact ⟨_, cap, h1⟩
theorem PadAt.at {w0 w : World} {v : Value} {b : List UInt8} {j : Nat} {PV : List Value} (h : PadAt w0 w v b j PV) (k : Nat) (hk : k < j) : ∃ g cap ax cx, v = .slice (some ⟨g, 0, none⟩) j cap ∧ w.cell? ⟨g, k, none⟩ = some (.slice ax 64 cx) ∧ BytesAt w (.slice ax 64 cx) (secAt b k) ∧ ∀ x, (Value.slice ax 64 cx).ownBlock = some x → w0.heap.size ≤ x := by
  rcases h.row.2 with ⟨h1, h2⟩ | ⟨g, cap, cur, h1, _⟩
  · omega
  · have hr := h.row
    rw [h1] at hr
    obtain ⟨_, k0, _⟩ := own_cell hr k hk
    obtain ⟨b1, b2⟩ := h.secs k hk
    obtain ⟨ax, cx, hx⟩ := b1.slice
    rw [secAt_len] at hx
    rw [hx] at k0 b1 b2
    exact ⟨g, cap, ax, cx, h1, k0, b1, fun x hx => (b2 x hx).1⟩
theorem RSlotsAt.outside {w : World} {q m : Nat} {W A : List Nat} {s : SS} (h : RSlotsAt w q m W A s) {v : Value} {l : List UInt8} (hv : BytesAt w v l) (hl : l ≠ []) : ∀ k, v.ownBlock = some k → k ∉ W := fun k hk hm => (h.lim.2.2 k hm).not_bytes v l hv hl hk
theorem DS.lay_succ (d : DS) (pos : Nat) (b : List UInt8) (n j : Nat) : d.lay pos b (n + 1) j = if (d.write ((pos + j : Nat) : Int) (secAt b j)).1 ≠ 0 then d.write ((pos + j : Nat) : Int) (secAt b j) else (d.write ((pos + j : Nat) : Int) (secAt b j)).2.lay pos b n (j + 1) := rfl

set_option maxHeartbeats 16000000 in
set_option maxRecDepth 100000 in
theorem rput_any (q m : Nat) (W A : List Nat) (s : SS) (i : Int) (kv bv : Value) (key b : List UInt8) (w : World) (h : RSlotsAt w q m W A s) (hk : BytesAt w kv key) (hb : BytesAt w bv b)
    (hkl : key.length ≤ 1000000) (hbl : b.length ≤ 1000000) (ho : s.d.ops ≤ 900000000) (hw : s.d.since.length ≤ 900000) :
    Calls Tryd.prog 28 #[.pointer (some ⟨q, 0, none⟩), .int .i64 i, kv, bv] w (RSidPost w q m W A (s.put i key b)) := by
  have HS := Lib.hid h
  have HK := Lib.hid hk
  have HB := Lib.hid hb
  obtain ⟨V, F, rv, R, H⟩ := h
  have HH := Lib.hid H
  have c0 : w.cell? ⟨q, 0, none⟩ = some (.pointer (some ⟨m, 0, none⟩)) := blk_cell H.obj.head 0 _ rfl
  have c1 : w.cell? ⟨q, 1, none⟩ = some (.int .i64 (s.first : Int)) := blk_cell H.obj.head 1 _ rfl
  have c2 : w.cell? ⟨q, 2, none⟩ = some rv := blk_cell H.obj.head 2 _ rfl
  obtain ⟨a0, cap0, hrv0, hcap0⟩ := H.form
  have hfew := H.few
  obtain ⟨ka, kc, rfl⟩ := hk.slice
  obtain ⟨ba, bc, rfl⟩ := hb.slice
  by_cases hi : s.has i
  · have hi' := hi
    obtain ⟨h0, h1⟩ := hi'
    obtain ⟨j, rfl⟩ := Int.eq_ofNat_of_zero_le h0
    have hjl : j < s.rows.length := by omega
    have q0 : decide ((j : Int) < 0) = false := decide_eq_false (by omega)
    by_cases hlong : 40 < key.length ∨ 448 < b.length
    · have hg : s.put (j : Int) key b = (3, s) := by unfold SS.put; rw [if_neg (by simpa using hi), if_pos hlong]
      have HP := Lib.hid (RSidPost.same (c := 3) HS.out)
      have HG := Lib.hid hg
      rw [HG.out]
      subst hrv0
      generalize s.rows.length = n at *
      have hnj : ¬ n ≤ j := by omega
      clear H HH hi hg hk hb c0 c1 hfew
      by_cases hk40 : 40 < key.length
      · clear hlong
        go_enter Tryd.func28, Tryd.ntmps28
        go_wp2
        go_ret
        exact HP.out
      · have hz2 : 448 < b.length := by omega
        clear hlong
        go_enter Tryd.func28, Tryd.ntmps28
        go_wp2
        go_ret
        exact HP.out
    · obtain ⟨hk40, hb448⟩ : key.length ≤ 40 ∧ b.length ≤ 448 := by omega
      obtain ⟨g, cap, kv0, hrv, hcap, hcm, k0, k1, k2, k3, k4⟩ := H.at j hjl
      have hrow : s.row (j : Int) = s.rows.getD j noRow := rfl
      have hz1 : ¬ 40 < key.length := by omega
      have hz2 : ¬ 448 < b.length := by omega
      have hnj : ¬ s.rows.length ≤ j := by omega
      have hjz : (j : Int) < (s.rows.length : Int) := by omega
      have hjz1 : (j : Int).toNat = j := by omega
      by_cases hu : (s.row (j : Int)).used = true
      · have hg : s.put (j : Int) key b = (7, s) := by unfold SS.put; rw [if_neg (by simpa using hi), if_neg hlong, if_pos hu]
        have HP := Lib.hid (RSidPost.same (c := 7) HS.out)
        have HG := Lib.hid hg
        rw [HG.out]
        rw [hrow] at hu
        rw [hu] at k0
        subst hrv
        generalize s.rows.getD j noRow = r at *
        generalize s.rows.length = n at *
        clear H HH c0 c1 k1 k2 k3 k4 hu hg hi hrow hlong hk hb hrv0
        go_enter Tryd.func28, Tryd.ntmps28
        go_wp2
        go_ret
        exact HP.out
      · have hu' : (s.rows.getD j noRow).used = false := by rw [← hrow]; simpa using hu
        rw [hu'] at k0
        have hg : s.put (j : Int) key b = if (s.d.lays (s.pos j + 1) b).1 ≠ 0 then ((s.d.lays (s.pos j + 1) b).1, { s with d := (s.d.lays (s.pos j + 1) b).2 }) else
            if ((s.d.lays (s.pos j + 1) b).2.lays (s.pos j) (headBytes b.length key)).1 ≠ 0 then (((s.d.lays (s.pos j + 1) b).2.lays (s.pos j) (headBytes b.length key)).1, { s with d := ((s.d.lays (s.pos j + 1) b).2.lays (s.pos j) (headBytes b.length key)).2 }) else
            (0, { s with d := ((s.d.lays (s.pos j + 1) b).2.lays (s.pos j) (headBytes b.length key)).2, rows := s.rows.set j ⟨true, b.length, key⟩ }) := by
          unfold SS.put
          rw [if_neg (by simpa using hi), if_neg hlong, if_neg hu]
          rfl
        have hpos : s.pos (j : Int) = s.first + 8 * j := rfl
        have hroom := H.ok.room
        obtain ⟨p6, hnd, -⟩ := H.disk.read
        have hfj : ((s.first : Int) + (j : Int) * 8) = ((s.pos (j : Int) : Nat) : Int) := by rw [hpos]; omega
        have hpl : s.pos (j : Int) + 8 ≤ s.d.n := by rw [hpos]; omega
        have hff : s.first ≤ 4160 := by omega
        have hj5 : j ≤ 1000 := by omega
        by_cases hd : s.d.dead = true
        · have hgg : s.put (j : Int) key b = (14, s) := by rw [hg, DS.lays_dead hd, if_pos (by simp)]
          have HP := Lib.hid (RSidPost.same (c := 14) HS.out)
          have HG := Lib.hid hgg
          rw [HG.out]
          rw [hd] at p6
          subst hrv
          generalize s.rows.length = n at *
          clear H HH c1 k1 k2 k3 k4 hu hg hgg hi hrow hroom hrv0 hpos hfj hpl hd hlong hk hb
          go_enter Tryd.func28, Tryd.ntmps28
          go_wp2
          go_ret
          exact HP.out
        · have hd' : s.d.dead = false := by simpa using hd
          rw [hd'] at p6
          have hm7 : nsec b.length ≤ 7 := by unfold nsec; omega
          obtain ⟨M, hM⟩ : ∃ M, M = nsec b.length := ⟨_, rfl⟩
          have hLL : s.d.lays (s.pos j + 1) b = s.d.lay (s.pos j + 1) b M 0 := by rw [hM]; rfl
          have hns2 : nsec (headBytes b.length key).length = 1 := by rw [headBytes_len _ _ hb448 hk40]; unfold nsec; omega
          have hso := fun d => DS.lays_one (d := d) (s.pos j) (headBytes b.length key) hns2
          have hhl := headBytes_len b.length key hb448 hk40
          have HN2 := Lib.hid hns2
          have H3 : Hid ((h2 b.length).2 = 0 ∧ (h3 b.length key).2 = 0) := Lib.hid ⟨by rw [h2_eq _ hb448], by rw [h3_eq _ _ hb448 hk40]⟩
          have CP := Lib.hid (rpadded_any _ b w hb hbl)
          obtain ⟨pos, hpp⟩ : ∃ pos, pos = s.pos (j : Int) := ⟨_, rfl⟩
          rw [← hpp] at hg hfj hpl hLL hso
          obtain ⟨Z, hZ⟩ : ∃ Z, Z = s.put (j : Int) key b := ⟨_, rfl⟩
          rw [← hZ] at hg ⊢
          obtain ⟨n, hn⟩ : ∃ n, n = s.rows.length := ⟨_, rfl⟩
          rw [← hn] at hrv hcap hnj hjz hjl
          have HN := Lib.hid hn
          rw [← hM] at hm7
          have HM := Lib.hid hM
          have HSO := Lib.hid hso
          have HHL := Lib.hid hhl
          have HG := Lib.hid hg
          have HLL := Lib.hid hLL
          subst hrv
          clear H k1 k2 k3 k4 hu hu' hi hrow hroom hrv0 hpos hd hd' hZ hpp hn hfew h1 hcap0 hM hso hhl hg hLL hns2 hlong hk hb
          obtain ⟨fst, hfst⟩ : ∃ fst, fst = s.first := ⟨_, rfl⟩
          rw [← hfst] at c1 hfj hff
          clear hfst
          have hwr : Hid (IntKind.i64.wrap ((fst : Int) + IntKind.i64.wrap ((j : Int) * 8)) = (pos : Int)) := Lib.hid (by rw [IntWalk.i64_in ((j : Int) * 8) ⟨by omega, by omega⟩, IntWalk.i64_in _ ⟨by omega, by omega⟩]; exact hfj)
          go_enter Tryd.func28, Tryd.ntmps28
          go_wp2_with fail
          refine CP.out.mono ?_
          rintro e w1 ⟨v, PV, rfl, hpad, hc1⟩
          obtain ⟨va, vc, rfl⟩ := hpad.form
          rw [← HM.out] at hpad
          have HP1 := Lib.hid hpad
          have HC1 := Lib.hid hc1
          have HS1 := Lib.hid (HS.out.keep hc1 (by simp))
          rw [← HM.out]
          clear hpad hc1 CP c0 c1 c2 k0 p6
          go_wp2_with fail
          go_loopg [11, 12] M (fun g' s11 s12 wr => ∃ (k : Nat) (dk : DS), s11 = .int .i64 (k : Int) ∧ k ≤ M ∧ M ≤ k + g' ∧ Hid (RSid w1 wr q m W A { s with d := dk } ∧ dk.n = s.d.n ∧ dk.ops ≤ s.d.ops + k ∧ dk.since.length ≤ s.d.since.length + k ∧ s.d.lays (pos + 1) b = dk.lay (pos + 1) b (M - k) k))
          case atStart => exact ⟨0, s.d, rfl, by omega, by omega, Lib.hid ⟨RSid.same HS1.out, rfl, by omega, by omega, HLL.out⟩⟩
          case round =>
            obtain ⟨k, dk, rfl, hk, hkg, HJ⟩ := hrel
            obtain ⟨hsk, hkn, hko, hks, hkl2⟩ := HJ.out
            obtain ⟨Wk, Ak, ⟨Vk, Fk, rvk, Rk, Hk⟩, hWk, hAk, hCk⟩ := hsk
            have c0 : wr.cell? ⟨q, 0, none⟩ = some (.pointer (some ⟨m, 0, none⟩)) := blk_cell Hk.obj.head 0 _ rfl
            have hWw : ∀ x ∈ W, x < w.heap.size := fun x hx => (HS.out.lim).1 x (HS.out.lim.2.1 x hx)
            have HPk := Lib.hid (HP1.out.keepW hCk hWw)
            have HHk := Lib.hid Hk
            have HGk := Lib.hid (And.intro hWk (And.intro hAk hCk))
            have HLk := Lib.hid hkl2
            have HWw := Lib.hid hWw
            by_cases hlt : k < M
            · obtain ⟨gv, cv, ax, cx, hve, e1, b1, b2⟩ := HPk.out.at k hlt
              obtain ⟨rfl, rfl⟩ : va = some ⟨gv, 0, none⟩ ∧ vc = cv := by simpa using hve
              have hkz : (k : Int) < (M : Int) := by omega
              have hkz1 : (k : Int).toNat = k := by omega
              have hkz0 : (0 : Int) ≤ (k : Int) := by omega
              have hw1 : IntKind.i64.wrap ((pos : Int) + 1 + (k : Int)) = ((pos + 1 + k : Nat) : Int) := by rw [IntWalk.i64_in _ ⟨by omega, by omega⟩]; omega
              have hw2 : Hid (IntKind.i64.wrap (IntKind.i64.wrap ((pos : Int) + 1) + (k : Int)) = ((pos + 1 + k : Nat) : Int)) := Lib.hid (by rw [IntWalk.i64_in ((pos : Int) + 1) ⟨by omega, by omega⟩]; exact hw1)
              have CW := Lib.hid (rwrite_any m Vk Fk dk (pos + 1 + k) (.slice ax 64 cx) (secAt b k) wr.drew (Hk.disk.keep (by exact (Chg.refl [] wr).drew) (by simp)) (by omega) (by omega) (by omega) (secAt_len b k) (b1.chg (by exact (Chg.refl [] wr).drew) (by simp)) (fun x hx hm => by
                have h1 := b2 x hx
                rcases hWk x (Hk.sub.1 x hm) with h2 | h2
                · have := hWw x h2; omega
                · have hne : secAt b k ≠ [] := fun e => by have := secAt_len b k; rw [e] at this; simp at this
                  have h3 := (HP1.out.at k hlt)
                  obtain ⟨gv', cv', ax', cx', hve', e1', b1', b2'⟩ := h3
                  obtain ⟨rfl, rfl⟩ : gv = gv' ∧ vc = cv' := by simpa using hve'
                  have e2 := hCk.cell e1' (fun hm2 => by
                    have h5 : gv < w.heap.size := hWw gv hm2
                    have h6 := HP1.out.new gv rfl
                    omega)
                  have e3 : Value.slice ax 64 cx = Value.slice ax' 64 cx' := Option.some.inj (e1.symm.trans e2)
                  rw [e3] at hx
                  have := b1'.lt hne x hx
                  omega))
              have hwo := DS.write_ok dk ((pos + 1 + k : Nat) : Int) (secAt b k)
              obtain ⟨nk, hnk⟩ : ∃ nk, M - k = nk + 1 := ⟨M - k - 1, by omega⟩
              have hlk := hkl2
              rw [hnk, DS.lay_succ] at hlk
              clear Hk hWk hAk hCk hkl2 hve b1 b2 HJ hWw
              generalize dk.write ((pos + 1 + k : Nat) : Int) (secAt b k) = zw at *
              obtain ⟨r1, d1⟩ := zw
              dsimp only at CW hwo hlk
              have HLK := Lib.hid hlk
              clear hlk
              go_wp2_with fail
              refine wp_region_L [(12, fun w' => w'.cell? ⟨q, 0, none⟩ = some (.pointer (some ⟨m, 0, none⟩))), (12, fun w' => w'.cell? ⟨gv, k, none⟩ = some (.slice ax 64 cx))] (by kernel_rfl) ?_ (fun hHeld => ?_)
              · exact (HoldC.cons (c0) (HoldC.cons (e1) HoldC.nil))
              refine wpAnyL_take (i := 0) (oi := _) (v := ?_) rfl (by kernel_rfl) (by kernel_rfl) (by kernel_rfl) (by kernel_rfl) (by kernel_rfl) (fun _ _ _ h => h) (Or.inl ⟨by rfl, ?_⟩) (by assumption) (fun hNew => ?_)
              rotate_left
              · intro w _
                go_simp
                try with_reducible rfl
              clear hHeld
              have hHeld := hNew
              clear hNew
              try simp only [List.getElem_toArray, List.getElem_cons_succ, List.getElem_cons_zero, Act.put, List.setIfInBounds_toArray, List.set_cons_zero, List.set_cons_succ]
              refine wpAnyL_take (i := 1) (oi := _) (v := ?_) rfl (by kernel_rfl) (by kernel_rfl) (by kernel_rfl) (by kernel_rfl) (by kernel_rfl) (fun _ _ _ h => h) (Or.inl ⟨by rfl, ?_⟩) (by assumption) (fun hNew => ?_)
              rotate_left
              · intro w _
                go_simp
                try with_reducible rfl
              clear hHeld
              have hHeld := hNew
              clear hNew
              try simp only [List.getElem_toArray, List.getElem_cons_succ, List.getElem_cons_zero, Act.put, List.setIfInBounds_toArray, List.set_cons_zero, List.set_cons_succ]
              refine wpAnyL_take (i := 2) (oi := _) (v := ?_) rfl (by kernel_rfl) (by kernel_rfl) (by kernel_rfl) (by kernel_rfl) (by kernel_rfl) (fun _ _ _ h => h) (Or.inl ⟨by rfl, ?_⟩) (by assumption) (fun hNew => ?_)
              rotate_left
              · intro w _
                go_simp
                try with_reducible rfl
              clear hHeld
              have hHeld := hNew
              clear hNew
              try simp only [List.getElem_toArray, List.getElem_cons_succ, List.getElem_cons_zero, Act.put, List.setIfInBounds_toArray, List.set_cons_zero, List.set_cons_succ]
              refine wpAnyL_take (i := 4) (oi := _) (v := ?_) rfl (by kernel_rfl) (by kernel_rfl) (by kernel_rfl) (by kernel_rfl) (by kernel_rfl) (fun _ _ _ h => h) (Or.inl ⟨by rfl, ?_⟩) (by assumption) (fun hNew => ?_)
              rotate_left
              · intro w _
                go_simp
                try with_reducible rfl
              clear hHeld
              have hHeld := hNew
              clear hNew
              try simp only [List.getElem_toArray, List.getElem_cons_succ, List.getElem_cons_zero, Act.put, List.setIfInBounds_toArray, List.set_cons_zero, List.set_cons_succ]
              refine wpAnyL_take (i := 5) (oi := _) (v := ?_) rfl (by kernel_rfl) (by kernel_rfl) (by kernel_rfl) (by kernel_rfl) (by kernel_rfl) (fun _ _ _ h => h) (Or.inl ⟨by rfl, ?_⟩) (by assumption) (fun hNew => ?_)
              rotate_left
              · intro w _
                go_simp
                try with_reducible rfl
              clear hHeld
              have hHeld := hNew
              clear hNew
              try simp only [List.getElem_toArray, List.getElem_cons_succ, List.getElem_cons_zero, Act.put, List.setIfInBounds_toArray, List.set_cons_zero, List.set_cons_succ]
              refine wpAnyL_take (i := 6) (oi := _) (v := ?_) rfl (by kernel_rfl) (by kernel_rfl) (by kernel_rfl) (by kernel_rfl) (by kernel_rfl) (fun _ _ _ h => h) (Or.inl ⟨by rfl, ?_⟩) (by assumption) (fun hNew => ?_)
              rotate_left
              · intro w _
                go_simp
                try with_reducible rfl
              clear hHeld
              have hHeld := hNew
              clear hNew
              try simp only [List.getElem_toArray, List.getElem_cons_succ, List.getElem_cons_zero, Act.put, List.setIfInBounds_toArray, List.set_cons_zero, List.set_cons_succ]
              refine wpAnyL_take (i := 7) (oi := _) (v := ?_) rfl (by kernel_rfl) (by kernel_rfl) (by kernel_rfl) (by kernel_rfl) (by kernel_rfl) (fun _ _ _ h => h) (Or.inl ⟨by rfl, ?_⟩) (by assumption) (fun hNew => ?_)
              rotate_left
              · intro w _
                go_simp
                try with_reducible rfl
              clear hHeld
              have hHeld := hNew
              clear hNew
              try simp only [List.getElem_toArray, List.getElem_cons_succ, List.getElem_cons_zero, Act.put, List.setIfInBounds_toArray, List.set_cons_zero, List.set_cons_succ]
              refine wpAnyL_take (i := 8) (oi := _) (v := ?_) rfl (by kernel_rfl) (by kernel_rfl) (by kernel_rfl) (by kernel_rfl) (by kernel_rfl) (fun _ _ _ h => h) (Or.inl ⟨by rfl, ?_⟩) (by assumption) (fun hNew => ?_)
              rotate_left
              · intro w _
                go_simp
                try with_reducible rfl
              clear hHeld
              have hHeld := hNew
              clear hNew
              try simp only [List.getElem_toArray, List.getElem_cons_succ, List.getElem_cons_zero, Act.put, List.setIfInBounds_toArray, List.set_cons_zero, List.set_cons_succ]
              refine wpAnyL_take (i := 9) (oi := _) (v := ?_) rfl (by kernel_rfl) (by kernel_rfl) (by kernel_rfl) (by kernel_rfl) (by kernel_rfl) (fun _ _ _ h => h) (Or.inl ⟨by rfl, ?_⟩) (by assumption) (fun hNew => ?_)
              rotate_left
              · intro w _
                go_simp
                try with_reducible rfl
              clear hHeld
              have hHeld := hNew
              clear hNew
              try simp only [List.getElem_toArray, List.getElem_cons_succ, List.getElem_cons_zero, Act.put, List.setIfInBounds_toArray, List.set_cons_zero, List.set_cons_succ]
              refine wpAnyL_take (i := 10) (oi := _) (v := ?_) rfl (by kernel_rfl) (by kernel_rfl) (by kernel_rfl) (by kernel_rfl) (by kernel_rfl) (fun _ _ _ h => h) (Or.inl ⟨by rfl, ?_⟩) (by assumption) (fun hNew => ?_)
              rotate_left
              · intro w _
                go_simp
                try with_reducible rfl
              clear hHeld
              have hHeld := hNew
              clear hNew
              try simp only [List.getElem_toArray, List.getElem_cons_succ, List.getElem_cons_zero, Act.put, List.setIfInBounds_toArray, List.set_cons_zero, List.set_cons_succ]
              refine wpAnyL_load 0 (i := 3) (oi := _) (v := ?_) rfl rfl (by kernel_rfl) (by kernel_rfl) (by kernel_rfl) (by kernel_rfl) (by kernel_rfl) (by kernel_rfl) (fun _ _ _ h => h) (Or.inl ⟨by rfl, ?_⟩) (by assumption) (fun hNew => ?_)
              rotate_left
              · intro w hSw
                (try dsimp only at hSw)
                go_simp
                try with_reducible rfl
              clear hHeld
              have hHeld := hNew
              clear hNew
              try simp only [List.getElem_toArray, List.getElem_cons_succ, List.getElem_cons_zero, Act.put, List.setIfInBounds_toArray, List.set_cons_zero, List.set_cons_succ]
              refine wpAnyL_load 1 (i := 11) (oi := _) (v := ?_) rfl rfl (by kernel_rfl) (by kernel_rfl) (by kernel_rfl) (by kernel_rfl) (by kernel_rfl) (by kernel_rfl) (fun _ _ _ h => h) (Or.inl ⟨by rfl, ?_⟩) (by assumption) (fun hNew => ?_)
              rotate_left
              · intro w hSw
                (try dsimp only at hSw)
                go_simp
                try with_reducible rfl
              clear hHeld
              have hHeld := hNew
              clear hNew
              try simp only [List.getElem_toArray, List.getElem_cons_succ, List.getElem_cons_zero, Act.put, List.setIfInBounds_toArray, List.set_cons_zero, List.set_cons_succ]
              refine wpAnyL_ready (rs := [12]) (by kernel_rfl) (by simp) ?_
              refine AllReadyL.cons (o := _) rfl (fun K hK => ?_) AllReadyL.nil
              try simp only [List.getElem_toArray, List.getElem_cons_succ, List.getElem_cons_zero]
              go_simp
              try rw [hw2.out]
              refine CW.out.mono ?_
              rintro e w3 ⟨rfl, hd3⟩
              have hcd : Chg [] wr wr.drew := by exact (Chg.refl [] wr).drew
              have hs3 := RSid.pre hcd ((HHk.out.keep hcd (by simp)).did hd3 (by show d1.n = dk.n; exact hwo.1))
              have HS3 : Hid (RSid w1 w3 q m W A { s with d := d1 }) := Lib.hid (RSid.glue HGk.out.1 HGk.out.2.1 HGk.out.2.2 hs3)
              clear hs3 hcd hd3 CW
              try go_wp2_with fail
              clear hHeld
              refine hK.out _ _ ?_ (fun hHeld => ?_)
              · exact (HoldC.past (by kernel_rfl) (HoldC.past (by kernel_rfl) HoldC.nil))
              clear hK K
              try simp only [List.getElem_toArray, List.getElem_cons_succ, List.getElem_cons_zero, Act.put, List.setIfInBounds_toArray, List.set_cons_zero, List.set_cons_succ]
              refine wpAnyL_take (i := 13) (oi := _) (v := ?_) rfl (by kernel_rfl) (by kernel_rfl) (by kernel_rfl) (by kernel_rfl) (by kernel_rfl) (fun _ _ _ h => h) (Or.inl ⟨by rfl, ?_⟩) (by assumption) (fun hNew => ?_)
              rotate_left
              · intro w _
                go_simp
                try with_reducible rfl
              clear hHeld
              have hHeld := hNew
              clear hNew
              try simp only [List.getElem_toArray, List.getElem_cons_succ, List.getElem_cons_zero, Act.put, List.setIfInBounds_toArray, List.set_cons_zero, List.set_cons_succ]
              refine wpAnyL_done (by kernel_rfl) ?_ _
              clear hHeld
              clear c0 e1
              by_cases hr1 : r1 = 0
              · subst hr1
                have HLN : Hid (s.d.lays (pos + 1) b = d1.lay (pos + 1) b (M - (k + 1)) (k + 1)) := Lib.hid (by
                  rw [HLK.out, if_neg (by simp), show nk = M - (k + 1) by omega])
                go_wp2
                go_roundg (gk - 1)
                case measure => omega
                case rel => exact ⟨k + 1, d1, by go_num, by omega, by omega, Lib.hid ⟨HS3.out, by rw [hwo.1, hkn], by omega, by omega, HLN.out⟩⟩
              · have q2 : (r1 != 0) = true := by simp [hr1]
                have HZ : Hid (Z = (r1, { s with d := d1 })) := Lib.hid (by rw [HG.out, HLK.out, if_pos hr1, if_pos hr1])
                clear hr1
                go_wp2
                go_ret
                rw [HZ.out]
                exact ⟨rfl, RSid.pre HC1.out HS3.out⟩
            · obtain rfl : k = M := by omega
              have hkz : ¬ (k : Int) < (k : Int) := by omega
              have CS := Lib.hid (rsync_any m Vk Fk dk wr Hk.disk (by omega))
              have hLk : s.d.lays (pos + 1) b = dk.sync := by rw [hkl2, Nat.sub_self]; rfl
              have hso := DS.sync_ok dk
              clear Hk hWk hAk hCk hkl2 HJ hWw
              have HL := Lib.hid hLk
              clear hLk
              generalize dk.sync = zs at *
              obtain ⟨r1, d1⟩ := zs
              dsimp only at CS hso
              go_wp2_with fail
              refine CS.out.mono ?_
              rintro e w4 ⟨rfl, hd4⟩
              have hs4 := RSid.glue HGk.out.1 HGk.out.2.1 HGk.out.2.2 (HHk.out.did hd4 (by show d1.n = dk.n; exact hso.1))
              have HS4 : Hid (RSid w w4 q m W A { s with d := d1 }) := Lib.hid (RSid.pre HC1.out hs4)
              clear hs4 hd4 CS c0 HHk HGk HPk
              by_cases hr1 : r1 = 0
              · subst hr1
                have HZ : Hid (Z = if (d1.lays pos (headBytes b.length key)).1 ≠ 0 then ((d1.lays pos (headBytes b.length key)).1, { s with d := (d1.lays pos (headBytes b.length key)).2 }) else
                    (0, { s with d := (d1.lays pos (headBytes b.length key)).2, rows := s.rows.set j ⟨true, b.length, key⟩ })) := Lib.hid (by
                  rw [HG.out, HL.out]
                  simp only [ne_eq, not_true_eq_false, if_false])
                have hn1 : d1.n = s.d.n := by rw [hso.1, hkn]
                have ho1 : d1.ops ≤ 900000100 := by omega
                have hs1 : d1.since.length ≤ 900100 := by omega
                clear hkn hko hks hso HG HL HLL HLk
                -- the head
                obtain ⟨W4, A4, hS4, hW4, hA4, hC4⟩ := HS4.out
                obtain ⟨p, hp⟩ : ∃ p, p = w4.heap.size := ⟨_, rfl⟩
                have HPP := Lib.hid hp
                obtain ⟨w5, hw5⟩ : ∃ w5, w5 = w4.alloc (.cells #[.slice none 0 0, .int .i64 0] 110) := ⟨_, rfl⟩
                have hc5 : Chg [] w4 w5 := by rw [hw5]; exact (Chg.refl _ _).alloc _
                have hp5 : PenAt 110 w5 p none [] 0 := ⟨.slice none 0 0, by rw [hw5, hp]; exact heap_alloc_new w4 _, BRow.nil _, rfl, by simp, by simp⟩
                have HW5 := Lib.hid hw5
                have HC5 := Lib.hid hc5
                have HX4 := Lib.hid (And.intro hS4 (And.intro hW4 (And.intro hA4 hC4)))
                have CN1 := Lib.hid (rpnum_any p none [] 0 1 1 w5 hp5 (by omega) (by omega))
                rw [show penNum [] 0 1 (1 : Int).toNat = h1 from rfl] at CN1
                clear hS4 hW4 hA4 hC4 hp hw5 hc5 hp5 HS4
                go_wp2_with fail
                rw [← HW5.out, ← HPP.out]
                refine CN1.out.mono ?_
                rintro e w6 ⟨rfl, hw6⟩
                obtain ⟨g6, hp6, hg6, hc6⟩ := hw6
                have HC6 : Hid (Chg [] w4 w6) := Lib.hid (HC5.out.trans hc6 (fun x hx => .inr (by
                  have : x = p := by simpa using hx
                  have := HPP.out
                  omega)))
                have hge6 : ∀ k, g6 = some k → w4.heap.size ≤ k := by
                  intro k hk
                  rcases hg6 with rfl | ⟨k', rfl, h'⟩
                  · cases hk
                  · obtain rfl : k' = k := by simpa using hk
                    exact Nat.le_trans HC5.out.size h'
                have CN2 := Lib.hid (rpnum_any p g6 h1.1 h1.2 (b.length : Int) 2 w6 hp6 (by omega) (by omega))
                rw [show penNum h1.1 h1.2 (b.length : Int) (2 : Int).toNat = h2 b.length from rfl] at CN2
                have HGE6 := Lib.hid hge6
                clear hp6 hg6 hc6 hge6 CN1
                go_wp2_with fail
                refine CN2.out.mono ?_
                rintro e w7 ⟨rfl, hw7⟩
                obtain ⟨g7, hp7, hg7, hc7⟩ := hw7
                have HC7 : Hid (Chg [] w4 w7) := Lib.hid (HC6.out.trans hc7 (fun x hx => .inr (by
                  have hpp := HPP.out
                  rcases List.mem_cons.1 hx with rfl | hx
                  · omega
                  · exact HGE6.out x (by simpa using hx))))
                have hge7 : ∀ k, g7 = some k → w4.heap.size ≤ k := by
                  intro k hk
                  rcases hg7 with rfl | ⟨k', rfl, h'⟩
                  · exact HGE6.out k hk
                  · obtain rfl : k' = k := by simpa using hk
                    exact Nat.le_trans HC6.out.size h'
                have HKO : Hid (key ≠ [] → ∀ k, (Value.slice ka key.length kc).ownBlock = some k → k < w.heap.size ∧ k ∉ W) := Lib.hid (fun hne k hk => ⟨HK.out.lt hne k hk, HS.out.outside HK.out hne k hk⟩)
                have HK4 : Hid (BytesAt w4 (.slice ka key.length kc) key) := Lib.hid (HK.out.chgW HX4.out.2.2.2 (fun hne k hk => (HKO.out hne k hk).2))
                have CR := Lib.hid (rpraw_any p g7 (h2 b.length).1 (h2 b.length).2 _ key w7 hp7 (HK4.out.chg HC7.out (by simp)) (by omega) (fun hne k hk => by
                  have h8 := (HKO.out hne k hk).1
                  have h9 := HX4.out.2.2.2.size
                  have hpp := HPP.out
                  exact ⟨by omega, fun e => by have := hge7 k e; omega⟩))
                rw [show penRaw (h2 b.length).1 (h2 b.length).2 key = h3 b.length key from rfl] at CR
                have HGE7 := Lib.hid hge7
                clear hp7 hg7 hc7 hge7 CN2
                go_wp2_with fail
                refine CR.out.mono ?_
                rintro e w8 ⟨rfl, hw8⟩
                obtain ⟨g8, hp8, hg8, hc8⟩ := hw8
                have HC8 : Hid (Chg [] w4 w8) := Lib.hid (HC7.out.trans hc8 (fun x hx => .inr (by
                  have hpp := HPP.out
                  rcases List.mem_cons.1 hx with rfl | hx
                  · omega
                  · exact HGE7.out x (by simpa using hx))))
                rw [H3.out.2, ← head_h3] at hp8
                obtain ⟨v8, hv8, hr8, _, _, _⟩ := hp8
                have p0 : w8.cell? ⟨p, 0, none⟩ = some v8 := blk_cell hv8 0 _ rfl
                have CPD := Lib.hid (rpadded_any v8 (headBytes b.length key) w8.drew (hr8.bytes.chg (by exact (Chg.refl [] w8).drew) (by simp)) (by rw [HHL.out]; omega))
                obtain ⟨a8, c8, hv8⟩ := hr8.bytes.slice
                subst hv8
                have hS8 := HX4.out.1.keep HC8.out (by simp)
                obtain ⟨V8, F8, rv8, R8, H8⟩ := hS8
                have c08 : w8.cell? ⟨q, 0, none⟩ = some (.pointer (some ⟨m, 0, none⟩)) := blk_cell H8.obj.head 0 _ rfl
                have HH8 := Lib.hid H8
                clear hv8 hr8 hg8 hc8 CR H8
                go_wp2_with fail
                refine wp_region_L [(12, fun w' => w'.cell? ⟨q, 0, none⟩ = some (.pointer (some ⟨m, 0, none⟩))), (12, fun w' => w'.cell? ⟨p, 0, none⟩ = some (.slice a8 (headBytes b.length key).length c8))] (by kernel_rfl) ?_ (fun hHeld => ?_)
                · exact (HoldC.cons (c08) (HoldC.cons (p0) HoldC.nil))
                refine wpAnyL_take (i := 0) (oi := _) (v := ?_) rfl (by kernel_rfl) (by kernel_rfl) (by kernel_rfl) (by kernel_rfl) (by kernel_rfl) (fun _ _ _ h => h) (Or.inl ⟨by rfl, ?_⟩) (by assumption) (fun hNew => ?_)
                rotate_left
                · intro w _
                  go_simp
                  try with_reducible rfl
                clear hHeld
                have hHeld := hNew
                clear hNew
                try simp only [List.getElem_toArray, List.getElem_cons_succ, List.getElem_cons_zero, Act.put, List.setIfInBounds_toArray, List.set_cons_zero, List.set_cons_succ]
                refine wpAnyL_take (i := 1) (oi := _) (v := ?_) rfl (by kernel_rfl) (by kernel_rfl) (by kernel_rfl) (by kernel_rfl) (by kernel_rfl) (fun _ _ _ h => h) (Or.inl ⟨by rfl, ?_⟩) (by assumption) (fun hNew => ?_)
                rotate_left
                · intro w _
                  go_simp
                  try with_reducible rfl
                clear hHeld
                have hHeld := hNew
                clear hNew
                try simp only [List.getElem_toArray, List.getElem_cons_succ, List.getElem_cons_zero, Act.put, List.setIfInBounds_toArray, List.set_cons_zero, List.set_cons_succ]
                refine wpAnyL_take (i := 2) (oi := _) (v := ?_) rfl (by kernel_rfl) (by kernel_rfl) (by kernel_rfl) (by kernel_rfl) (by kernel_rfl) (fun _ _ _ h => h) (Or.inl ⟨by rfl, ?_⟩) (by assumption) (fun hNew => ?_)
                rotate_left
                · intro w _
                  go_simp
                  try with_reducible rfl
                clear hHeld
                have hHeld := hNew
                clear hNew
                try simp only [List.getElem_toArray, List.getElem_cons_succ, List.getElem_cons_zero, Act.put, List.setIfInBounds_toArray, List.set_cons_zero, List.set_cons_succ]
                refine wpAnyL_take (i := 4) (oi := _) (v := ?_) rfl (by kernel_rfl) (by kernel_rfl) (by kernel_rfl) (by kernel_rfl) (by kernel_rfl) (fun _ _ _ h => h) (Or.inl ⟨by rfl, ?_⟩) (by assumption) (fun hNew => ?_)
                rotate_left
                · intro w _
                  go_simp
                  try with_reducible rfl
                clear hHeld
                have hHeld := hNew
                clear hNew
                try simp only [List.getElem_toArray, List.getElem_cons_succ, List.getElem_cons_zero, Act.put, List.setIfInBounds_toArray, List.set_cons_zero, List.set_cons_succ]
                refine wpAnyL_take (i := 5) (oi := _) (v := ?_) rfl (by kernel_rfl) (by kernel_rfl) (by kernel_rfl) (by kernel_rfl) (by kernel_rfl) (fun _ _ _ h => h) (Or.inl ⟨by rfl, ?_⟩) (by assumption) (fun hNew => ?_)
                rotate_left
                · intro w _
                  go_simp
                  try with_reducible rfl
                clear hHeld
                have hHeld := hNew
                clear hNew
                try simp only [List.getElem_toArray, List.getElem_cons_succ, List.getElem_cons_zero, Act.put, List.setIfInBounds_toArray, List.set_cons_zero, List.set_cons_succ]
                refine wpAnyL_take (i := 6) (oi := _) (v := ?_) rfl (by kernel_rfl) (by kernel_rfl) (by kernel_rfl) (by kernel_rfl) (by kernel_rfl) (fun _ _ _ h => h) (Or.inl ⟨by rfl, ?_⟩) (by assumption) (fun hNew => ?_)
                rotate_left
                · intro w _
                  go_simp
                  try with_reducible rfl
                clear hHeld
                have hHeld := hNew
                clear hNew
                try simp only [List.getElem_toArray, List.getElem_cons_succ, List.getElem_cons_zero, Act.put, List.setIfInBounds_toArray, List.set_cons_zero, List.set_cons_succ]
                refine wpAnyL_take (i := 7) (oi := _) (v := ?_) rfl (by kernel_rfl) (by kernel_rfl) (by kernel_rfl) (by kernel_rfl) (by kernel_rfl) (fun _ _ _ h => h) (Or.inl ⟨by rfl, ?_⟩) (by assumption) (fun hNew => ?_)
                rotate_left
                · intro w _
                  go_simp
                  try with_reducible rfl
                clear hHeld
                have hHeld := hNew
                clear hNew
                try simp only [List.getElem_toArray, List.getElem_cons_succ, List.getElem_cons_zero, Act.put, List.setIfInBounds_toArray, List.set_cons_zero, List.set_cons_succ]
                refine wpAnyL_load 0 (i := 3) (oi := _) (v := ?_) rfl rfl (by kernel_rfl) (by kernel_rfl) (by kernel_rfl) (by kernel_rfl) (by kernel_rfl) (by kernel_rfl) (fun _ _ _ h => h) (Or.inl ⟨by rfl, ?_⟩) (by assumption) (fun hNew => ?_)
                rotate_left
                · intro w hSw
                  (try dsimp only at hSw)
                  go_simp
                  try with_reducible rfl
                clear hHeld
                have hHeld := hNew
                clear hNew
                try simp only [List.getElem_toArray, List.getElem_cons_succ, List.getElem_cons_zero, Act.put, List.setIfInBounds_toArray, List.set_cons_zero, List.set_cons_succ]
                refine wpAnyL_load 1 (i := 8) (oi := _) (v := ?_) rfl rfl (by kernel_rfl) (by kernel_rfl) (by kernel_rfl) (by kernel_rfl) (by kernel_rfl) (by kernel_rfl) (fun _ _ _ h => h) (Or.inl ⟨by rfl, ?_⟩) (by assumption) (fun hNew => ?_)
                rotate_left
                · intro w hSw
                  (try dsimp only at hSw)
                  go_simp
                  try with_reducible rfl
                clear hHeld
                have hHeld := hNew
                clear hNew
                try simp only [List.getElem_toArray, List.getElem_cons_succ, List.getElem_cons_zero, Act.put, List.setIfInBounds_toArray, List.set_cons_zero, List.set_cons_succ]
                refine wpAnyL_ready (rs := [9]) (by kernel_rfl) (by simp) ?_
                refine AllReadyL.cons (o := _) rfl (fun K hK => ?_) AllReadyL.nil
                try simp only [List.getElem_toArray, List.getElem_cons_succ, List.getElem_cons_zero]
                go_simp
                refine CPD.out.mono ?_
                rintro e w9 ⟨v9, PV9, rfl, hpad9, hc9⟩
                have hcd8 : Chg [] w8 w8.drew := by exact (Chg.refl [] w8).drew
                have hc9' : Chg [] w8 w9 := hcd8.trans hc9 (by simp)
                have HC9 := Lib.hid hc9'
                rw [HN2.out] at hpad9
                obtain ⟨g9, cv9, ax9, cx9, hv9, e9, b9, o9⟩ := hpad9.at 0 (by omega)
                subst hv9
                have CW2 := Lib.hid (rwrite_any m V8 F8 d1 pos (.slice ax9 64 cx9) (secAt (headBytes b.length key) 0) w9 (HH8.out.disk.keep hc9' (by simp)) (by omega) (by omega) (by omega) (secAt_len _ _) b9 (fun x hx hm => by
                  have h1 := o9 x hx
                  have h2 : x < w8.heap.size := HH8.out.lim x (HH8.out.aF x (HH8.out.sub.2.2.2.2 x hm))
                  have h3 : w8.drew.heap.size = w8.heap.size := rfl
                  omega))
                have c09 := hc9'.cell c08 (by simp)
                have p09 := hc9'.cell p0 (by simp)
                have hwo := DS.write_ok d1 (pos : Int) (secAt (headBytes b.length key) 0)
                have hso2 := DS.sync_ok (d1.write (pos : Int) (secAt (headBytes b.length key) 0)).2
                have hsp := HSO.out d1
                clear hpad9 b9 o9 hc9 hc9' hcd8 CPD
                generalize d1.write (pos : Int) (secAt (headBytes b.length key) 0) = zw at *
                obtain ⟨r2, d2⟩ := zw
                dsimp only at CW2 hwo hso2 hsp
                have HSP := Lib.hid hsp
                clear hsp
                try go_wp2_with fail
                clear hHeld
                refine hK.out _ _ ?_ (fun hHeld => ?_)
                · exact (HoldC.cons (c09) (HoldC.cons (p09) HoldC.nil))
                clear hK K
                try simp only [List.getElem_toArray, List.getElem_cons_succ, List.getElem_cons_zero, Act.put, List.setIfInBounds_toArray, List.set_cons_zero, List.set_cons_succ]
                refine wpAnyL_take (i := 10) (oi := _) (v := ?_) rfl (by kernel_rfl) (by kernel_rfl) (by kernel_rfl) (by kernel_rfl) (by kernel_rfl) (fun _ _ _ h => h) (Or.inl ⟨by rfl, ?_⟩) (by assumption) (fun hNew => ?_)
                rotate_left
                · intro w _
                  go_simp
                  try with_reducible rfl
                clear hHeld
                have hHeld := hNew
                clear hNew
                try simp only [List.getElem_toArray, List.getElem_cons_succ, List.getElem_cons_zero, Act.put, List.setIfInBounds_toArray, List.set_cons_zero, List.set_cons_succ]
                refine wpAnyL_ready (rs := [11]) (by kernel_rfl) (by simp) ?_
                refine AllReadyL.cons (o := _) rfl (fun K hK => ?_) AllReadyL.nil
                try simp only [List.getElem_toArray, List.getElem_cons_succ, List.getElem_cons_zero]
                go_simp
                clear hHeld
                refine hK.out _ _ ?_ (fun hHeld => ?_)
                · exact (HoldC.cons (c09) (HoldC.cons (p09) HoldC.nil))
                clear hK K
                try simp only [List.getElem_toArray, List.getElem_cons_succ, List.getElem_cons_zero, Act.put, List.setIfInBounds_toArray, List.set_cons_zero, List.set_cons_succ]
                refine wpAnyL_ready (rs := [12]) (by kernel_rfl) (by simp) ?_
                refine AllReadyL.cons (o := _) rfl (fun K hK => ?_) AllReadyL.nil
                try simp only [List.getElem_toArray, List.getElem_cons_succ, List.getElem_cons_zero]
                go_simp
                refine CW2.out.mono ?_
                rintro e w10 ⟨rfl, hd10⟩
                have hs10 := RSid.pre HC8.out (RSid.pre HC9.out ((HH8.out.keep HC9.out (by simp)).did hd10 (by show d2.n = d1.n; exact hwo.1)))
                have HS10 : Hid (RSid w w10 q m W A { s with d := d2 }) := Lib.hid (RSid.glue HX4.out.2.1 HX4.out.2.2.1 HX4.out.2.2.2 hs10)
                clear hs10 hd10 CW2 c09 p09 e9
                try go_wp2_with fail
                clear hHeld
                refine hK.out _ _ ?_ (fun hHeld => ?_)
                · exact (HoldC.past (by kernel_rfl) (HoldC.past (by kernel_rfl) HoldC.nil))
                clear hK K
                try simp only [List.getElem_toArray, List.getElem_cons_succ, List.getElem_cons_zero, Act.put, List.setIfInBounds_toArray, List.set_cons_zero, List.set_cons_succ]
                refine wpAnyL_take (i := 13) (oi := _) (v := ?_) rfl (by kernel_rfl) (by kernel_rfl) (by kernel_rfl) (by kernel_rfl) (by kernel_rfl) (fun _ _ _ h => h) (Or.inl ⟨by rfl, ?_⟩) (by assumption) (fun hNew => ?_)
                rotate_left
                · intro w _
                  go_simp
                  try with_reducible rfl
                clear hHeld
                have hHeld := hNew
                clear hNew
                try simp only [List.getElem_toArray, List.getElem_cons_succ, List.getElem_cons_zero, Act.put, List.setIfInBounds_toArray, List.set_cons_zero, List.set_cons_succ]
                refine wpAnyL_done (by kernel_rfl) ?_ _
                clear hHeld
                clear c08 p0
                by_cases hr2 : r2 = 0
                · subst hr2
                  obtain ⟨W5, A5, ⟨V5, F5, rv5, R5, H5⟩, hW5, hA5, hC5⟩ := HS10.out
                  have c05 : w10.cell? ⟨q, 0, none⟩ = some (.pointer (some ⟨m, 0, none⟩)) := blk_cell H5.obj.head 0 _ rfl
                  have CS := Lib.hid (rsync_any m V5 F5 d2 w10 H5.disk (by omega))
                  have H50 := Lib.hid H5
                  have HG5 := Lib.hid (And.intro hW5 (And.intro hA5 hC5))
                  have hL2 : d1.lays pos (headBytes b.length key) = d2.sync := by rw [HSP.out]; simp
                  have HL2 := Lib.hid hL2
                  clear H5 hW5 hA5 hC5 hL2
                  generalize d2.sync = zs at *
                  obtain ⟨r3, d3⟩ := zs
                  dsimp only at CS hso2
                  go_wp2_with fail
                  refine CS.out.mono ?_
                  rintro e w11 ⟨rfl, hd11⟩
                  have hs11 := RSid.glue HG5.out.1 HG5.out.2.1 HG5.out.2.2 (H50.out.did hd11 (by show d3.n = d2.n; exact hso2.1))
                  have HS11 : Hid (RSid w w11 q m W A { s with d := d3 }) := Lib.hid hs11
                  have HZ3 : Hid (Z = if r3 ≠ 0 then (r3, { s with d := d3 }) else (0, { s with d := d3, rows := s.rows.set j ⟨true, b.length, key⟩ })) := Lib.hid (by
                    rw [HZ.out, HL2.out])
                  clear hs11 hd11 CS c05 H50 HG5 HS10 HL2 HSP
                  by_cases hr3 : r3 = 0
                  · subst hr3
                    obtain ⟨W6, A6, ⟨V6, F6, rv6, R6, H6⟩, hW6, hA6, hC6⟩ := HS11.out
                    have c26 : w11.cell? ⟨q, 2, none⟩ = some rv6 := blk_cell H6.obj.head 2 _ rfl
                    have hjr : j < ({ s with d := d3 } : SS).rows.length := by show j < s.rows.length; rw [← HN.out]; exact hjl
                    obtain ⟨gr, capr, kvr, hrvr, hcapr, hcmr, _, _, _, _, _⟩ := H6.at j hjr
                    rw [show ({ s with d := d3 } : SS).rows.length = s.rows.length from rfl, ← HN.out] at hrvr hcapr
                    have hcd : Chg [] w11 w11.drew := by exact (Chg.refl [] w11).drew
                    have CC := Lib.hid (rcopy_any _ key w11.drew ((HK.out.chgW hC6 (fun hne k hk => (HKO.out hne k hk).2)).chg hcd (by simp)) (by omega))
                    have HH6 := Lib.hid H6
                    have HG6 := Lib.hid (And.intro hW6 (And.intro hA6 hC6))
                    have HGF : Hid (Z = (0, { s with d := d3, rows := s.rows.set j ⟨true, b.length, key⟩ })) := Lib.hid (by rw [HZ3.out, if_neg (by simp)])
                    subst hrvr
                    clear H6 hW6 hA6 hC6 hcd HS11 HZ3
                    go_wp2_with fail
                    refine wp_region_L [(11, fun w' => w'.cell? ⟨q, 2, none⟩ = some (.slice (some ⟨gr, 0, none⟩) n capr))] (by kernel_rfl) ?_ (fun hHeld => ?_)
                    · exact (HoldC.cons (c26) HoldC.nil)
                    refine wpAnyL_take (i := 0) (oi := _) (v := ?_) rfl (by kernel_rfl) (by kernel_rfl) (by kernel_rfl) (by kernel_rfl) (by kernel_rfl) (fun _ _ _ h => h) (Or.inl ⟨by rfl, ?_⟩) (by assumption) (fun hNew => ?_)
                    rotate_left
                    · intro w _
                      go_simp
                      try with_reducible rfl
                    clear hHeld
                    have hHeld := hNew
                    clear hNew
                    try simp only [List.getElem_toArray, List.getElem_cons_succ, List.getElem_cons_zero, Act.put, List.setIfInBounds_toArray, List.set_cons_zero, List.set_cons_succ]
                    refine wpAnyL_take (i := 1) (oi := _) (v := ?_) rfl (by kernel_rfl) (by kernel_rfl) (by kernel_rfl) (by kernel_rfl) (by kernel_rfl) (fun _ _ _ h => h) (Or.inl ⟨by rfl, ?_⟩) (by assumption) (fun hNew => ?_)
                    rotate_left
                    · intro w _
                      go_simp
                      try with_reducible rfl
                    clear hHeld
                    have hHeld := hNew
                    clear hNew
                    try simp only [List.getElem_toArray, List.getElem_cons_succ, List.getElem_cons_zero, Act.put, List.setIfInBounds_toArray, List.set_cons_zero, List.set_cons_succ]
                    refine wpAnyL_take (i := 2) (oi := _) (v := ?_) rfl (by kernel_rfl) (by kernel_rfl) (by kernel_rfl) (by kernel_rfl) (by kernel_rfl) (fun _ _ _ h => h) (Or.inl ⟨by rfl, ?_⟩) (by assumption) (fun hNew => ?_)
                    rotate_left
                    · intro w _
                      go_simp
                      try with_reducible rfl
                    clear hHeld
                    have hHeld := hNew
                    clear hNew
                    try simp only [List.getElem_toArray, List.getElem_cons_succ, List.getElem_cons_zero, Act.put, List.setIfInBounds_toArray, List.set_cons_zero, List.set_cons_succ]
                    refine wpAnyL_take (i := 4) (oi := _) (v := ?_) rfl (by kernel_rfl) (by kernel_rfl) (by kernel_rfl) (by kernel_rfl) (by kernel_rfl) (fun _ _ _ h => h) (Or.inl ⟨by rfl, ?_⟩) (by assumption) (fun hNew => ?_)
                    rotate_left
                    · intro w _
                      go_simp
                      try with_reducible rfl
                    clear hHeld
                    have hHeld := hNew
                    clear hNew
                    try simp only [List.getElem_toArray, List.getElem_cons_succ, List.getElem_cons_zero, Act.put, List.setIfInBounds_toArray, List.set_cons_zero, List.set_cons_succ]
                    refine wpAnyL_take (i := 5) (oi := _) (v := ?_) rfl (by kernel_rfl) (by kernel_rfl) (by kernel_rfl) (by kernel_rfl) (by kernel_rfl) (fun _ _ _ h => h) (Or.inl ⟨by rfl, ?_⟩) (by assumption) (fun hNew => ?_)
                    rotate_left
                    · intro w _
                      go_simp
                      try with_reducible rfl
                    clear hHeld
                    have hHeld := hNew
                    clear hNew
                    try simp only [List.getElem_toArray, List.getElem_cons_succ, List.getElem_cons_zero, Act.put, List.setIfInBounds_toArray, List.set_cons_zero, List.set_cons_succ]
                    refine wpAnyL_take (i := 7) (oi := _) (v := ?_) rfl (by kernel_rfl) (by kernel_rfl) (by kernel_rfl) (by kernel_rfl) (by kernel_rfl) (fun _ _ _ h => h) (Or.inl ⟨by rfl, ?_⟩) (by assumption) (fun hNew => ?_)
                    rotate_left
                    · intro w _
                      go_simp
                      try with_reducible rfl
                    clear hHeld
                    have hHeld := hNew
                    clear hNew
                    try simp only [List.getElem_toArray, List.getElem_cons_succ, List.getElem_cons_zero, Act.put, List.setIfInBounds_toArray, List.set_cons_zero, List.set_cons_succ]
                    refine wpAnyL_take (i := 8) (oi := _) (v := ?_) rfl (by kernel_rfl) (by kernel_rfl) (by kernel_rfl) (by kernel_rfl) (by kernel_rfl) (fun _ _ _ h => h) (Or.inl ⟨by rfl, ?_⟩) (by assumption) (fun hNew => ?_)
                    rotate_left
                    · intro w _
                      go_simp
                      try with_reducible rfl
                    clear hHeld
                    have hHeld := hNew
                    clear hNew
                    try simp only [List.getElem_toArray, List.getElem_cons_succ, List.getElem_cons_zero, Act.put, List.setIfInBounds_toArray, List.set_cons_zero, List.set_cons_succ]
                    refine wpAnyL_load 0 (i := 3) (oi := _) (v := ?_) rfl rfl (by kernel_rfl) (by kernel_rfl) (by kernel_rfl) (by kernel_rfl) (by kernel_rfl) (by kernel_rfl) (fun _ _ _ h => h) (Or.inl ⟨by rfl, ?_⟩) (by assumption) (fun hNew => ?_)
                    rotate_left
                    · intro w hSw
                      (try dsimp only at hSw)
                      go_simp
                      try with_reducible rfl
                    clear hHeld
                    have hHeld := hNew
                    clear hNew
                    try simp only [List.getElem_toArray, List.getElem_cons_succ, List.getElem_cons_zero, Act.put, List.setIfInBounds_toArray, List.set_cons_zero, List.set_cons_succ]
                    refine wpAnyL_ready (rs := [6]) (by kernel_rfl) (by simp) ?_
                    refine AllReadyL.cons (o := _) rfl (fun K hK => ?_) AllReadyL.nil
                    try simp only [List.getElem_toArray, List.getElem_cons_succ, List.getElem_cons_zero]
                    go_simp
                    refine CC.out.mono ?_
                    rintro e w12 ⟨v12, rfl, hr12, ho12, hc12⟩
                    have HC12 : Hid (Chg [] w11 w12) := Lib.hid ((by exact (Chg.refl [] w11).drew : Chg [] w11 w11.drew).trans hc12 (by simp))
                    obtain ⟨a12, c12, rfl⟩ := hr12.bytes.slice
                    have H12 := HH6.out.keep HC12.out (by simp)
                    have hfr : ∀ k, (Value.slice a12 key.length c12).ownBlock = some k → w11.heap.size ≤ k := ho12
                    obtain ⟨A7, hs7, hA7, hC7⟩ := H12.setRow (N := w11.heap.size) j hjr gr capr (by show _ = Value.slice (some ⟨gr, 0, none⟩) s.rows.length capr; rw [HN.out]) ⟨true, b.length, key⟩ _ hr12.bytes (fun k hk => ⟨hr12.lt k hk, fun hm => by
                      have a1 := hfr k hk
                      have a2 := HH6.out.lim k (HH6.out.sub.2.2.1 k hm)
                      omega⟩) (fun k hk _ => hfr k hk) HC12.out.size ⟨hb448, hk40⟩
                    have TH := Lib.hid (H12.there j hjr gr capr (by show _ = Value.slice (some ⟨gr, 0, none⟩) s.rows.length capr; rw [HN.out]))
                    have HSF : Hid (RSid w (w12.setCells gr (j * 3) [.bool true, .slice a12 key.length c12, .int .i64 (b.length : Int)]) q m W A { s with d := d3, rows := s.rows.set j ⟨true, b.length, key⟩ }) := Lib.hid (RSid.glue HG6.out.1 HG6.out.2.1 HG6.out.2.2 ⟨W6, A7, hs7, fun x hx => .inl hx, hA7, (HC12.out.mono (by simp)).trans hC7 (fun x hx => .inl hx)⟩)
                    have c27 := HC12.out.cell c26 (by simp)
                    clear H12 hr12 ho12 hc12 CC hs7 hA7 hC7 hfr
                    try go_wp2_with fail
                    clear hHeld
                    refine hK.out _ _ ?_ (fun hHeld => ?_)
                    · exact (HoldC.cons (c27) HoldC.nil)
                    clear hK K
                    try simp only [List.getElem_toArray, List.getElem_cons_succ, List.getElem_cons_zero, Act.put, List.setIfInBounds_toArray, List.set_cons_zero, List.set_cons_succ]
                    refine wpAnyL_take (i := 9) (oi := _) (v := ?_) rfl (by kernel_rfl) (by kernel_rfl) (by kernel_rfl) (by kernel_rfl) (by kernel_rfl) (fun _ _ _ h => h) (Or.inl ⟨by rfl, ?_⟩) (by assumption) (fun hNew => ?_)
                    rotate_left
                    · intro w _
                      go_simp
                      try with_reducible rfl
                    clear hHeld
                    have hHeld := hNew
                    clear hNew
                    try simp only [List.getElem_toArray, List.getElem_cons_succ, List.getElem_cons_zero, Act.put, List.setIfInBounds_toArray, List.set_cons_zero, List.set_cons_succ]
                    refine wpAnyL_take (i := 10) (oi := _) (v := ?_) rfl (by kernel_rfl) (by kernel_rfl) (by kernel_rfl) (by kernel_rfl) (by kernel_rfl) (fun _ _ _ h => h) (Or.inl ⟨by rfl, ?_⟩) (by assumption) (fun hNew => ?_)
                    rotate_left
                    · intro w _
                      go_simp
                      try with_reducible rfl
                    clear hHeld
                    have hHeld := hNew
                    clear hNew
                    try simp only [List.getElem_toArray, List.getElem_cons_succ, List.getElem_cons_zero, Act.put, List.setIfInBounds_toArray, List.set_cons_zero, List.set_cons_succ]
                    refine wpAnyL_ready (rs := [11]) (by kernel_rfl) (by simp) ?_
                    refine AllReadyL.cons (o := _) rfl (fun K hK => ?_) AllReadyL.nil
                    try simp only [List.getElem_toArray, List.getElem_cons_succ, List.getElem_cons_zero]
                    rw [if_pos (by rfl)]
                    refine wp_store_mid 95 (.tmp 135) (.tmp 134) (by rfl) gr (j * 3) #[.bool true, .slice a12 key.length c12, .int .i64 (b.length : Int)] (by rfl) (by rfl) TH.out (by kernel_rfl) (by simp [Value.oneCell']) ?_
                    clear hHeld
                    refine hK.out _ _ ?_ (fun hHeld => ?_)
                    · exact (HoldC.past (by kernel_rfl) HoldC.nil)
                    clear hK K
                    try simp only [List.getElem_toArray, List.getElem_cons_succ, List.getElem_cons_zero, Act.put, List.setIfInBounds_toArray, List.set_cons_zero, List.set_cons_succ]
                    refine wpAnyL_done (by kernel_rfl) ?_ _
                    clear hHeld
                    go_wp2
                    go_ret
                    rw [HGF.out]
                    exact ⟨rfl, HSF.out⟩
                  · have q2 : (r3 == 0) = false := by simp [hr3]
                    have HGF : Hid (Z = (r3, { s with d := d3 })) := Lib.hid (by rw [HZ3.out, if_pos hr3])
                    clear hr3
                    go_wp2
                    go_ret
                    rw [HGF.out]
                    exact ⟨rfl, HS11.out⟩
                · have q2 : (r2 == 0) = false := by simp [hr2]
                  have HGF : Hid (Z = (r2, { s with d := d2 })) := Lib.hid (by
                    have h9 : d1.lays pos (headBytes b.length key) = (r2, d2) := by rw [HSP.out, if_pos hr2]
                    rw [HZ.out, h9, if_pos hr2])
                  clear hr2
                  go_wp2
                  go_ret
                  rw [HGF.out]
                  exact ⟨rfl, HS10.out⟩
              · have q2 : (r1 != 0) = true := by simp [hr1]
                have HZ : Hid (Z = (r1, { s with d := d1 })) := Lib.hid (by rw [HG.out, HL.out, if_pos hr1])
                clear hr1
                go_wp2
                go_ret
                rw [HZ.out]
                exact ⟨rfl, HS4.out⟩
  · have hg : s.put i key b = (1, s) := by unfold SS.put; rw [if_pos (by simpa using hi)]
    have HP := Lib.hid (RSidPost.same (c := 1) HS.out)
    have HG := Lib.hid hg
    rw [HG.out]
    have HI := Lib.hid hi
    subst hrv0
    generalize hnn : s.rows.length = n at *
    have HNN := Lib.hid hnn
    clear H HH hg hi hfew c0 c1 hk hb
    by_cases h0 : i < 0
    · have q0 : decide (i < 0) = true := decide_eq_true h0
      go_enter Tryd.func28, Tryd.ntmps28
      go_wp2
      go_ret
      exact HP.out
    · have q0 : decide (i < 0) = false := decide_eq_false h0
      have q1 : decide (i ≥ (n : Int)) = true := decide_eq_true (by
        have h9 := HI.out
        unfold SS.has at h9
        have h8 := HNN.out
        omega)
      go_enter Tryd.func28, Tryd.ntmps28
      go_wp2
      go_ret
      exact HP.out
end Go.Proofs.YtipfgghdoicdhaaDoor.W

/- The reference's eye: Num. -/
namespace Go.Proofs.YtipfgghdoicdhaaDoor.W
open Go.RowKit
set_option linter.unusedVariables false
set_option linter.unusedSimpArgs false

def REyeV (w : World) (v : Value) (g : Nat) (l : List UInt8) : Prop :=
  (l = [] ∧ ∃ a cap, v = .slice a 0 cap) ∨ ∃ o cap, v = .slice (some ⟨g, o, none⟩) l.length cap ∧ l.length ≤ cap ∧ cap ≤ maxLen ∧ g < w.heap.size ∧ ∀ i, i < l.length → w.cell? ⟨g, o + i, none⟩ = some (bv (l.getD i 0))
theorem REyeV.keepC {w w' : World} {v : Value} {g : Nat} {l : List UInt8} {S : List Nat} (h : REyeV w v g l) (hc : Chg S w w') (hn : g ∉ S) : REyeV w' v g l := by
  rcases h with h | ⟨o, cap, rfl, h1, h2, h3, hcell⟩
  · exact .inl h
  · exact .inr ⟨o, cap, rfl, h1, h2, Nat.lt_of_lt_of_le h3 hc.size, fun i hi => hc.cell (hcell i hi) hn⟩
theorem REyeV.slice {w : World} {v : Value} {g : Nat} {l : List UInt8} (h : REyeV w v g l) : ∃ a cap, v = .slice a l.length cap := by
  rcases h with ⟨rfl, a, cap, rfl⟩ | ⟨o, cap, rfl, _⟩
  · exact ⟨_, _, rfl⟩
  · exact ⟨_, _, rfl⟩
/-- The reference's eye in block b, its bytes in block g. -/
def REyeAt (w : World) (b g : Nat) (l : List UInt8) (bad : Int) : Prop :=
  ∃ v, w.heap[b]? = some (.cells #[v, .int .i64 bad] 116 (0, 0)) ∧ REyeV w v g l ∧ g ≠ b ∧ l.length ≤ 1000000
theorem REyeAt.keep {w w' : World} {b g : Nat} {l : List UInt8} {bad : Int} {S : List Nat} (h : REyeAt w b g l bad) (hc : Chg S w w') (hb : b ∉ S) (hg : g ∉ S) : REyeAt w' b g l bad := by
  obtain ⟨v, h1, h2, h3, h4⟩ := h
  exact ⟨v, hc.keep h1 hb, h2.keepC hc hg, h3, h4⟩
theorem REyeV.dropped {w : World} {g o cap n : Nat} {l : List UInt8} (hl : l.length ≤ cap) (hc : cap ≤ maxLen) (hg : g < w.heap.size) (hcell : ∀ i, i < l.length → w.cell? ⟨g, o + i, none⟩ = some (bv (l.getD i 0))) (hn : n ≤ l.length) :
    REyeV w (.slice (some ⟨g, if cap = n then o else o + n, none⟩) (l.length - n) (cap - n)) g (l.drop n) := by
  right
  have hdl : (l.drop n).length = l.length - n := List.length_drop ..
  refine ⟨if cap = n then o else o + n, cap - n, by rw [hdl], by omega, by omega, hg, fun i hi => ?_⟩
  have h2 : ¬ (cap = n) := by omega
  rw [if_neg h2, getD_drop, Nat.add_assoc]
  exact hcell (n + i) (by omega)

set_option maxHeartbeats 4000000 in
set_option maxRecDepth 100000 in
theorem rnum_ok (b g o cap : Nat) (l : List UInt8) (n : Nat) (w : World) (h : w.heap[b]? = some (.cells #[.slice (some ⟨g, o, none⟩) l.length cap, .int .i64 0] 116 (0, 0)))
    (hl : l.length ≤ cap) (hc : cap ≤ maxLen) (hcell : ∀ i, i < l.length → w.cell? ⟨g, o + i, none⟩ = some (bv (l.getD i 0))) (h1 : 1 ≤ n) (h7 : n ≤ 7) (hn : n ≤ l.length) (hll : l.length ≤ 1000000) :
    Calls Tryd.prog 70 #[.pointer (some ⟨b, 0, none⟩), .int .i64 n] w fun e w' => e = .returned (.int .i64 (beNum (l.take n))) ∧
      w' = w.setCell ⟨b, 0, none⟩ (.slice (some ⟨g, if cap = n then o else o + n, none⟩) (l.length - n) (cap - n)) := by
  have b0 := blk_cell h 0 _ rfl
  have b1 := blk_cell h 1 _ rfl
  have f0 := blk_frozen h 0
  have hbl := blk_lt h
  have HC := Lib.hid hcell
  have HL := Lib.hid hl
  unfold maxLen at hc
  have hcapn : n ≤ cap := by omega
  have hn1 : ¬ ((n : Int) < 1) := by omega
  have hn7 : ¬ ((7 : Int) < (n : Int)) := by omega
  have q1 : decide ((n : Int) < 1) = false := by simpa using hn1
  have q7 : decide ((7 : Int) < (n : Int)) = false := by simpa using hn7
  have ql : decide (l.length < n) = false := by simp; omega
  clear h hcell
  obtain rfl | hcn := Decidable.em (n = cap)
  all_goals
    try (have hcn' : ¬ (cap = n) := fun h => hcn h.symm)
    try clear hcn
    go_enter Tryd.func70, Tryd.ntmps70
    go_wp2
    go_loop [5, 6] (fun x i => ∃ k : Nat, k ≤ n ∧ i = .int .i64 k ∧ x = .int .i64 (beNum (l.take k))) (fun _ i => n - (intOf i).toNat)
    case atStart => exact ⟨0, Nat.zero_le _, rfl, rfl⟩
    case round =>
      obtain ⟨k, hk, rfl, rfl⟩ := hrel
      by_cases hlt : k < n
      · have hcl := HC.out k (by omega)
        have hb := beNum_take_le l k (by omega)
        have hkz : (k : Int) < (n : Int) := by omega
        have hkl : (k : Int) < (l.length : Int) := by omega
        have hkz1 : (k : Int).toNat = k := by omega
        obtain ⟨c, hcc⟩ : ∃ c, c = l.getD k 0 := ⟨_, rfl⟩
        rw [← hcc] at hcl
        have hc8 := c.toNat_lt
        have HX : Hid (beNum (l.take (k + 1)) = beNum (l.take k) * 256 + c.toNat) := Lib.hid (by rw [take_snocU l k (by omega), beNum_snoc, hcc])
        clear hcc
        obtain ⟨x, hx⟩ : ∃ x, x = beNum (l.take k) := ⟨_, rfl⟩
        rw [← hx] at hb HX ⊢
        clear hx
        unfold bv at hcl
        have hor : bits .or .i64 ((x : Int) * 256) (c.toNat : Int) = ((x * 256 + c.toNat : Nat) : Int) := by
          have := i64_or_nat (x * 256) c.toNat (by omega) (by omega)
          rw [or_byte] at this
          simpa using this
        go_wp2
        go_round
        case rel => exact ⟨k + 1, by omega, by go_num, by rw [HX.out]; go_num⟩
        case measure => simp [intOf]; omega
      · have hk9 : k = n := by omega
        have HK := Lib.hid hk9
        clear hk9
        go_wp2
        go_ret
        exact ⟨by rw [HK.out]; rfl, rfl⟩

set_option maxHeartbeats 2000000 in
set_option maxRecDepth 100000 in
theorem rnum_short (b : Nat) (a : Option Addr) (L cap : Nat) (n : Nat) (w : World) (h : w.heap[b]? = some (.cells #[.slice a L cap, .int .i64 0] 116 (0, 0)))
    (h1 : 1 ≤ n) (h7 : n ≤ 7) (hn : L < n) :
    Calls Tryd.prog 70 #[.pointer (some ⟨b, 0, none⟩), .int .i64 n] w fun e w' => e = .returned (.int .i64 0) ∧ w' = w.setCell ⟨b, 1, none⟩ (.int .i64 2) := by
  have b0 := blk_cell h 0 _ rfl
  have b1 := blk_cell h 1 _ rfl
  have f1 := blk_frozen h 1
  have hbl := blk_lt h
  have q1 : decide ((n : Int) < 1) = false := by simp; omega
  have q7 : decide ((7 : Int) < (n : Int)) = false := by simp; omega
  have ql : decide (L < n) = true := by simp; omega
  clear h
  go_enter Tryd.func70, Tryd.ntmps70
  go_wp2
  go_ret
  exact ⟨rfl, rfl⟩

set_option maxHeartbeats 2000000 in
set_option maxRecDepth 100000 in
theorem rnum_bad (b : Nat) (v : Value) (bad n : Int) (w : World) (h : w.heap[b]? = some (.cells #[v, .int .i64 bad] 116 (0, 0))) (hb : bad ≠ 0) :
    Calls Tryd.prog 70 #[.pointer (some ⟨b, 0, none⟩), .int .i64 n] w fun e w' => e = .returned (.int .i64 0) ∧ w = w' := by
  have b1 := blk_cell h 1 _ rfl
  have hbl := blk_lt h
  have q1 : (bad == 0) = false := by simp [hb]
  have q2 : (bad != 0) = true := by simp [hb]
  clear h hb
  go_enter Tryd.func70, Tryd.ntmps70
  go_wp2
  go_ret
  exact ⟨rfl, rfl⟩

/-- The reference's Num. -/
theorem rnum_any (b g : Nat) (l : List UInt8) (bad : Int) (width : Int) (w : World) (h : REyeAt w b g l bad) (h1 : 1 ≤ width) (h7 : width ≤ 7) :
    Calls Tryd.prog 70 #[.pointer (some ⟨b, 0, none⟩), .int .i64 width] w fun e w' => e = .returned (.int .i64 (eyeNum l bad width.toNat).1) ∧
      REyeAt w' b g (eyeNum l bad width.toNat).2.1 (eyeNum l bad width.toNat).2.2 ∧ Chg [b] w w' := by
  obtain ⟨n, rfl⟩ := Int.eq_ofNat_of_zero_le (show 0 ≤ width by omega)
  rw [Int.toNat_natCast]
  have hE := h
  obtain ⟨v, hb, hv, hgb, hll⟩ := h
  by_cases hbad : bad = 0
  · subst hbad
    by_cases hlen : l.length < n
    · obtain ⟨a, cap, rfl⟩ := hv.slice
      rw [show eyeNum l 0 n = (0, l, 2) by unfold eyeNum; rw [if_neg (by simp), if_pos hlen]]
      refine (rnum_short b a _ cap n w hb (by omega) (by omega) hlen).mono ?_
      rintro e w' ⟨rfl, rfl⟩
      have hc := (Chg.refl [b] w).setCell (p := ⟨b, 1, none⟩) (.inl (by simp)) (.int .i64 2)
      exact ⟨rfl, ⟨_, set_blk hb, hv.keepC hc (by simp; exact hgb), hgb, hll⟩, hc⟩
    · rw [show eyeNum l 0 n = ((beNum (l.take n) : Int), l.drop n, 0) by unfold eyeNum; rw [if_neg (by simp), if_neg hlen]]
      rcases hv with ⟨rfl, _⟩ | ⟨o, cap, rfl, hlc, hcm, hg, hcell⟩
      · simp at hlen; omega
      refine (rnum_ok b g o cap l n w hb hlc hcm hcell (by omega) (by omega) (by omega) hll).mono ?_
      rintro e w' ⟨rfl, rfl⟩
      have hc := (Chg.refl [b] w).setCell (p := ⟨b, 0, none⟩) (.inl (by simp)) (.slice (some ⟨g, if cap = n then o else o + n, none⟩) (l.length - n) (cap - n))
      exact ⟨rfl, ⟨_, set_blk hb, (REyeV.dropped hlc hcm hg hcell (by omega)).keepC hc (by simp; exact hgb), hgb, by show (l.drop n).length ≤ _; rw [List.length_drop]; omega⟩, hc⟩
  · rw [show eyeNum l bad n = (0, l, bad) by unfold eyeNum; rw [if_pos hbad]]
    refine (rnum_bad b v bad n w hb hbad).mono ?_
    rintro e w' ⟨rfl, rfl⟩
    exact ⟨rfl, hE, Chg.refl _ _⟩

end Go.Proofs.YtipfgghdoicdhaaDoor.W

/- The reference's eye: Raw. -/
namespace Go.Proofs.YtipfgghdoicdhaaDoor.W
open Go.RowKit
set_option linter.unusedVariables false
set_option linter.unusedSimpArgs false

theorem REyeV.bytes {w : World} {v : Value} {g : Nat} {l : List UInt8} (h : REyeV w v g l) : ∃ a cap, v = .slice a l.length cap ∧ (l = [] ∨ ∃ o, a = some ⟨g, o, none⟩ ∧ l.length ≤ cap ∧ cap ≤ maxLen ∧ g < w.heap.size ∧ ∀ i, i < l.length → w.cell? ⟨g, o + i, none⟩ = some (bv (l.getD i 0))) := by
  rcases h with ⟨rfl, a, cap, rfl⟩ | ⟨o, cap, rfl, h1, h2, h3, hc⟩
  · exact ⟨a, cap, rfl, .inl rfl⟩
  · exact ⟨_, cap, rfl, .inr ⟨o, rfl, h1, h2, h3, hc⟩⟩

/-- What the reference's Raw leaves. -/
def RRawLeft (w : World) (b g : Nat) (r : List UInt8 × List UInt8 × Int) (e : Ending) (w' : World) : Prop :=
  ∃ v, e = .returned v ∧ BRow w' v r.1 ∧ (∀ k, v.ownBlock = some k → w.heap.size ≤ k) ∧ REyeAt w' b g r.2.1 r.2.2 ∧ Chg [b] w w'

set_option maxHeartbeats 4000000 in
set_option maxRecDepth 100000 in
theorem rraw_any (b g : Nat) (l : List UInt8) (bad : Int) (most : Nat) (w : World) (h : REyeAt w b g l bad) (hmo : most ≤ 1000000) :
    Calls Tryd.prog 71 #[.pointer (some ⟨b, 0, none⟩), .int .i64 (most : Int)] w (RRawLeft w b g (eyeRaw l bad most)) := by
  have CN := Lib.hid (rnum_any b g l bad 2 w h (by omega) (by omega))
  have HE := Lib.hid h
  obtain ⟨v, hb, hv, hgb, hll⟩ := h
  have b0 := blk_cell hb 0 _ rfl
  have b1 := blk_cell hb 1 _ rfl
  have hbl := blk_lt hb
  have HV := Lib.hid hv
  obtain ⟨a, cap, rfl⟩ := hv.slice
  rw [show (2 : Int).toNat = 2 from rfl] at CN
  have hmz : ¬ ((most : Nat) : Int) < 0 := by omega
  have hmd : decide (((most : Nat) : Int) < 0) = false := decide_eq_false hmz
  -- it fails with error x, the bytes as they were
  have hfail : ∀ (x y : Int) (v2 : Value) (w2 : World), eyeRaw l bad most = ([], l, x) → w2.heap[b]? = some (.cells #[v2, .int .i64 y] 116 (0, 0)) → Chg [b] w w2 →
      Hid (RRawLeft w b g (eyeRaw l bad most) (.returned (.slice none 0 0)) ((w2.setCell ⟨b, 1, none⟩ (.int .i64 x)).setCell ⟨b, 0, none⟩ (.slice a l.length cap))) ∧
      (y = x → Hid (RRawLeft w b g (eyeRaw l bad most) (.returned (.slice none 0 0)) (w2.setCell ⟨b, 0, none⟩ (.slice a l.length cap)))) := by
    intro x y v2 w2 hr h2 hc
    have hc1 : Chg [b] w ((w2.setCell ⟨b, 1, none⟩ (.int .i64 x)).setCell ⟨b, 0, none⟩ (.slice a l.length cap)) := (hc.setCell (.inl (by simp)) _).setCell (.inl (by simp)) _
    have hc2 : Chg [b] w (w2.setCell ⟨b, 0, none⟩ (.slice a l.length cap)) := hc.setCell (.inl (by simp)) _
    refine ⟨Lib.hid ?_, fun hyx => Lib.hid ?_⟩
    · rw [hr]
      exact ⟨_, rfl, BRow.nil _, by simp [Value.ownBlock], ⟨_, set_blk (set_blk h2), hv.keepC hc1 (by simp; exact hgb), hgb, hll⟩, hc1⟩
    · rw [hr]
      subst hyx
      exact ⟨_, rfl, BRow.nil _, by simp [Value.ownBlock], ⟨_, set_blk h2, hv.keepC hc2 (by simp; exact hgb), hgb, hll⟩, hc2⟩
  have HFAIL := Lib.hid hfail
  clear hfail hv
  by_cases hbad : bad = 0
  · subst hbad
    by_cases hlen : l.length < 2
    · have hr : eyeRaw l 0 most = ([], l, 2) := by unfold eyeRaw; rw [if_neg (by simp), if_pos hlen]
      rw [show eyeNum l 0 2 = (0, l, 2) by unfold eyeNum; rw [if_neg (by simp), if_pos hlen]] at CN
      have HR := Lib.hid hr
      clear hb hr HE
      go_enter Tryd.func71, Tryd.ntmps71
      go_wp2_with fail
      refine CN.out.mono ?_
      rintro e w2 ⟨rfl, ⟨v2, hb2, hv2, _, _⟩, hc2⟩
      have HF := (HFAIL.out 2 2 v2 w2 HR.out hb2 hc2).2 rfl
      obtain ⟨a2, c2, rfl⟩ := hv2.slice
      have b02 := blk_cell hb2 0 _ rfl
      have b12 := blk_cell hb2 1 _ rfl
      have f02 := blk_frozen hb2 0
      have hbl2 := blk_lt hb2
      clear hb2 hv2 hc2 CN HFAIL
      go_wp2
      go_ret
      exact HF.out
    · rw [show eyeNum l 0 2 = ((beNum (l.take 2) : Int), l.drop 2, 0) by unfold eyeNum; rw [if_neg (by simp), if_neg hlen]] at CN
      have hbn := beNum_take_le l 2 (by omega)
      have hrr : eyeRaw l 0 most = if most < beNum (l.take 2) then ([], l, 3) else if (l.drop 2).length < beNum (l.take 2) then ([], l, 2) else ((l.drop 2).take (beNum (l.take 2)), (l.drop 2).drop (beNum (l.take 2)), 0) := by
        unfold eyeRaw; rw [if_neg (by simp), if_neg hlen]
      have hdl : (l.drop 2).length = l.length - 2 := List.length_drop ..
      generalize beNum (l.take 2) = n at *
      generalize l.drop 2 = l2 at *
      have HDL := Lib.hid hdl
      have hl2 : l2.length ≤ 1000000 := by omega
      by_cases hlong : most < n
      · have hr : eyeRaw l 0 most = ([], l, 3) := by rw [hrr, if_pos hlong]
        have HR := Lib.hid hr
        have hz : ((most : Nat) : Int) < (n : Int) := by omega
        clear hb hr hrr HE hdl
        go_enter Tryd.func71, Tryd.ntmps71
        go_wp2_with fail
        refine CN.out.mono ?_
        rintro e w2 ⟨rfl, ⟨v2, hb2, hv2, _, _⟩, hc2⟩
        have HF := (HFAIL.out 3 0 v2 w2 HR.out hb2 hc2).1
        obtain ⟨a2, c2, rfl⟩ := hv2.slice
        have b02 := blk_cell hb2 0 _ rfl
        have b12 := blk_cell hb2 1 _ rfl
        have f02 := blk_frozen hb2 0
        have f12 := blk_frozen hb2 1
        have hbl2 := blk_lt hb2
        clear hb2 hv2 hc2 CN HFAIL
        go_wp2
        go_ret
        exact HF.out
      · have hz : ¬ ((most : Nat) : Int) < (n : Int) := by omega
        by_cases hsh : l2.length < n
        · have hr : eyeRaw l 0 most = ([], l, 2) := by rw [hrr, if_neg hlong, if_pos hsh]
          have HR := Lib.hid hr
          have hsz : (l2.length : Int) < (n : Int) := by omega
          clear hb hr hrr HE hdl
          go_enter Tryd.func71, Tryd.ntmps71
          go_wp2_with fail
          refine CN.out.mono ?_
          rintro e w2 ⟨rfl, ⟨v2, hb2, hv2, _, _⟩, hc2⟩
          have HF := (HFAIL.out 2 0 v2 w2 HR.out hb2 hc2).1
          obtain ⟨a2, c2, rfl⟩ := hv2.slice
          have b02 := blk_cell hb2 0 _ rfl
          have b12 := blk_cell hb2 1 _ rfl
          have f02 := blk_frozen hb2 0
          have f12 := blk_frozen hb2 1
          have hbl2 := blk_lt hb2
          clear hb2 hv2 hc2 CN HFAIL
          go_wp2
          go_ret
          exact HF.out
        · have hr : eyeRaw l 0 most = (l2.take n, l2.drop n, 0) := by rw [hrr, if_neg hlong, if_neg hsh]
          have HR := Lib.hid hr
          have hsz : ¬ (l2.length : Int) < (n : Int) := by omega
          have hsz2 : n ≤ l2.length := by omega
          clear hb hr hrr HE hdl HFAIL
          go_enter Tryd.func71, Tryd.ntmps71
          go_wp2_with fail
          refine CN.out.mono ?_
          rintro e w2 ⟨rfl, ⟨v2, hb2, hv2, _, _⟩, hc2⟩
          rcases hv2 with ⟨rfl, a2, c2, rfl⟩ | ⟨o2, c2, rfl, h21, h22, h23, hcell⟩
          · obtain rfl : n = 0 := by simpa using hsz2
            have b02 := blk_cell hb2 0 _ rfl
            have b12 := blk_cell hb2 1 _ rfl
            have hbl2 := blk_lt hb2
            have HB2 := Lib.hid hb2
            have HC2 := Lib.hid hc2
            have hfin : ∀ (w3 : World) (v3 : Value) (a9 : Option Addr) (c9 : Nat), Chg [] w2 w3 → BRow w3 v3 [] → (∀ k, v3.ownBlock = some k → w2.heap.size ≤ k) → Hid (RRawLeft w b g (eyeRaw l 0 most) (.returned v3) (w3.setCell ⟨b, 0, none⟩ (.slice a9 0 c9))) := by
              intro w3 v3 a9 c9 hc3 hr3 hn3
              refine Lib.hid ?_
              rw [HR.out]
              have hs : Chg [b] w2 (w3.setCell ⟨b, 0, none⟩ (.slice a9 0 c9)) := (hc3.mono (by simp)).setCell (.inl (by simp)) _
              exact ⟨_, rfl, hr3.keep (fun k hk => Below.heap_setCell w3 _ _ k (fun e => by have h9 := hn3 k hk; have e2 : k = b := e; omega)), fun k hk => Nat.le_trans HC2.out.size (hn3 k hk), ⟨_, set_blk (hc3.keep HB2.out (by simp)), .inl ⟨rfl, a9, c9, rfl⟩, hgb, by simp⟩, HC2.out.trans hs (fun x hx => .inl hx)⟩
            have HFIN := Lib.hid hfin
            have f02 := blk_frozen hb2 0
            clear hb2 hc2 hfin CN hl2 HDL
            cases a2 with
            | none =>
              go_wp2_with fail
              refine (rcopy_zero _ _ _).mono ?_
              rintro e w3 ⟨rfl, rfl⟩
              go_wp2
              go_ret
              exact (HFIN.out w2 _ _ _ (Chg.refl _ _) (BRow.nil _) (by simp [Value.ownBlock])).out
            | some x =>
              by_cases hc0 : c2 = 0
              · subst hc0
                go_wp2_with fail
                refine (rcopy_zero _ _ _).mono ?_
                rintro e w3 ⟨rfl, rfl⟩
                go_wp2
                go_ret
                exact (HFIN.out w2 _ _ _ (Chg.refl _ _) (BRow.nil _) (by simp [Value.ownBlock])).out
              · have hc1 : 0 < c2 := by omega
                go_wp2_with fail
                refine (rcopy_zero _ _ _).mono ?_
                rintro e w3 ⟨rfl, rfl⟩
                go_wp2
                go_ret
                exact (HFIN.out w2 _ _ _ (Chg.refl _ _) (BRow.nil _) (by simp [Value.ownBlock])).out
          · have b02 := blk_cell hb2 0 _ rfl
            have b12 := blk_cell hb2 1 _ rfl
            have hbl2 := blk_lt hb2
            have HB2 := Lib.hid hb2
            have HC2 := Lib.hid hc2
            have hlt2 : (l2.take n).length = n := by rw [List.length_take]; omega
            have hB : BytesAt w2 (.slice (some ⟨g, o2, none⟩) n c2) (l2.take n) := by
              refine ⟨_, c2, by rw [hlt2], by omega, h22, .inr ⟨g, o2, rfl, fun i hi => ?_⟩⟩
              rw [hlt2] at hi
              rw [getD_take _ _ _ hi]
              exact hcell i (by omega)
            have CC := Lib.hid (rcopy_any _ _ w2 hB (by omega))
            have HCL := Lib.hid hcell
            have HL2 := Lib.hid hlt2
            have h22b := h22
            unfold maxLen at h22b
            clear hb2 hc2 hB hcell hlt2 CN
            go_wp2_with fail
            refine CC.out.mono ?_
            rintro e w3 ⟨v3, rfl, hr3, hn3, hc3⟩
            have hb3 := hc3.keep HB2.out (by simp)
            have b03 := blk_cell hb3 0 _ rfl
            have b13 := blk_cell hb3 1 _ rfl
            have f03 := blk_frozen hb3 0
            have hbl3 := blk_lt hb3
            obtain ⟨a3, c3, he3, _⟩ := hr3.bytes
            rw [HL2.out] at he3
            obtain rfl := he3
            have HR3 := Lib.hid hr3
            have HN3 := Lib.hid hn3
            have HC3 := Lib.hid hc3
            have HB3 := Lib.hid hb3
            clear hr3 hn3 hc3 hb3 CC
            have hset : ∀ u, Chg [b] w2 (w3.setCell ⟨b, 0, none⟩ u) := fun u => (HC3.out.mono (by simp)).setCell (.inl (by simp)) _
            have hdn : (l2.drop n).length = l2.length - n := List.length_drop ..
            have hgw2 : g < w2.heap.size := h23
            have hfin : ∀ o3, (n < l2.length → o3 = o2 + n) → Hid (RRawLeft w b g (eyeRaw l 0 most) (.returned (.slice a3 n c3)) (w3.setCell ⟨b, 0, none⟩ (.slice (some ⟨g, o3, none⟩) (l2.length - n) (c2 - n)))) := by
              intro o3 ho3
              have hs := hset (.slice (some ⟨g, o3, none⟩) (l2.length - n) (c2 - n))
              have hgk : (w3.setCell ⟨b, 0, none⟩ (.slice (some ⟨g, o3, none⟩) (l2.length - n) (c2 - n))).heap[g]? = w2.heap[g]? := hs.block g hgw2 (by simp; exact hgb)
              refine Lib.hid ?_
              rw [HR.out]
              refine ⟨_, rfl, HR3.out.keep (fun k hk => Below.heap_setCell w3 _ _ k (fun e => by have h9 := HN3.out k hk; have e2 : k = b := e; omega)), fun k hk => Nat.le_trans HC2.out.size (HN3.out k hk), ⟨_, set_blk HB3.out, .inr ⟨o3, c2 - n, by rw [hdn], by (show (l2.drop n).length ≤ _; rw [hdn]; omega), by omega, Nat.lt_of_lt_of_le hgw2 hs.size, fun i hi => ?_⟩, hgb, by show (l2.drop n).length ≤ 1000000; rw [hdn]; omega⟩, HC2.out.trans hs (fun x hx => .inl hx)⟩
              rw [hdn] at hi
              obtain rfl := ho3 (by omega)
              rw [getD_drop, Nat.add_assoc]
              exact (World.cell?_of_block (w := w2) (a := ⟨g, o2 + (n + i), none⟩) hgk).trans (HCL.out (n + i) (by omega))
            have HFIN := Lib.hid hfin
            clear hfin hset hdn
            by_cases hcn : c2 = n
            · subst hcn
              go_wp2
              go_ret
              have h9 := (HFIN.out o2 (fun h => by omega)).out
              rw [Nat.sub_self, show l2.length - c2 = 0 by omega] at h9
              exact h9
            · go_wp2
              go_ret
              exact (HFIN.out (o2 + n) (fun h => rfl)).out
  · have hr : eyeRaw l bad most = ([], l, bad) := by unfold eyeRaw; rw [if_pos hbad]
    rw [show eyeNum l bad 2 = (0, l, bad) by unfold eyeNum; rw [if_pos hbad]] at CN
    have HR := Lib.hid hr
    have q1 : (bad == 0) = false := by simp [hbad]
    have q2 : (bad != 0) = true := by simp [hbad]
    clear hb hr HE hbad
    go_enter Tryd.func71, Tryd.ntmps71
    go_wp2_with fail
    refine CN.out.mono ?_
    rintro e w2 ⟨rfl, ⟨v2, hb2, hv2, _, _⟩, hc2⟩
    have HF := (HFAIL.out bad bad v2 w2 HR.out hb2 hc2).2 rfl
    obtain ⟨a2, c2, rfl⟩ := hv2.slice
    have b02 := blk_cell hb2 0 _ rfl
    have b12 := blk_cell hb2 1 _ rfl
    have f02 := blk_frozen hb2 0
    have hbl2 := blk_lt hb2
    clear hb2 hv2 hc2 CN HFAIL
    go_wp2
    go_ret
    exact HF.out
end Go.Proofs.YtipfgghdoicdhaaDoor.W

/- The reference's noughts. -/
namespace Go.Proofs.YtipfgghdoicdhaaDoor.W
open Go.RowKit
set_option linter.unusedVariables false
set_option linter.unusedSimpArgs false

theorem allZ_true (l : List UInt8) (h : ∀ q, q < l.length → l.getD q 0 = 0) : allZ l = true := by
  rw [← ltrim_nil, ltrim_at l l.length (Nat.le_refl _) h (fun h => absurd h (by omega))]
  simp
theorem allZ_false (l : List UInt8) (k : Nat) (hk : k < l.length) (h : l.getD k 0 ≠ 0) : allZ l = false := by
  unfold allZ
  rw [List.all_eq_false]
  refine ⟨l[k], List.getElem_mem hk, ?_⟩
  rw [List.getD_eq_getElem?_getD, List.getElem?_eq_getElem hk] at h
  simpa using h

set_option maxHeartbeats 4000000 in
set_option maxRecDepth 100000 in
theorem rnought_any (v : Value) (l : List UInt8) (w : World) (h : BytesAt w v l) (hl : l.length ≤ 1000000000) :
    Calls Tryd.prog 69 #[v] w fun e w' => e = .returned (.bool (allZ l)) ∧ w = w' := by
  obtain ⟨a, cap, rfl, h1, h2, h3⟩ := h
  have H3 := Lib.hid h3
  clear h3
  go_enter Tryd.func69, Tryd.ntmps69
  go_wp2
  go_loop [3] (fun i => ∃ k : Nat, k ≤ l.length ∧ i = .int .i64 k ∧ Hid (∀ q, q < k → l.getD q 0 = 0)) (fun i => l.length - (intOf i).toNat)
  case atStart => exact ⟨0, Nat.zero_le _, rfl, Lib.hid (fun q hq => absurd hq (by omega))⟩
  case round =>
    obtain ⟨k, hk, rfl, HZ⟩ := hrel
    by_cases hlt : k < l.length
    · rcases H3.out with ⟨h0, _⟩ | ⟨g, o, rfl, hcell⟩
      · rw [h0] at hlt; simp at hlt
      have hcl : w.cell? ⟨g, o + k, none⟩ = some (.int .u8 ((l.getD k 0).toNat : Int)) := hcell k hlt
      obtain ⟨c, hc⟩ : ∃ c, c = l.getD k 0 := ⟨_, rfl⟩
      rw [← hc] at hcl
      have HC := Lib.hid hc
      have hkz : (k : Int) < (l.length : Int) := by omega
      have hkz1 : (k : Int).toNat = k := by omega
      clear hc hcell
      by_cases hc0 : c = 0
      · have hq : (((c.toNat : Int)) != 0) = false := by rw [hc0]; rfl
        have HZ1 : Hid (∀ q, q < k + 1 → l.getD q 0 = 0) := Lib.hid (fun q hq => by
          rcases Nat.lt_or_ge q k with h | h
          · exact HZ.out q h
          · obtain rfl : q = k := by omega
            rw [← HC.out, hc0])
        clear hc0
        go_wp2
        go_round
        case rel => exact ⟨k + 1, by omega, by go_num, HZ1⟩
        case measure => simp [intOf]; omega
      · have hq : (((c.toNat : Int)) != 0) = true := by
          rw [bne_iff_ne]
          intro h
          exact hc0 (UInt8.toNat_inj.1 (by simpa using h))
        have HF : Hid (allZ l = false) := Lib.hid (allZ_false l k hlt (by rw [← HC.out]; exact hc0))
        clear hc0
        go_wp2
        go_ret
        exact ⟨by rw [HF.out]; rfl, rfl⟩
    · have hkn : k = l.length := by omega
      have HF : Hid (allZ l = true) := Lib.hid (allZ_true l (by rw [← hkn]; exact HZ.out))
      clear hkn
      go_wp2
      go_ret
      exact ⟨by rw [HF.out]; rfl, rfl⟩
end Go.Proofs.YtipfgghdoicdhaaDoor.W

/- The reference's readHead. -/
namespace Go.Proofs.YtipfgghdoicdhaaDoor.W
open Go.RowKit
set_option linter.unusedVariables false
set_option linter.unusedSimpArgs false

set_option maxHeartbeats 2000000 in
set_option maxRecDepth 100000 in
theorem rnought_nil (a : Option Addr) (cap : Nat) (w : World) : Calls Tryd.prog 69 #[.slice a 0 cap] w fun e w' => e = .returned (.bool true) ∧ w = w' := by
  go_enter Tryd.func69, Tryd.ntmps69
  go_wp2
  go_loop [3] (fun i => i = .int .i64 0) (fun i => 0)
  case atStart => rfl
  case round =>
    subst hrel
    go_wp2
    go_ret
    exact ⟨rfl, rfl⟩
theorem rnought_eye (v : Value) (g : Nat) (l : List UInt8) (w : World) (h : REyeV w v g l) (hl : l.length ≤ 1000000) :
    Calls Tryd.prog 69 #[v] w fun e w' => e = .returned (.bool (allZ l)) ∧ w = w' := by
  rcases h with ⟨rfl, a, cap, rfl⟩ | ⟨o, cap, rfl, h1, h2, h3, hc⟩
  · exact rnought_nil a cap w
  · exact rnought_any _ l w ⟨_, cap, rfl, h1, h2, .inr ⟨g, o, rfl, hc⟩⟩ (by omega)
/-- What readHead answers. -/
def RHeadPost (b : List UInt8) (w : World) (e : Ending) (w' : World) : Prop :=
  Chg [] w w' ∧ match headOf b with
  | some r => ∃ kv, e = .returned (.tuple #[.agg #[.bool r.used, kv, .int .i64 (r.n : Int)], .bool true]) ∧ BRow w' kv r.key ∧ ∀ k, kv.ownBlock = some k → w.heap.size ≤ k
  | none => e = .returned (.tuple #[.agg #[.bool false, .slice none 0 0, .int .i64 0], .bool false])

set_option maxHeartbeats 8000000 in
set_option maxRecDepth 100000 in
theorem rhead_any (v : Value) (b : List UInt8) (w : World) (h : BytesAt w v b) (hl : b.length ≤ 1000000) :
    Calls Tryd.prog 45 #[v] w (RHeadPost b w) := by
  obtain ⟨a, cap, rfl⟩ := h.slice
  obtain ⟨w0, hw0⟩ : ∃ w0, w0 = w.alloc (.cells #[.bool false, .slice none 0 0, .int .i64 0] 95) := ⟨_, rfl⟩
  have hc0 : Chg [] w w0 := by rw [hw0]; exact (Chg.refl _ _).alloc _
  have hr0 : w0.heap[w.heap.size]? = some (.cells #[.bool false, .slice none 0 0, .int .i64 0] 95 (0, 0)) := by rw [hw0]; exact heap_alloc_new w _
  have h0 : BytesAt w0 (.slice a b.length cap) b := h.chg hc0 (by simp)
  have CZ := Lib.hid (rnought_any _ b w0 h0 (by omega))
  have HW0 := Lib.hid hw0
  have hfin : ∀ (w5 : World) (u0 u1 u2 : Value), Chg [] w w5 → Chg [] w (((w5.setCell ⟨w.heap.size, 0, none⟩ u0).setCell ⟨w.heap.size, 1, none⟩ u1).setCell ⟨w.heap.size, 2, none⟩ u2) := fun w5 u0 u1 u2 hc =>
    Chg.mono (S := [w.heap.size]) ((((hc.mono (by simp)).setCell (.inl (by simp)) _).setCell (.inl (by simp)) _).setCell (.inl (by simp)) _) (fun x hx => .inr (by simp at hx; omega))
  have HFIN := Lib.hid hfin
  clear hfin
  obtain ⟨rb, hrb⟩ : ∃ rb, rb = w.heap.size := ⟨_, rfl⟩
  have HRB := Lib.hid hrb
  by_cases hz : allZ b = true
  · have hh : headOf b = some noRow := by unfold headOf; rw [if_pos hz]
    have hP : ∀ w', Chg [] w w' → RHeadPost b w (.returned (.tuple #[.agg #[.bool false, .slice none 0 0, .int .i64 0], .bool true])) w' := fun w' hc => by
      refine ⟨hc, ?_⟩
      rw [hh]
      exact ⟨.slice none 0 0, rfl, BRow.nil _, by simp [Value.ownBlock]⟩
    have HP := Lib.hid hP
    have HC0 := Lib.hid hc0
    have HR0 := Lib.hid hr0
    rw [← hrb] at HR0 HFIN
    rw [hz] at CZ
    clear h h0 hz hh hP hc0 hr0 hw0 hrb
    go_enter Tryd.func45, Tryd.ntmps45
    go_wp2_with fail
    rw [← HW0.out, ← HRB.out]
    refine CZ.out.mono ?_
    rintro e w1 ⟨rfl, rfl⟩
    have c0 := blk_cell HR0.out 0 _ rfl
    have f0 := blk_frozen HR0.out 0
    have c1 := blk_cell HR0.out 1 _ rfl
    have f1 := blk_frozen HR0.out 1
    have c2 := blk_cell HR0.out 2 _ rfl
    have f2 := blk_frozen HR0.out 2
    have hl6 := blk_lt HR0.out
    go_wp2
    have hb3 := set3 (u0 := .bool false) (u1 := .slice none 0 0) (u2 := .int .i64 0) HR0.out
    refine bodyPost_ret (v := .tuple #[.agg #[.bool false, .slice none 0 0, .int .i64 0], .bool true]) (by simp [results, Tryd.results45, go_sem, blk_cell hb3 0 _ rfl, blk_cell hb3 1 _ rfl, blk_cell hb3 2 _ rfl]) rfl (HP.out _ (HFIN.out _ _ _ _ HC0.out))
  · have hzf : allZ b = false := by simpa using hz
    have hhd : headOf b = if (eyeRaw (eyeNum (eyeNum b 0 1).2.1 (eyeNum b 0 1).2.2 2).2.1 (eyeNum (eyeNum b 0 1).2.1 (eyeNum b 0 1).2.2 2).2.2 40).2.2 ≠ 0 ∨ (eyeNum b 0 1).1 ≠ 1 ∨ 448 < (eyeNum (eyeNum b 0 1).2.1 (eyeNum b 0 1).2.2 2).1 ∨
      allZ (eyeRaw (eyeNum (eyeNum b 0 1).2.1 (eyeNum b 0 1).2.2 2).2.1 (eyeNum (eyeNum b 0 1).2.1 (eyeNum b 0 1).2.2 2).2.2 40).2.1 = false then none
    else some ⟨true, (eyeNum (eyeNum b 0 1).2.1 (eyeNum b 0 1).2.2 2).1.toNat, (eyeRaw (eyeNum (eyeNum b 0 1).2.1 (eyeNum b 0 1).2.2 2).2.1 (eyeNum (eyeNum b 0 1).2.1 (eyeNum b 0 1).2.2 2).2.2 40).1⟩ := by
      unfold headOf; rw [if_neg hz]
    rw [hzf] at CZ
    have hn2 := eyeNum_nonneg (eyeNum b 0 1).2.1 (eyeNum b 0 1).2.2 2
    have CN1 := fun (b' g : Nat) (w' : World) (h : REyeAt w' b' g b 0) => rnum_any b' g b 0 1 w' h (by omega) (by omega)
    rw [show (1 : Int).toNat = 1 from rfl] at CN1
    generalize hr1 : eyeNum b 0 1 = r1 at *
    have CN2 := fun (b' g : Nat) (w' : World) (h : REyeAt w' b' g r1.2.1 r1.2.2) => rnum_any b' g r1.2.1 r1.2.2 2 w' h (by omega) (by omega)
    rw [show (2 : Int).toNat = 2 from rfl] at CN2
    generalize hr2 : eyeNum r1.2.1 r1.2.2 2 = r2 at *
    have CR3 := fun (b' g : Nat) (w' : World) (h : REyeAt w' b' g r2.2.1 r2.2.2) => rraw_any b' g r2.2.1 r2.2.2 40 w' h (by omega)
    generalize hr3 : eyeRaw r2.2.1 r2.2.2 40 = r3 at *
    obtain ⟨k1, l1, e1⟩ := r1
    obtain ⟨k2, l2, e2⟩ := r2
    obtain ⟨key, l3, e3⟩ := r3
    dsimp only at hhd hn2 CN1 CN2 CR3
    clear hr1 hr2 hr3
    have HHD := Lib.hid hhd
    have HN1 := Lib.hid CN1
    have HN2 := Lib.hid CN2
    have HR3 := Lib.hid CR3
    have HC0 := Lib.hid hc0
    have HR0 := Lib.hid hr0
    rw [← hrb] at HR0 HFIN
    have hbn : b ≠ [] := fun e => hz (by rw [e]; rfl)
    have hE0 : ∃ g, g < w0.heap.size ∧ REyeV w0 (.slice a b.length cap) g b := by
      obtain ⟨a', c', he, h1, h2, h3⟩ := h0
      obtain ⟨rfl, rfl⟩ : a = a' ∧ cap = c' := by simpa using he
      rcases h3 with ⟨h3, _⟩ | ⟨g, o, rfl, hcell⟩
      · exact absurd h3 hbn
      · have hg := World.block_lt_of_cell? w0 _ (hcell 0 (List.length_pos_iff.2 hbn))
        exact ⟨g, hg, .inr ⟨o, cap, rfl, h1, h2, hg, hcell⟩⟩
    obtain ⟨eg, heg, hEV⟩ := hE0
    obtain ⟨w1, hw1⟩ : ∃ w1, w1 = w0.alloc (.cells #[.slice a b.length cap, .int .i64 0] 116) := ⟨_, rfl⟩
    have hc1 : Chg [] w0 w1 := by rw [hw1]; exact (Chg.refl _ _).alloc _
    obtain ⟨eb, heb⟩ : ∃ eb, eb = w0.heap.size := ⟨_, rfl⟩
    have HEB := Lib.hid heb
    have HE1 : Hid (REyeAt w1 eb eg b 0) := Lib.hid ⟨_, by rw [hw1, heb]; exact heap_alloc_new w0 _, hEV.keepC hc1 (by simp), by omega, hl⟩
    have hrlt := blk_lt hr0
    rw [← hrb] at hrlt
    have hreb : rb < eb := by omega
    have hweb : w.heap.size ≤ eb := by omega
    have HRW1 : Hid (w1.heap[rb]? = some (.cells #[.bool false, .slice none 0 0, .int .i64 0] 95 (0, 0))) := Lib.hid (hc1.keep HR0.out (by simp))
    have HC1 : Hid (Chg [] w w1) := Lib.hid (hc0.trans hc1 (by simp))
    have HW1 := Lib.hid hw1
    have HWE := Lib.hid hweb
    have hne : rb ∉ [eb] := by simp; omega
    have HNE := Lib.hid hne
    have HNW : Hid (∀ x, x ∈ [eb] → x ∈ ([] : List Nat) ∨ w.heap.size ≤ x) := Lib.hid (fun x hx => .inr (by simp at hx; omega))
    clear h h0 hz hzf hhd CN1 CN2 CR3 hc0 hr0 hw0 hbn heg hEV hw1 hc1 heb hrlt hreb hweb hne hrb
    go_enter Tryd.func45, Tryd.ntmps45
    go_wp2_with fail
    rw [← HW0.out, ← HRB.out]
    refine CZ.out.mono ?_
    rintro e w' ⟨rfl, rfl⟩
    go_wp2_with fail
    rw [← HW1.out, ← HEB.out]
    refine (HN1.out eb eg w1 HE1.out).mono ?_
    rintro e w3 ⟨rfl, hE3, hc3⟩
    have HC3 := Lib.hid (HC1.out.trans hc3 HNW.out)
    have HRW3 := Lib.hid (hc3.keep HRW1.out HNE.out)
    have HE3 := Lib.hid hE3
    clear hE3 hc3 HE1 HC1 HRW1
    go_wp2_with fail
    refine (HN2.out eb eg w3 HE3.out).mono ?_
    rintro e w4 ⟨rfl, hE4, hc4⟩
    have HC4 := Lib.hid (HC3.out.trans hc4 HNW.out)
    have HRW4 := Lib.hid (hc4.keep HRW3.out HNE.out)
    have HE4 := Lib.hid hE4
    clear hE4 hc4 HE3 HC3 HRW3
    go_wp2_with fail
    refine (HR3.out eb eg w4 HE4.out).mono ?_
    rintro e w5 ⟨kv, rfl, hkr, hkn, hE5, hc5⟩
    have HC5 := Lib.hid (HC4.out.trans hc5 HNW.out)
    have HRW5 := Lib.hid (hc5.keep HRW4.out HNE.out)
    have HKN : Hid (∀ k, kv.ownBlock = some k → w.heap.size < k) := Lib.hid (fun k hk => by
      have h1 := hkn k hk
      have h2 := blk_lt HRW4.out
      rw [HRB.out] at h2
      omega)
    have hkform : ∃ a5 c5, kv = .slice a5 key.length c5 := by
      obtain ⟨a5, c5, h5, _⟩ := hkr.bytes
      exact ⟨a5, c5, h5⟩
    obtain ⟨a5, c5, hkv⟩ := hkform
    have HKV := Lib.hid hkv
    have HK5 := Lib.hid hkr
    obtain ⟨ev, heh, hev, _, hl3⟩ := hE5
    have d0 := blk_cell heh 0 _ rfl
    have d1 := blk_cell heh 1 _ rfl
    have CZ3 := Lib.hid (rnought_eye ev eg l3 w5 hev hl3)
    obtain ⟨av, lv, cv, hevv⟩ : ∃ a L cap, ev = .slice a L cap := by obtain ⟨a, c, h⟩ := hev.slice; exact ⟨a, _, c, h⟩
    subst hevv
    clear hc5 HC4 HRW4 HE4 hkr hkn hkv heh hev hl3
    have hPn : ∀ (w' : World), (e3 ≠ 0 ∨ k1 ≠ 1 ∨ 448 < k2 ∨ allZ l3 = false) → Chg [] w w' → RHeadPost b w (.returned (.tuple #[.agg #[.bool false, .slice none 0 0, .int .i64 0], .bool false])) w' := fun w' h1 h3 => by
      refine ⟨h3, ?_⟩
      rw [HHD.out, if_pos h1]
    have hPs : ∀ (kv : Value) (w' : World), ¬ (e3 ≠ 0 ∨ k1 ≠ 1 ∨ 448 < k2 ∨ allZ l3 = false) → Chg [] w w' → BRow w' kv key → (∀ k, kv.ownBlock = some k → w.heap.size ≤ k) → RHeadPost b w (.returned (.tuple #[.agg #[.bool true, kv, .int .i64 k2], .bool true])) w' := fun kv w' h1 h2 h3 h4 => by
      refine ⟨h2, ?_⟩
      rw [HHD.out, if_neg h1]
      exact ⟨kv, by rw [show ((k2.toNat : Nat) : Int) = k2 by omega], h3, h4⟩
    have HPN := Lib.hid hPn
    have HPS := Lib.hid hPs
    clear hPn hPs
    have c0 := blk_cell HRW5.out 0 _ rfl
    have f0 := blk_frozen HRW5.out 0
    have c1 := blk_cell HRW5.out 1 _ rfl
    have f1 := blk_frozen HRW5.out 1
    have c2 := blk_cell HRW5.out 2 _ rfl
    have f2 := blk_frozen HRW5.out 2
    have hl6 := blk_lt HRW5.out
    by_cases he3 : e3 = 0
    · have q1 : (e3 != 0) = false := by simp [he3]
      by_cases hk1 : k1 = 1
      · have q2 : (k1 != 1) = false := by simp [hk1]
        by_cases hk2 : 448 < k2
        · have q3 : decide (k2 > 448) = true := decide_eq_true hk2
          have HPX := Lib.hid (HPN.out · (.inr (.inr (.inl hk2))))
          clear he3 hk1 hk2
          go_wp2
          have hb3 := set3 (u0 := .bool false) (u1 := .slice none 0 0) (u2 := .int .i64 0) HRW5.out
          exact bodyPost_ret (v := .tuple #[.agg #[.bool false, .slice none 0 0, .int .i64 0], .bool false]) (by simp [results, Tryd.results45, go_sem, blk_cell hb3 0 _ rfl, blk_cell hb3 1 _ rfl, blk_cell hb3 2 _ rfl]) rfl (HPX.out _ (HFIN.out _ _ _ _ HC5.out))
        · have q3 : decide (k2 > 448) = false := decide_eq_false hk2
          have HK := Lib.hid (And.intro he3 (And.intro hk1 hk2))
          clear he3 hk1 hk2
          go_wp2_with fail
          refine CZ3.out.mono ?_
          rintro e w' ⟨rfl, rfl⟩
          by_cases hz3 : allZ l3 = true
          · have hno : ¬ (e3 ≠ 0 ∨ k1 ≠ 1 ∨ 448 < k2 ∨ allZ l3 = false) := by
              obtain ⟨h1, h2, h3⟩ := HK.out
              rw [hz3]; simp [h1, h2]; omega
            have HPX := Lib.hid (HPS.out · · hno)
            rw [hz3]
            clear hz3 hno
            obtain rfl := HKV.out
            go_wp2
            have hb3 := set3 (u0 := .bool true) (u1 := .slice a5 key.length c5) (u2 := .int .i64 k2) HRW5.out
            refine bodyPost_ret (v := .tuple #[.agg #[.bool true, .slice a5 key.length c5, .int .i64 k2], .bool true]) (by simp [results, Tryd.results45, go_sem, blk_cell hb3 0 _ rfl, blk_cell hb3 1 _ rfl, blk_cell hb3 2 _ rfl]) rfl (HPX.out _ _ (HFIN.out _ _ _ _ HC5.out) ?_ (fun k hk => Nat.le_of_lt (HKN.out k hk)))
            exact HK5.out.keep (fun k hk => by
              have hne := HKN.out k hk
              have hrb := HRB.out
              exact ((Below.heap_setCell _ ⟨rb, 2, none⟩ _ k (by show k ≠ rb; omega)).trans (Below.heap_setCell _ ⟨rb, 1, none⟩ _ k (by show k ≠ rb; omega))).trans (Below.heap_setCell _ ⟨rb, 0, none⟩ _ k (by show k ≠ rb; omega)))
          · have hzf : allZ l3 = false := by simpa using hz3
            have HPX := Lib.hid (HPN.out · (.inr (.inr (.inr hzf))))
            rw [hzf]
            clear hz3 hzf
            go_wp2
            have hb3 := set3 (u0 := .bool false) (u1 := .slice none 0 0) (u2 := .int .i64 0) HRW5.out
            exact bodyPost_ret (v := .tuple #[.agg #[.bool false, .slice none 0 0, .int .i64 0], .bool false]) (by simp [results, Tryd.results45, go_sem, blk_cell hb3 0 _ rfl, blk_cell hb3 1 _ rfl, blk_cell hb3 2 _ rfl]) rfl (HPX.out _ (HFIN.out _ _ _ _ HC5.out))
      · have q2 : (k1 != 1) = true := by simp [hk1]
        have HPX := Lib.hid (HPN.out · (.inr (.inl hk1)))
        clear he3 hk1
        go_wp2
        have hb3 := set3 (u0 := .bool false) (u1 := .slice none 0 0) (u2 := .int .i64 0) HRW5.out
        exact bodyPost_ret (v := .tuple #[.agg #[.bool false, .slice none 0 0, .int .i64 0], .bool false]) (by simp [results, Tryd.results45, go_sem, blk_cell hb3 0 _ rfl, blk_cell hb3 1 _ rfl, blk_cell hb3 2 _ rfl]) rfl (HPX.out _ (HFIN.out _ _ _ _ HC5.out))
    · have q1 : (e3 != 0) = true := by simp [he3]
      have HPX := Lib.hid (HPN.out · (.inl he3))
      clear he3
      go_wp2
      have hb3 := set3 (u0 := .bool false) (u1 := .slice none 0 0) (u2 := .int .i64 0) HRW5.out
      exact bodyPost_ret (v := .tuple #[.agg #[.bool false, .slice none 0 0, .int .i64 0], .bool false]) (by simp [results, Tryd.results45, go_sem, blk_cell hb3 0 _ rfl, blk_cell hb3 1 _ rfl, blk_cell hb3 2 _ rfl]) rfl (HPX.out _ (HFIN.out _ _ _ _ HC5.out))
end Go.Proofs.YtipfgghdoicdhaaDoor.W
