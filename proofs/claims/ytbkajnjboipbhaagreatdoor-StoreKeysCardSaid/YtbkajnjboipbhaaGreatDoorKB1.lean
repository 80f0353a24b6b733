/- Texts laid together. -/
import Derived.Test.YtbkajnjboipbhaaGreatDoorBP6
/- StoreKeys: the walk (printed by gen_keys.py). -/
namespace Go.Proofs.YtbkajnjboipbhaaGreatDoor.W
open Go.RowKit
set_option linter.unusedVariables false
set_option linter.unusedSimpArgs false

def keyErr (x : Id) : Int := if mayId x = true then 0 else 1
def keyB (x : Id) : List UInt8 := if mayId x = true then idKey x else []
theorem keyB_len (x : Id) : (keyB x).length ≤ 9 := by
  unfold keyB
  split
  · rw [idKey_len]; omega
  · simp
theorem KeyPost.form {x : Id} {w : World} {e : Ending} {w' : World} (h : KeyPost x w e w') : (∃ v, e = .returned (.tuple #[v, .int .i64 (keyErr x)]) ∧ BytesAt w' v (keyB x)) ∧ Chg [] w w' := by
  obtain ⟨hc, h⟩ := h
  unfold keyErr keyB
  by_cases hm : mayId x = true
  · rw [if_pos hm] at h
    rw [if_pos hm, if_pos hm]
    obtain ⟨v, h1, h2, _⟩ := h
    exact ⟨⟨v, h1, h2.bytes⟩, hc⟩
  · rw [if_neg hm] at h
    rw [if_neg hm, if_neg hm]
    exact ⟨⟨_, h, BytesAt.nil _⟩, hc⟩
theorem bytes_drew {w : World} {v : Value} {l : List UInt8} (h : BytesAt w v l) : BytesAt w.drew v l := h.chg (Chg.drew (Chg.refl [] w)) (by simp)

set_option maxHeartbeats 16000000 in
set_option maxRecDepth 100000 in
theorem keys_n (a b : Id) (w : World) (ha : okD a) (hb : okD b) (hma : mayId a = false) : Calls Tryz.prog 3 #[idV a, idV b] w fun e w' => e = .returned (.bool true) ∧ Chg [] w w' := by
  obtain ⟨w1, hw1⟩ : ∃ w1, w1 = (w.alloc (.cells (idC a) 25)).alloc (.cells (idC b) 25) := ⟨_, rfl⟩
  have hc1 : Chg [] w w1 := by rw [hw1]; exact ((Chg.refl [] w).alloc _).alloc _
  have hba : w1.heap[w.heap.size]? = some (.cells (idC a) 25 (0, 0)) := by rw [hw1]; exact blk_alloc (heap_alloc_new w _)
  have hbb : w1.heap[w.heap.size + 1]? = some (.cells (idC b) 25 (0, 0)) := by
    rw [hw1]
    have := heap_alloc_new (w.alloc (.cells (idC a) 25)) (.cells (idC b) 25)
    simpa using this
  have CW := Lib.hid (awake6_any w1)
  have CK1 := Lib.hid (fun w => (stkey_any a w).mono fun e w' h => h.form)
  have CK2 := Lib.hid (fun w => (rkey_any a w).mono fun e w' h => h.form)
  have CK3 := Lib.hid (fun w => (stkey_any b w).mono fun e w' h => h.form)
  have CM := Lib.hid (fun w => mayid_any a w)
  have CR := Lib.hid (fun w => rmayid_any a w)
  have la := keyB_len a
  have lb := keyB_len b
  have HEQ : Hid (∀ w, (binOp .eql 25 (idV a) (idV b)).run Tryz.prog w = .ok (.bool (decide (a = b))) w) := Lib.hid (fun w => eq_id a b ha hb w)
  have HK : Hid (mayId a = true → mayId b = true → decide (keyB a = keyB b) = decide (a = b)) := Lib.hid (fun h1 h2 => by
    unfold keyB
    rw [if_pos h1, if_pos h2]
    by_cases e : a = b
    · rw [decide_eq_true e, decide_eq_true (by rw [e])]
    · rw [decide_eq_false e, decide_eq_false (fun h => e (idKey_inj h1 h2 h))])
  have HEA : Hid ((mayId a = true → keyErr a = 0) ∧ (mayId a = false → keyErr a = 1) ∧ (mayId b = true → keyErr b = 0) ∧ (mayId b = false → keyErr b = 1)) := Lib.hid ⟨fun h => if_pos h, fun h => if_neg (by simp [h]), fun h => if_pos h, fun h => if_neg (by simp [h])⟩
  generalize keyErr a = ea at *
  generalize keyErr b = eb at *
  generalize keyB a = ka at *
  generalize keyB b = kb at *
  generalize mayId a = ma at *
  generalize mayId b = mb at *
  generalize hd : decide (a = b) = dd at *
  obtain ⟨ac, al, an, ai⟩ := a
  obtain ⟨bc, bl, bn, bi⟩ := b
  have HW1 := Lib.hid hw1
  have HA1 := Lib.hid hba
  have HB1 := Lib.hid hbb
  have HC1 := Lib.hid hc1
  clear hw1 hba hbb hc1 ha hb hd
  go_enter Tryz.func3, Tryz.ntmps3
  go_wp2_with fail
  rw [← HW1.out]
  refine CW.out.mono ?_
  rintro e w2 ⟨rfl, hc2⟩
  have HA2 := Lib.hid (hc2.keep HA1.out (by simp))
  have HB2 := Lib.hid (hc2.keep HB1.out (by simp))
  have HC2 := Lib.hid (HC1.out.trans hc2 (by simp))
  obtain ⟨m0, m1, m2, m3⟩ := id_cells HA2.out
  clear hc2
  go_wp2_with fail
  refine (CK1.out w2).mono ?_
  rintro e w3 ⟨⟨vx, rfl, hx⟩, hc3⟩
  have HA3 := Lib.hid (hc3.keep HA2.out (by simp))
  have HB3 := Lib.hid (hc3.keep HB2.out (by simp))
  have HC3 := Lib.hid (HC2.out.trans hc3 (by simp))
  obtain ⟨m0, m1, m2, m3⟩ := id_cells HA3.out
  clear hc3
  go_wp2_with fail
  refine (CK2.out w3).mono ?_
  rintro e w4 ⟨⟨vy, rfl, hy⟩, hc4⟩
  have HA4 := Lib.hid (hc4.keep HA3.out (by simp))
  have HB4 := Lib.hid (hc4.keep HB3.out (by simp))
  have HC4 := Lib.hid (HC3.out.trans hc4 (by simp))
  have hx := hx.chg hc4 (by simp)
  obtain ⟨m0, m1, m2, m3⟩ := id_cells HB4.out
  clear hc4
  go_wp2_with fail
  refine (CK3.out w4).mono ?_
  rintro e w6 ⟨⟨vz, rfl, hz⟩, hc6⟩
  have HA : Hid (w6.drew.heap[w.heap.size]? = some (.cells (idC ⟨ac, al, an, ai⟩) 25 (0, 0))) := Lib.hid (hc6.keep HA4.out (by simp))
  have HB : Hid (w6.drew.heap[w.heap.size + 1]? = some (.cells (idC ⟨bc, bl, bn, bi⟩) 25 (0, 0))) := Lib.hid (hc6.keep HB4.out (by simp))
  have HC6 := Lib.hid (HC4.out.trans hc6 (by simp))
  have HX0 := Lib.hid (hx.chg hc6 (by simp))
  have HZ0 := Lib.hid hz
  have hx := bytes_drew (hx.chg hc6 (by simp))
  have hy := bytes_drew (hy.chg hc6 (by simp))
  have hz := bytes_drew hz
  have CS1 := Lib.hid (same_any _ _ _ _ w6.drew hx hy (by omega) (by omega))
  rw [decide_eq_true rfl] at CS1
  have mm := id_cells HA.out
  have nn := id_cells HB.out
  obtain ⟨ax, cx, rfl⟩ := hx.slice
  obtain ⟨ay, cy, rfl⟩ := hy.slice
  obtain ⟨az, cz, rfl⟩ := hz.slice
  have HX : Hid (∀ n, BytesAt (w6.drewN (1 + n)) (.slice ax ka.length cx) ka) := Lib.hid (fun n => HX0.out.chg ((Chg.refl [] w6).drewN (1 + n)) (by simp))
  have HZ : Hid (∀ n, BytesAt (w6.drewN (1 + n)) (.slice az kb.length cz) kb) := Lib.hid (fun n => HZ0.out.chg ((Chg.refl [] w6).drewN (1 + n)) (by simp))
  clear hc6 hx hy hz m0 m1 m2 m3 HX0 HZ0
  subst hma
  obtain rfl : ea = 1 := HEA.out.2.1 rfl
  clear HEA
  go_wp2_with fail
  refine wp_region_L [(10, fun w' => (w'.cell? ⟨w.heap.size, 0, none⟩ = some (.int .i64 ac) ∧ w'.cell? ⟨w.heap.size, 1, none⟩ = some (.int .i64 al) ∧ w'.cell? ⟨w.heap.size, 2, none⟩ = some (.int .i64 an) ∧ w'.cell? ⟨w.heap.size, 3, none⟩ = some (.int .i64 ai))), (12, fun w' => (w'.cell? ⟨w.heap.size, 0, none⟩ = some (.int .i64 ac) ∧ w'.cell? ⟨w.heap.size, 1, none⟩ = some (.int .i64 al) ∧ w'.cell? ⟨w.heap.size, 2, none⟩ = some (.int .i64 an) ∧ w'.cell? ⟨w.heap.size, 3, none⟩ = some (.int .i64 ai)))] (by kernel_rfl) ?_ (fun hHeld => ?_)
  · exact (HoldC.cons (mm) (HoldC.cons (mm) HoldC.nil))
  refine wpAnyL_take (i := 0) (oi := _) (v := ?_) rfl (by kernel_rfl) (by kernel_rfl) (by kernel_rfl) (by kernel_rfl) (by kernel_rfl) (fun _ _ _ h => h) (Or.inl ⟨by rfl, ?_⟩) (by assumption) (fun hNew => ?_)
  rotate_left
  · intro w _
    go_simp
    try with_reducible rfl
  clear hHeld
  have hHeld := hNew
  clear hNew
  try simp only [List.getElem_toArray, List.getElem_cons_succ, List.getElem_cons_zero, Act.put, List.setIfInBounds_toArray, List.set_cons_zero, List.set_cons_succ]
  refine wpAnyL_take (i := 1) (oi := _) (v := ?_) rfl (by kernel_rfl) (by kernel_rfl) (by kernel_rfl) (by kernel_rfl) (by kernel_rfl) (fun _ _ _ h => h) (Or.inl ⟨by rfl, ?_⟩) (by assumption) (fun hNew => ?_)
  rotate_left
  · intro w _
    go_simp
    try with_reducible rfl
  clear hHeld
  have hHeld := hNew
  clear hNew
  try simp only [List.getElem_toArray, List.getElem_cons_succ, List.getElem_cons_zero, Act.put, List.setIfInBounds_toArray, List.set_cons_zero, List.set_cons_succ]
  refine wpAnyL_take (i := 2) (oi := _) (v := ?_) rfl (by kernel_rfl) (by kernel_rfl) (by kernel_rfl) (by kernel_rfl) (by kernel_rfl) (fun _ _ _ h => h) (Or.inl ⟨by rfl, ?_⟩) (by assumption) (fun hNew => ?_)
  rotate_left
  · intro w _
    go_simp
    try with_reducible rfl
  clear hHeld
  have hHeld := hNew
  clear hNew
  try simp only [List.getElem_toArray, List.getElem_cons_succ, List.getElem_cons_zero, Act.put, List.setIfInBounds_toArray, List.set_cons_zero, List.set_cons_succ]
  refine wpAnyL_take (i := 3) (oi := _) (v := ?_) rfl (by kernel_rfl) (by kernel_rfl) (by kernel_rfl) (by kernel_rfl) (by kernel_rfl) (fun _ _ _ h => h) (Or.inl ⟨by rfl, ?_⟩) (by assumption) (fun hNew => ?_)
  rotate_left
  · intro w _
    go_simp
    try with_reducible rfl
  clear hHeld
  have hHeld := hNew
  clear hNew
  try simp only [List.getElem_toArray, List.getElem_cons_succ, List.getElem_cons_zero, Act.put, List.setIfInBounds_toArray, List.set_cons_zero, List.set_cons_succ]
  refine wpAnyL_take (i := 4) (oi := _) (v := ?_) rfl (by kernel_rfl) (by kernel_rfl) (by kernel_rfl) (by kernel_rfl) (by kernel_rfl) (fun _ _ _ h => h) (Or.inl ⟨by rfl, ?_⟩) (by assumption) (fun hNew => ?_)
  rotate_left
  · intro w _
    go_simp
    try with_reducible rfl
  clear hHeld
  have hHeld := hNew
  clear hNew
  try simp only [List.getElem_toArray, List.getElem_cons_succ, List.getElem_cons_zero, Act.put, List.setIfInBounds_toArray, List.set_cons_zero, List.set_cons_succ]
  refine wpAnyL_take (i := 5) (oi := _) (v := ?_) rfl (by kernel_rfl) (by kernel_rfl) (by kernel_rfl) (by kernel_rfl) (by kernel_rfl) (fun _ _ _ h => h) (Or.inl ⟨by rfl, ?_⟩) (by assumption) (fun hNew => ?_)
  rotate_left
  · intro w _
    go_simp
    try with_reducible rfl
  clear hHeld
  have hHeld := hNew
  clear hNew
  try simp only [List.getElem_toArray, List.getElem_cons_succ, List.getElem_cons_zero, Act.put, List.setIfInBounds_toArray, List.set_cons_zero, List.set_cons_succ]
  refine wpAnyL_ready (rs := [6]) (by kernel_rfl) (by simp) ?_
  refine AllReadyL.cons (o := _) rfl (fun K hK => ?_) AllReadyL.nil
  try simp only [List.getElem_toArray, List.getElem_cons_succ, List.getElem_cons_zero]
  go_simp
  refine CS1.out.mono ?_
  rintro e w7 ⟨rfl, n, rfl⟩
  have mm : ((w6.drewN (1 + n)).cell? ⟨w.heap.size, 0, none⟩ = some (.int .i64 ac) ∧ (w6.drewN (1 + n)).cell? ⟨w.heap.size, 1, none⟩ = some (.int .i64 al) ∧ (w6.drewN (1 + n)).cell? ⟨w.heap.size, 2, none⟩ = some (.int .i64 an) ∧ (w6.drewN (1 + n)).cell? ⟨w.heap.size, 3, none⟩ = some (.int .i64 ai)) := mm
  have nn : ((w6.drewN (1 + n)).cell? ⟨w.heap.size + 1, 0, none⟩ = some (.int .i64 bc) ∧ (w6.drewN (1 + n)).cell? ⟨w.heap.size + 1, 1, none⟩ = some (.int .i64 bl) ∧ (w6.drewN (1 + n)).cell? ⟨w.heap.size + 1, 2, none⟩ = some (.int .i64 bn) ∧ (w6.drewN (1 + n)).cell? ⟨w.heap.size + 1, 3, none⟩ = some (.int .i64 bi)) := nn
  have HS7 := Lib.hid (show Chg [] w (w6.drewN (1 + n)) from HC6.out.drewN _)
  clear hHeld
  refine hK.out _ _ ?_ (fun hHeld => ?_)
  · exact (HoldC.cons (mm) (HoldC.cons (mm) HoldC.nil))
  clear hK K
  try simp only [List.getElem_toArray, List.getElem_cons_succ, List.getElem_cons_zero, Act.put, List.setIfInBounds_toArray, List.set_cons_zero, List.set_cons_succ]
  refine wpAnyL_take (i := 7) (oi := _) (v := ?_) rfl (by kernel_rfl) (by kernel_rfl) (by kernel_rfl) (by kernel_rfl) (by kernel_rfl) (fun _ _ _ h => h) (Or.inl ⟨by rfl, ?_⟩) (by assumption) (fun hNew => ?_)
  rotate_left
  · intro w _
    go_simp
    try with_reducible rfl
  clear hHeld
  have hHeld := hNew
  clear hNew
  try simp only [List.getElem_toArray, List.getElem_cons_succ, List.getElem_cons_zero, Act.put, List.setIfInBounds_toArray, List.set_cons_zero, List.set_cons_succ]
  refine wpAnyL_take (i := 8) (oi := _) (v := ?_) rfl (by kernel_rfl) (by kernel_rfl) (by kernel_rfl) (by kernel_rfl) (by kernel_rfl) (fun _ _ _ h => h) (Or.inl ⟨by rfl, ?_⟩) (by assumption) (fun hNew => ?_)
  rotate_left
  · intro w _
    go_simp
    try with_reducible rfl
  clear hHeld
  have hHeld := hNew
  clear hNew
  try simp only [List.getElem_toArray, List.getElem_cons_succ, List.getElem_cons_zero, Act.put, List.setIfInBounds_toArray, List.set_cons_zero, List.set_cons_succ]
  refine wpAnyL_load 0 (i := 9) (oi := _) (v := ?_) rfl rfl (by kernel_rfl) (by kernel_rfl) (by kernel_rfl) (by kernel_rfl) (by kernel_rfl) (by kernel_rfl) (fun _ _ _ h => h) (Or.inl ⟨by rfl, ?_⟩) (by assumption) (fun hNew => ?_)
  rotate_left
  · intro w hSw
    (try dsimp only at hSw)
    go_simp
    try with_reducible rfl
  clear hHeld
  have hHeld := hNew
  clear hNew
  try simp only [List.getElem_toArray, List.getElem_cons_succ, List.getElem_cons_zero, Act.put, List.setIfInBounds_toArray, List.set_cons_zero, List.set_cons_succ]
  refine wpAnyL_load 1 (i := 11) (oi := _) (v := ?_) rfl rfl (by kernel_rfl) (by kernel_rfl) (by kernel_rfl) (by kernel_rfl) (by kernel_rfl) (by kernel_rfl) (fun _ _ _ h => h) (Or.inl ⟨by rfl, ?_⟩) (by assumption) (fun hNew => ?_)
  rotate_left
  · intro w hSw
    (try dsimp only at hSw)
    go_simp
    try with_reducible rfl
  clear hHeld
  have hHeld := hNew
  clear hNew
  try simp only [List.getElem_toArray, List.getElem_cons_succ, List.getElem_cons_zero, Act.put, List.setIfInBounds_toArray, List.set_cons_zero, List.set_cons_succ]
  refine wpAnyL_ready (rs := [10]) (by kernel_rfl) (by simp) ?_
  refine AllReadyL.cons (o := _) rfl (fun K hK => ?_) AllReadyL.nil
  try simp only [List.getElem_toArray, List.getElem_cons_succ, List.getElem_cons_zero]
  go_simp
  refine (CM.out _).mono ?_
  rintro e w8 ⟨rfl, hc8⟩
  have mm := id_cells (hc8.keep (show (w6.drewN (1 + n)).heap[w.heap.size]? = some (.cells (idC ⟨ac, al, an, ai⟩) 25 (0, 0)) from HA.out) (by simp))
  have nn := id_cells (hc8.keep (show (w6.drewN (1 + n)).heap[w.heap.size + 1]? = some (.cells (idC ⟨bc, bl, bn, bi⟩) 25 (0, 0)) from HB.out) (by simp))
  have HC8 := Lib.hid hc8
  clear hc8
  clear hHeld
  refine hK.out _ _ ?_ (fun hHeld => ?_)
  · exact (HoldC.past (by kernel_rfl) (HoldC.cons (mm) HoldC.nil))
  clear hK K
  try simp only [List.getElem_toArray, List.getElem_cons_succ, List.getElem_cons_zero, Act.put, List.setIfInBounds_toArray, List.set_cons_zero, List.set_cons_succ]
  refine wpAnyL_ready (rs := [12]) (by kernel_rfl) (by simp) ?_
  refine AllReadyL.cons (o := _) rfl (fun K hK => ?_) AllReadyL.nil
  try simp only [List.getElem_toArray, List.getElem_cons_succ, List.getElem_cons_zero]
  go_simp
  refine (CR.out _).mono ?_
  rintro e w9 ⟨rfl, hc9⟩
  have HC9 := Lib.hid (HC8.out.trans hc9 (by simp))
  have mm := id_cells (HC9.out.keep (show (w6.drewN (1 + n)).heap[w.heap.size]? = some (.cells (idC ⟨ac, al, an, ai⟩) 25 (0, 0)) from HA.out) (by simp))
  have nn := id_cells (HC9.out.keep (show (w6.drewN (1 + n)).heap[w.heap.size + 1]? = some (.cells (idC ⟨bc, bl, bn, bi⟩) 25 (0, 0)) from HB.out) (by simp))
  clear hc9
  clear hHeld
  refine hK.out _ _ ?_ (fun hHeld => ?_)
  · exact (HoldC.past (by kernel_rfl) (HoldC.past (by kernel_rfl) HoldC.nil))
  clear hK K
  try simp only [List.getElem_toArray, List.getElem_cons_succ, List.getElem_cons_zero, Act.put, List.setIfInBounds_toArray, List.set_cons_zero, List.set_cons_succ]
  refine wpAnyL_take (i := 13) (oi := _) (v := ?_) rfl (by kernel_rfl) (by kernel_rfl) (by kernel_rfl) (by kernel_rfl) (by kernel_rfl) (fun _ _ _ h => h) (Or.inl ⟨by rfl, ?_⟩) (by assumption) (fun hNew => ?_)
  rotate_left
  · intro w _
    go_simp
    try with_reducible rfl
  clear hHeld
  have hHeld := hNew
  clear hNew
  try simp only [List.getElem_toArray, List.getElem_cons_succ, List.getElem_cons_zero, Act.put, List.setIfInBounds_toArray, List.set_cons_zero, List.set_cons_succ]
  refine wpAnyL_take (i := 14) (oi := _) (v := ?_) rfl (by kernel_rfl) (by kernel_rfl) (by kernel_rfl) (by kernel_rfl) (by kernel_rfl) (fun _ _ _ h => h) (Or.inl ⟨by rfl, ?_⟩) (by assumption) (fun hNew => ?_)
  rotate_left
  · intro w _
    go_simp
    try with_reducible rfl
  clear hHeld
  have hHeld := hNew
  clear hNew
  try simp only [List.getElem_toArray, List.getElem_cons_succ, List.getElem_cons_zero, Act.put, List.setIfInBounds_toArray, List.set_cons_zero, List.set_cons_succ]
  refine wpAnyL_take (i := 15) (oi := _) (v := ?_) rfl (by kernel_rfl) (by kernel_rfl) (by kernel_rfl) (by kernel_rfl) (by kernel_rfl) (fun _ _ _ h => h) (Or.inl ⟨by rfl, ?_⟩) (by assumption) (fun hNew => ?_)
  rotate_left
  · intro w _
    go_simp
    try with_reducible rfl
  clear hHeld
  have hHeld := hNew
  clear hNew
  try simp only [List.getElem_toArray, List.getElem_cons_succ, List.getElem_cons_zero, Act.put, List.setIfInBounds_toArray, List.set_cons_zero, List.set_cons_succ]
  refine wpAnyL_take (i := 16) (oi := _) (v := ?_) rfl (by kernel_rfl) (by kernel_rfl) (by kernel_rfl) (by kernel_rfl) (by kernel_rfl) (fun _ _ _ h => h) (Or.inl ⟨by rfl, ?_⟩) (by assumption) (fun hNew => ?_)
  rotate_left
  · intro w _
    go_simp
    try with_reducible rfl
  clear hHeld
  have hHeld := hNew
  clear hNew
  try simp only [List.getElem_toArray, List.getElem_cons_succ, List.getElem_cons_zero, Act.put, List.setIfInBounds_toArray, List.set_cons_zero, List.set_cons_succ]
  refine wpAnyL_take (i := 17) (oi := _) (v := ?_) rfl (by kernel_rfl) (by kernel_rfl) (by kernel_rfl) (by kernel_rfl) (by kernel_rfl) (fun _ _ _ h => h) (Or.inl ⟨by rfl, ?_⟩) (by assumption) (fun hNew => ?_)
  rotate_left
  · intro w _
    go_simp
    try with_reducible rfl
  clear hHeld
  have hHeld := hNew
  clear hNew
  try simp only [List.getElem_toArray, List.getElem_cons_succ, List.getElem_cons_zero, Act.put, List.setIfInBounds_toArray, List.set_cons_zero, List.set_cons_succ]
  refine wpAnyL_take (i := 18) (oi := _) (v := ?_) rfl (by kernel_rfl) (by kernel_rfl) (by kernel_rfl) (by kernel_rfl) (by kernel_rfl) (fun _ _ _ h => h) (Or.inl ⟨by rfl, ?_⟩) (by assumption) (fun hNew => ?_)
  rotate_left
  · intro w _
    go_simp
    try with_reducible rfl
  clear hHeld
  have hHeld := hNew
  clear hNew
  try simp only [List.getElem_toArray, List.getElem_cons_succ, List.getElem_cons_zero, Act.put, List.setIfInBounds_toArray, List.set_cons_zero, List.set_cons_succ]
  refine wpAnyL_take (i := 19) (oi := _) (v := _) rfl (by kernel_rfl) (by kernel_rfl) (by kernel_rfl) (by kernel_rfl) (by kernel_rfl) (fun _ _ _ h => h) (Or.inr ⟨by rfl, rfl⟩) (by assumption) (fun hNew => ?_)
  clear hHeld
  have hHeld := hNew
  clear hNew
  try simp only [List.getElem_toArray, List.getElem_cons_succ, List.getElem_cons_zero, Act.put, List.setIfInBounds_toArray, List.set_cons_zero, List.set_cons_succ]
  refine wpAnyL_take (i := 20) (oi := _) (v := _) rfl (by kernel_rfl) (by kernel_rfl) (by kernel_rfl) (by kernel_rfl) (by kernel_rfl) (fun _ _ _ h => h) (Or.inr ⟨by rfl, rfl⟩) (by assumption) (fun hNew => ?_)
  clear hHeld
  have hHeld := hNew
  clear hNew
  try simp only [List.getElem_toArray, List.getElem_cons_succ, List.getElem_cons_zero, Act.put, List.setIfInBounds_toArray, List.set_cons_zero, List.set_cons_succ]
  refine wpAnyL_take (i := 21) (oi := _) (v := ?_) rfl (by kernel_rfl) (by kernel_rfl) (by kernel_rfl) (by kernel_rfl) (by kernel_rfl) (fun _ _ _ h => h) (Or.inl ⟨by rfl, ?_⟩) (by assumption) (fun hNew => ?_)
  rotate_left
  · intro w _
    go_simp
    try with_reducible rfl
  clear hHeld
  have hHeld := hNew
  clear hNew
  try simp only [List.getElem_toArray, List.getElem_cons_succ, List.getElem_cons_zero, Act.put, List.setIfInBounds_toArray, List.set_cons_zero, List.set_cons_succ]
  refine wpAnyL_take (i := 22) (oi := _) (v := ?_) rfl (by kernel_rfl) (by kernel_rfl) (by kernel_rfl) (by kernel_rfl) (by kernel_rfl) (fun _ _ _ h => h) (Or.inl ⟨by rfl, ?_⟩) (by assumption) (fun hNew => ?_)
  rotate_left
  · intro w _
    go_simp
    try with_reducible rfl
  clear hHeld
  have hHeld := hNew
  clear hNew
  try simp only [List.getElem_toArray, List.getElem_cons_succ, List.getElem_cons_zero, Act.put, List.setIfInBounds_toArray, List.set_cons_zero, List.set_cons_succ]
  refine wpAnyL_take (i := 23) (oi := _) (v := _) rfl (by kernel_rfl) (by kernel_rfl) (by kernel_rfl) (by kernel_rfl) (by kernel_rfl) (fun _ _ _ h => h) (Or.inr ⟨by rfl, rfl⟩) (by assumption) (fun hNew => ?_)
  clear hHeld
  have hHeld := hNew
  clear hNew
  try simp only [List.getElem_toArray, List.getElem_cons_succ, List.getElem_cons_zero, Act.put, List.setIfInBounds_toArray, List.set_cons_zero, List.set_cons_succ]
  refine wpAnyL_take (i := 24) (oi := _) (v := _) rfl (by kernel_rfl) (by kernel_rfl) (by kernel_rfl) (by kernel_rfl) (by kernel_rfl) (fun _ _ _ h => h) (Or.inr ⟨by rfl, rfl⟩) (by assumption) (fun hNew => ?_)
  clear hHeld
  have hHeld := hNew
  clear hNew
  try simp only [List.getElem_toArray, List.getElem_cons_succ, List.getElem_cons_zero, Act.put, List.setIfInBounds_toArray, List.set_cons_zero, List.set_cons_succ]
  refine wpAnyL_take (i := 25) (oi := _) (v := _) rfl (by kernel_rfl) (by kernel_rfl) (by kernel_rfl) (by kernel_rfl) (by kernel_rfl) (fun _ _ _ h => h) (Or.inr ⟨by rfl, rfl⟩) (by assumption) (fun hNew => ?_)
  clear hHeld
  have hHeld := hNew
  clear hNew
  try simp only [List.getElem_toArray, List.getElem_cons_succ, List.getElem_cons_zero, Act.put, List.setIfInBounds_toArray, List.set_cons_zero, List.set_cons_succ]
  refine wpAnyL_take (i := 26) (oi := _) (v := _) rfl (by kernel_rfl) (by kernel_rfl) (by kernel_rfl) (by kernel_rfl) (by kernel_rfl) (fun _ _ _ h => h) (Or.inr ⟨by rfl, rfl⟩) (by assumption) (fun hNew => ?_)
  clear hHeld
  have hHeld := hNew
  clear hNew
  try simp only [List.getElem_toArray, List.getElem_cons_succ, List.getElem_cons_zero, Act.put, List.setIfInBounds_toArray, List.set_cons_zero, List.set_cons_succ]
  refine wpAnyL_take (i := 27) (oi := _) (v := _) rfl (by kernel_rfl) (by kernel_rfl) (by kernel_rfl) (by kernel_rfl) (by kernel_rfl) (fun _ _ _ h => h) (Or.inr ⟨by rfl, rfl⟩) (by assumption) (fun hNew => ?_)
  clear hHeld
  have hHeld := hNew
  clear hNew
  try simp only [List.getElem_toArray, List.getElem_cons_succ, List.getElem_cons_zero, Act.put, List.setIfInBounds_toArray, List.set_cons_zero, List.set_cons_succ]
  refine wpAnyL_take (i := 28) (oi := _) (v := _) rfl (by kernel_rfl) (by kernel_rfl) (by kernel_rfl) (by kernel_rfl) (by kernel_rfl) (fun _ _ _ h => h) (Or.inr ⟨by rfl, rfl⟩) (by assumption) (fun hNew => ?_)
  clear hHeld
  have hHeld := hNew
  clear hNew
  try simp only [List.getElem_toArray, List.getElem_cons_succ, List.getElem_cons_zero, Act.put, List.setIfInBounds_toArray, List.set_cons_zero, List.set_cons_succ]
  refine wpAnyL_take (i := 29) (oi := _) (v := _) rfl (by kernel_rfl) (by kernel_rfl) (by kernel_rfl) (by kernel_rfl) (by kernel_rfl) (fun _ _ _ h => h) (Or.inr ⟨by rfl, rfl⟩) (by assumption) (fun hNew => ?_)
  clear hHeld
  have hHeld := hNew
  clear hNew
  try simp only [List.getElem_toArray, List.getElem_cons_succ, List.getElem_cons_zero, Act.put, List.setIfInBounds_toArray, List.set_cons_zero, List.set_cons_succ]
  refine wpAnyL_take (i := 30) (oi := _) (v := ?_) rfl (by kernel_rfl) (by kernel_rfl) (by kernel_rfl) (by kernel_rfl) (by kernel_rfl) (fun _ _ _ h => h) (Or.inl ⟨by rfl, ?_⟩) (by assumption) (fun hNew => ?_)
  rotate_left
  · intro w _
    go_simp
    try with_reducible rfl
  clear hHeld
  have hHeld := hNew
  clear hNew
  try simp only [List.getElem_toArray, List.getElem_cons_succ, List.getElem_cons_zero, Act.put, List.setIfInBounds_toArray, List.set_cons_zero, List.set_cons_succ]
  refine wpAnyL_take (i := 31) (oi := _) (v := ?_) rfl (by kernel_rfl) (by kernel_rfl) (by kernel_rfl) (by kernel_rfl) (by kernel_rfl) (fun _ _ _ h => h) (Or.inl ⟨by rfl, ?_⟩) (by assumption) (fun hNew => ?_)
  rotate_left
  · intro w _
    go_simp
    try with_reducible rfl
  clear hHeld
  have hHeld := hNew
  clear hNew
  try simp only [List.getElem_toArray, List.getElem_cons_succ, List.getElem_cons_zero, Act.put, List.setIfInBounds_toArray, List.set_cons_zero, List.set_cons_succ]
  refine wpAnyL_ready (rs := [32]) (by kernel_rfl) (by simp) ?_
  refine AllReadyL.cons (o := _) rfl (fun K hK => ?_) AllReadyL.nil
  try simp only [List.getElem_toArray, List.getElem_cons_succ, List.getElem_cons_zero]
  go_simp
  clear hHeld
  refine hK.out _ _ ?_ (fun hHeld => ?_)
  · exact (HoldC.past (by kernel_rfl) (HoldC.past (by kernel_rfl) HoldC.nil))
  clear hK K
  try simp only [List.getElem_toArray, List.getElem_cons_succ, List.getElem_cons_zero, Act.put, List.setIfInBounds_toArray, List.set_cons_zero, List.set_cons_succ]
  refine wpAnyL_done (by kernel_rfl) ?_ _
  clear hHeld
  go_wp2_with fail
  go_ret
  exact ⟨rfl, (HS7.out.trans HC9.out (by simp))⟩
set_option maxHeartbeats 16000000 in
set_option maxRecDepth 100000 in
theorem keys_yn (a b : Id) (w : World) (ha : okD a) (hb : okD b) (hma : mayId a = true) (hmb : mayId b = false) : Calls Tryz.prog 3 #[idV a, idV b] w fun e w' => e = .returned (.bool true) ∧ Chg [] w w' := by
  obtain ⟨w1, hw1⟩ : ∃ w1, w1 = (w.alloc (.cells (idC a) 25)).alloc (.cells (idC b) 25) := ⟨_, rfl⟩
  have hc1 : Chg [] w w1 := by rw [hw1]; exact ((Chg.refl [] w).alloc _).alloc _
  have hba : w1.heap[w.heap.size]? = some (.cells (idC a) 25 (0, 0)) := by rw [hw1]; exact blk_alloc (heap_alloc_new w _)
  have hbb : w1.heap[w.heap.size + 1]? = some (.cells (idC b) 25 (0, 0)) := by
    rw [hw1]
    have := heap_alloc_new (w.alloc (.cells (idC a) 25)) (.cells (idC b) 25)
    simpa using this
  have CW := Lib.hid (awake6_any w1)
  have CK1 := Lib.hid (fun w => (stkey_any a w).mono fun e w' h => h.form)
  have CK2 := Lib.hid (fun w => (rkey_any a w).mono fun e w' h => h.form)
  have CK3 := Lib.hid (fun w => (stkey_any b w).mono fun e w' h => h.form)
  have CM := Lib.hid (fun w => mayid_any a w)
  have CR := Lib.hid (fun w => rmayid_any a w)
  have la := keyB_len a
  have lb := keyB_len b
  have HEQ : Hid (∀ w, (binOp .eql 25 (idV a) (idV b)).run Tryz.prog w = .ok (.bool (decide (a = b))) w) := Lib.hid (fun w => eq_id a b ha hb w)
  have HK : Hid (mayId a = true → mayId b = true → decide (keyB a = keyB b) = decide (a = b)) := Lib.hid (fun h1 h2 => by
    unfold keyB
    rw [if_pos h1, if_pos h2]
    by_cases e : a = b
    · rw [decide_eq_true e, decide_eq_true (by rw [e])]
    · rw [decide_eq_false e, decide_eq_false (fun h => e (idKey_inj h1 h2 h))])
  have HEA : Hid ((mayId a = true → keyErr a = 0) ∧ (mayId a = false → keyErr a = 1) ∧ (mayId b = true → keyErr b = 0) ∧ (mayId b = false → keyErr b = 1)) := Lib.hid ⟨fun h => if_pos h, fun h => if_neg (by simp [h]), fun h => if_pos h, fun h => if_neg (by simp [h])⟩
  generalize keyErr a = ea at *
  generalize keyErr b = eb at *
  generalize keyB a = ka at *
  generalize keyB b = kb at *
  generalize mayId a = ma at *
  generalize mayId b = mb at *
  generalize hd : decide (a = b) = dd at *
  obtain ⟨ac, al, an, ai⟩ := a
  obtain ⟨bc, bl, bn, bi⟩ := b
  have HW1 := Lib.hid hw1
  have HA1 := Lib.hid hba
  have HB1 := Lib.hid hbb
  have HC1 := Lib.hid hc1
  clear hw1 hba hbb hc1 ha hb hd
  go_enter Tryz.func3, Tryz.ntmps3
  go_wp2_with fail
  rw [← HW1.out]
  refine CW.out.mono ?_
  rintro e w2 ⟨rfl, hc2⟩
  have HA2 := Lib.hid (hc2.keep HA1.out (by simp))
  have HB2 := Lib.hid (hc2.keep HB1.out (by simp))
  have HC2 := Lib.hid (HC1.out.trans hc2 (by simp))
  obtain ⟨m0, m1, m2, m3⟩ := id_cells HA2.out
  clear hc2
  go_wp2_with fail
  refine (CK1.out w2).mono ?_
  rintro e w3 ⟨⟨vx, rfl, hx⟩, hc3⟩
  have HA3 := Lib.hid (hc3.keep HA2.out (by simp))
  have HB3 := Lib.hid (hc3.keep HB2.out (by simp))
  have HC3 := Lib.hid (HC2.out.trans hc3 (by simp))
  obtain ⟨m0, m1, m2, m3⟩ := id_cells HA3.out
  clear hc3
  go_wp2_with fail
  refine (CK2.out w3).mono ?_
  rintro e w4 ⟨⟨vy, rfl, hy⟩, hc4⟩
  have HA4 := Lib.hid (hc4.keep HA3.out (by simp))
  have HB4 := Lib.hid (hc4.keep HB3.out (by simp))
  have HC4 := Lib.hid (HC3.out.trans hc4 (by simp))
  have hx := hx.chg hc4 (by simp)
  obtain ⟨m0, m1, m2, m3⟩ := id_cells HB4.out
  clear hc4
  go_wp2_with fail
  refine (CK3.out w4).mono ?_
  rintro e w6 ⟨⟨vz, rfl, hz⟩, hc6⟩
  have HA : Hid (w6.drew.heap[w.heap.size]? = some (.cells (idC ⟨ac, al, an, ai⟩) 25 (0, 0))) := Lib.hid (hc6.keep HA4.out (by simp))
  have HB : Hid (w6.drew.heap[w.heap.size + 1]? = some (.cells (idC ⟨bc, bl, bn, bi⟩) 25 (0, 0))) := Lib.hid (hc6.keep HB4.out (by simp))
  have HC6 := Lib.hid (HC4.out.trans hc6 (by simp))
  have HX0 := Lib.hid (hx.chg hc6 (by simp))
  have HZ0 := Lib.hid hz
  have hx := bytes_drew (hx.chg hc6 (by simp))
  have hy := bytes_drew (hy.chg hc6 (by simp))
  have hz := bytes_drew hz
  have CS1 := Lib.hid (same_any _ _ _ _ w6.drew hx hy (by omega) (by omega))
  rw [decide_eq_true rfl] at CS1
  have mm := id_cells HA.out
  have nn := id_cells HB.out
  obtain ⟨ax, cx, rfl⟩ := hx.slice
  obtain ⟨ay, cy, rfl⟩ := hy.slice
  obtain ⟨az, cz, rfl⟩ := hz.slice
  have HX : Hid (∀ n, BytesAt (w6.drewN (1 + n)) (.slice ax ka.length cx) ka) := Lib.hid (fun n => HX0.out.chg ((Chg.refl [] w6).drewN (1 + n)) (by simp))
  have HZ : Hid (∀ n, BytesAt (w6.drewN (1 + n)) (.slice az kb.length cz) kb) := Lib.hid (fun n => HZ0.out.chg ((Chg.refl [] w6).drewN (1 + n)) (by simp))
  clear hc6 hx hy hz m0 m1 m2 m3 HX0 HZ0
  subst hma
  subst hmb
  obtain rfl : ea = 0 := HEA.out.1 rfl
  obtain rfl : eb = 1 := HEA.out.2.2.2 rfl
  clear HEA
  go_wp2_with fail
  refine wp_region_L [(10, fun w' => (w'.cell? ⟨w.heap.size, 0, none⟩ = some (.int .i64 ac) ∧ w'.cell? ⟨w.heap.size, 1, none⟩ = some (.int .i64 al) ∧ w'.cell? ⟨w.heap.size, 2, none⟩ = some (.int .i64 an) ∧ w'.cell? ⟨w.heap.size, 3, none⟩ = some (.int .i64 ai))), (12, fun w' => (w'.cell? ⟨w.heap.size, 0, none⟩ = some (.int .i64 ac) ∧ w'.cell? ⟨w.heap.size, 1, none⟩ = some (.int .i64 al) ∧ w'.cell? ⟨w.heap.size, 2, none⟩ = some (.int .i64 an) ∧ w'.cell? ⟨w.heap.size, 3, none⟩ = some (.int .i64 ai)))] (by kernel_rfl) ?_ (fun hHeld => ?_)
  · exact (HoldC.cons (mm) (HoldC.cons (mm) HoldC.nil))
  refine wpAnyL_take (i := 0) (oi := _) (v := ?_) rfl (by kernel_rfl) (by kernel_rfl) (by kernel_rfl) (by kernel_rfl) (by kernel_rfl) (fun _ _ _ h => h) (Or.inl ⟨by rfl, ?_⟩) (by assumption) (fun hNew => ?_)
  rotate_left
  · intro w _
    go_simp
    try with_reducible rfl
  clear hHeld
  have hHeld := hNew
  clear hNew
  try simp only [List.getElem_toArray, List.getElem_cons_succ, List.getElem_cons_zero, Act.put, List.setIfInBounds_toArray, List.set_cons_zero, List.set_cons_succ]
  refine wpAnyL_take (i := 1) (oi := _) (v := ?_) rfl (by kernel_rfl) (by kernel_rfl) (by kernel_rfl) (by kernel_rfl) (by kernel_rfl) (fun _ _ _ h => h) (Or.inl ⟨by rfl, ?_⟩) (by assumption) (fun hNew => ?_)
  rotate_left
  · intro w _
    go_simp
    try with_reducible rfl
  clear hHeld
  have hHeld := hNew
  clear hNew
  try simp only [List.getElem_toArray, List.getElem_cons_succ, List.getElem_cons_zero, Act.put, List.setIfInBounds_toArray, List.set_cons_zero, List.set_cons_succ]
  refine wpAnyL_take (i := 2) (oi := _) (v := ?_) rfl (by kernel_rfl) (by kernel_rfl) (by kernel_rfl) (by kernel_rfl) (by kernel_rfl) (fun _ _ _ h => h) (Or.inl ⟨by rfl, ?_⟩) (by assumption) (fun hNew => ?_)
  rotate_left
  · intro w _
    go_simp
    try with_reducible rfl
  clear hHeld
  have hHeld := hNew
  clear hNew
  try simp only [List.getElem_toArray, List.getElem_cons_succ, List.getElem_cons_zero, Act.put, List.setIfInBounds_toArray, List.set_cons_zero, List.set_cons_succ]
  refine wpAnyL_take (i := 3) (oi := _) (v := ?_) rfl (by kernel_rfl) (by kernel_rfl) (by kernel_rfl) (by kernel_rfl) (by kernel_rfl) (fun _ _ _ h => h) (Or.inl ⟨by rfl, ?_⟩) (by assumption) (fun hNew => ?_)
  rotate_left
  · intro w _
    go_simp
    try with_reducible rfl
  clear hHeld
  have hHeld := hNew
  clear hNew
  try simp only [List.getElem_toArray, List.getElem_cons_succ, List.getElem_cons_zero, Act.put, List.setIfInBounds_toArray, List.set_cons_zero, List.set_cons_succ]
  refine wpAnyL_take (i := 4) (oi := _) (v := ?_) rfl (by kernel_rfl) (by kernel_rfl) (by kernel_rfl) (by kernel_rfl) (by kernel_rfl) (fun _ _ _ h => h) (Or.inl ⟨by rfl, ?_⟩) (by assumption) (fun hNew => ?_)
  rotate_left
  · intro w _
    go_simp
    try with_reducible rfl
  clear hHeld
  have hHeld := hNew
  clear hNew
  try simp only [List.getElem_toArray, List.getElem_cons_succ, List.getElem_cons_zero, Act.put, List.setIfInBounds_toArray, List.set_cons_zero, List.set_cons_succ]
  refine wpAnyL_take (i := 5) (oi := _) (v := ?_) rfl (by kernel_rfl) (by kernel_rfl) (by kernel_rfl) (by kernel_rfl) (by kernel_rfl) (fun _ _ _ h => h) (Or.inl ⟨by rfl, ?_⟩) (by assumption) (fun hNew => ?_)
  rotate_left
  · intro w _
    go_simp
    try with_reducible rfl
  clear hHeld
  have hHeld := hNew
  clear hNew
  try simp only [List.getElem_toArray, List.getElem_cons_succ, List.getElem_cons_zero, Act.put, List.setIfInBounds_toArray, List.set_cons_zero, List.set_cons_succ]
  refine wpAnyL_ready (rs := [6]) (by kernel_rfl) (by simp) ?_
  refine AllReadyL.cons (o := _) rfl (fun K hK => ?_) AllReadyL.nil
  try simp only [List.getElem_toArray, List.getElem_cons_succ, List.getElem_cons_zero]
  go_simp
  refine CS1.out.mono ?_
  rintro e w7 ⟨rfl, n, rfl⟩
  have mm : ((w6.drewN (1 + n)).cell? ⟨w.heap.size, 0, none⟩ = some (.int .i64 ac) ∧ (w6.drewN (1 + n)).cell? ⟨w.heap.size, 1, none⟩ = some (.int .i64 al) ∧ (w6.drewN (1 + n)).cell? ⟨w.heap.size, 2, none⟩ = some (.int .i64 an) ∧ (w6.drewN (1 + n)).cell? ⟨w.heap.size, 3, none⟩ = some (.int .i64 ai)) := mm
  have nn : ((w6.drewN (1 + n)).cell? ⟨w.heap.size + 1, 0, none⟩ = some (.int .i64 bc) ∧ (w6.drewN (1 + n)).cell? ⟨w.heap.size + 1, 1, none⟩ = some (.int .i64 bl) ∧ (w6.drewN (1 + n)).cell? ⟨w.heap.size + 1, 2, none⟩ = some (.int .i64 bn) ∧ (w6.drewN (1 + n)).cell? ⟨w.heap.size + 1, 3, none⟩ = some (.int .i64 bi)) := nn
  have HS7 := Lib.hid (show Chg [] w (w6.drewN (1 + n)) from HC6.out.drewN _)
  clear hHeld
  refine hK.out _ _ ?_ (fun hHeld => ?_)
  · exact (HoldC.cons (mm) (HoldC.cons (mm) HoldC.nil))
  clear hK K
  try simp only [List.getElem_toArray, List.getElem_cons_succ, List.getElem_cons_zero, Act.put, List.setIfInBounds_toArray, List.set_cons_zero, List.set_cons_succ]
  refine wpAnyL_take (i := 7) (oi := _) (v := ?_) rfl (by kernel_rfl) (by kernel_rfl) (by kernel_rfl) (by kernel_rfl) (by kernel_rfl) (fun _ _ _ h => h) (Or.inl ⟨by rfl, ?_⟩) (by assumption) (fun hNew => ?_)
  rotate_left
  · intro w _
    go_simp
    try with_reducible rfl
  clear hHeld
  have hHeld := hNew
  clear hNew
  try simp only [List.getElem_toArray, List.getElem_cons_succ, List.getElem_cons_zero, Act.put, List.setIfInBounds_toArray, List.set_cons_zero, List.set_cons_succ]
  refine wpAnyL_take (i := 8) (oi := _) (v := ?_) rfl (by kernel_rfl) (by kernel_rfl) (by kernel_rfl) (by kernel_rfl) (by kernel_rfl) (fun _ _ _ h => h) (Or.inl ⟨by rfl, ?_⟩) (by assumption) (fun hNew => ?_)
  rotate_left
  · intro w _
    go_simp
    try with_reducible rfl
  clear hHeld
  have hHeld := hNew
  clear hNew
  try simp only [List.getElem_toArray, List.getElem_cons_succ, List.getElem_cons_zero, Act.put, List.setIfInBounds_toArray, List.set_cons_zero, List.set_cons_succ]
  refine wpAnyL_load 0 (i := 9) (oi := _) (v := ?_) rfl rfl (by kernel_rfl) (by kernel_rfl) (by kernel_rfl) (by kernel_rfl) (by kernel_rfl) (by kernel_rfl) (fun _ _ _ h => h) (Or.inl ⟨by rfl, ?_⟩) (by assumption) (fun hNew => ?_)
  rotate_left
  · intro w hSw
    (try dsimp only at hSw)
    go_simp
    try with_reducible rfl
  clear hHeld
  have hHeld := hNew
  clear hNew
  try simp only [List.getElem_toArray, List.getElem_cons_succ, List.getElem_cons_zero, Act.put, List.setIfInBounds_toArray, List.set_cons_zero, List.set_cons_succ]
  refine wpAnyL_load 1 (i := 11) (oi := _) (v := ?_) rfl rfl (by kernel_rfl) (by kernel_rfl) (by kernel_rfl) (by kernel_rfl) (by kernel_rfl) (by kernel_rfl) (fun _ _ _ h => h) (Or.inl ⟨by rfl, ?_⟩) (by assumption) (fun hNew => ?_)
  rotate_left
  · intro w hSw
    (try dsimp only at hSw)
    go_simp
    try with_reducible rfl
  clear hHeld
  have hHeld := hNew
  clear hNew
  try simp only [List.getElem_toArray, List.getElem_cons_succ, List.getElem_cons_zero, Act.put, List.setIfInBounds_toArray, List.set_cons_zero, List.set_cons_succ]
  refine wpAnyL_ready (rs := [10]) (by kernel_rfl) (by simp) ?_
  refine AllReadyL.cons (o := _) rfl (fun K hK => ?_) AllReadyL.nil
  try simp only [List.getElem_toArray, List.getElem_cons_succ, List.getElem_cons_zero]
  go_simp
  refine (CM.out _).mono ?_
  rintro e w8 ⟨rfl, hc8⟩
  have mm := id_cells (hc8.keep (show (w6.drewN (1 + n)).heap[w.heap.size]? = some (.cells (idC ⟨ac, al, an, ai⟩) 25 (0, 0)) from HA.out) (by simp))
  have nn := id_cells (hc8.keep (show (w6.drewN (1 + n)).heap[w.heap.size + 1]? = some (.cells (idC ⟨bc, bl, bn, bi⟩) 25 (0, 0)) from HB.out) (by simp))
  have HC8 := Lib.hid hc8
  clear hc8
  clear hHeld
  refine hK.out _ _ ?_ (fun hHeld => ?_)
  · exact (HoldC.past (by kernel_rfl) (HoldC.cons (mm) HoldC.nil))
  clear hK K
  try simp only [List.getElem_toArray, List.getElem_cons_succ, List.getElem_cons_zero, Act.put, List.setIfInBounds_toArray, List.set_cons_zero, List.set_cons_succ]
  refine wpAnyL_ready (rs := [12]) (by kernel_rfl) (by simp) ?_
  refine AllReadyL.cons (o := _) rfl (fun K hK => ?_) AllReadyL.nil
  try simp only [List.getElem_toArray, List.getElem_cons_succ, List.getElem_cons_zero]
  go_simp
  refine (CR.out _).mono ?_
  rintro e w9 ⟨rfl, hc9⟩
  have HC9 := Lib.hid (HC8.out.trans hc9 (by simp))
  have mm := id_cells (HC9.out.keep (show (w6.drewN (1 + n)).heap[w.heap.size]? = some (.cells (idC ⟨ac, al, an, ai⟩) 25 (0, 0)) from HA.out) (by simp))
  have nn := id_cells (HC9.out.keep (show (w6.drewN (1 + n)).heap[w.heap.size + 1]? = some (.cells (idC ⟨bc, bl, bn, bi⟩) 25 (0, 0)) from HB.out) (by simp))
  clear hc9
  clear hHeld
  refine hK.out _ _ ?_ (fun hHeld => ?_)
  · exact (HoldC.past (by kernel_rfl) (HoldC.past (by kernel_rfl) HoldC.nil))
  clear hK K
  try simp only [List.getElem_toArray, List.getElem_cons_succ, List.getElem_cons_zero, Act.put, List.setIfInBounds_toArray, List.set_cons_zero, List.set_cons_succ]
  refine wpAnyL_take (i := 13) (oi := _) (v := ?_) rfl (by kernel_rfl) (by kernel_rfl) (by kernel_rfl) (by kernel_rfl) (by kernel_rfl) (fun _ _ _ h => h) (Or.inl ⟨by rfl, ?_⟩) (by assumption) (fun hNew => ?_)
  rotate_left
  · intro w _
    go_simp
    try with_reducible rfl
  clear hHeld
  have hHeld := hNew
  clear hNew
  try simp only [List.getElem_toArray, List.getElem_cons_succ, List.getElem_cons_zero, Act.put, List.setIfInBounds_toArray, List.set_cons_zero, List.set_cons_succ]
  refine wpAnyL_take (i := 14) (oi := _) (v := ?_) rfl (by kernel_rfl) (by kernel_rfl) (by kernel_rfl) (by kernel_rfl) (by kernel_rfl) (fun _ _ _ h => h) (Or.inl ⟨by rfl, ?_⟩) (by assumption) (fun hNew => ?_)
  rotate_left
  · intro w _
    go_simp
    try with_reducible rfl
  clear hHeld
  have hHeld := hNew
  clear hNew
  try simp only [List.getElem_toArray, List.getElem_cons_succ, List.getElem_cons_zero, Act.put, List.setIfInBounds_toArray, List.set_cons_zero, List.set_cons_succ]
  refine wpAnyL_take (i := 15) (oi := _) (v := ?_) rfl (by kernel_rfl) (by kernel_rfl) (by kernel_rfl) (by kernel_rfl) (by kernel_rfl) (fun _ _ _ h => h) (Or.inl ⟨by rfl, ?_⟩) (by assumption) (fun hNew => ?_)
  rotate_left
  · intro w _
    go_simp
    try with_reducible rfl
  clear hHeld
  have hHeld := hNew
  clear hNew
  try simp only [List.getElem_toArray, List.getElem_cons_succ, List.getElem_cons_zero, Act.put, List.setIfInBounds_toArray, List.set_cons_zero, List.set_cons_succ]
  refine wpAnyL_take (i := 16) (oi := _) (v := ?_) rfl (by kernel_rfl) (by kernel_rfl) (by kernel_rfl) (by kernel_rfl) (by kernel_rfl) (fun _ _ _ h => h) (Or.inl ⟨by rfl, ?_⟩) (by assumption) (fun hNew => ?_)
  rotate_left
  · intro w _
    go_simp
    try with_reducible rfl
  clear hHeld
  have hHeld := hNew
  clear hNew
  try simp only [List.getElem_toArray, List.getElem_cons_succ, List.getElem_cons_zero, Act.put, List.setIfInBounds_toArray, List.set_cons_zero, List.set_cons_succ]
  refine wpAnyL_take (i := 17) (oi := _) (v := ?_) rfl (by kernel_rfl) (by kernel_rfl) (by kernel_rfl) (by kernel_rfl) (by kernel_rfl) (fun _ _ _ h => h) (Or.inl ⟨by rfl, ?_⟩) (by assumption) (fun hNew => ?_)
  rotate_left
  · intro w _
    go_simp
    try with_reducible rfl
  clear hHeld
  have hHeld := hNew
  clear hNew
  try simp only [List.getElem_toArray, List.getElem_cons_succ, List.getElem_cons_zero, Act.put, List.setIfInBounds_toArray, List.set_cons_zero, List.set_cons_succ]
  refine wpAnyL_take (i := 18) (oi := _) (v := ?_) rfl (by kernel_rfl) (by kernel_rfl) (by kernel_rfl) (by kernel_rfl) (by kernel_rfl) (fun _ _ _ h => h) (Or.inl ⟨by rfl, ?_⟩) (by assumption) (fun hNew => ?_)
  rotate_left
  · intro w _
    go_simp
    try with_reducible rfl
  clear hHeld
  have hHeld := hNew
  clear hNew
  try simp only [List.getElem_toArray, List.getElem_cons_succ, List.getElem_cons_zero, Act.put, List.setIfInBounds_toArray, List.set_cons_zero, List.set_cons_succ]
  refine wpAnyL_take (i := 19) (oi := _) (v := ?_) rfl (by kernel_rfl) (by kernel_rfl) (by kernel_rfl) (by kernel_rfl) (by kernel_rfl) (fun _ _ _ h => h) (Or.inl ⟨by rfl, ?_⟩) (by assumption) (fun hNew => ?_)
  rotate_left
  · intro w _
    go_simp
    try with_reducible rfl
  clear hHeld
  have hHeld := hNew
  clear hNew
  try simp only [List.getElem_toArray, List.getElem_cons_succ, List.getElem_cons_zero, Act.put, List.setIfInBounds_toArray, List.set_cons_zero, List.set_cons_succ]
  refine wpAnyL_take (i := 20) (oi := _) (v := ?_) rfl (by kernel_rfl) (by kernel_rfl) (by kernel_rfl) (by kernel_rfl) (by kernel_rfl) (fun _ _ _ h => h) (Or.inl ⟨by rfl, ?_⟩) (by assumption) (fun hNew => ?_)
  rotate_left
  · intro w _
    go_simp
    try with_reducible rfl
  clear hHeld
  have hHeld := hNew
  clear hNew
  try simp only [List.getElem_toArray, List.getElem_cons_succ, List.getElem_cons_zero, Act.put, List.setIfInBounds_toArray, List.set_cons_zero, List.set_cons_succ]
  refine wpAnyL_take (i := 21) (oi := _) (v := ?_) rfl (by kernel_rfl) (by kernel_rfl) (by kernel_rfl) (by kernel_rfl) (by kernel_rfl) (fun _ _ _ h => h) (Or.inl ⟨by rfl, ?_⟩) (by assumption) (fun hNew => ?_)
  rotate_left
  · intro w _
    go_simp
    try with_reducible rfl
  clear hHeld
  have hHeld := hNew
  clear hNew
  try simp only [List.getElem_toArray, List.getElem_cons_succ, List.getElem_cons_zero, Act.put, List.setIfInBounds_toArray, List.set_cons_zero, List.set_cons_succ]
  refine wpAnyL_take (i := 22) (oi := _) (v := ?_) rfl (by kernel_rfl) (by kernel_rfl) (by kernel_rfl) (by kernel_rfl) (by kernel_rfl) (fun _ _ _ h => h) (Or.inl ⟨by rfl, ?_⟩) (by assumption) (fun hNew => ?_)
  rotate_left
  · intro w _
    go_simp
    try with_reducible rfl
  clear hHeld
  have hHeld := hNew
  clear hNew
  try simp only [List.getElem_toArray, List.getElem_cons_succ, List.getElem_cons_zero, Act.put, List.setIfInBounds_toArray, List.set_cons_zero, List.set_cons_succ]
  refine wpAnyL_take (i := 23) (oi := _) (v := _) rfl (by kernel_rfl) (by kernel_rfl) (by kernel_rfl) (by kernel_rfl) (by kernel_rfl) (fun _ _ _ h => h) (Or.inr ⟨by rfl, rfl⟩) (by assumption) (fun hNew => ?_)
  clear hHeld
  have hHeld := hNew
  clear hNew
  try simp only [List.getElem_toArray, List.getElem_cons_succ, List.getElem_cons_zero, Act.put, List.setIfInBounds_toArray, List.set_cons_zero, List.set_cons_succ]
  refine wpAnyL_take (i := 24) (oi := _) (v := _) rfl (by kernel_rfl) (by kernel_rfl) (by kernel_rfl) (by kernel_rfl) (by kernel_rfl) (fun _ _ _ h => h) (Or.inr ⟨by rfl, rfl⟩) (by assumption) (fun hNew => ?_)
  clear hHeld
  have hHeld := hNew
  clear hNew
  try simp only [List.getElem_toArray, List.getElem_cons_succ, List.getElem_cons_zero, Act.put, List.setIfInBounds_toArray, List.set_cons_zero, List.set_cons_succ]
  refine wpAnyL_take (i := 25) (oi := _) (v := _) rfl (by kernel_rfl) (by kernel_rfl) (by kernel_rfl) (by kernel_rfl) (by kernel_rfl) (fun _ _ _ h => h) (Or.inr ⟨by rfl, rfl⟩) (by assumption) (fun hNew => ?_)
  clear hHeld
  have hHeld := hNew
  clear hNew
  try simp only [List.getElem_toArray, List.getElem_cons_succ, List.getElem_cons_zero, Act.put, List.setIfInBounds_toArray, List.set_cons_zero, List.set_cons_succ]
  refine wpAnyL_take (i := 26) (oi := _) (v := _) rfl (by kernel_rfl) (by kernel_rfl) (by kernel_rfl) (by kernel_rfl) (by kernel_rfl) (fun _ _ _ h => h) (Or.inr ⟨by rfl, rfl⟩) (by assumption) (fun hNew => ?_)
  clear hHeld
  have hHeld := hNew
  clear hNew
  try simp only [List.getElem_toArray, List.getElem_cons_succ, List.getElem_cons_zero, Act.put, List.setIfInBounds_toArray, List.set_cons_zero, List.set_cons_succ]
  refine wpAnyL_take (i := 27) (oi := _) (v := _) rfl (by kernel_rfl) (by kernel_rfl) (by kernel_rfl) (by kernel_rfl) (by kernel_rfl) (fun _ _ _ h => h) (Or.inr ⟨by rfl, rfl⟩) (by assumption) (fun hNew => ?_)
  clear hHeld
  have hHeld := hNew
  clear hNew
  try simp only [List.getElem_toArray, List.getElem_cons_succ, List.getElem_cons_zero, Act.put, List.setIfInBounds_toArray, List.set_cons_zero, List.set_cons_succ]
  refine wpAnyL_take (i := 28) (oi := _) (v := _) rfl (by kernel_rfl) (by kernel_rfl) (by kernel_rfl) (by kernel_rfl) (by kernel_rfl) (fun _ _ _ h => h) (Or.inr ⟨by rfl, rfl⟩) (by assumption) (fun hNew => ?_)
  clear hHeld
  have hHeld := hNew
  clear hNew
  try simp only [List.getElem_toArray, List.getElem_cons_succ, List.getElem_cons_zero, Act.put, List.setIfInBounds_toArray, List.set_cons_zero, List.set_cons_succ]
  refine wpAnyL_take (i := 29) (oi := _) (v := _) rfl (by kernel_rfl) (by kernel_rfl) (by kernel_rfl) (by kernel_rfl) (by kernel_rfl) (fun _ _ _ h => h) (Or.inr ⟨by rfl, rfl⟩) (by assumption) (fun hNew => ?_)
  clear hHeld
  have hHeld := hNew
  clear hNew
  try simp only [List.getElem_toArray, List.getElem_cons_succ, List.getElem_cons_zero, Act.put, List.setIfInBounds_toArray, List.set_cons_zero, List.set_cons_succ]
  refine wpAnyL_take (i := 30) (oi := _) (v := ?_) rfl (by kernel_rfl) (by kernel_rfl) (by kernel_rfl) (by kernel_rfl) (by kernel_rfl) (fun _ _ _ h => h) (Or.inl ⟨by rfl, ?_⟩) (by assumption) (fun hNew => ?_)
  rotate_left
  · intro w _
    go_simp
    try with_reducible rfl
  clear hHeld
  have hHeld := hNew
  clear hNew
  try simp only [List.getElem_toArray, List.getElem_cons_succ, List.getElem_cons_zero, Act.put, List.setIfInBounds_toArray, List.set_cons_zero, List.set_cons_succ]
  refine wpAnyL_take (i := 31) (oi := _) (v := ?_) rfl (by kernel_rfl) (by kernel_rfl) (by kernel_rfl) (by kernel_rfl) (by kernel_rfl) (fun _ _ _ h => h) (Or.inl ⟨by rfl, ?_⟩) (by assumption) (fun hNew => ?_)
  rotate_left
  · intro w _
    go_simp
    try with_reducible rfl
  clear hHeld
  have hHeld := hNew
  clear hNew
  try simp only [List.getElem_toArray, List.getElem_cons_succ, List.getElem_cons_zero, Act.put, List.setIfInBounds_toArray, List.set_cons_zero, List.set_cons_succ]
  refine wpAnyL_ready (rs := [32]) (by kernel_rfl) (by simp) ?_
  refine AllReadyL.cons (o := _) rfl (fun K hK => ?_) AllReadyL.nil
  try simp only [List.getElem_toArray, List.getElem_cons_succ, List.getElem_cons_zero]
  go_simp
  clear hHeld
  refine hK.out _ _ ?_ (fun hHeld => ?_)
  · exact (HoldC.past (by kernel_rfl) (HoldC.past (by kernel_rfl) HoldC.nil))
  clear hK K
  try simp only [List.getElem_toArray, List.getElem_cons_succ, List.getElem_cons_zero, Act.put, List.setIfInBounds_toArray, List.set_cons_zero, List.set_cons_succ]
  refine wpAnyL_done (by kernel_rfl) ?_ _
  clear hHeld
  go_wp2_with fail
  go_ret
  exact ⟨rfl, (HS7.out.trans HC9.out (by simp))⟩
set_option maxHeartbeats 16000000 in
set_option maxRecDepth 100000 in
theorem keys_yy (a b : Id) (w : World) (ha : okD a) (hb : okD b) (hma : mayId a = true) (hmb : mayId b = true) : Calls Tryz.prog 3 #[idV a, idV b] w fun e w' => e = .returned (.bool true) ∧ Chg [] w w' := by
  obtain ⟨w1, hw1⟩ : ∃ w1, w1 = (w.alloc (.cells (idC a) 25)).alloc (.cells (idC b) 25) := ⟨_, rfl⟩
  have hc1 : Chg [] w w1 := by rw [hw1]; exact ((Chg.refl [] w).alloc _).alloc _
  have hba : w1.heap[w.heap.size]? = some (.cells (idC a) 25 (0, 0)) := by rw [hw1]; exact blk_alloc (heap_alloc_new w _)
  have hbb : w1.heap[w.heap.size + 1]? = some (.cells (idC b) 25 (0, 0)) := by
    rw [hw1]
    have := heap_alloc_new (w.alloc (.cells (idC a) 25)) (.cells (idC b) 25)
    simpa using this
  have CW := Lib.hid (awake6_any w1)
  have CK1 := Lib.hid (fun w => (stkey_any a w).mono fun e w' h => h.form)
  have CK2 := Lib.hid (fun w => (rkey_any a w).mono fun e w' h => h.form)
  have CK3 := Lib.hid (fun w => (stkey_any b w).mono fun e w' h => h.form)
  have CM := Lib.hid (fun w => mayid_any a w)
  have CR := Lib.hid (fun w => rmayid_any a w)
  have la := keyB_len a
  have lb := keyB_len b
  have HEQ : Hid (∀ w, (binOp .eql 25 (idV a) (idV b)).run Tryz.prog w = .ok (.bool (decide (a = b))) w) := Lib.hid (fun w => eq_id a b ha hb w)
  have HK : Hid (mayId a = true → mayId b = true → decide (keyB a = keyB b) = decide (a = b)) := Lib.hid (fun h1 h2 => by
    unfold keyB
    rw [if_pos h1, if_pos h2]
    by_cases e : a = b
    · rw [decide_eq_true e, decide_eq_true (by rw [e])]
    · rw [decide_eq_false e, decide_eq_false (fun h => e (idKey_inj h1 h2 h))])
  have HEA : Hid ((mayId a = true → keyErr a = 0) ∧ (mayId a = false → keyErr a = 1) ∧ (mayId b = true → keyErr b = 0) ∧ (mayId b = false → keyErr b = 1)) := Lib.hid ⟨fun h => if_pos h, fun h => if_neg (by simp [h]), fun h => if_pos h, fun h => if_neg (by simp [h])⟩
  generalize keyErr a = ea at *
  generalize keyErr b = eb at *
  generalize keyB a = ka at *
  generalize keyB b = kb at *
  generalize mayId a = ma at *
  generalize mayId b = mb at *
  generalize hd : decide (a = b) = dd at *
  obtain ⟨ac, al, an, ai⟩ := a
  obtain ⟨bc, bl, bn, bi⟩ := b
  have HW1 := Lib.hid hw1
  have HA1 := Lib.hid hba
  have HB1 := Lib.hid hbb
  have HC1 := Lib.hid hc1
  clear hw1 hba hbb hc1 ha hb hd
  go_enter Tryz.func3, Tryz.ntmps3
  go_wp2_with fail
  rw [← HW1.out]
  refine CW.out.mono ?_
  rintro e w2 ⟨rfl, hc2⟩
  have HA2 := Lib.hid (hc2.keep HA1.out (by simp))
  have HB2 := Lib.hid (hc2.keep HB1.out (by simp))
  have HC2 := Lib.hid (HC1.out.trans hc2 (by simp))
  obtain ⟨m0, m1, m2, m3⟩ := id_cells HA2.out
  clear hc2
  go_wp2_with fail
  refine (CK1.out w2).mono ?_
  rintro e w3 ⟨⟨vx, rfl, hx⟩, hc3⟩
  have HA3 := Lib.hid (hc3.keep HA2.out (by simp))
  have HB3 := Lib.hid (hc3.keep HB2.out (by simp))
  have HC3 := Lib.hid (HC2.out.trans hc3 (by simp))
  obtain ⟨m0, m1, m2, m3⟩ := id_cells HA3.out
  clear hc3
  go_wp2_with fail
  refine (CK2.out w3).mono ?_
  rintro e w4 ⟨⟨vy, rfl, hy⟩, hc4⟩
  have HA4 := Lib.hid (hc4.keep HA3.out (by simp))
  have HB4 := Lib.hid (hc4.keep HB3.out (by simp))
  have HC4 := Lib.hid (HC3.out.trans hc4 (by simp))
  have hx := hx.chg hc4 (by simp)
  obtain ⟨m0, m1, m2, m3⟩ := id_cells HB4.out
  clear hc4
  go_wp2_with fail
  refine (CK3.out w4).mono ?_
  rintro e w6 ⟨⟨vz, rfl, hz⟩, hc6⟩
  have HA : Hid (w6.drew.heap[w.heap.size]? = some (.cells (idC ⟨ac, al, an, ai⟩) 25 (0, 0))) := Lib.hid (hc6.keep HA4.out (by simp))
  have HB : Hid (w6.drew.heap[w.heap.size + 1]? = some (.cells (idC ⟨bc, bl, bn, bi⟩) 25 (0, 0))) := Lib.hid (hc6.keep HB4.out (by simp))
  have HC6 := Lib.hid (HC4.out.trans hc6 (by simp))
  have HX0 := Lib.hid (hx.chg hc6 (by simp))
  have HZ0 := Lib.hid hz
  have hx := bytes_drew (hx.chg hc6 (by simp))
  have hy := bytes_drew (hy.chg hc6 (by simp))
  have hz := bytes_drew hz
  have CS1 := Lib.hid (same_any _ _ _ _ w6.drew hx hy (by omega) (by omega))
  rw [decide_eq_true rfl] at CS1
  have mm := id_cells HA.out
  have nn := id_cells HB.out
  obtain ⟨ax, cx, rfl⟩ := hx.slice
  obtain ⟨ay, cy, rfl⟩ := hy.slice
  obtain ⟨az, cz, rfl⟩ := hz.slice
  have HX : Hid (∀ n, BytesAt (w6.drewN (1 + n)) (.slice ax ka.length cx) ka) := Lib.hid (fun n => HX0.out.chg ((Chg.refl [] w6).drewN (1 + n)) (by simp))
  have HZ : Hid (∀ n, BytesAt (w6.drewN (1 + n)) (.slice az kb.length cz) kb) := Lib.hid (fun n => HZ0.out.chg ((Chg.refl [] w6).drewN (1 + n)) (by simp))
  clear hc6 hx hy hz m0 m1 m2 m3 HX0 HZ0
  subst hma
  subst hmb
  obtain rfl : ea = 0 := HEA.out.1 rfl
  obtain rfl : eb = 0 := HEA.out.2.2.1 rfl
  have hkd := HK.out rfl rfl
  have heq := HEQ.out
  simp only [idV, idC] at heq
  clear HEA HEQ
  go_wp2_with fail
  refine wp_region_L [(10, fun w' => (w'.cell? ⟨w.heap.size, 0, none⟩ = some (.int .i64 ac) ∧ w'.cell? ⟨w.heap.size, 1, none⟩ = some (.int .i64 al) ∧ w'.cell? ⟨w.heap.size, 2, none⟩ = some (.int .i64 an) ∧ w'.cell? ⟨w.heap.size, 3, none⟩ = some (.int .i64 ai))), (12, fun w' => (w'.cell? ⟨w.heap.size, 0, none⟩ = some (.int .i64 ac) ∧ w'.cell? ⟨w.heap.size, 1, none⟩ = some (.int .i64 al) ∧ w'.cell? ⟨w.heap.size, 2, none⟩ = some (.int .i64 an) ∧ w'.cell? ⟨w.heap.size, 3, none⟩ = some (.int .i64 ai))), (29, fun w' => (w'.cell? ⟨w.heap.size, 0, none⟩ = some (.int .i64 ac) ∧ w'.cell? ⟨w.heap.size, 1, none⟩ = some (.int .i64 al) ∧ w'.cell? ⟨w.heap.size, 2, none⟩ = some (.int .i64 an) ∧ w'.cell? ⟨w.heap.size, 3, none⟩ = some (.int .i64 ai))), (29, fun w' => (w'.cell? ⟨w.heap.size + 1, 0, none⟩ = some (.int .i64 bc) ∧ w'.cell? ⟨w.heap.size + 1, 1, none⟩ = some (.int .i64 bl) ∧ w'.cell? ⟨w.heap.size + 1, 2, none⟩ = some (.int .i64 bn) ∧ w'.cell? ⟨w.heap.size + 1, 3, none⟩ = some (.int .i64 bi)))] (by kernel_rfl) ?_ (fun hHeld => ?_)
  · exact (HoldC.cons (mm) (HoldC.cons (mm) (HoldC.cons (mm) (HoldC.cons (nn) HoldC.nil))))
  refine wpAnyL_take (i := 0) (oi := _) (v := ?_) rfl (by kernel_rfl) (by kernel_rfl) (by kernel_rfl) (by kernel_rfl) (by kernel_rfl) (fun _ _ _ h => h) (Or.inl ⟨by rfl, ?_⟩) (by assumption) (fun hNew => ?_)
  rotate_left
  · intro w _
    go_simp
    try with_reducible rfl
  clear hHeld
  have hHeld := hNew
  clear hNew
  try simp only [List.getElem_toArray, List.getElem_cons_succ, List.getElem_cons_zero, Act.put, List.setIfInBounds_toArray, List.set_cons_zero, List.set_cons_succ]
  refine wpAnyL_take (i := 1) (oi := _) (v := ?_) rfl (by kernel_rfl) (by kernel_rfl) (by kernel_rfl) (by kernel_rfl) (by kernel_rfl) (fun _ _ _ h => h) (Or.inl ⟨by rfl, ?_⟩) (by assumption) (fun hNew => ?_)
  rotate_left
  · intro w _
    go_simp
    try with_reducible rfl
  clear hHeld
  have hHeld := hNew
  clear hNew
  try simp only [List.getElem_toArray, List.getElem_cons_succ, List.getElem_cons_zero, Act.put, List.setIfInBounds_toArray, List.set_cons_zero, List.set_cons_succ]
  refine wpAnyL_take (i := 2) (oi := _) (v := ?_) rfl (by kernel_rfl) (by kernel_rfl) (by kernel_rfl) (by kernel_rfl) (by kernel_rfl) (fun _ _ _ h => h) (Or.inl ⟨by rfl, ?_⟩) (by assumption) (fun hNew => ?_)
  rotate_left
  · intro w _
    go_simp
    try with_reducible rfl
  clear hHeld
  have hHeld := hNew
  clear hNew
  try simp only [List.getElem_toArray, List.getElem_cons_succ, List.getElem_cons_zero, Act.put, List.setIfInBounds_toArray, List.set_cons_zero, List.set_cons_succ]
  refine wpAnyL_take (i := 3) (oi := _) (v := ?_) rfl (by kernel_rfl) (by kernel_rfl) (by kernel_rfl) (by kernel_rfl) (by kernel_rfl) (fun _ _ _ h => h) (Or.inl ⟨by rfl, ?_⟩) (by assumption) (fun hNew => ?_)
  rotate_left
  · intro w _
    go_simp
    try with_reducible rfl
  clear hHeld
  have hHeld := hNew
  clear hNew
  try simp only [List.getElem_toArray, List.getElem_cons_succ, List.getElem_cons_zero, Act.put, List.setIfInBounds_toArray, List.set_cons_zero, List.set_cons_succ]
  refine wpAnyL_take (i := 4) (oi := _) (v := ?_) rfl (by kernel_rfl) (by kernel_rfl) (by kernel_rfl) (by kernel_rfl) (by kernel_rfl) (fun _ _ _ h => h) (Or.inl ⟨by rfl, ?_⟩) (by assumption) (fun hNew => ?_)
  rotate_left
  · intro w _
    go_simp
    try with_reducible rfl
  clear hHeld
  have hHeld := hNew
  clear hNew
  try simp only [List.getElem_toArray, List.getElem_cons_succ, List.getElem_cons_zero, Act.put, List.setIfInBounds_toArray, List.set_cons_zero, List.set_cons_succ]
  refine wpAnyL_take (i := 5) (oi := _) (v := ?_) rfl (by kernel_rfl) (by kernel_rfl) (by kernel_rfl) (by kernel_rfl) (by kernel_rfl) (fun _ _ _ h => h) (Or.inl ⟨by rfl, ?_⟩) (by assumption) (fun hNew => ?_)
  rotate_left
  · intro w _
    go_simp
    try with_reducible rfl
  clear hHeld
  have hHeld := hNew
  clear hNew
  try simp only [List.getElem_toArray, List.getElem_cons_succ, List.getElem_cons_zero, Act.put, List.setIfInBounds_toArray, List.set_cons_zero, List.set_cons_succ]
  refine wpAnyL_ready (rs := [6]) (by kernel_rfl) (by simp) ?_
  refine AllReadyL.cons (o := _) rfl (fun K hK => ?_) AllReadyL.nil
  try simp only [List.getElem_toArray, List.getElem_cons_succ, List.getElem_cons_zero]
  go_simp
  refine CS1.out.mono ?_
  rintro e w7 ⟨rfl, n, rfl⟩
  have mm : ((w6.drewN (1 + n)).cell? ⟨w.heap.size, 0, none⟩ = some (.int .i64 ac) ∧ (w6.drewN (1 + n)).cell? ⟨w.heap.size, 1, none⟩ = some (.int .i64 al) ∧ (w6.drewN (1 + n)).cell? ⟨w.heap.size, 2, none⟩ = some (.int .i64 an) ∧ (w6.drewN (1 + n)).cell? ⟨w.heap.size, 3, none⟩ = some (.int .i64 ai)) := mm
  have nn : ((w6.drewN (1 + n)).cell? ⟨w.heap.size + 1, 0, none⟩ = some (.int .i64 bc) ∧ (w6.drewN (1 + n)).cell? ⟨w.heap.size + 1, 1, none⟩ = some (.int .i64 bl) ∧ (w6.drewN (1 + n)).cell? ⟨w.heap.size + 1, 2, none⟩ = some (.int .i64 bn) ∧ (w6.drewN (1 + n)).cell? ⟨w.heap.size + 1, 3, none⟩ = some (.int .i64 bi)) := nn
  have HS7 := Lib.hid (show Chg [] w (w6.drewN (1 + n)) from HC6.out.drewN _)
  clear hHeld
  refine hK.out _ _ ?_ (fun hHeld => ?_)
  · exact (HoldC.cons (mm) (HoldC.cons (mm) (HoldC.cons (mm) (HoldC.cons (nn) HoldC.nil))))
  clear hK K
  try simp only [List.getElem_toArray, List.getElem_cons_succ, List.getElem_cons_zero, Act.put, List.setIfInBounds_toArray, List.set_cons_zero, List.set_cons_succ]
  refine wpAnyL_take (i := 7) (oi := _) (v := ?_) rfl (by kernel_rfl) (by kernel_rfl) (by kernel_rfl) (by kernel_rfl) (by kernel_rfl) (fun _ _ _ h => h) (Or.inl ⟨by rfl, ?_⟩) (by assumption) (fun hNew => ?_)
  rotate_left
  · intro w _
    go_simp
    try with_reducible rfl
  clear hHeld
  have hHeld := hNew
  clear hNew
  try simp only [List.getElem_toArray, List.getElem_cons_succ, List.getElem_cons_zero, Act.put, List.setIfInBounds_toArray, List.set_cons_zero, List.set_cons_succ]
  refine wpAnyL_take (i := 8) (oi := _) (v := ?_) rfl (by kernel_rfl) (by kernel_rfl) (by kernel_rfl) (by kernel_rfl) (by kernel_rfl) (fun _ _ _ h => h) (Or.inl ⟨by rfl, ?_⟩) (by assumption) (fun hNew => ?_)
  rotate_left
  · intro w _
    go_simp
    try with_reducible rfl
  clear hHeld
  have hHeld := hNew
  clear hNew
  try simp only [List.getElem_toArray, List.getElem_cons_succ, List.getElem_cons_zero, Act.put, List.setIfInBounds_toArray, List.set_cons_zero, List.set_cons_succ]
  refine wpAnyL_load 0 (i := 9) (oi := _) (v := ?_) rfl rfl (by kernel_rfl) (by kernel_rfl) (by kernel_rfl) (by kernel_rfl) (by kernel_rfl) (by kernel_rfl) (fun _ _ _ h => h) (Or.inl ⟨by rfl, ?_⟩) (by assumption) (fun hNew => ?_)
  rotate_left
  · intro w hSw
    (try dsimp only at hSw)
    go_simp
    try with_reducible rfl
  clear hHeld
  have hHeld := hNew
  clear hNew
  try simp only [List.getElem_toArray, List.getElem_cons_succ, List.getElem_cons_zero, Act.put, List.setIfInBounds_toArray, List.set_cons_zero, List.set_cons_succ]
  refine wpAnyL_load 1 (i := 11) (oi := _) (v := ?_) rfl rfl (by kernel_rfl) (by kernel_rfl) (by kernel_rfl) (by kernel_rfl) (by kernel_rfl) (by kernel_rfl) (fun _ _ _ h => h) (Or.inl ⟨by rfl, ?_⟩) (by assumption) (fun hNew => ?_)
  rotate_left
  · intro w hSw
    (try dsimp only at hSw)
    go_simp
    try with_reducible rfl
  clear hHeld
  have hHeld := hNew
  clear hNew
  try simp only [List.getElem_toArray, List.getElem_cons_succ, List.getElem_cons_zero, Act.put, List.setIfInBounds_toArray, List.set_cons_zero, List.set_cons_succ]
  refine wpAnyL_ready (rs := [10]) (by kernel_rfl) (by simp) ?_
  refine AllReadyL.cons (o := _) rfl (fun K hK => ?_) AllReadyL.nil
  try simp only [List.getElem_toArray, List.getElem_cons_succ, List.getElem_cons_zero]
  go_simp
  refine (CM.out _).mono ?_
  rintro e w8 ⟨rfl, hc8⟩
  have mm := id_cells (hc8.keep (show (w6.drewN (1 + n)).heap[w.heap.size]? = some (.cells (idC ⟨ac, al, an, ai⟩) 25 (0, 0)) from HA.out) (by simp))
  have nn := id_cells (hc8.keep (show (w6.drewN (1 + n)).heap[w.heap.size + 1]? = some (.cells (idC ⟨bc, bl, bn, bi⟩) 25 (0, 0)) from HB.out) (by simp))
  have HC8 := Lib.hid hc8
  clear hc8
  clear hHeld
  refine hK.out _ _ ?_ (fun hHeld => ?_)
  · exact (HoldC.past (by kernel_rfl) (HoldC.cons (mm) (HoldC.cons (mm) (HoldC.cons (nn) HoldC.nil))))
  clear hK K
  try simp only [List.getElem_toArray, List.getElem_cons_succ, List.getElem_cons_zero, Act.put, List.setIfInBounds_toArray, List.set_cons_zero, List.set_cons_succ]
  refine wpAnyL_ready (rs := [12]) (by kernel_rfl) (by simp) ?_
  refine AllReadyL.cons (o := _) rfl (fun K hK => ?_) AllReadyL.nil
  try simp only [List.getElem_toArray, List.getElem_cons_succ, List.getElem_cons_zero]
  go_simp
  refine (CR.out _).mono ?_
  rintro e w9 ⟨rfl, hc9⟩
  have HC9 := Lib.hid (HC8.out.trans hc9 (by simp))
  have mm := id_cells (HC9.out.keep (show (w6.drewN (1 + n)).heap[w.heap.size]? = some (.cells (idC ⟨ac, al, an, ai⟩) 25 (0, 0)) from HA.out) (by simp))
  have nn := id_cells (HC9.out.keep (show (w6.drewN (1 + n)).heap[w.heap.size + 1]? = some (.cells (idC ⟨bc, bl, bn, bi⟩) 25 (0, 0)) from HB.out) (by simp))
  clear hc9
  clear hHeld
  refine hK.out _ _ ?_ (fun hHeld => ?_)
  · exact (HoldC.past (by kernel_rfl) (HoldC.past (by kernel_rfl) (HoldC.cons (mm) (HoldC.cons (nn) HoldC.nil))))
  clear hK K
  try simp only [List.getElem_toArray, List.getElem_cons_succ, List.getElem_cons_zero, Act.put, List.setIfInBounds_toArray, List.set_cons_zero, List.set_cons_succ]
  refine wpAnyL_take (i := 13) (oi := _) (v := ?_) rfl (by kernel_rfl) (by kernel_rfl) (by kernel_rfl) (by kernel_rfl) (by kernel_rfl) (fun _ _ _ h => h) (Or.inl ⟨by rfl, ?_⟩) (by assumption) (fun hNew => ?_)
  rotate_left
  · intro w _
    go_simp
    try with_reducible rfl
  clear hHeld
  have hHeld := hNew
  clear hNew
  try simp only [List.getElem_toArray, List.getElem_cons_succ, List.getElem_cons_zero, Act.put, List.setIfInBounds_toArray, List.set_cons_zero, List.set_cons_succ]
  refine wpAnyL_take (i := 14) (oi := _) (v := ?_) rfl (by kernel_rfl) (by kernel_rfl) (by kernel_rfl) (by kernel_rfl) (by kernel_rfl) (fun _ _ _ h => h) (Or.inl ⟨by rfl, ?_⟩) (by assumption) (fun hNew => ?_)
  rotate_left
  · intro w _
    go_simp
    try with_reducible rfl
  clear hHeld
  have hHeld := hNew
  clear hNew
  try simp only [List.getElem_toArray, List.getElem_cons_succ, List.getElem_cons_zero, Act.put, List.setIfInBounds_toArray, List.set_cons_zero, List.set_cons_succ]
  refine wpAnyL_take (i := 15) (oi := _) (v := ?_) rfl (by kernel_rfl) (by kernel_rfl) (by kernel_rfl) (by kernel_rfl) (by kernel_rfl) (fun _ _ _ h => h) (Or.inl ⟨by rfl, ?_⟩) (by assumption) (fun hNew => ?_)
  rotate_left
  · intro w _
    go_simp
    try with_reducible rfl
  clear hHeld
  have hHeld := hNew
  clear hNew
  try simp only [List.getElem_toArray, List.getElem_cons_succ, List.getElem_cons_zero, Act.put, List.setIfInBounds_toArray, List.set_cons_zero, List.set_cons_succ]
  refine wpAnyL_take (i := 16) (oi := _) (v := ?_) rfl (by kernel_rfl) (by kernel_rfl) (by kernel_rfl) (by kernel_rfl) (by kernel_rfl) (fun _ _ _ h => h) (Or.inl ⟨by rfl, ?_⟩) (by assumption) (fun hNew => ?_)
  rotate_left
  · intro w _
    go_simp
    try with_reducible rfl
  clear hHeld
  have hHeld := hNew
  clear hNew
  try simp only [List.getElem_toArray, List.getElem_cons_succ, List.getElem_cons_zero, Act.put, List.setIfInBounds_toArray, List.set_cons_zero, List.set_cons_succ]
  refine wpAnyL_take (i := 17) (oi := _) (v := ?_) rfl (by kernel_rfl) (by kernel_rfl) (by kernel_rfl) (by kernel_rfl) (by kernel_rfl) (fun _ _ _ h => h) (Or.inl ⟨by rfl, ?_⟩) (by assumption) (fun hNew => ?_)
  rotate_left
  · intro w _
    go_simp
    try with_reducible rfl
  clear hHeld
  have hHeld := hNew
  clear hNew
  try simp only [List.getElem_toArray, List.getElem_cons_succ, List.getElem_cons_zero, Act.put, List.setIfInBounds_toArray, List.set_cons_zero, List.set_cons_succ]
  refine wpAnyL_take (i := 18) (oi := _) (v := ?_) rfl (by kernel_rfl) (by kernel_rfl) (by kernel_rfl) (by kernel_rfl) (by kernel_rfl) (fun _ _ _ h => h) (Or.inl ⟨by rfl, ?_⟩) (by assumption) (fun hNew => ?_)
  rotate_left
  · intro w _
    go_simp
    try with_reducible rfl
  clear hHeld
  have hHeld := hNew
  clear hNew
  try simp only [List.getElem_toArray, List.getElem_cons_succ, List.getElem_cons_zero, Act.put, List.setIfInBounds_toArray, List.set_cons_zero, List.set_cons_succ]
  refine wpAnyL_take (i := 19) (oi := _) (v := ?_) rfl (by kernel_rfl) (by kernel_rfl) (by kernel_rfl) (by kernel_rfl) (by kernel_rfl) (fun _ _ _ h => h) (Or.inl ⟨by rfl, ?_⟩) (by assumption) (fun hNew => ?_)
  rotate_left
  · intro w _
    go_simp
    try with_reducible rfl
  clear hHeld
  have hHeld := hNew
  clear hNew
  try simp only [List.getElem_toArray, List.getElem_cons_succ, List.getElem_cons_zero, Act.put, List.setIfInBounds_toArray, List.set_cons_zero, List.set_cons_succ]
  refine wpAnyL_take (i := 20) (oi := _) (v := ?_) rfl (by kernel_rfl) (by kernel_rfl) (by kernel_rfl) (by kernel_rfl) (by kernel_rfl) (fun _ _ _ h => h) (Or.inl ⟨by rfl, ?_⟩) (by assumption) (fun hNew => ?_)
  rotate_left
  · intro w _
    go_simp
    try with_reducible rfl
  clear hHeld
  have hHeld := hNew
  clear hNew
  try simp only [List.getElem_toArray, List.getElem_cons_succ, List.getElem_cons_zero, Act.put, List.setIfInBounds_toArray, List.set_cons_zero, List.set_cons_succ]
  refine wpAnyL_take (i := 21) (oi := _) (v := ?_) rfl (by kernel_rfl) (by kernel_rfl) (by kernel_rfl) (by kernel_rfl) (by kernel_rfl) (fun _ _ _ h => h) (Or.inl ⟨by rfl, ?_⟩) (by assumption) (fun hNew => ?_)
  rotate_left
  · intro w _
    go_simp
    try with_reducible rfl
  clear hHeld
  have hHeld := hNew
  clear hNew
  try simp only [List.getElem_toArray, List.getElem_cons_succ, List.getElem_cons_zero, Act.put, List.setIfInBounds_toArray, List.set_cons_zero, List.set_cons_succ]
  refine wpAnyL_take (i := 22) (oi := _) (v := ?_) rfl (by kernel_rfl) (by kernel_rfl) (by kernel_rfl) (by kernel_rfl) (by kernel_rfl) (fun _ _ _ h => h) (Or.inl ⟨by rfl, ?_⟩) (by assumption) (fun hNew => ?_)
  rotate_left
  · intro w _
    go_simp
    try with_reducible rfl
  clear hHeld
  have hHeld := hNew
  clear hNew
  try simp only [List.getElem_toArray, List.getElem_cons_succ, List.getElem_cons_zero, Act.put, List.setIfInBounds_toArray, List.set_cons_zero, List.set_cons_succ]
  refine wpAnyL_take (i := 23) (oi := _) (v := ?_) rfl (by kernel_rfl) (by kernel_rfl) (by kernel_rfl) (by kernel_rfl) (by kernel_rfl) (fun _ _ _ h => h) (Or.inl ⟨by rfl, ?_⟩) (by assumption) (fun hNew => ?_)
  rotate_left
  · intro w _
    go_simp
    try with_reducible rfl
  clear hHeld
  have hHeld := hNew
  clear hNew
  try simp only [List.getElem_toArray, List.getElem_cons_succ, List.getElem_cons_zero, Act.put, List.setIfInBounds_toArray, List.set_cons_zero, List.set_cons_succ]
  refine wpAnyL_take (i := 24) (oi := _) (v := ?_) rfl (by kernel_rfl) (by kernel_rfl) (by kernel_rfl) (by kernel_rfl) (by kernel_rfl) (fun _ _ _ h => h) (Or.inl ⟨by rfl, ?_⟩) (by assumption) (fun hNew => ?_)
  rotate_left
  · intro w _
    go_simp
    try with_reducible rfl
  clear hHeld
  have hHeld := hNew
  clear hNew
  try simp only [List.getElem_toArray, List.getElem_cons_succ, List.getElem_cons_zero, Act.put, List.setIfInBounds_toArray, List.set_cons_zero, List.set_cons_succ]
  have CS2 := Lib.hid (same_any _ _ _ _ w9 ((HX.out n).chg HC9.out (by simp)) ((HZ.out n).chg HC9.out (by simp)) (by omega) (by omega))
  refine wpAnyL_loadP 2 [28] (i := 26) (oi := _) (v := ?_) rfl rfl (by kernel_rfl) (by kernel_rfl) (by kernel_rfl) (by kernel_rfl) (by kernel_rfl) (by kernel_rfl) (fun _ _ _ h => h) (Or.inl ⟨by rfl, ?_⟩) (by assumption) (fun hNew => ?_)
  rotate_left
  · intro w hSw
    (try dsimp only at hSw)
    go_simp
    try with_reducible rfl
  clear hHeld
  have hHeld := hNew
  clear hNew
  try simp only [List.getElem_toArray, List.getElem_cons_succ, List.getElem_cons_zero, Act.put, List.setIfInBounds_toArray, List.set_cons_zero, List.set_cons_succ]
  refine wpAnyL_loadP 3 [28] (i := 27) (oi := _) (v := ?_) rfl rfl (by kernel_rfl) (by kernel_rfl) (by kernel_rfl) (by kernel_rfl) (by kernel_rfl) (by kernel_rfl) (fun _ _ _ h => h) (Or.inl ⟨by rfl, ?_⟩) (by assumption) (fun hNew => ?_)
  rotate_left
  · intro w hSw
    (try dsimp only at hSw)
    go_simp
    try with_reducible rfl
  clear hHeld
  have hHeld := hNew
  clear hNew
  try simp only [List.getElem_toArray, List.getElem_cons_succ, List.getElem_cons_zero, Act.put, List.setIfInBounds_toArray, List.set_cons_zero, List.set_cons_succ]
  refine wpAnyL_take (i := 28) (oi := _) (v := ?_) rfl (by kernel_rfl) (by kernel_rfl) (by kernel_rfl) (by kernel_rfl) (by kernel_rfl) (fun _ _ _ h => h) (Or.inl ⟨by rfl, ?_⟩) (by assumption) (fun hNew => ?_)
  rotate_left
  · intro w _
    go_simp
    try with_reducible rfl
  clear hHeld
  have hHeld := hNew
  clear hNew
  try simp only [List.getElem_toArray, List.getElem_cons_succ, List.getElem_cons_zero, Act.put, List.setIfInBounds_toArray, List.set_cons_zero, List.set_cons_succ]
  rw [hkd] at CS2
  refine wpAnyL_ready (rs := [25]) (by kernel_rfl) (by simp) ?_
  refine AllReadyL.cons (o := _) rfl (fun K hK => ?_) AllReadyL.nil
  try simp only [List.getElem_toArray, List.getElem_cons_succ, List.getElem_cons_zero]
  go_simp
  refine CS2.out.mono ?_
  rintro e w10 ⟨rfl, n2, rfl⟩
  have mm : ((w9.drewN n2).cell? ⟨w.heap.size, 0, none⟩ = some (.int .i64 ac) ∧ (w9.drewN n2).cell? ⟨w.heap.size, 1, none⟩ = some (.int .i64 al) ∧ (w9.drewN n2).cell? ⟨w.heap.size, 2, none⟩ = some (.int .i64 an) ∧ (w9.drewN n2).cell? ⟨w.heap.size, 3, none⟩ = some (.int .i64 ai)) := mm
  have nn : ((w9.drewN n2).cell? ⟨w.heap.size + 1, 0, none⟩ = some (.int .i64 bc) ∧ (w9.drewN n2).cell? ⟨w.heap.size + 1, 1, none⟩ = some (.int .i64 bl) ∧ (w9.drewN n2).cell? ⟨w.heap.size + 1, 2, none⟩ = some (.int .i64 bn) ∧ (w9.drewN n2).cell? ⟨w.heap.size + 1, 3, none⟩ = some (.int .i64 bi)) := nn
  clear hHeld
  refine hK.out _ _ ?_ (fun hHeld => ?_)
  · exact (HoldC.past (by kernel_rfl) (HoldC.past (by kernel_rfl) (HoldC.cons (mm) (HoldC.cons (nn) HoldC.nil))))
  clear hK K
  try simp only [List.getElem_toArray, List.getElem_cons_succ, List.getElem_cons_zero, Act.put, List.setIfInBounds_toArray, List.set_cons_zero, List.set_cons_succ]
  refine wpAnyL_ready (rs := [29]) (by kernel_rfl) (by simp) ?_
  refine AllReadyL.cons (o := _) rfl (fun K hK => ?_) AllReadyL.nil
  try simp only [List.getElem_toArray, List.getElem_cons_succ, List.getElem_cons_zero]
  go_simp
  clear hHeld
  refine hK.out _ _ ?_ (fun hHeld => ?_)
  · exact (HoldC.past (by kernel_rfl) (HoldC.past (by kernel_rfl) (HoldC.past (by kernel_rfl) (HoldC.past (by kernel_rfl) HoldC.nil))))
  clear hK K
  try simp only [List.getElem_toArray, List.getElem_cons_succ, List.getElem_cons_zero, Act.put, List.setIfInBounds_toArray, List.set_cons_zero, List.set_cons_succ]
  refine wpAnyL_take (i := 30) (oi := _) (v := ?_) rfl (by kernel_rfl) (by kernel_rfl) (by kernel_rfl) (by kernel_rfl) (by kernel_rfl) (fun _ _ _ h => h) (Or.inl ⟨by rfl, ?_⟩) (by assumption) (fun hNew => ?_)
  rotate_left
  · intro w _
    go_simp
    try with_reducible rfl
  clear hHeld
  have hHeld := hNew
  clear hNew
  try simp only [List.getElem_toArray, List.getElem_cons_succ, List.getElem_cons_zero, Act.put, List.setIfInBounds_toArray, List.set_cons_zero, List.set_cons_succ]
  refine wpAnyL_take (i := 31) (oi := _) (v := ?_) rfl (by kernel_rfl) (by kernel_rfl) (by kernel_rfl) (by kernel_rfl) (by kernel_rfl) (fun _ _ _ h => h) (Or.inl ⟨by rfl, ?_⟩) (by assumption) (fun hNew => ?_)
  rotate_left
  · intro w _
    go_simp
    try with_reducible rfl
  clear hHeld
  have hHeld := hNew
  clear hNew
  try simp only [List.getElem_toArray, List.getElem_cons_succ, List.getElem_cons_zero, Act.put, List.setIfInBounds_toArray, List.set_cons_zero, List.set_cons_succ]
  refine wpAnyL_ready (rs := [32]) (by kernel_rfl) (by simp) ?_
  refine AllReadyL.cons (o := _) rfl (fun K hK => ?_) AllReadyL.nil
  try simp only [List.getElem_toArray, List.getElem_cons_succ, List.getElem_cons_zero]
  go_simp
  clear hHeld
  refine hK.out _ _ ?_ (fun hHeld => ?_)
  · exact (HoldC.past (by kernel_rfl) (HoldC.past (by kernel_rfl) (HoldC.past (by kernel_rfl) (HoldC.past (by kernel_rfl) HoldC.nil))))
  clear hK K
  try simp only [List.getElem_toArray, List.getElem_cons_succ, List.getElem_cons_zero, Act.put, List.setIfInBounds_toArray, List.set_cons_zero, List.set_cons_succ]
  refine wpAnyL_done (by kernel_rfl) ?_ _
  clear hHeld
  go_wp2_with fail
  go_ret
  exact ⟨rfl, (HS7.out.trans HC9.out (by simp)).drewN n2⟩
theorem keys_any (a b : Id) (w : World) (ha : okD a) (hb : okD b) : Calls Tryz.prog 3 #[idV a, idV b] w fun e w' => e = .returned (.bool true) ∧ Chg [] w w' := by
  cases hma : mayId a with
  | false => exact keys_n a b w ha hb hma
  | true =>
    cases hmb : mayId b with
    | false => exact keys_yn a b w ha hb hma hmb
    | true => exact keys_yy a b w ha hb hma hmb
end Go.Proofs.YtbkajnjboipbhaaGreatDoor.W

/- StoreKeys: what the row asks. -/
namespace Go.Proofs.YtbkajnjboipbhaaGreatDoor.storeKeys
set_option linter.unusedVariables false
open Go.RowKit Go.ChangeShapes Go.WideShapes
set_option maxRecDepth 100000 in
theorem walk {H : Type} {enc : TypeId × Value → H} {held : Bool} {base b0 b1 : Nat} {spare : Nat → Bool} (v0 : Value) (d0 : DataW H) (p0 : List MemPlace) (v1 : Value) (d1 : DataW H) (p1 : List MemPlace) (X : World) (h0 : Value.okWide Tryz.prog X .any b0 25 v0) (k0 : DataW.Trod enc Tryz.prog X base spare held 25 v0 d0 p0)
    (h1 : Value.okWide Tryz.prog X .any b1 25 v1) (k1 : DataW.Trod enc Tryz.prog X base spare held 25 v1 d1 p1) : Calls Tryz.prog 3 #[v0, v1] X fun e w' => e = .returned (.bool true) ∧ Below X.heap.size X w' := by
  obtain ⟨a, ha, rfl⟩ := Go.Proofs.YtbkajnjboipbhaaGreatDoor.W.open_id h0 k0
  obtain ⟨b, hb, rfl⟩ := Go.Proofs.YtbkajnjboipbhaaGreatDoor.W.open_id h1 k1
  exact (Go.Proofs.YtbkajnjboipbhaaGreatDoor.W.keys_any a b X ha hb).mono fun e w' ⟨h1, h2⟩ => ⟨h1, h2.below (by simp)⟩
end Go.Proofs.YtbkajnjboipbhaaGreatDoor.storeKeys
