/- Texts laid together. -/
import Derived.Test.YtbkajnjboipbhaaGreatDoorBP
/- StoreKnown: the walk. -/
namespace Go.Proofs.YtbkajnjboipbhaaGreatDoor.W
open Go.RowKit
set_option linter.unusedVariables false
set_option linter.unusedSimpArgs false

structure KRun where
  t0 : Sto
  t1 : Sto
  t2 : Sto
  d : DS
  opn : (DS.new 25).stOpen = (4, none)
  fmt : (DS.new 25).format = ((0, some t0), d)
  small : t0.s.d.ops ≤ 25 ∧ t0.s.d.since.length = 0
  small1 : t1.s.d.ops ≤ 45 ∧ t1.s.d.since.length = 0
  put : t0.put ⟨1, 0, 5, 2⟩ [9] = (0, t1)
  put2 : t1.put ⟨1, 0, 5, 2⟩ [9] = (0, t1)
  put3 : t1.put ⟨1, 0, 5, 2⟩ [8] = (7, t1)
  put4 : t1.put ⟨5, 0, 5, 2⟩ [] = (1, t1)
  get : t1.get ⟨1, 0, 5, 3⟩ = ([], 6)
  del : t1.del ⟨1, 0, 5, 3⟩ = (0, t2)
  last : t2.latest 1 = (⟨1, 0, 5, 2⟩, true)
  whole : t2.whole = false
  len : t2.ids.length ≤ 1000
theorem krun_is : Nonempty KRun := by
  obtain ⟨t, d, h1, h2, h3, h4, h5, h6, h7⟩ := Kept.new 25 (by omega)
  have hm : mayId ⟨1, 0, 5, 2⟩ = true := by decide
  have hr : t.room = 3 := by unfold Sto.room; rw [h4]; rfl
  obtain ⟨p1, p2, p3⟩ := h2.put_new hm rfl (b := [9]) (by simp) (by omega)
  obtain ⟨o1, o2, _, _, o5⟩ := t.put_ok ⟨1, 0, 5, 2⟩ [9]
  obtain ⟨t1, ht1⟩ : ∃ t1, t1 = (t.put ⟨1, 0, 5, 2⟩ [9]).2 := ⟨_, rfl⟩
  rw [← ht1] at p2 p3 o1 o2 o5
  have hput : t.put ⟨1, 0, 5, 2⟩ [9] = (0, t1) := Prod.ext p1 ht1.symm
  obtain ⟨d1, d2, d3, d4, _, _⟩ := p2.del (x := ⟨1, 0, 5, 3⟩) (by decide)
  have hne : (⟨1, 0, 5, 3⟩ : Id) ≠ ⟨1, 0, 5, 2⟩ := by decide
  have hF : setF (fun _ => none) ⟨1, 0, 5, 2⟩ (some [9]) ⟨1, 0, 5, 3⟩ = none := setF_other _ _ hne
  have hdel : t1.del ⟨1, 0, 5, 3⟩ = (0, t1) := Prod.ext d1 (d4 hF)
  have hids : t1.ids = [⟨1, 0, 5, 2⟩] := ids_one p2.keys (fun y => by
    rw [p2.mem_ids]
    by_cases e : y = ⟨1, 0, 5, 2⟩
    · rw [e, setF_self]; simp
    · rw [setF_other _ _ e]; simp [e])
  refine ⟨⟨t, t1, t1, d, ?_, h1, ⟨by rw [h3]; exact h6, by rw [h2.since]; rfl⟩, ⟨by rw [h3] at o1; omega, by rw [p2.since]; rfl⟩, hput, ?_, ?_, ?_, ?_, hdel, ?_, by rw [o5, h7], by rw [hids]; simp⟩⟩
  · unfold DS.stOpen
    rw [if_neg (by show ¬ 25 < 9; omega), if_neg (by show ¬ false = true; simp), if_pos]
    left
    show (0 : UInt8) ≠ 1 ∧ (0 : UInt8) ≠ 2
    decide
  · rw [p2.put_there (setF_self _ _ _) [9] (by simp), if_pos rfl]
  · rw [p2.put_there (setF_self _ _ _) [8] (by simp), if_neg (by decide)]
  · unfold Sto.put
    rw [if_pos (by decide)]
  · rw [p2.get, if_neg (by decide), hF]
  · unfold Sto.latest
    rw [hids]; rfl

set_option maxHeartbeats 16000000 in
set_option maxRecDepth 100000 in
theorem known6_any (w : World) : Calls Tryz.prog 7 #[] w fun e w' => e = .returned (.bool true) ∧ Chg [] w w' := by
  obtain ⟨⟨t0, t1, t2, d, ho, hf, hsm, hsm1, hp, hp2, hp3, hp4, hg, hdl, hla, hwh, hln⟩⟩ := krun_is
  have CW := Lib.hid (awake6_any w)
  have HWH := Lib.hid (And.intro hwh hln)
  have HLA := Lib.hid hla
  clear hwh hln hla
  go_enter Tryz.func7, Tryz.ntmps7
  go_wp2_with fail
  refine CW.out.mono ?_
  rintro e w1 ⟨rfl, hc1⟩
  have CN := Lib.hid (own_disk 25 w1 (by omega) (by omega))
  have HC1 := Lib.hid hc1
  clear hc1 CW
  go_wp2_with fail
  refine CN.out.mono ?_
  rintro e w2 ⟨p, S, rfl, hd2, hS2, hc2⟩
  have CO := Lib.hid (stopen_any p S _ w2 hd2)
  rw [ho] at CO
  have HD2 := Lib.hid hd2
  have HS2 := Lib.hid (And.intro hS2 hc2)
  clear hd2 hS2 hc2 CN ho
  go_wp2_with fail
  refine CO.out.mono ?_
  rintro e w3 ⟨hc3, he⟩
  dsimp only at he
  subst he
  have CF := Lib.hid (own_format (w0 := w) (HD2.out.keep hc3 (by simp)) (fun x hx => Nat.le_trans HC1.out.size (HS2.out.1 x hx)) ((HC1.out.trans HS2.out.2 (by simp)).trans hc3 (by simp)) hf)
  clear hc3 CO hf
  go_wp2_with fail
  refine CF.out.mono ?_
  rintro e w4 ⟨q, rfl, ho4⟩
  have HO4 := Lib.hid ho4
  have CI := Lib.hid (lawid_any 1 0 5 2 w4)
  clear ho4 CF
  go_wp2_with fail
  refine CI.out.mono ?_
  rintro e w5 ⟨rfl, hc5⟩
  have hcA : Chg [] w5 (w5.alloc (.cells #[bv 9] 5)) := (Chg.refl _ _).alloc _
  have HO5 := Lib.hid ((HO4.out.keep0 hc5).add hcA (Y := [w5.heap.size]) (fun k hk => .inr (by
    rw [List.mem_singleton.1 hk]
    exact ⟨Nat.le_refl _, by simp⟩)))
  have CP := Lib.hid (own_put HO5.out ⟨1, 0, 5, 2⟩ okD_c _ [9] (one_byte6 w5 9) (fun _ k hk => .inr (by
    obtain rfl : w5.heap.size = k := by simpa [Value.ownBlock] using hk
    simp)) (by simp) (by omega) (by omega))
  rw [hp, show bv 9 = .int .u8 9 from rfl] at CP
  clear hc5 hcA CI HO4
  go_wp2_with fail
  refine CP.out.mono ?_
  rintro e w6 ⟨rfl, ho6, _⟩
  have HO6 := Lib.hid (ho6.mono (Y := []) (by simp))
  have CI := Lib.hid (lawid_any 1 0 5 2 w6)
  clear ho6 CP
  go_wp2_with fail
  refine CI.out.mono ?_
  rintro e w7 ⟨rfl, hc7⟩
  have hcA : Chg [] w7 (w7.alloc (.cells #[bv 9] 5)) := (Chg.refl _ _).alloc _
  have HO7 := Lib.hid ((HO6.out.keep0 hc7).add hcA (Y := [w7.heap.size]) (fun k hk => .inr (by
    rw [List.mem_singleton.1 hk]
    exact ⟨Nat.le_refl _, by simp⟩)))
  have CP := Lib.hid (own_put HO7.out ⟨1, 0, 5, 2⟩ okD_c _ [9] (one_byte6 w7 9) (fun _ k hk => .inr (by
    obtain rfl : w7.heap.size = k := by simpa [Value.ownBlock] using hk
    simp)) (by simp) (by omega) (by omega))
  rw [hp2, show bv 9 = .int .u8 9 from rfl] at CP
  clear hc7 hcA CI HO6
  go_wp2_with fail
  refine CP.out.mono ?_
  rintro e w8 ⟨rfl, ho8, _⟩
  have HO8 := Lib.hid (ho8.mono (Y := []) (by simp))
  have CI := Lib.hid (lawid_any 1 0 5 2 w8)
  clear ho8 CP
  go_wp2_with fail
  refine CI.out.mono ?_
  rintro e w9 ⟨rfl, hc9⟩
  have hcA : Chg [] w9 (w9.alloc (.cells #[bv 8] 5)) := (Chg.refl _ _).alloc _
  have HO9 := Lib.hid ((HO8.out.keep0 hc9).add hcA (Y := [w9.heap.size]) (fun k hk => .inr (by
    rw [List.mem_singleton.1 hk]
    exact ⟨Nat.le_refl _, by simp⟩)))
  have CP := Lib.hid (own_put HO9.out ⟨1, 0, 5, 2⟩ okD_c _ [8] (one_byte6 w9 8) (fun _ k hk => .inr (by
    obtain rfl : w9.heap.size = k := by simpa [Value.ownBlock] using hk
    simp)) (by simp) (by omega) (by omega))
  rw [hp3, show bv 8 = .int .u8 8 from rfl] at CP
  clear hc9 hcA CI HO8
  go_wp2_with fail
  refine CP.out.mono ?_
  rintro e w10 ⟨rfl, ho10, _⟩
  have HO10 := Lib.hid (ho10.mono (Y := []) (by simp))
  have CI := Lib.hid (lawid_any 5 0 5 2 w10)
  clear ho10 CP
  go_wp2_with fail
  refine CI.out.mono ?_
  rintro e w11 ⟨rfl, hc11⟩
  have CP := Lib.hid (own_put (HO10.out.keep0 hc11) ⟨5, 0, 5, 2⟩ (by decide) (.slice none 0 0) [] (BytesAt.nil _) (fun h => absurd rfl h) (by simp) (by omega) (by omega))
  rw [hp4] at CP
  clear hc11 CI
  go_wp2_with fail
  refine CP.out.mono ?_
  rintro e w12 ⟨rfl, ho12, _⟩
  have HO12 := Lib.hid ho12
  have CI := Lib.hid (lawid_any 1 0 5 3 w12)
  clear ho12 CP
  go_wp2_with fail
  refine CI.out.mono ?_
  rintro e w13 ⟨rfl, hc13⟩
  have CG := Lib.hid (own_get (HO12.out.keep0 hc13) ⟨1, 0, 5, 3⟩ (by decide))
  rw [hg] at CG
  clear hc13 CI
  go_wp2_with fail
  refine CG.out.mono ?_
  rintro e w14 ⟨⟨v14, rfl, hb14, _⟩, ho14, _, _⟩
  obtain ⟨a14, c14, rfl⟩ := hb14.slice
  have HO14 := Lib.hid ho14
  have CI := Lib.hid (lawid_any 1 0 5 3 w14)
  clear ho14 hb14 CG
  go_wp2_with fail
  refine CI.out.mono ?_
  rintro e w15 ⟨rfl, hc15⟩
  have CD := Lib.hid (own_del (HO14.out.keep0 hc15) ⟨1, 0, 5, 3⟩ (by decide) (by omega) (by omega))
  rw [hdl] at CD
  clear hc15 CI
  go_wp2_with fail
  refine CD.out.mono ?_
  rintro e w16 ⟨rfl, ho16, _⟩
  have HO16 := Lib.hid ho16
  obtain ⟨U, hU, _⟩ := ho16
  have CL := Lib.hid (stlatest_any q p U t2 1 w16 hU HWH.out.2)
  rw [HLA.out] at CL
  clear hU CD
  go_wp2_with fail
  refine CL.out.mono ?_
  rintro e w17 ⟨rfl, hc17⟩
  have HO17 := Lib.hid (HO16.out.keep0 hc17)
  have heq : ∀ w, (binOp .eql 25 (.agg #[.int .i64 1, .int .i64 0, .int .i64 5, .int .i64 2]) (.agg #[.int .i64 1, .int .i64 0, .int .i64 5, .int .i64 2])).run Tryz.prog w = .ok (.bool true) w := fun w => by
    have := eq_id ⟨1, 0, 5, 2⟩ ⟨1, 0, 5, 2⟩ okD_c okD_c w
    simpa using this
  obtain ⟨w18, hw18⟩ : ∃ w18, w18 = w17.alloc (.cells (idC ⟨1, 0, 5, 2⟩) 25) := ⟨_, rfl⟩
  have hc18 : Chg [] w17 w18 := by rw [hw18]; exact (Chg.refl _ _).alloc _
  have HB18 : Hid (w18.heap[w17.heap.size]? = some (.cells (idC ⟨1, 0, 5, 2⟩) 25 (0, 0))) := Lib.hid (by rw [hw18]; exact heap_alloc_new w17 _)
  have HO18 := Lib.hid (HO17.out.keep0 hc18)
  have HW18 := Lib.hid hw18
  have mm := id_cells HB18.out
  have CI := Lib.hid (lawid_any 1 0 5 2 w18.drew)
  clear hc17 hc18 hw18 CL
  go_wp2_with fail
  rw [← HW18.out]
  refine wp_region_L [(28, fun w' => (w'.cell? ⟨w17.heap.size, 0, none⟩ = some (.int .i64 1) ∧ w'.cell? ⟨w17.heap.size, 1, none⟩ = some (.int .i64 0) ∧ w'.cell? ⟨w17.heap.size, 2, none⟩ = some (.int .i64 5) ∧ w'.cell? ⟨w17.heap.size, 3, none⟩ = some (.int .i64 2)))] (by kernel_rfl) ?_ (fun hHeld => ?_)
  · exact (HoldC.cons (mm) HoldC.nil)
  refine wpAnyL_take (i := 0) (oi := _) (v := ?_) rfl (by kernel_rfl) (by kernel_rfl) (by kernel_rfl) (by kernel_rfl) (by kernel_rfl) (fun _ _ _ h => h) (Or.inl ⟨by rfl, ?_⟩) (by assumption) (fun hNew => ?_)
  rotate_left
  · intro w _
    go_simp
    try with_reducible rfl
  clear hHeld
  have hHeld := hNew
  clear hNew
  try simp only [List.getElem_toArray, List.getElem_cons_succ, List.getElem_cons_zero, Act.put, List.setIfInBounds_toArray, List.set_cons_zero, List.set_cons_succ]
  refine wpAnyL_take (i := 1) (oi := _) (v := ?_) rfl (by kernel_rfl) (by kernel_rfl) (by kernel_rfl) (by kernel_rfl) (by kernel_rfl) (fun _ _ _ h => h) (Or.inl ⟨by rfl, ?_⟩) (by assumption) (fun hNew => ?_)
  rotate_left
  · intro w _
    go_simp
    try with_reducible rfl
  clear hHeld
  have hHeld := hNew
  clear hNew
  try simp only [List.getElem_toArray, List.getElem_cons_succ, List.getElem_cons_zero, Act.put, List.setIfInBounds_toArray, List.set_cons_zero, List.set_cons_succ]
  refine wpAnyL_take (i := 2) (oi := _) (v := ?_) rfl (by kernel_rfl) (by kernel_rfl) (by kernel_rfl) (by kernel_rfl) (by kernel_rfl) (fun _ _ _ h => h) (Or.inl ⟨by rfl, ?_⟩) (by assumption) (fun hNew => ?_)
  rotate_left
  · intro w _
    go_simp
    try with_reducible rfl
  clear hHeld
  have hHeld := hNew
  clear hNew
  try simp only [List.getElem_toArray, List.getElem_cons_succ, List.getElem_cons_zero, Act.put, List.setIfInBounds_toArray, List.set_cons_zero, List.set_cons_succ]
  refine wpAnyL_take (i := 3) (oi := _) (v := ?_) rfl (by kernel_rfl) (by kernel_rfl) (by kernel_rfl) (by kernel_rfl) (by kernel_rfl) (fun _ _ _ h => h) (Or.inl ⟨by rfl, ?_⟩) (by assumption) (fun hNew => ?_)
  rotate_left
  · intro w _
    go_simp
    try with_reducible rfl
  clear hHeld
  have hHeld := hNew
  clear hNew
  try simp only [List.getElem_toArray, List.getElem_cons_succ, List.getElem_cons_zero, Act.put, List.setIfInBounds_toArray, List.set_cons_zero, List.set_cons_succ]
  refine wpAnyL_take (i := 4) (oi := _) (v := ?_) rfl (by kernel_rfl) (by kernel_rfl) (by kernel_rfl) (by kernel_rfl) (by kernel_rfl) (fun _ _ _ h => h) (Or.inl ⟨by rfl, ?_⟩) (by assumption) (fun hNew => ?_)
  rotate_left
  · intro w _
    go_simp
    try with_reducible rfl
  clear hHeld
  have hHeld := hNew
  clear hNew
  try simp only [List.getElem_toArray, List.getElem_cons_succ, List.getElem_cons_zero, Act.put, List.setIfInBounds_toArray, List.set_cons_zero, List.set_cons_succ]
  refine wpAnyL_take (i := 5) (oi := _) (v := ?_) rfl (by kernel_rfl) (by kernel_rfl) (by kernel_rfl) (by kernel_rfl) (by kernel_rfl) (fun _ _ _ h => h) (Or.inl ⟨by rfl, ?_⟩) (by assumption) (fun hNew => ?_)
  rotate_left
  · intro w _
    go_simp
    try with_reducible rfl
  clear hHeld
  have hHeld := hNew
  clear hNew
  try simp only [List.getElem_toArray, List.getElem_cons_succ, List.getElem_cons_zero, Act.put, List.setIfInBounds_toArray, List.set_cons_zero, List.set_cons_succ]
  refine wpAnyL_take (i := 6) (oi := _) (v := ?_) rfl (by kernel_rfl) (by kernel_rfl) (by kernel_rfl) (by kernel_rfl) (by kernel_rfl) (fun _ _ _ h => h) (Or.inl ⟨by rfl, ?_⟩) (by assumption) (fun hNew => ?_)
  rotate_left
  · intro w _
    go_simp
    try with_reducible rfl
  clear hHeld
  have hHeld := hNew
  clear hNew
  try simp only [List.getElem_toArray, List.getElem_cons_succ, List.getElem_cons_zero, Act.put, List.setIfInBounds_toArray, List.set_cons_zero, List.set_cons_succ]
  refine wpAnyL_take (i := 7) (oi := _) (v := ?_) rfl (by kernel_rfl) (by kernel_rfl) (by kernel_rfl) (by kernel_rfl) (by kernel_rfl) (fun _ _ _ h => h) (Or.inl ⟨by rfl, ?_⟩) (by assumption) (fun hNew => ?_)
  rotate_left
  · intro w _
    go_simp
    try with_reducible rfl
  clear hHeld
  have hHeld := hNew
  clear hNew
  try simp only [List.getElem_toArray, List.getElem_cons_succ, List.getElem_cons_zero, Act.put, List.setIfInBounds_toArray, List.set_cons_zero, List.set_cons_succ]
  refine wpAnyL_take (i := 8) (oi := _) (v := ?_) rfl (by kernel_rfl) (by kernel_rfl) (by kernel_rfl) (by kernel_rfl) (by kernel_rfl) (fun _ _ _ h => h) (Or.inl ⟨by rfl, ?_⟩) (by assumption) (fun hNew => ?_)
  rotate_left
  · intro w _
    go_simp
    try with_reducible rfl
  clear hHeld
  have hHeld := hNew
  clear hNew
  try simp only [List.getElem_toArray, List.getElem_cons_succ, List.getElem_cons_zero, Act.put, List.setIfInBounds_toArray, List.set_cons_zero, List.set_cons_succ]
  refine wpAnyL_take (i := 9) (oi := _) (v := ?_) rfl (by kernel_rfl) (by kernel_rfl) (by kernel_rfl) (by kernel_rfl) (by kernel_rfl) (fun _ _ _ h => h) (Or.inl ⟨by rfl, ?_⟩) (by assumption) (fun hNew => ?_)
  rotate_left
  · intro w _
    go_simp
    try with_reducible rfl
  clear hHeld
  have hHeld := hNew
  clear hNew
  try simp only [List.getElem_toArray, List.getElem_cons_succ, List.getElem_cons_zero, Act.put, List.setIfInBounds_toArray, List.set_cons_zero, List.set_cons_succ]
  refine wpAnyL_take (i := 10) (oi := _) (v := ?_) rfl (by kernel_rfl) (by kernel_rfl) (by kernel_rfl) (by kernel_rfl) (by kernel_rfl) (fun _ _ _ h => h) (Or.inl ⟨by rfl, ?_⟩) (by assumption) (fun hNew => ?_)
  rotate_left
  · intro w _
    go_simp
    try with_reducible rfl
  clear hHeld
  have hHeld := hNew
  clear hNew
  try simp only [List.getElem_toArray, List.getElem_cons_succ, List.getElem_cons_zero, Act.put, List.setIfInBounds_toArray, List.set_cons_zero, List.set_cons_succ]
  refine wpAnyL_take (i := 11) (oi := _) (v := ?_) rfl (by kernel_rfl) (by kernel_rfl) (by kernel_rfl) (by kernel_rfl) (by kernel_rfl) (fun _ _ _ h => h) (Or.inl ⟨by rfl, ?_⟩) (by assumption) (fun hNew => ?_)
  rotate_left
  · intro w _
    go_simp
    try with_reducible rfl
  clear hHeld
  have hHeld := hNew
  clear hNew
  try simp only [List.getElem_toArray, List.getElem_cons_succ, List.getElem_cons_zero, Act.put, List.setIfInBounds_toArray, List.set_cons_zero, List.set_cons_succ]
  refine wpAnyL_take (i := 12) (oi := _) (v := ?_) rfl (by kernel_rfl) (by kernel_rfl) (by kernel_rfl) (by kernel_rfl) (by kernel_rfl) (fun _ _ _ h => h) (Or.inl ⟨by rfl, ?_⟩) (by assumption) (fun hNew => ?_)
  rotate_left
  · intro w _
    go_simp
    try with_reducible rfl
  clear hHeld
  have hHeld := hNew
  clear hNew
  try simp only [List.getElem_toArray, List.getElem_cons_succ, List.getElem_cons_zero, Act.put, List.setIfInBounds_toArray, List.set_cons_zero, List.set_cons_succ]
  refine wpAnyL_take (i := 13) (oi := _) (v := ?_) rfl (by kernel_rfl) (by kernel_rfl) (by kernel_rfl) (by kernel_rfl) (by kernel_rfl) (fun _ _ _ h => h) (Or.inl ⟨by rfl, ?_⟩) (by assumption) (fun hNew => ?_)
  rotate_left
  · intro w _
    go_simp
    try with_reducible rfl
  clear hHeld
  have hHeld := hNew
  clear hNew
  try simp only [List.getElem_toArray, List.getElem_cons_succ, List.getElem_cons_zero, Act.put, List.setIfInBounds_toArray, List.set_cons_zero, List.set_cons_succ]
  refine wpAnyL_take (i := 14) (oi := _) (v := ?_) rfl (by kernel_rfl) (by kernel_rfl) (by kernel_rfl) (by kernel_rfl) (by kernel_rfl) (fun _ _ _ h => h) (Or.inl ⟨by rfl, ?_⟩) (by assumption) (fun hNew => ?_)
  rotate_left
  · intro w _
    go_simp
    try with_reducible rfl
  clear hHeld
  have hHeld := hNew
  clear hNew
  try simp only [List.getElem_toArray, List.getElem_cons_succ, List.getElem_cons_zero, Act.put, List.setIfInBounds_toArray, List.set_cons_zero, List.set_cons_succ]
  refine wpAnyL_take (i := 15) (oi := _) (v := ?_) rfl (by kernel_rfl) (by kernel_rfl) (by kernel_rfl) (by kernel_rfl) (by kernel_rfl) (fun _ _ _ h => h) (Or.inl ⟨by rfl, ?_⟩) (by assumption) (fun hNew => ?_)
  rotate_left
  · intro w _
    go_simp
    try with_reducible rfl
  clear hHeld
  have hHeld := hNew
  clear hNew
  try simp only [List.getElem_toArray, List.getElem_cons_succ, List.getElem_cons_zero, Act.put, List.setIfInBounds_toArray, List.set_cons_zero, List.set_cons_succ]
  refine wpAnyL_take (i := 16) (oi := _) (v := ?_) rfl (by kernel_rfl) (by kernel_rfl) (by kernel_rfl) (by kernel_rfl) (by kernel_rfl) (fun _ _ _ h => h) (Or.inl ⟨by rfl, ?_⟩) (by assumption) (fun hNew => ?_)
  rotate_left
  · intro w _
    go_simp
    try with_reducible rfl
  clear hHeld
  have hHeld := hNew
  clear hNew
  try simp only [List.getElem_toArray, List.getElem_cons_succ, List.getElem_cons_zero, Act.put, List.setIfInBounds_toArray, List.set_cons_zero, List.set_cons_succ]
  refine wpAnyL_take (i := 17) (oi := _) (v := ?_) rfl (by kernel_rfl) (by kernel_rfl) (by kernel_rfl) (by kernel_rfl) (by kernel_rfl) (fun _ _ _ h => h) (Or.inl ⟨by rfl, ?_⟩) (by assumption) (fun hNew => ?_)
  rotate_left
  · intro w _
    go_simp
    try with_reducible rfl
  clear hHeld
  have hHeld := hNew
  clear hNew
  try simp only [List.getElem_toArray, List.getElem_cons_succ, List.getElem_cons_zero, Act.put, List.setIfInBounds_toArray, List.set_cons_zero, List.set_cons_succ]
  refine wpAnyL_take (i := 18) (oi := _) (v := ?_) rfl (by kernel_rfl) (by kernel_rfl) (by kernel_rfl) (by kernel_rfl) (by kernel_rfl) (fun _ _ _ h => h) (Or.inl ⟨by rfl, ?_⟩) (by assumption) (fun hNew => ?_)
  rotate_left
  · intro w _
    go_simp
    try with_reducible rfl
  clear hHeld
  have hHeld := hNew
  clear hNew
  try simp only [List.getElem_toArray, List.getElem_cons_succ, List.getElem_cons_zero, Act.put, List.setIfInBounds_toArray, List.set_cons_zero, List.set_cons_succ]
  refine wpAnyL_take (i := 19) (oi := _) (v := ?_) rfl (by kernel_rfl) (by kernel_rfl) (by kernel_rfl) (by kernel_rfl) (by kernel_rfl) (fun _ _ _ h => h) (Or.inl ⟨by rfl, ?_⟩) (by assumption) (fun hNew => ?_)
  rotate_left
  · intro w _
    go_simp
    try with_reducible rfl
  clear hHeld
  have hHeld := hNew
  clear hNew
  try simp only [List.getElem_toArray, List.getElem_cons_succ, List.getElem_cons_zero, Act.put, List.setIfInBounds_toArray, List.set_cons_zero, List.set_cons_succ]
  refine wpAnyL_take (i := 20) (oi := _) (v := ?_) rfl (by kernel_rfl) (by kernel_rfl) (by kernel_rfl) (by kernel_rfl) (by kernel_rfl) (fun _ _ _ h => h) (Or.inl ⟨by rfl, ?_⟩) (by assumption) (fun hNew => ?_)
  rotate_left
  · intro w _
    go_simp
    try with_reducible rfl
  clear hHeld
  have hHeld := hNew
  clear hNew
  try simp only [List.getElem_toArray, List.getElem_cons_succ, List.getElem_cons_zero, Act.put, List.setIfInBounds_toArray, List.set_cons_zero, List.set_cons_succ]
  refine wpAnyL_take (i := 21) (oi := _) (v := ?_) rfl (by kernel_rfl) (by kernel_rfl) (by kernel_rfl) (by kernel_rfl) (by kernel_rfl) (fun _ _ _ h => h) (Or.inl ⟨by rfl, ?_⟩) (by assumption) (fun hNew => ?_)
  rotate_left
  · intro w _
    go_simp
    try with_reducible rfl
  clear hHeld
  have hHeld := hNew
  clear hNew
  try simp only [List.getElem_toArray, List.getElem_cons_succ, List.getElem_cons_zero, Act.put, List.setIfInBounds_toArray, List.set_cons_zero, List.set_cons_succ]
  refine wpAnyL_take (i := 22) (oi := _) (v := ?_) rfl (by kernel_rfl) (by kernel_rfl) (by kernel_rfl) (by kernel_rfl) (by kernel_rfl) (fun _ _ _ h => h) (Or.inl ⟨by rfl, ?_⟩) (by assumption) (fun hNew => ?_)
  rotate_left
  · intro w _
    go_simp
    try with_reducible rfl
  clear hHeld
  have hHeld := hNew
  clear hNew
  try simp only [List.getElem_toArray, List.getElem_cons_succ, List.getElem_cons_zero, Act.put, List.setIfInBounds_toArray, List.set_cons_zero, List.set_cons_succ]
  refine wpAnyL_take (i := 23) (oi := _) (v := ?_) rfl (by kernel_rfl) (by kernel_rfl) (by kernel_rfl) (by kernel_rfl) (by kernel_rfl) (fun _ _ _ h => h) (Or.inl ⟨by rfl, ?_⟩) (by assumption) (fun hNew => ?_)
  rotate_left
  · intro w _
    go_simp
    try with_reducible rfl
  clear hHeld
  have hHeld := hNew
  clear hNew
  try simp only [List.getElem_toArray, List.getElem_cons_succ, List.getElem_cons_zero, Act.put, List.setIfInBounds_toArray, List.set_cons_zero, List.set_cons_succ]
  refine wpAnyL_take (i := 24) (oi := _) (v := ?_) rfl (by kernel_rfl) (by kernel_rfl) (by kernel_rfl) (by kernel_rfl) (by kernel_rfl) (fun _ _ _ h => h) (Or.inl ⟨by rfl, ?_⟩) (by assumption) (fun hNew => ?_)
  rotate_left
  · intro w _
    go_simp
    try with_reducible rfl
  clear hHeld
  have hHeld := hNew
  clear hNew
  try simp only [List.getElem_toArray, List.getElem_cons_succ, List.getElem_cons_zero, Act.put, List.setIfInBounds_toArray, List.set_cons_zero, List.set_cons_succ]
  refine wpAnyL_take (i := 25) (oi := _) (v := ?_) rfl (by kernel_rfl) (by kernel_rfl) (by kernel_rfl) (by kernel_rfl) (by kernel_rfl) (fun _ _ _ h => h) (Or.inl ⟨by rfl, ?_⟩) (by assumption) (fun hNew => ?_)
  rotate_left
  · intro w _
    go_simp
    try with_reducible rfl
  clear hHeld
  have hHeld := hNew
  clear hNew
  try simp only [List.getElem_toArray, List.getElem_cons_succ, List.getElem_cons_zero, Act.put, List.setIfInBounds_toArray, List.set_cons_zero, List.set_cons_succ]
  refine wpAnyL_load 0 (i := 26) (oi := _) (v := ?_) rfl rfl (by kernel_rfl) (by kernel_rfl) (by kernel_rfl) (by kernel_rfl) (by kernel_rfl) (by kernel_rfl) (fun _ _ _ h => h) (Or.inl ⟨by rfl, ?_⟩) (by assumption) (fun hNew => ?_)
  rotate_left
  · intro w hSw
    (try dsimp only at hSw)
    go_simp
    try with_reducible rfl
  clear hHeld
  have hHeld := hNew
  clear hNew
  try simp only [List.getElem_toArray, List.getElem_cons_succ, List.getElem_cons_zero, Act.put, List.setIfInBounds_toArray, List.set_cons_zero, List.set_cons_succ]
  refine wpAnyL_ready (rs := [27]) (by kernel_rfl) (by simp) ?_
  refine AllReadyL.cons (o := _) rfl (fun K hK => ?_) AllReadyL.nil
  try simp only [List.getElem_toArray, List.getElem_cons_succ, List.getElem_cons_zero]
  go_simp
  refine CI.out.mono ?_
  rintro e w19 ⟨rfl, hc19⟩
  have mm := id_cells (hc19.keep (show w18.drew.heap[w17.heap.size]? = _ from HB18.out) (by simp))
  have HO19 := Lib.hid ((HO18.out.keep0 (Chg.drew (Chg.refl [] w18))).keep0 hc19)
  have CWH : Hid (Calls Tryz.prog 34 #[.pointer (some ⟨q, 0, none⟩)] w19 fun e w' => e = .returned (.bool false) ∧ w19 = w') := Lib.hid (by
    obtain ⟨U, hU, _⟩ := HO19.out
    have := stwhole_any q p U t2 w19 hU
    rwa [HWH.out.1] at this)
  clear hc19 CI
  clear hHeld
  refine hK.out _ _ ?_ (fun hHeld => ?_)
  · exact (HoldC.cons (mm) HoldC.nil)
  clear hK K
  try simp only [List.getElem_toArray, List.getElem_cons_succ, List.getElem_cons_zero, Act.put, List.setIfInBounds_toArray, List.set_cons_zero, List.set_cons_succ]
  refine wpAnyL_ready (rs := [28]) (by kernel_rfl) (by simp) ?_
  refine AllReadyL.cons (o := _) rfl (fun K hK => ?_) AllReadyL.nil
  try simp only [List.getElem_toArray, List.getElem_cons_succ, List.getElem_cons_zero]
  go_simp
  clear hHeld
  refine hK.out _ _ ?_ (fun hHeld => ?_)
  · exact (HoldC.past (by kernel_rfl) HoldC.nil)
  clear hK K
  try simp only [List.getElem_toArray, List.getElem_cons_succ, List.getElem_cons_zero, Act.put, List.setIfInBounds_toArray, List.set_cons_zero, List.set_cons_succ]
  refine wpAnyL_take (i := 29) (oi := _) (v := ?_) rfl (by kernel_rfl) (by kernel_rfl) (by kernel_rfl) (by kernel_rfl) (by kernel_rfl) (fun _ _ _ h => h) (Or.inl ⟨by rfl, ?_⟩) (by assumption) (fun hNew => ?_)
  rotate_left
  · intro w _
    go_simp
    try with_reducible rfl
  clear hHeld
  have hHeld := hNew
  clear hNew
  try simp only [List.getElem_toArray, List.getElem_cons_succ, List.getElem_cons_zero, Act.put, List.setIfInBounds_toArray, List.set_cons_zero, List.set_cons_succ]
  refine wpAnyL_take (i := 30) (oi := _) (v := ?_) rfl (by kernel_rfl) (by kernel_rfl) (by kernel_rfl) (by kernel_rfl) (by kernel_rfl) (fun _ _ _ h => h) (Or.inl ⟨by rfl, ?_⟩) (by assumption) (fun hNew => ?_)
  rotate_left
  · intro w _
    go_simp
    try with_reducible rfl
  clear hHeld
  have hHeld := hNew
  clear hNew
  try simp only [List.getElem_toArray, List.getElem_cons_succ, List.getElem_cons_zero, Act.put, List.setIfInBounds_toArray, List.set_cons_zero, List.set_cons_succ]
  refine wpAnyL_take (i := 31) (oi := _) (v := ?_) rfl (by kernel_rfl) (by kernel_rfl) (by kernel_rfl) (by kernel_rfl) (by kernel_rfl) (fun _ _ _ h => h) (Or.inl ⟨by rfl, ?_⟩) (by assumption) (fun hNew => ?_)
  rotate_left
  · intro w _
    go_simp
    try with_reducible rfl
  clear hHeld
  have hHeld := hNew
  clear hNew
  try simp only [List.getElem_toArray, List.getElem_cons_succ, List.getElem_cons_zero, Act.put, List.setIfInBounds_toArray, List.set_cons_zero, List.set_cons_succ]
  refine wpAnyL_ready (rs := [32]) (by kernel_rfl) (by simp) ?_
  refine AllReadyL.cons (o := _) rfl (fun K hK => ?_) AllReadyL.nil
  try simp only [List.getElem_toArray, List.getElem_cons_succ, List.getElem_cons_zero]
  go_simp
  refine CWH.out.mono ?_
  rintro e w' ⟨rfl, hq⟩
  subst hq
  clear hHeld
  refine hK.out _ _ ?_ (fun hHeld => ?_)
  · exact (HoldC.past (by kernel_rfl) HoldC.nil)
  clear hK K
  try simp only [List.getElem_toArray, List.getElem_cons_succ, List.getElem_cons_zero, Act.put, List.setIfInBounds_toArray, List.set_cons_zero, List.set_cons_succ]
  refine wpAnyL_take (i := 33) (oi := _) (v := ?_) rfl (by kernel_rfl) (by kernel_rfl) (by kernel_rfl) (by kernel_rfl) (by kernel_rfl) (fun _ _ _ h => h) (Or.inl ⟨by rfl, ?_⟩) (by assumption) (fun hNew => ?_)
  rotate_left
  · intro w _
    go_simp
    try with_reducible rfl
  clear hHeld
  have hHeld := hNew
  clear hNew
  try simp only [List.getElem_toArray, List.getElem_cons_succ, List.getElem_cons_zero, Act.put, List.setIfInBounds_toArray, List.set_cons_zero, List.set_cons_succ]
  refine wpAnyL_take (i := 34) (oi := _) (v := ?_) rfl (by kernel_rfl) (by kernel_rfl) (by kernel_rfl) (by kernel_rfl) (by kernel_rfl) (fun _ _ _ h => h) (Or.inl ⟨by rfl, ?_⟩) (by assumption) (fun hNew => ?_)
  rotate_left
  · intro w _
    go_simp
    try with_reducible rfl
  clear hHeld
  have hHeld := hNew
  clear hNew
  try simp only [List.getElem_toArray, List.getElem_cons_succ, List.getElem_cons_zero, Act.put, List.setIfInBounds_toArray, List.set_cons_zero, List.set_cons_succ]
  refine wpAnyL_ready (rs := [35]) (by kernel_rfl) (by simp) ?_
  refine AllReadyL.cons (o := _) rfl (fun K hK => ?_) AllReadyL.nil
  try simp only [List.getElem_toArray, List.getElem_cons_succ, List.getElem_cons_zero]
  go_simp
  clear hHeld
  refine hK.out _ _ ?_ (fun hHeld => ?_)
  · exact (HoldC.past (by kernel_rfl) HoldC.nil)
  clear hK K
  try simp only [List.getElem_toArray, List.getElem_cons_succ, List.getElem_cons_zero, Act.put, List.setIfInBounds_toArray, List.set_cons_zero, List.set_cons_succ]
  refine wpAnyL_done (by kernel_rfl) ?_ _
  clear hHeld
  go_wp2_with fail
  go_ret
  exact ⟨rfl, HO19.out.chg⟩
end Go.Proofs.YtbkajnjboipbhaaGreatDoor.W

/- StoreKnown: what the row asks. -/
namespace Go.Proofs.YtbkajnjboipbhaaGreatDoor.storeKnown
open Go.RowKit
theorem walk (X : World) : Calls Tryz.prog 7 #[] X fun e w' => e = .returned (.bool true) ∧ Below X.heap.size X w' :=
  (Go.Proofs.YtbkajnjboipbhaaGreatDoor.W.known6_any X).mono fun e w' ⟨h1, h2⟩ => ⟨h1, h2.below (by simp)⟩
end Go.Proofs.YtbkajnjboipbhaaGreatDoor.storeKnown
