/- Texts laid together. -/
import Derived.Test.YtaophafailmhjaaBP5
import Derived.Laws.IdiomStrings
import Derived.Laws.BytesArg
import Derived.Lib.SlBytesConst
import Derived.Test.YtaophafailmhjaaBP1
import Derived.Test.YtaophafailmhjaaBP3
/- The file system as it is meant: trunc, sync. -/
namespace Go.Proofs.Ytaophafailmhjaa.W
open Go.RowKit
open Go.Proofs.Ytaophafailmhjaa.NM
set_option linter.unusedVariables false
set_option linter.unusedSimpArgs false

variable {X Y S : List Nat} {w0 w w' w1 w2 w3 : World} {c : PC} {s s' : PS} {o : Op} {v : Value}
theorem bytes_take {a : Option Addr} {cap k : Nat} {l : List UInt8} (h : BytesAt w (.slice a l.length cap) l) (hk : k ≤ l.length) : BytesAt w (.slice a k cap) (l.take k) := by
  have hl : (l.take k).length = k := by rw [List.length_take]; omega
  obtain ⟨a', cap', he, h1, h2, h3⟩ := h
  obtain ⟨rfl, _, rfl⟩ := Value.slice.inj he
  refine ⟨_, _, by rw [hl], by rw [hl]; omega, h2, ?_⟩
  rcases h3 with ⟨h3, h4⟩ | ⟨g', o', he', hc⟩
  · left
    have h0 : l.length = 0 := by rw [h3]; rfl
    exact ⟨List.eq_nil_of_length_eq_zero (by omega), h4⟩
  · right
    refine ⟨g', o', he', fun j hj => ?_⟩
    rw [hl] at hj
    rw [hc j (by omega)]
    congr 2
    rw [List.getD_eq_getElem?_getD, List.getD_eq_getElem?_getD, List.getElem?_take, if_pos hj]
theorem sized_take (l : List UInt8) (n : Nat) : sizedB (l.take (min l.length n)) n = sizedB l n := by
  unfold sizedB
  rw [List.take_take, List.length_take]
  rcases Nat.le_total n l.length with h | h
  · rw [Nat.min_eq_right h, Nat.min_self, Nat.min_eq_left h]
    congr 2
    omega
  · rw [Nat.min_eq_left h, Nat.min_eq_right h, Nat.min_self, List.take_of_length_le (Nat.le_refl _), List.take_of_length_le h]
set_option maxHeartbeats 4000000 in
set_option maxRecDepth 100000 in
theorem ptrunc_any (h : PAt X w0 w c S s) (hI : PInv s) (a : Int) (o : Op) (v : Value) (hv : BytesAt w v o.b) : Calls Try.prog 36 #[.pointer (some ⟨c.p, 0, none⟩), .int .i64 a, opV o v] w (APost X w0 w c S (psTrunc s a o)) := by
  obtain ⟨ab, cb, rfl⟩ := hv.slice
  have HB := begun h o (.slice ab o.b.length cb)
  obtain ⟨w1, hw1⟩ : ∃ w1, w1 = (w.alloc (.cells #[.int .i64 o.d, .string (NM.mk o.p), .string (NM.mk o.q), .int .i64 o.h, .int .i64 o.i, .int .i64 o.n, .bool o.w, .slice ab o.b.length cb] 33)).alloc (.cells #[.int .i64 0, .int .i64 0, .bool false, .int .i64 0, .int .i64 0, .slice none 0 0, .slice none 0 0] 30) := ⟨_, rfl⟩
  rw [← hw1] at HB
  have HG := Lib.hid HB.go
  have HW1 := Lib.hid hw1
  have HI := Lib.hid hI
  obtain ⟨⟨p0, p1, p2, p3⟩, ⟨o0, o1, o2, o3, o4, o5, o6, o7⟩, ⟨c0, c1, c2, c3, c4, c5, c6⟩, ⟨f0, f1, f2, f3, f4, f5, f6⟩, hlt1, hlt2⟩ := HG.out.cells
  obtain ⟨Z, hZ⟩ : ∃ Z, Z = psTrunc s a o := ⟨_, rfl⟩
  rw [← hZ]
  have HZ := Lib.hid hZ
  have HC1 := Lib.hid HB.chg
  have HBV := Lib.hid hv
  clear hZ h HB hI hw1 hv
  unfold opV opC
  cases hf : K.find s.K a o.h with
  | none =>
    have HFD := Lib.hid hf
    clear hf
    have HE : Hid (Z = (no 13, s)) := Lib.hid (by rw [HZ.out]; unfold psTrunc; rw [HFD.out])
    clear HZ
    go_enter Try.func36, Try.ntmps36
    go_wp2_with fail
    rw [← HW1.out]
    refine (HG.out.row a true).mono ?_
    rw [HFD.out]
    rintro e w3 ⟨rfl, h3⟩
    have HG3 := Lib.hid (HG.out.keep0 h3)
    have HC3 := Lib.hid (HC1.out.trans h3 (by simp))
    clear h3
    unfold rowZ rowOk
    dsimp only [Option.getD]
    clear p0 p1 p2 p3 o0 o1 o2 o3 o4 o5 o6 o7 c0 c1 c2 c3 c4 c5 c6 f0 f1 f2 f3 f4 f5 f6 hlt1 hlt2
    have HG4 := Lib.hid (HG3.out.keep0 ((Chg.refl [] w3).alloc (.cells #[.int .i64 0, .int .i64 0, .int .i64 0, .bool false] 51)))
    go_wp2_with fail
    refine (no_any 13 _).mono ?_
    rintro e w9 ⟨rfl, h9⟩
    have HG5 := Lib.hid (HG4.out.keep0 h9)
    clear h9
    unfold ansV no
    obtain ⟨⟨p0, p1, p2, p3⟩, ⟨o0, o1, o2, o3, o4, o5, o6, o7⟩, ⟨c0, c1, c2, c3, c4, c5, c6⟩, ⟨f0, f1, f2, f3, f4, f5, f6⟩, hlt1, hlt2⟩ := HG5.out.cells
    go_wp2
    obtain ⟨HBK, HAP⟩ := Going.done (no 13) s HE.out HG5.out rfl rfl (u0 := .int .i64 13) (u1 := .int .i64 0) (u2 := .bool false) (u3 := .int .i64 0) (u4 := .int .i64 0) rfl rfl rfl rfl rfl
    obtain ⟨⟨d0, d1, d2, d3, d4, d5, d6⟩, _⟩ := ans_cells HBK
    unfold set7 at d0 d1 d2 d3 d4 d5 d6
    exact bodyPost_ret (v := .agg #[.int .i64 13, .int .i64 0, .bool false, .int .i64 0, .int .i64 0, .slice none 0 0, .slice none 0 0]) (by simp [results, Try.results36, go_sem, d0, d1, d2, d3, d4, d5, d6]) rfl HAP
  | some r =>
    obtain ⟨rc, rh, ri, rb⟩ := r
    have HFD := Lib.hid hf
    have HRM := Lib.hid (find_mem hf).1
    have HRK := Lib.hid (find_mem hf).2
    have HSL := Lib.hid (HI.out.sees ⟨rc, rh, ri, rb⟩)
    clear hf
    simp only at HRK
    cases rb
    · have HE : Hid (Z = (no 13, s)) := Lib.hid (by rw [HZ.out]; unfold psTrunc; rw [HFD.out]; simp only; rw [if_pos trivial])
      clear HZ
      go_enter Try.func36, Try.ntmps36
      go_wp2_with fail
      rw [← HW1.out]
      refine (HG.out.row a true).mono ?_
      rw [HFD.out]
      rintro e w3 ⟨rfl, h3⟩
      have HG3 := Lib.hid (HG.out.keep0 h3)
      have HC3 := Lib.hid (HC1.out.trans h3 (by simp))
      clear h3
      unfold rowZ rowOk
      dsimp only [Option.getD]
      clear p0 p1 p2 p3 o0 o1 o2 o3 o4 o5 o6 o7 c0 c1 c2 c3 c4 c5 c6 f0 f1 f2 f3 f4 f5 f6 hlt1 hlt2
      have HG4 := Lib.hid (HG3.out.keep0 ((Chg.refl [] w3).alloc (.cells #[.int .i64 rc, .int .i64 rh, .int .i64 ri, .bool false] 51)))
      have HC4 := Lib.hid (HC3.out.alloc (.cells #[.int .i64 rc, .int .i64 rh, .int .i64 ri, .bool false] 51))
      obtain ⟨⟨p0, p1, p2, p3⟩, ⟨o0, o1, o2, o3, o4, o5, o6, o7⟩, ⟨c0, c1, c2, c3, c4, c5, c6⟩, ⟨f0, f1, f2, f3, f4, f5, f6⟩, hlt1, hlt2⟩ := HG4.out.cells
      go_wp2_with fail
      refine (no_any 13 _).mono ?_
      rintro e w9 ⟨rfl, h9⟩
      have HG5 := Lib.hid (HG4.out.keep0 h9)
      clear h9
      unfold ansV no
      obtain ⟨⟨p0, p1, p2, p3⟩, ⟨o0, o1, o2, o3, o4, o5, o6, o7⟩, ⟨c0, c1, c2, c3, c4, c5, c6⟩, ⟨f0, f1, f2, f3, f4, f5, f6⟩, hlt1, hlt2⟩ := HG5.out.cells
      go_wp2
      obtain ⟨HBK, HAP⟩ := Going.done (no 13) s HE.out HG5.out rfl rfl (u0 := .int .i64 13) (u1 := .int .i64 0) (u2 := .bool false) (u3 := .int .i64 0) (u4 := .int .i64 0) rfl rfl rfl rfl rfl
      obtain ⟨⟨d0, d1, d2, d3, d4, d5, d6⟩, _⟩ := ans_cells HBK
      unfold set7 at d0 d1 d2 d3 d4 d5 d6
      exact bodyPost_ret (v := .agg #[.int .i64 13, .int .i64 0, .bool false, .int .i64 0, .int .i64 0, .slice none 0 0, .slice none 0 0]) (by simp [results, Try.results36, go_sem, d0, d1, d2, d3, d4, d5, d6]) rfl HAP
    · by_cases hneg : o.n < 0
      · have HE : Hid (Z = (no 1, s)) := Lib.hid (by rw [HZ.out]; unfold psTrunc; rw [HFD.out]; simp only; rw [if_neg (by simp)]; rw [if_pos hneg])
        clear HZ
        go_enter Try.func36, Try.ntmps36
        go_wp2_with fail
        rw [← HW1.out]
        refine (HG.out.row a true).mono ?_
        rw [HFD.out]
        rintro e w3 ⟨rfl, h3⟩
        have HG3 := Lib.hid (HG.out.keep0 h3)
        have HC3 := Lib.hid (HC1.out.trans h3 (by simp))
        clear h3
        unfold rowZ rowOk
        dsimp only [Option.getD]
        clear p0 p1 p2 p3 o0 o1 o2 o3 o4 o5 o6 o7 c0 c1 c2 c3 c4 c5 c6 f0 f1 f2 f3 f4 f5 f6 hlt1 hlt2
        have HG4 := Lib.hid (HG3.out.keep0 ((Chg.refl [] w3).alloc (.cells #[.int .i64 rc, .int .i64 rh, .int .i64 ri, .bool true] 51)))
        have HC4 := Lib.hid (HC3.out.alloc (.cells #[.int .i64 rc, .int .i64 rh, .int .i64 ri, .bool true] 51))
        obtain ⟨⟨p0, p1, p2, p3⟩, ⟨o0, o1, o2, o3, o4, o5, o6, o7⟩, ⟨c0, c1, c2, c3, c4, c5, c6⟩, ⟨f0, f1, f2, f3, f4, f5, f6⟩, hlt1, hlt2⟩ := HG4.out.cells
        go_wp2_with fail
        refine (no_any 1 _).mono ?_
        rintro e w9 ⟨rfl, h9⟩
        have HG5 := Lib.hid (HG4.out.keep0 h9)
        clear h9
        unfold ansV no
        obtain ⟨⟨p0, p1, p2, p3⟩, ⟨o0, o1, o2, o3, o4, o5, o6, o7⟩, ⟨c0, c1, c2, c3, c4, c5, c6⟩, ⟨f0, f1, f2, f3, f4, f5, f6⟩, hlt1, hlt2⟩ := HG5.out.cells
        go_wp2
        obtain ⟨HBK, HAP⟩ := Going.done (no 1) s HE.out HG5.out rfl rfl (u0 := .int .i64 1) (u1 := .int .i64 0) (u2 := .bool false) (u3 := .int .i64 0) (u4 := .int .i64 0) rfl rfl rfl rfl rfl
        obtain ⟨⟨d0, d1, d2, d3, d4, d5, d6⟩, _⟩ := ans_cells HBK
        unfold set7 at d0 d1 d2 d3 d4 d5 d6
        exact bodyPost_ret (v := .agg #[.int .i64 1, .int .i64 0, .bool false, .int .i64 0, .int .i64 0, .slice none 0 0, .slice none 0 0]) (by simp [results, Try.results36, go_sem, d0, d1, d2, d3, d4, d5, d6]) rfl HAP
      · by_cases hlong : 4096 < o.n
        · have HE : Hid (Z = (no 3, s)) := Lib.hid (by rw [HZ.out]; unfold psTrunc; rw [HFD.out]; simp only; rw [if_neg (by simp)]; rw [if_neg hneg, if_pos hlong])
          clear HZ
          go_enter Try.func36, Try.ntmps36
          go_wp2_with fail
          rw [← HW1.out]
          refine (HG.out.row a true).mono ?_
          rw [HFD.out]
          rintro e w3 ⟨rfl, h3⟩
          have HG3 := Lib.hid (HG.out.keep0 h3)
          have HC3 := Lib.hid (HC1.out.trans h3 (by simp))
          clear h3
          unfold rowZ rowOk
          dsimp only [Option.getD]
          clear p0 p1 p2 p3 o0 o1 o2 o3 o4 o5 o6 o7 c0 c1 c2 c3 c4 c5 c6 f0 f1 f2 f3 f4 f5 f6 hlt1 hlt2
          have HG4 := Lib.hid (HG3.out.keep0 ((Chg.refl [] w3).alloc (.cells #[.int .i64 rc, .int .i64 rh, .int .i64 ri, .bool true] 51)))
          have HC4 := Lib.hid (HC3.out.alloc (.cells #[.int .i64 rc, .int .i64 rh, .int .i64 ri, .bool true] 51))
          obtain ⟨⟨p0, p1, p2, p3⟩, ⟨o0, o1, o2, o3, o4, o5, o6, o7⟩, ⟨c0, c1, c2, c3, c4, c5, c6⟩, ⟨f0, f1, f2, f3, f4, f5, f6⟩, hlt1, hlt2⟩ := HG4.out.cells
          go_wp2_with fail
          refine (no_any 3 _).mono ?_
          rintro e w9 ⟨rfl, h9⟩
          have HG5 := Lib.hid (HG4.out.keep0 h9)
          clear h9
          unfold ansV no
          obtain ⟨⟨p0, p1, p2, p3⟩, ⟨o0, o1, o2, o3, o4, o5, o6, o7⟩, ⟨c0, c1, c2, c3, c4, c5, c6⟩, ⟨f0, f1, f2, f3, f4, f5, f6⟩, hlt1, hlt2⟩ := HG5.out.cells
          go_wp2
          obtain ⟨HBK, HAP⟩ := Going.done (no 3) s HE.out HG5.out rfl rfl (u0 := .int .i64 3) (u1 := .int .i64 0) (u2 := .bool false) (u3 := .int .i64 0) (u4 := .int .i64 0) rfl rfl rfl rfl rfl
          obtain ⟨⟨d0, d1, d2, d3, d4, d5, d6⟩, _⟩ := ans_cells HBK
          unfold set7 at d0 d1 d2 d3 d4 d5 d6
          exact bodyPost_ret (v := .agg #[.int .i64 3, .int .i64 0, .bool false, .int .i64 0, .int .i64 0, .slice none 0 0, .slice none 0 0]) (by simp [results, Try.results36, go_sem, d0, d1, d2, d3, d4, d5, d6]) rfl HAP
        · have hi : ¬ o.n < 0 := by omega
          have hl1 : ¬ 4096 < o.n := by omega
          obtain ⟨l, hl⟩ : ∃ l, l = psSees s ⟨rc, rh, ri, true⟩ := ⟨_, rfl⟩
          have HE : Hid (Z = (no 0, { s with O := upd s.O (a, o.h) (sizedB l o.n.toNat) })) := Lib.hid (by rw [HZ.out]; unfold psTrunc; rw [HFD.out]; simp only; rw [if_neg (by simp)]; rw [if_neg hi, if_neg hl1, hl])
          rw [← hl] at HSL
          have HL := Lib.hid hl
          clear HZ hl hneg hlong
          go_enter Try.func36, Try.ntmps36
          go_wp2_with fail
          rw [← HW1.out]
          refine (HG.out.row a true).mono ?_
          rw [HFD.out]
          rintro e w3 ⟨rfl, h3⟩
          have HG3 := Lib.hid (HG.out.keep0 h3)
          have HC3 := Lib.hid (HC1.out.trans h3 (by simp))
          clear h3
          unfold rowZ rowOk
          dsimp only [Option.getD]
          clear p0 p1 p2 p3 o0 o1 o2 o3 o4 o5 o6 o7 c0 c1 c2 c3 c4 c5 c6 f0 f1 f2 f3 f4 f5 f6 hlt1 hlt2
          have HG4 := Lib.hid (HG3.out.keep0 ((Chg.refl [] w3).alloc (.cells #[.int .i64 rc, .int .i64 rh, .int .i64 ri, .bool true] 51)))
          have HC4 := Lib.hid (HC3.out.alloc (.cells #[.int .i64 rc, .int .i64 rh, .int .i64 ri, .bool true] 51))
          obtain ⟨⟨p0, p1, p2, p3⟩, ⟨o0, o1, o2, o3, o4, o5, o6, o7⟩, ⟨c0, c1, c2, c3, c4, c5, c6⟩, ⟨f0, f1, f2, f3, f4, f5, f6⟩, hlt1, hlt2⟩ := HG4.out.cells
          have CS := Lib.hid (sees_any HG4.out.at_ HI.out ⟨rc, rh, ri, true⟩ HRM.out)
          go_wp2_with fail
          refine CS.out.mono ?_
          rintro e w5 ⟨vs, rfl, hbs, hls, hc5⟩
          rw [← HL.out] at hbs hls
          have HG5 := Lib.hid (HG4.out.keep0 hc5)
          have HC5 := Lib.hid (HC4.out.trans hc5 (by simp))
          have HBS := Lib.hid hbs
          obtain ⟨asl, cs, rfl⟩ := hbs.slice
          obtain ⟨hcap1, hcap2⟩ := bytes_cap HBS.out
          unfold maxLen at hcap2
          have HLS := Lib.hid hls
          clear hbs hls hc5 CS
          clear p0 p1 p2 p3 o0 o1 o2 o3 o4 o5 o6 o7 c0 c1 c2 c3 c4 c5 c6 f0 f1 f2 f3 f4 f5 f6 hlt1 hlt2
          obtain ⟨⟨p0, p1, p2, p3⟩, ⟨o0, o1, o2, o3, o4, o5, o6, o7⟩, ⟨c0, c1, c2, c3, c4, c5, c6⟩, ⟨f0, f1, f2, f3, f4, f5, f6⟩, hlt1, hlt2⟩ := HG5.out.cells
          have HOW : Hid (OwnOk s.O) := Lib.hid HI.out.ownOk
          have HPK : Hid (okP (a, o.h)) := Lib.hid (by have := HI.out.good.rng _ HRM.out; simp only at this; have h5 := HRK.out; exact okP_of (by omega) (by omega) (by omega) (by omega))
          have hmn : min (l.length : Int) o.n = ((min l.length o.n.toNat : Nat) : Int) := by omega
          have CZ := Lib.hid (sized_any _ _ o.n.toNat w5.drew (bytes_take (HBS.out.chg0 ((Chg.refl [] w5).drew)) (Nat.min_le_left l.length o.n.toNat)) (by omega))
          have htn : ((o.n.toNat : Nat) : Int) = o.n := by omega
          rw [htn] at CZ
          have hcm : min l.length o.n.toNat ≤ cs := Nat.le_trans (Nat.min_le_left _ _) hcap1
          clear htn
          go_wp2
          refine wp_region_L [(18, fun w' => w'.cell? ⟨c.p, 3, none⟩ = some (.map (some c.o))), (18, fun w' => w'.cell? ⟨w.heap.size, 3, none⟩ = some (.int .i64 o.h)), (17, fun w' => w'.cell? ⟨w.heap.size, 5, none⟩ = some (.int .i64 o.n))] (by kernel_rfl) ?_ (fun hHeld => ?_)
          · exact (HoldC.cons (p3) (HoldC.cons (o3) (HoldC.cons (o5) HoldC.nil)))
          refine wpAnyL_take (i := 0) (oi := _) (v := ?_) rfl (by kernel_rfl) (by kernel_rfl) (by kernel_rfl) (by kernel_rfl) (by kernel_rfl) (fun _ _ _ h => h) (Or.inl ⟨by rfl, ?_⟩) (by assumption) (fun hNew => ?_)
          rotate_left
          · intro w _
            go_simp
            try with_reducible rfl
          clear hHeld
          have hHeld := hNew
          clear hNew
          try simp only [List.getElem_toArray, List.getElem_cons_succ, List.getElem_cons_zero, Act.put, List.setIfInBounds_toArray, List.set_cons_zero, List.set_cons_succ]
          refine wpAnyL_take (i := 1) (oi := _) (v := ?_) rfl (by kernel_rfl) (by kernel_rfl) (by kernel_rfl) (by kernel_rfl) (by kernel_rfl) (fun _ _ _ h => h) (Or.inl ⟨by rfl, ?_⟩) (by assumption) (fun hNew => ?_)
          rotate_left
          · intro w _
            go_simp
            try with_reducible rfl
          clear hHeld
          have hHeld := hNew
          clear hNew
          try simp only [List.getElem_toArray, List.getElem_cons_succ, List.getElem_cons_zero, Act.put, List.setIfInBounds_toArray, List.set_cons_zero, List.set_cons_succ]
          refine wpAnyL_take (i := 2) (oi := _) (v := ?_) rfl (by kernel_rfl) (by kernel_rfl) (by kernel_rfl) (by kernel_rfl) (by kernel_rfl) (fun _ _ _ h => h) (Or.inl ⟨by rfl, ?_⟩) (by assumption) (fun hNew => ?_)
          rotate_left
          · intro w _
            go_simp
            try with_reducible rfl
          clear hHeld
          have hHeld := hNew
          clear hNew
          try simp only [List.getElem_toArray, List.getElem_cons_succ, List.getElem_cons_zero, Act.put, List.setIfInBounds_toArray, List.set_cons_zero, List.set_cons_succ]
          refine wpAnyL_load 0 (i := 3) (oi := _) (v := ?_) rfl rfl (by kernel_rfl) (by kernel_rfl) (by kernel_rfl) (by kernel_rfl) (by kernel_rfl) (by kernel_rfl) (fun _ _ _ h => h) (Or.inl ⟨by rfl, ?_⟩) (by assumption) (fun hNew => ?_)
          rotate_left
          · intro w hSw
            (try dsimp only at hSw)
            go_simp
            try with_reducible rfl
          clear hHeld
          have hHeld := hNew
          clear hNew
          try simp only [List.getElem_toArray, List.getElem_cons_succ, List.getElem_cons_zero, Act.put, List.setIfInBounds_toArray, List.set_cons_zero, List.set_cons_succ]
          refine wpAnyL_take (i := 4) (oi := _) (v := ?_) rfl (by kernel_rfl) (by kernel_rfl) (by kernel_rfl) (by kernel_rfl) (by kernel_rfl) (fun _ _ _ h => h) (Or.inl ⟨by rfl, ?_⟩) (by assumption) (fun hNew => ?_)
          rotate_left
          · intro w _
            go_simp
            try with_reducible rfl
          clear hHeld
          have hHeld := hNew
          clear hNew
          try simp only [List.getElem_toArray, List.getElem_cons_succ, List.getElem_cons_zero, Act.put, List.setIfInBounds_toArray, List.set_cons_zero, List.set_cons_succ]
          refine wpAnyL_take (i := 5) (oi := _) (v := ?_) rfl (by kernel_rfl) (by kernel_rfl) (by kernel_rfl) (by kernel_rfl) (by kernel_rfl) (fun _ _ _ h => h) (Or.inl ⟨by rfl, ?_⟩) (by assumption) (fun hNew => ?_)
          rotate_left
          · intro w _
            go_simp
            try with_reducible rfl
          clear hHeld
          have hHeld := hNew
          clear hNew
          try simp only [List.getElem_toArray, List.getElem_cons_succ, List.getElem_cons_zero, Act.put, List.setIfInBounds_toArray, List.set_cons_zero, List.set_cons_succ]
          refine wpAnyL_load 1 (i := 6) (oi := _) (v := ?_) rfl rfl (by kernel_rfl) (by kernel_rfl) (by kernel_rfl) (by kernel_rfl) (by kernel_rfl) (by kernel_rfl) (fun _ _ _ h => h) (Or.inl ⟨by rfl, ?_⟩) (by assumption) (fun hNew => ?_)
          rotate_left
          · intro w hSw
            (try dsimp only at hSw)
            go_simp
            try with_reducible rfl
          clear hHeld
          have hHeld := hNew
          clear hNew
          try simp only [List.getElem_toArray, List.getElem_cons_succ, List.getElem_cons_zero, Act.put, List.setIfInBounds_toArray, List.set_cons_zero, List.set_cons_succ]
          refine wpAnyL_take (i := 7) (oi := _) (v := ?_) rfl (by kernel_rfl) (by kernel_rfl) (by kernel_rfl) (by kernel_rfl) (by kernel_rfl) (fun _ _ _ h => h) (Or.inl ⟨by rfl, ?_⟩) (by assumption) (fun hNew => ?_)
          rotate_left
          · intro w _
            go_simp
            try with_reducible rfl
          clear hHeld
          have hHeld := hNew
          clear hNew
          try simp only [List.getElem_toArray, List.getElem_cons_succ, List.getElem_cons_zero, Act.put, List.setIfInBounds_toArray, List.set_cons_zero, List.set_cons_succ]
          refine wpAnyL_take (i := 8) (oi := _) (v := ?_) rfl (by kernel_rfl) (by kernel_rfl) (by kernel_rfl) (by kernel_rfl) (by kernel_rfl) (fun _ _ _ h => h) (Or.inl ⟨by rfl, ?_⟩) (by assumption) (fun hNew => ?_)
          rotate_left
          · intro w _
            go_simp
            try with_reducible rfl
          clear hHeld
          have hHeld := hNew
          clear hNew
          try simp only [List.getElem_toArray, List.getElem_cons_succ, List.getElem_cons_zero, Act.put, List.setIfInBounds_toArray, List.set_cons_zero, List.set_cons_succ]
          refine wpAnyL_take (i := 9) (oi := _) (v := ?_) rfl (by kernel_rfl) (by kernel_rfl) (by kernel_rfl) (by kernel_rfl) (by kernel_rfl) (fun _ _ _ h => h) (Or.inl ⟨by rfl, ?_⟩) (by assumption) (fun hNew => ?_)
          rotate_left
          · intro w _
            go_simp
            try with_reducible rfl
          clear hHeld
          have hHeld := hNew
          clear hNew
          try simp only [List.getElem_toArray, List.getElem_cons_succ, List.getElem_cons_zero, Act.put, List.setIfInBounds_toArray, List.set_cons_zero, List.set_cons_succ]
          refine wpAnyL_take (i := 10) (oi := _) (v := ?_) rfl (by kernel_rfl) (by kernel_rfl) (by kernel_rfl) (by kernel_rfl) (by kernel_rfl) (fun _ _ _ h => h) (Or.inl ⟨by rfl, ?_⟩) (by assumption) (fun hNew => ?_)
          rotate_left
          · intro w _
            go_simp
            try with_reducible rfl
          clear hHeld
          have hHeld := hNew
          clear hNew
          try simp only [List.getElem_toArray, List.getElem_cons_succ, List.getElem_cons_zero, Act.put, List.setIfInBounds_toArray, List.set_cons_zero, List.set_cons_succ]
          refine wpAnyL_take (i := 11) (oi := _) (v := ?_) rfl (by kernel_rfl) (by kernel_rfl) (by kernel_rfl) (by kernel_rfl) (by kernel_rfl) (fun _ _ _ h => h) (Or.inl ⟨by rfl, ?_⟩) (by assumption) (fun hNew => ?_)
          rotate_left
          · intro w _
            go_simp
            try with_reducible rfl
          clear hHeld
          have hHeld := hNew
          clear hNew
          try simp only [List.getElem_toArray, List.getElem_cons_succ, List.getElem_cons_zero, Act.put, List.setIfInBounds_toArray, List.set_cons_zero, List.set_cons_succ]
          refine wpAnyL_load 2 (i := 12) (oi := _) (v := ?_) rfl rfl (by kernel_rfl) (by kernel_rfl) (by kernel_rfl) (by kernel_rfl) (by kernel_rfl) (by kernel_rfl) (fun _ _ _ h => h) (Or.inl ⟨by rfl, ?_⟩) (by assumption) (fun hNew => ?_)
          rotate_left
          · intro w hSw
            (try dsimp only at hSw)
            go_simp
            try with_reducible rfl
          clear hHeld
          have hHeld := hNew
          clear hNew
          try simp only [List.getElem_toArray, List.getElem_cons_succ, List.getElem_cons_zero, Act.put, List.setIfInBounds_toArray, List.set_cons_zero, List.set_cons_succ]
          refine wpAnyL_take (i := 13) (oi := _) (v := ?_) rfl (by kernel_rfl) (by kernel_rfl) (by kernel_rfl) (by kernel_rfl) (by kernel_rfl) (fun _ _ _ h => h) (Or.inl ⟨by rfl, ?_⟩) (by assumption) (fun hNew => ?_)
          rotate_left
          · intro w _
            go_simp
            try with_reducible rfl
          clear hHeld
          have hHeld := hNew
          clear hNew
          try simp only [List.getElem_toArray, List.getElem_cons_succ, List.getElem_cons_zero, Act.put, List.setIfInBounds_toArray, List.set_cons_zero, List.set_cons_succ]
          refine wpAnyL_take (i := 14) (oi := _) (v := ?_) rfl (by kernel_rfl) (by kernel_rfl) (by kernel_rfl) (by kernel_rfl) (by kernel_rfl) (fun _ _ _ h => h) (Or.inl ⟨by rfl, ?_⟩) (by assumption) (fun hNew => ?_)
          rotate_left
          · intro w _
            go_simp
            try with_reducible rfl
          clear hHeld
          have hHeld := hNew
          clear hNew
          try simp only [List.getElem_toArray, List.getElem_cons_succ, List.getElem_cons_zero, Act.put, List.setIfInBounds_toArray, List.set_cons_zero, List.set_cons_succ]
          refine wpAnyL_take (i := 15) (oi := _) (v := ?_) rfl (by kernel_rfl) (by kernel_rfl) (by kernel_rfl) (by kernel_rfl) (by kernel_rfl) (fun _ _ _ h => h) (Or.inl ⟨by rfl, ?_⟩) (by assumption) (fun hNew => ?_)
          rotate_left
          · intro w _
            go_simp
            try with_reducible rfl
          clear hHeld
          have hHeld := hNew
          clear hNew
          try simp only [List.getElem_toArray, List.getElem_cons_succ, List.getElem_cons_zero, Act.put, List.setIfInBounds_toArray, List.set_cons_zero, List.set_cons_succ]
          refine wpAnyL_load 2 (i := 16) (oi := _) (v := ?_) rfl rfl (by kernel_rfl) (by kernel_rfl) (by kernel_rfl) (by kernel_rfl) (by kernel_rfl) (by kernel_rfl) (fun _ _ _ h => h) (Or.inl ⟨by rfl, ?_⟩) (by assumption) (fun hNew => ?_)
          rotate_left
          · intro w hSw
            (try dsimp only at hSw)
            go_simp
            try with_reducible rfl
          clear hHeld
          have hHeld := hNew
          clear hNew
          try simp only [List.getElem_toArray, List.getElem_cons_succ, List.getElem_cons_zero, Act.put, List.setIfInBounds_toArray, List.set_cons_zero, List.set_cons_succ]
          refine wpAnyL_ready (rs := [17]) (by kernel_rfl) (by simp) ?_
          refine AllReadyL.cons (o := _) rfl (fun K hK => ?_) AllReadyL.nil
          try simp only [List.getElem_toArray, List.getElem_cons_succ, List.getElem_cons_zero]
          go_simp
          refine CZ.out.mono ?_
          rintro e w6 ⟨N, rfl, hN, hN6, hc6⟩
          rw [sized_take] at hN6
          have HG6 := Lib.hid (HG5.out.drew.keep0 hc6)
          have HR6 := Lib.hid (HG5.out.drew.cons hc6 N ⟨hN, blk_lt hN6⟩)
          have HFR : Hid (Free w6 (N :: w.heap.size :: (w.heap.size + 1) :: X) (.slice (some ⟨N, 0, none⟩) o.n.toNat o.n.toNat) (sizedB l o.n.toNat)) := Lib.hid (free_block hN6 (by rw [sized_len]; omega) _ (by rw [sized_len]))
          clear hN hN6 hc6 CZ
          clear p0 p1 p2 p3 o0 o1 o2 o3 o4 o5 o6 o7 c0 c1 c2 c3 c4 c5 c6 f0 f1 f2 f3 f4 f5 f6 hlt1 hlt2
          obtain ⟨⟨p0, p1, p2, p3⟩, ⟨o0, o1, o2, o3, o4, o5, o6, o7⟩, ⟨c0, c1, c2, c3, c4, c5, c6⟩, ⟨f0, f1, f2, f3, f4, f5, f6⟩, hlt1, hlt2⟩ := HG6.out.cells
          clear hHeld
          refine hK.out _ _ ?_ (fun hHeld => ?_)
          · exact (HoldC.cons (p3) (HoldC.cons (o3) (HoldC.past (by kernel_rfl) HoldC.nil)))
          clear hK K
          try simp only [List.getElem_toArray, List.getElem_cons_succ, List.getElem_cons_zero, Act.put, List.setIfInBounds_toArray, List.set_cons_zero, List.set_cons_succ]
          refine wpAnyL_ready (rs := [18]) (by kernel_rfl) (by simp) ?_
          refine AllReadyL.cons (o := _) rfl (fun K hK => ?_) AllReadyL.nil
          try simp only [List.getElem_toArray, List.getElem_cons_succ, List.getElem_cons_zero]
          rw [if_pos (by rfl)]
          refine wp_oset _ (.tmp 37) (.tmp 41) (.tmp 51) (by rfl) c (by rfl) HR6.out HOW.out (a, o.h) (by rfl) HPK.out _ (by rfl) _ HFR.out ?_
          intro w8 h8 hs8
          have HG8 := Lib.hid (HG6.out.step (PAt.less h8 (fun x hx => List.mem_cons_of_mem _ hx)))
          clear h8 hs8 HFR
          clear p0 p1 p2 p3 o0 o1 o2 o3 o4 o5 o6 o7 c0 c1 c2 c3 c4 c5 c6 f0 f1 f2 f3 f4 f5 f6 hlt1 hlt2
          obtain ⟨⟨p0, p1, p2, p3⟩, ⟨o0, o1, o2, o3, o4, o5, o6, o7⟩, ⟨c0, c1, c2, c3, c4, c5, c6⟩, ⟨f0, f1, f2, f3, f4, f5, f6⟩, hlt1, hlt2⟩ := HG8.out.cells
          clear hHeld
          refine hK.out _ _ ?_ (fun hHeld => ?_)
          · exact (HoldC.past (by kernel_rfl) (HoldC.past (by kernel_rfl) (HoldC.past (by kernel_rfl) HoldC.nil)))
          clear hK K
          try simp only [List.getElem_toArray, List.getElem_cons_succ, List.getElem_cons_zero, Act.put, List.setIfInBounds_toArray, List.set_cons_zero, List.set_cons_succ]
          refine wpAnyL_done (by kernel_rfl) ?_ _
          clear hHeld
          go_wp2
          obtain ⟨HBK, HAP⟩ := Going.done (no 0) { s with O := upd s.O (a, o.h) (sizedB l o.n.toNat) } HE.out HG8.out rfl rfl (u0 := .int .i64 0) (u1 := .int .i64 0) (u2 := .bool false) (u3 := .int .i64 0) (u4 := .int .i64 0) rfl rfl rfl rfl rfl
          obtain ⟨⟨d0, d1, d2, d3, d4, d5, d6⟩, _⟩ := ans_cells HBK
          unfold set7 at d0 d1 d2 d3 d4 d5 d6
          exact bodyPost_ret (v := .agg #[.int .i64 0, .int .i64 0, .bool false, .int .i64 0, .int .i64 0, .slice none 0 0, .slice none 0 0]) (by simp [results, Try.results36, go_sem, d0, d1, d2, d3, d4, d5, d6]) rfl HAP
set_option maxHeartbeats 4000000 in
set_option maxRecDepth 100000 in
theorem psync_any (h : PAt X w0 w c S s) (hI : PInv s) (a : Int) (o : Op) (v : Value) (hv : BytesAt w v o.b) : Calls Try.prog 37 #[.pointer (some ⟨c.p, 0, none⟩), .int .i64 a, opV o v] w (APost X w0 w c S (psSync s a o)) := by
  obtain ⟨ab, cb, rfl⟩ := hv.slice
  have HB := begun h o (.slice ab o.b.length cb)
  obtain ⟨w1, hw1⟩ : ∃ w1, w1 = (w.alloc (.cells #[.int .i64 o.d, .string (NM.mk o.p), .string (NM.mk o.q), .int .i64 o.h, .int .i64 o.i, .int .i64 o.n, .bool o.w, .slice ab o.b.length cb] 33)).alloc (.cells #[.int .i64 0, .int .i64 0, .bool false, .int .i64 0, .int .i64 0, .slice none 0 0, .slice none 0 0] 30) := ⟨_, rfl⟩
  rw [← hw1] at HB
  have HG := Lib.hid HB.go
  have HW1 := Lib.hid hw1
  have HI := Lib.hid hI
  obtain ⟨⟨p0, p1, p2, p3⟩, ⟨o0, o1, o2, o3, o4, o5, o6, o7⟩, ⟨c0, c1, c2, c3, c4, c5, c6⟩, ⟨f0, f1, f2, f3, f4, f5, f6⟩, hlt1, hlt2⟩ := HG.out.cells
  obtain ⟨Z, hZ⟩ : ∃ Z, Z = psSync s a o := ⟨_, rfl⟩
  rw [← hZ]
  have HZ := Lib.hid hZ
  have HC1 := Lib.hid HB.chg
  have HBV := Lib.hid hv
  clear hZ h HB hI hw1 hv
  unfold opV opC
  cases hf : K.find s.K a o.h with
  | none =>
    have HFD := Lib.hid hf
    clear hf
    have HE : Hid (Z = (no 13, s)) := Lib.hid (by rw [HZ.out]; unfold psSync; rw [HFD.out])
    clear HZ
    go_enter Try.func37, Try.ntmps37
    go_wp2_with fail
    rw [← HW1.out]
    refine (HG.out.row a false).mono ?_
    rw [HFD.out]
    rintro e w3 ⟨rfl, h3⟩
    have HG3 := Lib.hid (HG.out.keep0 h3)
    have HC3 := Lib.hid (HC1.out.trans h3 (by simp))
    clear h3
    unfold rowZ rowOk
    dsimp only [Option.getD]
    clear p0 p1 p2 p3 o0 o1 o2 o3 o4 o5 o6 o7 c0 c1 c2 c3 c4 c5 c6 f0 f1 f2 f3 f4 f5 f6 hlt1 hlt2
    have HG4 := Lib.hid (HG3.out.keep0 ((Chg.refl [] w3).alloc (.cells #[.int .i64 0, .int .i64 0, .int .i64 0, .bool false] 51)))
    go_wp2_with fail
    refine (no_any 13 _).mono ?_
    rintro e w9 ⟨rfl, h9⟩
    have HG5 := Lib.hid (HG4.out.keep0 h9)
    clear h9
    unfold ansV no
    obtain ⟨⟨p0, p1, p2, p3⟩, ⟨o0, o1, o2, o3, o4, o5, o6, o7⟩, ⟨c0, c1, c2, c3, c4, c5, c6⟩, ⟨f0, f1, f2, f3, f4, f5, f6⟩, hlt1, hlt2⟩ := HG5.out.cells
    go_wp2
    obtain ⟨HBK, HAP⟩ := Going.done (no 13) s HE.out HG5.out rfl rfl (u0 := .int .i64 13) (u1 := .int .i64 0) (u2 := .bool false) (u3 := .int .i64 0) (u4 := .int .i64 0) rfl rfl rfl rfl rfl
    obtain ⟨⟨d0, d1, d2, d3, d4, d5, d6⟩, _⟩ := ans_cells HBK
    unfold set7 at d0 d1 d2 d3 d4 d5 d6
    exact bodyPost_ret (v := .agg #[.int .i64 13, .int .i64 0, .bool false, .int .i64 0, .int .i64 0, .slice none 0 0, .slice none 0 0]) (by simp [results, Try.results37, go_sem, d0, d1, d2, d3, d4, d5, d6]) rfl HAP
  | some r =>
    obtain ⟨rc, rh, ri, rb⟩ := r
    have HFD := Lib.hid hf
    have HRM := Lib.hid (find_mem hf).1
    have HRK := Lib.hid (find_mem hf).2
    have HSL := Lib.hid (HI.out.sees ⟨rc, rh, ri, rb⟩)
    clear hf
    simp only at HRK
    cases rb
    · by_cases hd : o.d = 13
      · have hdd : (o.d == 13) = true := by simpa using hd
        have HE : Hid (Z = (no 0, { s with F := s.F, O := del s.O (a, o.h), K := K.closeL s.K (some ⟨rc, rh, ri, false⟩) })) := Lib.hid (by rw [HZ.out]; unfold psSync; rw [HFD.out]; simp [hd])
        clear HZ hd
        have HPK : Hid (okP (a, o.h)) := Lib.hid (by have := HI.out.good.rng _ HRM.out; simp only at this; have h5 := HRK.out; exact okP_of (by omega) (by omega) (by omega) (by omega))
        go_enter Try.func37, Try.ntmps37
        go_wp2_with fail
        rw [← HW1.out]
        refine (HG.out.row a false).mono ?_
        rw [HFD.out]
        rintro e w3 ⟨rfl, h3⟩
        have HG3 := Lib.hid (HG.out.keep0 h3)
        have HC3 := Lib.hid (HC1.out.trans h3 (by simp))
        clear h3
        unfold rowZ rowOk
        dsimp only [Option.getD]
        clear p0 p1 p2 p3 o0 o1 o2 o3 o4 o5 o6 o7 c0 c1 c2 c3 c4 c5 c6 f0 f1 f2 f3 f4 f5 f6 hlt1 hlt2
        have HG4 := Lib.hid (HG3.out.keep0 ((Chg.refl [] w3).alloc (.cells #[.int .i64 rc, .int .i64 rh, .int .i64 ri, .bool false] 51)))
        have HC4 := Lib.hid (HC3.out.alloc (.cells #[.int .i64 rc, .int .i64 rh, .int .i64 ri, .bool false] 51))
        obtain ⟨⟨p0, p1, p2, p3⟩, ⟨o0, o1, o2, o3, o4, o5, o6, o7⟩, ⟨c0, c1, c2, c3, c4, c5, c6⟩, ⟨f0, f1, f2, f3, f4, f5, f6⟩, hlt1, hlt2⟩ := HG4.out.cells
        go_wp2
        refine wp_region_L [(8, fun w' => w'.cell? ⟨c.p, 3, none⟩ = some (.map (some c.o))), (8, fun w' => w'.cell? ⟨w.heap.size, 3, none⟩ = some (.int .i64 o.h))] (by kernel_rfl) ?_ (fun hHeld => ?_)
        · exact (HoldC.cons (p3) (HoldC.cons (o3) HoldC.nil))
        refine wpAnyL_take (i := 0) (oi := _) (v := ?_) rfl (by kernel_rfl) (by kernel_rfl) (by kernel_rfl) (by kernel_rfl) (by kernel_rfl) (fun _ _ _ h => h) (Or.inl ⟨by rfl, ?_⟩) (by assumption) (fun hNew => ?_)
        rotate_left
        · intro w _
          go_simp
          try with_reducible rfl
        clear hHeld
        have hHeld := hNew
        clear hNew
        try simp only [List.getElem_toArray, List.getElem_cons_succ, List.getElem_cons_zero, Act.put, List.setIfInBounds_toArray, List.set_cons_zero, List.set_cons_succ]
        refine wpAnyL_take (i := 1) (oi := _) (v := ?_) rfl (by kernel_rfl) (by kernel_rfl) (by kernel_rfl) (by kernel_rfl) (by kernel_rfl) (fun _ _ _ h => h) (Or.inl ⟨by rfl, ?_⟩) (by assumption) (fun hNew => ?_)
        rotate_left
        · intro w _
          go_simp
          try with_reducible rfl
        clear hHeld
        have hHeld := hNew
        clear hNew
        try simp only [List.getElem_toArray, List.getElem_cons_succ, List.getElem_cons_zero, Act.put, List.setIfInBounds_toArray, List.set_cons_zero, List.set_cons_succ]
        refine wpAnyL_take (i := 2) (oi := _) (v := ?_) rfl (by kernel_rfl) (by kernel_rfl) (by kernel_rfl) (by kernel_rfl) (by kernel_rfl) (fun _ _ _ h => h) (Or.inl ⟨by rfl, ?_⟩) (by assumption) (fun hNew => ?_)
        rotate_left
        · intro w _
          go_simp
          try with_reducible rfl
        clear hHeld
        have hHeld := hNew
        clear hNew
        try simp only [List.getElem_toArray, List.getElem_cons_succ, List.getElem_cons_zero, Act.put, List.setIfInBounds_toArray, List.set_cons_zero, List.set_cons_succ]
        refine wpAnyL_load 0 (i := 3) (oi := _) (v := ?_) rfl rfl (by kernel_rfl) (by kernel_rfl) (by kernel_rfl) (by kernel_rfl) (by kernel_rfl) (by kernel_rfl) (fun _ _ _ h => h) (Or.inl ⟨by rfl, ?_⟩) (by assumption) (fun hNew => ?_)
        rotate_left
        · intro w hSw
          (try dsimp only at hSw)
          go_simp
          try with_reducible rfl
        clear hHeld
        have hHeld := hNew
        clear hNew
        try simp only [List.getElem_toArray, List.getElem_cons_succ, List.getElem_cons_zero, Act.put, List.setIfInBounds_toArray, List.set_cons_zero, List.set_cons_succ]
        refine wpAnyL_take (i := 4) (oi := _) (v := ?_) rfl (by kernel_rfl) (by kernel_rfl) (by kernel_rfl) (by kernel_rfl) (by kernel_rfl) (fun _ _ _ h => h) (Or.inl ⟨by rfl, ?_⟩) (by assumption) (fun hNew => ?_)
        rotate_left
        · intro w _
          go_simp
          try with_reducible rfl
        clear hHeld
        have hHeld := hNew
        clear hNew
        try simp only [List.getElem_toArray, List.getElem_cons_succ, List.getElem_cons_zero, Act.put, List.setIfInBounds_toArray, List.set_cons_zero, List.set_cons_succ]
        refine wpAnyL_take (i := 5) (oi := _) (v := ?_) rfl (by kernel_rfl) (by kernel_rfl) (by kernel_rfl) (by kernel_rfl) (by kernel_rfl) (fun _ _ _ h => h) (Or.inl ⟨by rfl, ?_⟩) (by assumption) (fun hNew => ?_)
        rotate_left
        · intro w _
          go_simp
          try with_reducible rfl
        clear hHeld
        have hHeld := hNew
        clear hNew
        try simp only [List.getElem_toArray, List.getElem_cons_succ, List.getElem_cons_zero, Act.put, List.setIfInBounds_toArray, List.set_cons_zero, List.set_cons_succ]
        refine wpAnyL_load 1 (i := 6) (oi := _) (v := ?_) rfl rfl (by kernel_rfl) (by kernel_rfl) (by kernel_rfl) (by kernel_rfl) (by kernel_rfl) (by kernel_rfl) (fun _ _ _ h => h) (Or.inl ⟨by rfl, ?_⟩) (by assumption) (fun hNew => ?_)
        rotate_left
        · intro w hSw
          (try dsimp only at hSw)
          go_simp
          try with_reducible rfl
        clear hHeld
        have hHeld := hNew
        clear hNew
        try simp only [List.getElem_toArray, List.getElem_cons_succ, List.getElem_cons_zero, Act.put, List.setIfInBounds_toArray, List.set_cons_zero, List.set_cons_succ]
        refine wpAnyL_take (i := 7) (oi := _) (v := ?_) rfl (by kernel_rfl) (by kernel_rfl) (by kernel_rfl) (by kernel_rfl) (by kernel_rfl) (fun _ _ _ h => h) (Or.inl ⟨by rfl, ?_⟩) (by assumption) (fun hNew => ?_)
        rotate_left
        · intro w _
          go_simp
          try with_reducible rfl
        clear hHeld
        have hHeld := hNew
        clear hNew
        try simp only [List.getElem_toArray, List.getElem_cons_succ, List.getElem_cons_zero, Act.put, List.setIfInBounds_toArray, List.set_cons_zero, List.set_cons_succ]
        refine wpAnyL_ready (rs := [8]) (by kernel_rfl) (by simp) ?_
        refine AllReadyL.cons (o := _) rfl (fun K hK => ?_) AllReadyL.nil
        try simp only [List.getElem_toArray, List.getElem_cons_succ, List.getElem_cons_zero]
        rw [if_pos (by rfl)]
        refine wp_odel _ (.tmp 37) (.tmp 41) (by rfl) c (by rfl) HG4.out.drew.at_ (a, o.h) (by rfl) HPK.out ?_
        intro w10 h10 hs10
        have HG10 := Lib.hid (HG4.out.drew.step h10)
        clear h10 hs10
        clear p0 p1 p2 p3 o0 o1 o2 o3 o4 o5 o6 o7 c0 c1 c2 c3 c4 c5 c6 f0 f1 f2 f3 f4 f5 f6 hlt1 hlt2
        obtain ⟨⟨p0, p1, p2, p3⟩, ⟨o0, o1, o2, o3, o4, o5, o6, o7⟩, ⟨c0, c1, c2, c3, c4, c5, c6⟩, ⟨f0, f1, f2, f3, f4, f5, f6⟩, hlt1, hlt2⟩ := HG10.out.cells
        clear hHeld
        refine hK.out _ _ ?_ (fun hHeld => ?_)
        · exact (HoldC.past (by kernel_rfl) (HoldC.past (by kernel_rfl) HoldC.nil))
        clear hK K
        try simp only [List.getElem_toArray, List.getElem_cons_succ, List.getElem_cons_zero, Act.put, List.setIfInBounds_toArray, List.set_cons_zero, List.set_cons_succ]
        refine wpAnyL_done (by kernel_rfl) ?_ _
        clear hHeld
        go_wp2
        refine wp_region_L [(7, fun w' => w'.cell? ⟨c.p, 1, none⟩ = some (.pointer (some ⟨c.k, 0, none⟩))), (7, fun w' => w'.cell? ⟨w.heap.size, 3, none⟩ = some (.int .i64 o.h))] (by kernel_rfl) ?_ (fun hHeld => ?_)
        · exact (HoldC.cons (p1) (HoldC.cons (o3) HoldC.nil))
        refine wpAnyL_take (i := 0) (oi := _) (v := ?_) rfl (by kernel_rfl) (by kernel_rfl) (by kernel_rfl) (by kernel_rfl) (by kernel_rfl) (fun _ _ _ h => h) (Or.inl ⟨by rfl, ?_⟩) (by assumption) (fun hNew => ?_)
        rotate_left
        · intro w _
          go_simp
          try with_reducible rfl
        clear hHeld
        have hHeld := hNew
        clear hNew
        try simp only [List.getElem_toArray, List.getElem_cons_succ, List.getElem_cons_zero, Act.put, List.setIfInBounds_toArray, List.set_cons_zero, List.set_cons_succ]
        refine wpAnyL_take (i := 1) (oi := _) (v := ?_) rfl (by kernel_rfl) (by kernel_rfl) (by kernel_rfl) (by kernel_rfl) (by kernel_rfl) (fun _ _ _ h => h) (Or.inl ⟨by rfl, ?_⟩) (by assumption) (fun hNew => ?_)
        rotate_left
        · intro w _
          go_simp
          try with_reducible rfl
        clear hHeld
        have hHeld := hNew
        clear hNew
        try simp only [List.getElem_toArray, List.getElem_cons_succ, List.getElem_cons_zero, Act.put, List.setIfInBounds_toArray, List.set_cons_zero, List.set_cons_succ]
        refine wpAnyL_take (i := 2) (oi := _) (v := ?_) rfl (by kernel_rfl) (by kernel_rfl) (by kernel_rfl) (by kernel_rfl) (by kernel_rfl) (fun _ _ _ h => h) (Or.inl ⟨by rfl, ?_⟩) (by assumption) (fun hNew => ?_)
        rotate_left
        · intro w _
          go_simp
          try with_reducible rfl
        clear hHeld
        have hHeld := hNew
        clear hNew
        try simp only [List.getElem_toArray, List.getElem_cons_succ, List.getElem_cons_zero, Act.put, List.setIfInBounds_toArray, List.set_cons_zero, List.set_cons_succ]
        refine wpAnyL_load 0 (i := 3) (oi := _) (v := ?_) rfl rfl (by kernel_rfl) (by kernel_rfl) (by kernel_rfl) (by kernel_rfl) (by kernel_rfl) (by kernel_rfl) (fun _ _ _ h => h) (Or.inl ⟨by rfl, ?_⟩) (by assumption) (fun hNew => ?_)
        rotate_left
        · intro w hSw
          (try dsimp only at hSw)
          go_simp
          try with_reducible rfl
        clear hHeld
        have hHeld := hNew
        clear hNew
        try simp only [List.getElem_toArray, List.getElem_cons_succ, List.getElem_cons_zero, Act.put, List.setIfInBounds_toArray, List.set_cons_zero, List.set_cons_succ]
        refine wpAnyL_take (i := 4) (oi := _) (v := ?_) rfl (by kernel_rfl) (by kernel_rfl) (by kernel_rfl) (by kernel_rfl) (by kernel_rfl) (fun _ _ _ h => h) (Or.inl ⟨by rfl, ?_⟩) (by assumption) (fun hNew => ?_)
        rotate_left
        · intro w _
          go_simp
          try with_reducible rfl
        clear hHeld
        have hHeld := hNew
        clear hNew
        try simp only [List.getElem_toArray, List.getElem_cons_succ, List.getElem_cons_zero, Act.put, List.setIfInBounds_toArray, List.set_cons_zero, List.set_cons_succ]
        refine wpAnyL_take (i := 5) (oi := _) (v := ?_) rfl (by kernel_rfl) (by kernel_rfl) (by kernel_rfl) (by kernel_rfl) (by kernel_rfl) (fun _ _ _ h => h) (Or.inl ⟨by rfl, ?_⟩) (by assumption) (fun hNew => ?_)
        rotate_left
        · intro w _
          go_simp
          try with_reducible rfl
        clear hHeld
        have hHeld := hNew
        clear hNew
        try simp only [List.getElem_toArray, List.getElem_cons_succ, List.getElem_cons_zero, Act.put, List.setIfInBounds_toArray, List.set_cons_zero, List.set_cons_succ]
        refine wpAnyL_load 1 (i := 6) (oi := _) (v := ?_) rfl rfl (by kernel_rfl) (by kernel_rfl) (by kernel_rfl) (by kernel_rfl) (by kernel_rfl) (by kernel_rfl) (fun _ _ _ h => h) (Or.inl ⟨by rfl, ?_⟩) (by assumption) (fun hNew => ?_)
        rotate_left
        · intro w hSw
          (try dsimp only at hSw)
          go_simp
          try with_reducible rfl
        clear hHeld
        have hHeld := hNew
        clear hNew
        try simp only [List.getElem_toArray, List.getElem_cons_succ, List.getElem_cons_zero, Act.put, List.setIfInBounds_toArray, List.set_cons_zero, List.set_cons_succ]
        refine wpAnyL_ready (rs := [7]) (by kernel_rfl) (by simp) ?_
        refine AllReadyL.cons (o := _) rfl (fun K hK => ?_) AllReadyL.nil
        try simp only [List.getElem_toArray, List.getElem_cons_succ, List.getElem_cons_zero]
        go_simp
        refine (ptClose HG10.out.drew.at_ a o.h).mono ?_
        dsimp only
        rw [HFD.out]
        rintro e w11 ⟨rfl, h11⟩
        have HG11 := Lib.hid (HG10.out.drew.step h11)
        clear h11
        clear p0 p1 p2 p3 o0 o1 o2 o3 o4 o5 o6 o7 c0 c1 c2 c3 c4 c5 c6 f0 f1 f2 f3 f4 f5 f6 hlt1 hlt2
        obtain ⟨⟨p0, p1, p2, p3⟩, ⟨o0, o1, o2, o3, o4, o5, o6, o7⟩, ⟨c0, c1, c2, c3, c4, c5, c6⟩, ⟨f0, f1, f2, f3, f4, f5, f6⟩, hlt1, hlt2⟩ := HG11.out.cells
        clear hHeld
        refine hK.out _ _ ?_ (fun hHeld => ?_)
        · exact (HoldC.past (by kernel_rfl) (HoldC.past (by kernel_rfl) HoldC.nil))
        clear hK K
        try simp only [List.getElem_toArray, List.getElem_cons_succ, List.getElem_cons_zero, Act.put, List.setIfInBounds_toArray, List.set_cons_zero, List.set_cons_succ]
        refine wpAnyL_done (by kernel_rfl) ?_ _
        clear hHeld
        go_wp2
        obtain ⟨HBK, HAP⟩ := Going.done (no 0) { s with F := s.F, O := del s.O (a, o.h), K := K.closeL s.K (some ⟨rc, rh, ri, false⟩) } HE.out HG11.out rfl rfl (u0 := .int .i64 0) (u1 := .int .i64 0) (u2 := .bool false) (u3 := .int .i64 0) (u4 := .int .i64 0) rfl rfl rfl rfl rfl
        obtain ⟨⟨d0, d1, d2, d3, d4, d5, d6⟩, _⟩ := ans_cells HBK
        unfold set7 at d0 d1 d2 d3 d4 d5 d6
        exact bodyPost_ret (v := .agg #[.int .i64 0, .int .i64 0, .bool false, .int .i64 0, .int .i64 0, .slice none 0 0, .slice none 0 0]) (by simp [results, Try.results37, go_sem, d0, d1, d2, d3, d4, d5, d6]) rfl HAP
      · have hdd : (o.d == 13) = false := by simpa using hd
        have HE : Hid (Z = (no 0, { s with F := s.F, O := s.O, K := s.K })) := Lib.hid (by rw [HZ.out]; unfold psSync; rw [HFD.out]; simp [hd])
        clear HZ hd
        have HPK : Hid (okP (a, o.h)) := Lib.hid (by have := HI.out.good.rng _ HRM.out; simp only at this; have h5 := HRK.out; exact okP_of (by omega) (by omega) (by omega) (by omega))
        go_enter Try.func37, Try.ntmps37
        go_wp2_with fail
        rw [← HW1.out]
        refine (HG.out.row a false).mono ?_
        rw [HFD.out]
        rintro e w3 ⟨rfl, h3⟩
        have HG3 := Lib.hid (HG.out.keep0 h3)
        have HC3 := Lib.hid (HC1.out.trans h3 (by simp))
        clear h3
        unfold rowZ rowOk
        dsimp only [Option.getD]
        clear p0 p1 p2 p3 o0 o1 o2 o3 o4 o5 o6 o7 c0 c1 c2 c3 c4 c5 c6 f0 f1 f2 f3 f4 f5 f6 hlt1 hlt2
        have HG4 := Lib.hid (HG3.out.keep0 ((Chg.refl [] w3).alloc (.cells #[.int .i64 rc, .int .i64 rh, .int .i64 ri, .bool false] 51)))
        have HC4 := Lib.hid (HC3.out.alloc (.cells #[.int .i64 rc, .int .i64 rh, .int .i64 ri, .bool false] 51))
        obtain ⟨⟨p0, p1, p2, p3⟩, ⟨o0, o1, o2, o3, o4, o5, o6, o7⟩, ⟨c0, c1, c2, c3, c4, c5, c6⟩, ⟨f0, f1, f2, f3, f4, f5, f6⟩, hlt1, hlt2⟩ := HG4.out.cells
        go_wp2
        obtain ⟨HBK, HAP⟩ := Going.done (no 0) { s with F := s.F, O := s.O, K := s.K } HE.out HG4.out rfl rfl (u0 := .int .i64 0) (u1 := .int .i64 0) (u2 := .bool false) (u3 := .int .i64 0) (u4 := .int .i64 0) rfl rfl rfl rfl rfl
        obtain ⟨⟨d0, d1, d2, d3, d4, d5, d6⟩, _⟩ := ans_cells HBK
        unfold set7 at d0 d1 d2 d3 d4 d5 d6
        exact bodyPost_ret (v := .agg #[.int .i64 0, .int .i64 0, .bool false, .int .i64 0, .int .i64 0, .slice none 0 0, .slice none 0 0]) (by simp [results, Try.results37, go_sem, d0, d1, d2, d3, d4, d5, d6]) rfl HAP
    · by_cases hd : o.d = 13
      · have hdd : (o.d == 13) = true := by simpa using hd
        obtain ⟨l, hl⟩ : ∃ l, l = psSees s ⟨rc, rh, ri, true⟩ := ⟨_, rfl⟩
        have HE : Hid (Z = (no 0, { s with F := upd s.F ri l, O := del s.O (a, o.h), K := K.closeL s.K (some ⟨rc, rh, ri, true⟩) })) := Lib.hid (by rw [HZ.out]; unfold psSync; rw [HFD.out]; simp [hd, hl])
        rw [← hl] at HSL
        have HL := Lib.hid hl
        clear hl
        clear HZ hd
        have HPK : Hid (okP (a, o.h)) := Lib.hid (by have := HI.out.good.rng _ HRM.out; simp only at this; have h5 := HRK.out; exact okP_of (by omega) (by omega) (by omega) (by omega))
        go_enter Try.func37, Try.ntmps37
        go_wp2_with fail
        rw [← HW1.out]
        refine (HG.out.row a false).mono ?_
        rw [HFD.out]
        rintro e w3 ⟨rfl, h3⟩
        have HG3 := Lib.hid (HG.out.keep0 h3)
        have HC3 := Lib.hid (HC1.out.trans h3 (by simp))
        clear h3
        unfold rowZ rowOk
        dsimp only [Option.getD]
        clear p0 p1 p2 p3 o0 o1 o2 o3 o4 o5 o6 o7 c0 c1 c2 c3 c4 c5 c6 f0 f1 f2 f3 f4 f5 f6 hlt1 hlt2
        have HG4 := Lib.hid (HG3.out.keep0 ((Chg.refl [] w3).alloc (.cells #[.int .i64 rc, .int .i64 rh, .int .i64 ri, .bool true] 51)))
        have HC4 := Lib.hid (HC3.out.alloc (.cells #[.int .i64 rc, .int .i64 rh, .int .i64 ri, .bool true] 51))
        obtain ⟨⟨p0, p1, p2, p3⟩, ⟨o0, o1, o2, o3, o4, o5, o6, o7⟩, ⟨c0, c1, c2, c3, c4, c5, c6⟩, ⟨f0, f1, f2, f3, f4, f5, f6⟩, hlt1, hlt2⟩ := HG4.out.cells
        have HFO : Hid (FilesOk s.F) := Lib.hid HI.out.filesOk
        have HIK : Hid (okI ri) := Lib.hid (by have := HI.out.ino (HI.out.rows _ HRM.out); simp only at this; exact okI_of (by omega) (by omega))
        obtain ⟨w4, hw4⟩ : ∃ w4, w4 = w3.alloc (.cells #[.int .i64 rc, .int .i64 rh, .int .i64 ri, .bool true] 51) := ⟨_, rfl⟩
        have hr4 : w4.heap[w3.heap.size]? = some (.cells #[.int .i64 rc, .int .i64 rh, .int .i64 ri, .bool true] 51 (0, 0)) := by rw [hw4]; exact heap_alloc_new w3 _
        rw [← hw4] at HG4 HC4 p0 p1 p2 p3 o0 o1 o2 o3 o4 o5 o6 o7 c0 c1 c2 c3 c4 c5 c6 f0 f1 f2 f3 f4 f5 f6 hlt1 hlt2
        obtain ⟨⟨r0, r1, r2, r3⟩, _⟩ := row_cells hr4
        have HR4 := Lib.hid hr4
        have HW4 := Lib.hid hw4
        clear hr4 hw4
        have CS := Lib.hid (sees_any HG4.out.drew.at_ HI.out ⟨rc, rh, ri, true⟩ HRM.out)
        go_wp2
        rw [← HW4.out]
        refine wp_region_L [(10, fun w' => w'.cell? ⟨c.p, 2, none⟩ = some (.map (some c.f))), (10, fun w' => w'.cell? ⟨w3.heap.size, 2, none⟩ = some (.int .i64 ri)), (8, fun w' => (w'.cell? ⟨w3.heap.size, 0, none⟩ = some (.int .i64 rc) ∧ w'.cell? ⟨w3.heap.size, 1, none⟩ = some (.int .i64 rh) ∧ w'.cell? ⟨w3.heap.size, 2, none⟩ = some (.int .i64 ri) ∧ w'.cell? ⟨w3.heap.size, 3, none⟩ = some (.bool true)))] (by kernel_rfl) ?_ (fun hHeld => ?_)
        · exact (HoldC.cons (p2) (HoldC.cons (r2) (HoldC.cons (⟨r0, r1, r2, r3⟩) HoldC.nil)))
        refine wpAnyL_take (i := 0) (oi := _) (v := ?_) rfl (by kernel_rfl) (by kernel_rfl) (by kernel_rfl) (by kernel_rfl) (by kernel_rfl) (fun _ _ _ h => h) (Or.inl ⟨by rfl, ?_⟩) (by assumption) (fun hNew => ?_)
        rotate_left
        · intro w _
          go_simp
          try with_reducible rfl
        clear hHeld
        have hHeld := hNew
        clear hNew
        try simp only [List.getElem_toArray, List.getElem_cons_succ, List.getElem_cons_zero, Act.put, List.setIfInBounds_toArray, List.set_cons_zero, List.set_cons_succ]
        refine wpAnyL_take (i := 1) (oi := _) (v := ?_) rfl (by kernel_rfl) (by kernel_rfl) (by kernel_rfl) (by kernel_rfl) (by kernel_rfl) (fun _ _ _ h => h) (Or.inl ⟨by rfl, ?_⟩) (by assumption) (fun hNew => ?_)
        rotate_left
        · intro w _
          go_simp
          try with_reducible rfl
        clear hHeld
        have hHeld := hNew
        clear hNew
        try simp only [List.getElem_toArray, List.getElem_cons_succ, List.getElem_cons_zero, Act.put, List.setIfInBounds_toArray, List.set_cons_zero, List.set_cons_succ]
        refine wpAnyL_take (i := 2) (oi := _) (v := ?_) rfl (by kernel_rfl) (by kernel_rfl) (by kernel_rfl) (by kernel_rfl) (by kernel_rfl) (fun _ _ _ h => h) (Or.inl ⟨by rfl, ?_⟩) (by assumption) (fun hNew => ?_)
        rotate_left
        · intro w _
          go_simp
          try with_reducible rfl
        clear hHeld
        have hHeld := hNew
        clear hNew
        try simp only [List.getElem_toArray, List.getElem_cons_succ, List.getElem_cons_zero, Act.put, List.setIfInBounds_toArray, List.set_cons_zero, List.set_cons_succ]
        refine wpAnyL_load 0 (i := 3) (oi := _) (v := ?_) rfl rfl (by kernel_rfl) (by kernel_rfl) (by kernel_rfl) (by kernel_rfl) (by kernel_rfl) (by kernel_rfl) (fun _ _ _ h => h) (Or.inl ⟨by rfl, ?_⟩) (by assumption) (fun hNew => ?_)
        rotate_left
        · intro w hSw
          (try dsimp only at hSw)
          go_simp
          try with_reducible rfl
        clear hHeld
        have hHeld := hNew
        clear hNew
        try simp only [List.getElem_toArray, List.getElem_cons_succ, List.getElem_cons_zero, Act.put, List.setIfInBounds_toArray, List.set_cons_zero, List.set_cons_succ]
        refine wpAnyL_take (i := 4) (oi := _) (v := ?_) rfl (by kernel_rfl) (by kernel_rfl) (by kernel_rfl) (by kernel_rfl) (by kernel_rfl) (fun _ _ _ h => h) (Or.inl ⟨by rfl, ?_⟩) (by assumption) (fun hNew => ?_)
        rotate_left
        · intro w _
          go_simp
          try with_reducible rfl
        clear hHeld
        have hHeld := hNew
        clear hNew
        try simp only [List.getElem_toArray, List.getElem_cons_succ, List.getElem_cons_zero, Act.put, List.setIfInBounds_toArray, List.set_cons_zero, List.set_cons_succ]
        refine wpAnyL_load 1 (i := 5) (oi := _) (v := ?_) rfl rfl (by kernel_rfl) (by kernel_rfl) (by kernel_rfl) (by kernel_rfl) (by kernel_rfl) (by kernel_rfl) (fun _ _ _ h => h) (Or.inl ⟨by rfl, ?_⟩) (by assumption) (fun hNew => ?_)
        rotate_left
        · intro w hSw
          (try dsimp only at hSw)
          go_simp
          try with_reducible rfl
        clear hHeld
        have hHeld := hNew
        clear hNew
        try simp only [List.getElem_toArray, List.getElem_cons_succ, List.getElem_cons_zero, Act.put, List.setIfInBounds_toArray, List.set_cons_zero, List.set_cons_succ]
        refine wpAnyL_take (i := 6) (oi := _) (v := ?_) rfl (by kernel_rfl) (by kernel_rfl) (by kernel_rfl) (by kernel_rfl) (by kernel_rfl) (fun _ _ _ h => h) (Or.inl ⟨by rfl, ?_⟩) (by assumption) (fun hNew => ?_)
        rotate_left
        · intro w _
          go_simp
          try with_reducible rfl
        clear hHeld
        have hHeld := hNew
        clear hNew
        try simp only [List.getElem_toArray, List.getElem_cons_succ, List.getElem_cons_zero, Act.put, List.setIfInBounds_toArray, List.set_cons_zero, List.set_cons_succ]
        refine wpAnyL_load 2 (i := 7) (oi := _) (v := ?_) rfl rfl (by kernel_rfl) (by kernel_rfl) (by kernel_rfl) (by kernel_rfl) (by kernel_rfl) (by kernel_rfl) (fun _ _ _ h => h) (Or.inl ⟨by rfl, ?_⟩) (by assumption) (fun hNew => ?_)
        rotate_left
        · intro w hSw
          (try dsimp only at hSw)
          go_simp
          try with_reducible rfl
        clear hHeld
        have hHeld := hNew
        clear hNew
        try simp only [List.getElem_toArray, List.getElem_cons_succ, List.getElem_cons_zero, Act.put, List.setIfInBounds_toArray, List.set_cons_zero, List.set_cons_succ]
        refine wpAnyL_ready (rs := [8]) (by kernel_rfl) (by simp) ?_
        refine AllReadyL.cons (o := _) rfl (fun K hK => ?_) AllReadyL.nil
        try simp only [List.getElem_toArray, List.getElem_cons_succ, List.getElem_cons_zero]
        go_simp
        refine CS.out.mono ?_
        rintro e w5 ⟨vs, rfl, hbs, hls, hc5⟩
        rw [← HL.out] at hbs hls
        have HG5 := Lib.hid (HG4.out.drew.keep0 hc5)
        have HR5 := Lib.hid (hc5.keep (by exact HR4.out) (by simp))
        have CC := Lib.hid (clone_any _ _ w5 hbs (by have := HSL.out; omega))
        clear hbs hls hc5 CS r0 r1 r2 r3
        clear p0 p1 p2 p3 o0 o1 o2 o3 o4 o5 o6 o7 c0 c1 c2 c3 c4 c5 c6 f0 f1 f2 f3 f4 f5 f6 hlt1 hlt2
        obtain ⟨⟨p0, p1, p2, p3⟩, ⟨o0, o1, o2, o3, o4, o5, o6, o7⟩, ⟨c0, c1, c2, c3, c4, c5, c6⟩, ⟨f0, f1, f2, f3, f4, f5, f6⟩, hlt1, hlt2⟩ := HG5.out.cells
        obtain ⟨⟨r0, r1, r2, r3⟩, _⟩ := row_cells HR5.out
        clear hHeld
        refine hK.out _ _ ?_ (fun hHeld => ?_)
        · exact (HoldC.cons (p2) (HoldC.cons (r2) (HoldC.past (by kernel_rfl) HoldC.nil)))
        clear hK K
        try simp only [List.getElem_toArray, List.getElem_cons_succ, List.getElem_cons_zero, Act.put, List.setIfInBounds_toArray, List.set_cons_zero, List.set_cons_succ]
        refine wpAnyL_ready (rs := [9]) (by kernel_rfl) (by simp) ?_
        refine AllReadyL.cons (o := _) rfl (fun K hK => ?_) AllReadyL.nil
        try simp only [List.getElem_toArray, List.getElem_cons_succ, List.getElem_cons_zero]
        go_simp
        refine CC.out.mono ?_
        rintro e w6 ⟨vn, rfl, hr6, hn6, hc6⟩
        have HG6 := Lib.hid (HG5.out.keep0 hc6)
        have HR6 := Lib.hid (Going.rows HG5.out hc6 vn (fun g hg => ⟨hn6 g hg, hr6.lt g hg⟩))
        have HFR : Hid (Free w6 (vn.ownBlock.toList ++ (w.heap.size :: (w.heap.size + 1) :: X)) vn l) := Lib.hid ⟨hr6.bytes, fun _ g hg => List.mem_append_left _ (Option.mem_toList.2 hg)⟩
        have HR6r := Lib.hid (hc6.keep HR5.out (by simp))
        clear hr6 hn6 hc6 CC r0 r1 r2 r3
        clear p0 p1 p2 p3 o0 o1 o2 o3 o4 o5 o6 o7 c0 c1 c2 c3 c4 c5 c6 f0 f1 f2 f3 f4 f5 f6 hlt1 hlt2
        obtain ⟨⟨p0, p1, p2, p3⟩, ⟨o0, o1, o2, o3, o4, o5, o6, o7⟩, ⟨c0, c1, c2, c3, c4, c5, c6⟩, ⟨f0, f1, f2, f3, f4, f5, f6⟩, hlt1, hlt2⟩ := HG6.out.cells
        obtain ⟨⟨r0, r1, r2, r3⟩, _⟩ := row_cells HR6r.out
        clear hHeld
        refine hK.out _ _ ?_ (fun hHeld => ?_)
        · exact (HoldC.cons (p2) (HoldC.cons (r2) (HoldC.past (by kernel_rfl) HoldC.nil)))
        clear hK K
        try simp only [List.getElem_toArray, List.getElem_cons_succ, List.getElem_cons_zero, Act.put, List.setIfInBounds_toArray, List.set_cons_zero, List.set_cons_succ]
        refine wpAnyL_ready (rs := [10]) (by kernel_rfl) (by simp) ?_
        refine AllReadyL.cons (o := _) rfl (fun K hK => ?_) AllReadyL.nil
        try simp only [List.getElem_toArray, List.getElem_cons_succ, List.getElem_cons_zero]
        rw [if_pos (by rfl)]
        refine wp_fset _ (.tmp 24) (.tmp 26) (.tmp 30) (by rfl) c (by rfl) HR6.out HFO.out ri (by rfl) HIK.out _ (by rfl) _ HFR.out ?_
        intro w7 h7 hs7
        have HG7 := Lib.hid (HG6.out.step (PAt.less h7 (fun x hx => List.mem_append_right _ hx)))
        clear h7 hs7 HFR r0 r1 r2 r3
        clear p0 p1 p2 p3 o0 o1 o2 o3 o4 o5 o6 o7 c0 c1 c2 c3 c4 c5 c6 f0 f1 f2 f3 f4 f5 f6 hlt1 hlt2
        obtain ⟨⟨p0, p1, p2, p3⟩, ⟨o0, o1, o2, o3, o4, o5, o6, o7⟩, ⟨c0, c1, c2, c3, c4, c5, c6⟩, ⟨f0, f1, f2, f3, f4, f5, f6⟩, hlt1, hlt2⟩ := HG7.out.cells
        clear hHeld
        refine hK.out _ _ ?_ (fun hHeld => ?_)
        · exact (HoldC.past (by kernel_rfl) (HoldC.past (by kernel_rfl) (HoldC.past (by kernel_rfl) HoldC.nil)))
        clear hK K
        try simp only [List.getElem_toArray, List.getElem_cons_succ, List.getElem_cons_zero, Act.put, List.setIfInBounds_toArray, List.set_cons_zero, List.set_cons_succ]
        refine wpAnyL_done (by kernel_rfl) ?_ _
        clear hHeld
        go_wp2
        go_wp2
        refine wp_region_L [(8, fun w' => w'.cell? ⟨c.p, 3, none⟩ = some (.map (some c.o))), (8, fun w' => w'.cell? ⟨w.heap.size, 3, none⟩ = some (.int .i64 o.h))] (by kernel_rfl) ?_ (fun hHeld => ?_)
        · exact (HoldC.cons (p3) (HoldC.cons (o3) HoldC.nil))
        refine wpAnyL_take (i := 0) (oi := _) (v := ?_) rfl (by kernel_rfl) (by kernel_rfl) (by kernel_rfl) (by kernel_rfl) (by kernel_rfl) (fun _ _ _ h => h) (Or.inl ⟨by rfl, ?_⟩) (by assumption) (fun hNew => ?_)
        rotate_left
        · intro w _
          go_simp
          try with_reducible rfl
        clear hHeld
        have hHeld := hNew
        clear hNew
        try simp only [List.getElem_toArray, List.getElem_cons_succ, List.getElem_cons_zero, Act.put, List.setIfInBounds_toArray, List.set_cons_zero, List.set_cons_succ]
        refine wpAnyL_take (i := 1) (oi := _) (v := ?_) rfl (by kernel_rfl) (by kernel_rfl) (by kernel_rfl) (by kernel_rfl) (by kernel_rfl) (fun _ _ _ h => h) (Or.inl ⟨by rfl, ?_⟩) (by assumption) (fun hNew => ?_)
        rotate_left
        · intro w _
          go_simp
          try with_reducible rfl
        clear hHeld
        have hHeld := hNew
        clear hNew
        try simp only [List.getElem_toArray, List.getElem_cons_succ, List.getElem_cons_zero, Act.put, List.setIfInBounds_toArray, List.set_cons_zero, List.set_cons_succ]
        refine wpAnyL_take (i := 2) (oi := _) (v := ?_) rfl (by kernel_rfl) (by kernel_rfl) (by kernel_rfl) (by kernel_rfl) (by kernel_rfl) (fun _ _ _ h => h) (Or.inl ⟨by rfl, ?_⟩) (by assumption) (fun hNew => ?_)
        rotate_left
        · intro w _
          go_simp
          try with_reducible rfl
        clear hHeld
        have hHeld := hNew
        clear hNew
        try simp only [List.getElem_toArray, List.getElem_cons_succ, List.getElem_cons_zero, Act.put, List.setIfInBounds_toArray, List.set_cons_zero, List.set_cons_succ]
        refine wpAnyL_load 0 (i := 3) (oi := _) (v := ?_) rfl rfl (by kernel_rfl) (by kernel_rfl) (by kernel_rfl) (by kernel_rfl) (by kernel_rfl) (by kernel_rfl) (fun _ _ _ h => h) (Or.inl ⟨by rfl, ?_⟩) (by assumption) (fun hNew => ?_)
        rotate_left
        · intro w hSw
          (try dsimp only at hSw)
          go_simp
          try with_reducible rfl
        clear hHeld
        have hHeld := hNew
        clear hNew
        try simp only [List.getElem_toArray, List.getElem_cons_succ, List.getElem_cons_zero, Act.put, List.setIfInBounds_toArray, List.set_cons_zero, List.set_cons_succ]
        refine wpAnyL_take (i := 4) (oi := _) (v := ?_) rfl (by kernel_rfl) (by kernel_rfl) (by kernel_rfl) (by kernel_rfl) (by kernel_rfl) (fun _ _ _ h => h) (Or.inl ⟨by rfl, ?_⟩) (by assumption) (fun hNew => ?_)
        rotate_left
        · intro w _
          go_simp
          try with_reducible rfl
        clear hHeld
        have hHeld := hNew
        clear hNew
        try simp only [List.getElem_toArray, List.getElem_cons_succ, List.getElem_cons_zero, Act.put, List.setIfInBounds_toArray, List.set_cons_zero, List.set_cons_succ]
        refine wpAnyL_take (i := 5) (oi := _) (v := ?_) rfl (by kernel_rfl) (by kernel_rfl) (by kernel_rfl) (by kernel_rfl) (by kernel_rfl) (fun _ _ _ h => h) (Or.inl ⟨by rfl, ?_⟩) (by assumption) (fun hNew => ?_)
        rotate_left
        · intro w _
          go_simp
          try with_reducible rfl
        clear hHeld
        have hHeld := hNew
        clear hNew
        try simp only [List.getElem_toArray, List.getElem_cons_succ, List.getElem_cons_zero, Act.put, List.setIfInBounds_toArray, List.set_cons_zero, List.set_cons_succ]
        refine wpAnyL_load 1 (i := 6) (oi := _) (v := ?_) rfl rfl (by kernel_rfl) (by kernel_rfl) (by kernel_rfl) (by kernel_rfl) (by kernel_rfl) (by kernel_rfl) (fun _ _ _ h => h) (Or.inl ⟨by rfl, ?_⟩) (by assumption) (fun hNew => ?_)
        rotate_left
        · intro w hSw
          (try dsimp only at hSw)
          go_simp
          try with_reducible rfl
        clear hHeld
        have hHeld := hNew
        clear hNew
        try simp only [List.getElem_toArray, List.getElem_cons_succ, List.getElem_cons_zero, Act.put, List.setIfInBounds_toArray, List.set_cons_zero, List.set_cons_succ]
        refine wpAnyL_take (i := 7) (oi := _) (v := ?_) rfl (by kernel_rfl) (by kernel_rfl) (by kernel_rfl) (by kernel_rfl) (by kernel_rfl) (fun _ _ _ h => h) (Or.inl ⟨by rfl, ?_⟩) (by assumption) (fun hNew => ?_)
        rotate_left
        · intro w _
          go_simp
          try with_reducible rfl
        clear hHeld
        have hHeld := hNew
        clear hNew
        try simp only [List.getElem_toArray, List.getElem_cons_succ, List.getElem_cons_zero, Act.put, List.setIfInBounds_toArray, List.set_cons_zero, List.set_cons_succ]
        refine wpAnyL_ready (rs := [8]) (by kernel_rfl) (by simp) ?_
        refine AllReadyL.cons (o := _) rfl (fun K hK => ?_) AllReadyL.nil
        try simp only [List.getElem_toArray, List.getElem_cons_succ, List.getElem_cons_zero]
        rw [if_pos (by rfl)]
        refine wp_odel _ (.tmp 37) (.tmp 41) (by rfl) c (by rfl) HG7.out.drew.at_ (a, o.h) (by rfl) HPK.out ?_
        intro w10 h10 hs10
        have HG10 := Lib.hid (HG7.out.drew.step h10)
        clear h10 hs10
        clear p0 p1 p2 p3 o0 o1 o2 o3 o4 o5 o6 o7 c0 c1 c2 c3 c4 c5 c6 f0 f1 f2 f3 f4 f5 f6 hlt1 hlt2
        obtain ⟨⟨p0, p1, p2, p3⟩, ⟨o0, o1, o2, o3, o4, o5, o6, o7⟩, ⟨c0, c1, c2, c3, c4, c5, c6⟩, ⟨f0, f1, f2, f3, f4, f5, f6⟩, hlt1, hlt2⟩ := HG10.out.cells
        clear hHeld
        refine hK.out _ _ ?_ (fun hHeld => ?_)
        · exact (HoldC.past (by kernel_rfl) (HoldC.past (by kernel_rfl) HoldC.nil))
        clear hK K
        try simp only [List.getElem_toArray, List.getElem_cons_succ, List.getElem_cons_zero, Act.put, List.setIfInBounds_toArray, List.set_cons_zero, List.set_cons_succ]
        refine wpAnyL_done (by kernel_rfl) ?_ _
        clear hHeld
        go_wp2
        refine wp_region_L [(7, fun w' => w'.cell? ⟨c.p, 1, none⟩ = some (.pointer (some ⟨c.k, 0, none⟩))), (7, fun w' => w'.cell? ⟨w.heap.size, 3, none⟩ = some (.int .i64 o.h))] (by kernel_rfl) ?_ (fun hHeld => ?_)
        · exact (HoldC.cons (p1) (HoldC.cons (o3) HoldC.nil))
        refine wpAnyL_take (i := 0) (oi := _) (v := ?_) rfl (by kernel_rfl) (by kernel_rfl) (by kernel_rfl) (by kernel_rfl) (by kernel_rfl) (fun _ _ _ h => h) (Or.inl ⟨by rfl, ?_⟩) (by assumption) (fun hNew => ?_)
        rotate_left
        · intro w _
          go_simp
          try with_reducible rfl
        clear hHeld
        have hHeld := hNew
        clear hNew
        try simp only [List.getElem_toArray, List.getElem_cons_succ, List.getElem_cons_zero, Act.put, List.setIfInBounds_toArray, List.set_cons_zero, List.set_cons_succ]
        refine wpAnyL_take (i := 1) (oi := _) (v := ?_) rfl (by kernel_rfl) (by kernel_rfl) (by kernel_rfl) (by kernel_rfl) (by kernel_rfl) (fun _ _ _ h => h) (Or.inl ⟨by rfl, ?_⟩) (by assumption) (fun hNew => ?_)
        rotate_left
        · intro w _
          go_simp
          try with_reducible rfl
        clear hHeld
        have hHeld := hNew
        clear hNew
        try simp only [List.getElem_toArray, List.getElem_cons_succ, List.getElem_cons_zero, Act.put, List.setIfInBounds_toArray, List.set_cons_zero, List.set_cons_succ]
        refine wpAnyL_take (i := 2) (oi := _) (v := ?_) rfl (by kernel_rfl) (by kernel_rfl) (by kernel_rfl) (by kernel_rfl) (by kernel_rfl) (fun _ _ _ h => h) (Or.inl ⟨by rfl, ?_⟩) (by assumption) (fun hNew => ?_)
        rotate_left
        · intro w _
          go_simp
          try with_reducible rfl
        clear hHeld
        have hHeld := hNew
        clear hNew
        try simp only [List.getElem_toArray, List.getElem_cons_succ, List.getElem_cons_zero, Act.put, List.setIfInBounds_toArray, List.set_cons_zero, List.set_cons_succ]
        refine wpAnyL_load 0 (i := 3) (oi := _) (v := ?_) rfl rfl (by kernel_rfl) (by kernel_rfl) (by kernel_rfl) (by kernel_rfl) (by kernel_rfl) (by kernel_rfl) (fun _ _ _ h => h) (Or.inl ⟨by rfl, ?_⟩) (by assumption) (fun hNew => ?_)
        rotate_left
        · intro w hSw
          (try dsimp only at hSw)
          go_simp
          try with_reducible rfl
        clear hHeld
        have hHeld := hNew
        clear hNew
        try simp only [List.getElem_toArray, List.getElem_cons_succ, List.getElem_cons_zero, Act.put, List.setIfInBounds_toArray, List.set_cons_zero, List.set_cons_succ]
        refine wpAnyL_take (i := 4) (oi := _) (v := ?_) rfl (by kernel_rfl) (by kernel_rfl) (by kernel_rfl) (by kernel_rfl) (by kernel_rfl) (fun _ _ _ h => h) (Or.inl ⟨by rfl, ?_⟩) (by assumption) (fun hNew => ?_)
        rotate_left
        · intro w _
          go_simp
          try with_reducible rfl
        clear hHeld
        have hHeld := hNew
        clear hNew
        try simp only [List.getElem_toArray, List.getElem_cons_succ, List.getElem_cons_zero, Act.put, List.setIfInBounds_toArray, List.set_cons_zero, List.set_cons_succ]
        refine wpAnyL_take (i := 5) (oi := _) (v := ?_) rfl (by kernel_rfl) (by kernel_rfl) (by kernel_rfl) (by kernel_rfl) (by kernel_rfl) (fun _ _ _ h => h) (Or.inl ⟨by rfl, ?_⟩) (by assumption) (fun hNew => ?_)
        rotate_left
        · intro w _
          go_simp
          try with_reducible rfl
        clear hHeld
        have hHeld := hNew
        clear hNew
        try simp only [List.getElem_toArray, List.getElem_cons_succ, List.getElem_cons_zero, Act.put, List.setIfInBounds_toArray, List.set_cons_zero, List.set_cons_succ]
        refine wpAnyL_load 1 (i := 6) (oi := _) (v := ?_) rfl rfl (by kernel_rfl) (by kernel_rfl) (by kernel_rfl) (by kernel_rfl) (by kernel_rfl) (by kernel_rfl) (fun _ _ _ h => h) (Or.inl ⟨by rfl, ?_⟩) (by assumption) (fun hNew => ?_)
        rotate_left
        · intro w hSw
          (try dsimp only at hSw)
          go_simp
          try with_reducible rfl
        clear hHeld
        have hHeld := hNew
        clear hNew
        try simp only [List.getElem_toArray, List.getElem_cons_succ, List.getElem_cons_zero, Act.put, List.setIfInBounds_toArray, List.set_cons_zero, List.set_cons_succ]
        refine wpAnyL_ready (rs := [7]) (by kernel_rfl) (by simp) ?_
        refine AllReadyL.cons (o := _) rfl (fun K hK => ?_) AllReadyL.nil
        try simp only [List.getElem_toArray, List.getElem_cons_succ, List.getElem_cons_zero]
        go_simp
        refine (ptClose HG10.out.drew.at_ a o.h).mono ?_
        dsimp only
        rw [HFD.out]
        rintro e w11 ⟨rfl, h11⟩
        have HG11 := Lib.hid (HG10.out.drew.step h11)
        clear h11
        clear p0 p1 p2 p3 o0 o1 o2 o3 o4 o5 o6 o7 c0 c1 c2 c3 c4 c5 c6 f0 f1 f2 f3 f4 f5 f6 hlt1 hlt2
        obtain ⟨⟨p0, p1, p2, p3⟩, ⟨o0, o1, o2, o3, o4, o5, o6, o7⟩, ⟨c0, c1, c2, c3, c4, c5, c6⟩, ⟨f0, f1, f2, f3, f4, f5, f6⟩, hlt1, hlt2⟩ := HG11.out.cells
        clear hHeld
        refine hK.out _ _ ?_ (fun hHeld => ?_)
        · exact (HoldC.past (by kernel_rfl) (HoldC.past (by kernel_rfl) HoldC.nil))
        clear hK K
        try simp only [List.getElem_toArray, List.getElem_cons_succ, List.getElem_cons_zero, Act.put, List.setIfInBounds_toArray, List.set_cons_zero, List.set_cons_succ]
        refine wpAnyL_done (by kernel_rfl) ?_ _
        clear hHeld
        go_wp2
        obtain ⟨HBK, HAP⟩ := Going.done (no 0) { s with F := upd s.F ri l, O := del s.O (a, o.h), K := K.closeL s.K (some ⟨rc, rh, ri, true⟩) } HE.out HG11.out rfl rfl (u0 := .int .i64 0) (u1 := .int .i64 0) (u2 := .bool false) (u3 := .int .i64 0) (u4 := .int .i64 0) rfl rfl rfl rfl rfl
        obtain ⟨⟨d0, d1, d2, d3, d4, d5, d6⟩, _⟩ := ans_cells HBK
        unfold set7 at d0 d1 d2 d3 d4 d5 d6
        exact bodyPost_ret (v := .agg #[.int .i64 0, .int .i64 0, .bool false, .int .i64 0, .int .i64 0, .slice none 0 0, .slice none 0 0]) (by simp [results, Try.results37, go_sem, d0, d1, d2, d3, d4, d5, d6]) rfl HAP
      · have hdd : (o.d == 13) = false := by simpa using hd
        obtain ⟨l, hl⟩ : ∃ l, l = psSees s ⟨rc, rh, ri, true⟩ := ⟨_, rfl⟩
        have HE : Hid (Z = (no 0, { s with F := upd s.F ri l, O := s.O, K := s.K })) := Lib.hid (by rw [HZ.out]; unfold psSync; rw [HFD.out]; simp [hd, hl])
        rw [← hl] at HSL
        have HL := Lib.hid hl
        clear hl
        clear HZ hd
        have HPK : Hid (okP (a, o.h)) := Lib.hid (by have := HI.out.good.rng _ HRM.out; simp only at this; have h5 := HRK.out; exact okP_of (by omega) (by omega) (by omega) (by omega))
        go_enter Try.func37, Try.ntmps37
        go_wp2_with fail
        rw [← HW1.out]
        refine (HG.out.row a false).mono ?_
        rw [HFD.out]
        rintro e w3 ⟨rfl, h3⟩
        have HG3 := Lib.hid (HG.out.keep0 h3)
        have HC3 := Lib.hid (HC1.out.trans h3 (by simp))
        clear h3
        unfold rowZ rowOk
        dsimp only [Option.getD]
        clear p0 p1 p2 p3 o0 o1 o2 o3 o4 o5 o6 o7 c0 c1 c2 c3 c4 c5 c6 f0 f1 f2 f3 f4 f5 f6 hlt1 hlt2
        have HG4 := Lib.hid (HG3.out.keep0 ((Chg.refl [] w3).alloc (.cells #[.int .i64 rc, .int .i64 rh, .int .i64 ri, .bool true] 51)))
        have HC4 := Lib.hid (HC3.out.alloc (.cells #[.int .i64 rc, .int .i64 rh, .int .i64 ri, .bool true] 51))
        obtain ⟨⟨p0, p1, p2, p3⟩, ⟨o0, o1, o2, o3, o4, o5, o6, o7⟩, ⟨c0, c1, c2, c3, c4, c5, c6⟩, ⟨f0, f1, f2, f3, f4, f5, f6⟩, hlt1, hlt2⟩ := HG4.out.cells
        have HFO : Hid (FilesOk s.F) := Lib.hid HI.out.filesOk
        have HIK : Hid (okI ri) := Lib.hid (by have := HI.out.ino (HI.out.rows _ HRM.out); simp only at this; exact okI_of (by omega) (by omega))
        obtain ⟨w4, hw4⟩ : ∃ w4, w4 = w3.alloc (.cells #[.int .i64 rc, .int .i64 rh, .int .i64 ri, .bool true] 51) := ⟨_, rfl⟩
        have hr4 : w4.heap[w3.heap.size]? = some (.cells #[.int .i64 rc, .int .i64 rh, .int .i64 ri, .bool true] 51 (0, 0)) := by rw [hw4]; exact heap_alloc_new w3 _
        rw [← hw4] at HG4 HC4 p0 p1 p2 p3 o0 o1 o2 o3 o4 o5 o6 o7 c0 c1 c2 c3 c4 c5 c6 f0 f1 f2 f3 f4 f5 f6 hlt1 hlt2
        obtain ⟨⟨r0, r1, r2, r3⟩, _⟩ := row_cells hr4
        have HR4 := Lib.hid hr4
        have HW4 := Lib.hid hw4
        clear hr4 hw4
        have CS := Lib.hid (sees_any HG4.out.drew.at_ HI.out ⟨rc, rh, ri, true⟩ HRM.out)
        go_wp2
        rw [← HW4.out]
        refine wp_region_L [(10, fun w' => w'.cell? ⟨c.p, 2, none⟩ = some (.map (some c.f))), (10, fun w' => w'.cell? ⟨w3.heap.size, 2, none⟩ = some (.int .i64 ri)), (8, fun w' => (w'.cell? ⟨w3.heap.size, 0, none⟩ = some (.int .i64 rc) ∧ w'.cell? ⟨w3.heap.size, 1, none⟩ = some (.int .i64 rh) ∧ w'.cell? ⟨w3.heap.size, 2, none⟩ = some (.int .i64 ri) ∧ w'.cell? ⟨w3.heap.size, 3, none⟩ = some (.bool true)))] (by kernel_rfl) ?_ (fun hHeld => ?_)
        · exact (HoldC.cons (p2) (HoldC.cons (r2) (HoldC.cons (⟨r0, r1, r2, r3⟩) HoldC.nil)))
        refine wpAnyL_take (i := 0) (oi := _) (v := ?_) rfl (by kernel_rfl) (by kernel_rfl) (by kernel_rfl) (by kernel_rfl) (by kernel_rfl) (fun _ _ _ h => h) (Or.inl ⟨by rfl, ?_⟩) (by assumption) (fun hNew => ?_)
        rotate_left
        · intro w _
          go_simp
          try with_reducible rfl
        clear hHeld
        have hHeld := hNew
        clear hNew
        try simp only [List.getElem_toArray, List.getElem_cons_succ, List.getElem_cons_zero, Act.put, List.setIfInBounds_toArray, List.set_cons_zero, List.set_cons_succ]
        refine wpAnyL_take (i := 1) (oi := _) (v := ?_) rfl (by kernel_rfl) (by kernel_rfl) (by kernel_rfl) (by kernel_rfl) (by kernel_rfl) (fun _ _ _ h => h) (Or.inl ⟨by rfl, ?_⟩) (by assumption) (fun hNew => ?_)
        rotate_left
        · intro w _
          go_simp
          try with_reducible rfl
        clear hHeld
        have hHeld := hNew
        clear hNew
        try simp only [List.getElem_toArray, List.getElem_cons_succ, List.getElem_cons_zero, Act.put, List.setIfInBounds_toArray, List.set_cons_zero, List.set_cons_succ]
        refine wpAnyL_take (i := 2) (oi := _) (v := ?_) rfl (by kernel_rfl) (by kernel_rfl) (by kernel_rfl) (by kernel_rfl) (by kernel_rfl) (fun _ _ _ h => h) (Or.inl ⟨by rfl, ?_⟩) (by assumption) (fun hNew => ?_)
        rotate_left
        · intro w _
          go_simp
          try with_reducible rfl
        clear hHeld
        have hHeld := hNew
        clear hNew
        try simp only [List.getElem_toArray, List.getElem_cons_succ, List.getElem_cons_zero, Act.put, List.setIfInBounds_toArray, List.set_cons_zero, List.set_cons_succ]
        refine wpAnyL_load 0 (i := 3) (oi := _) (v := ?_) rfl rfl (by kernel_rfl) (by kernel_rfl) (by kernel_rfl) (by kernel_rfl) (by kernel_rfl) (by kernel_rfl) (fun _ _ _ h => h) (Or.inl ⟨by rfl, ?_⟩) (by assumption) (fun hNew => ?_)
        rotate_left
        · intro w hSw
          (try dsimp only at hSw)
          go_simp
          try with_reducible rfl
        clear hHeld
        have hHeld := hNew
        clear hNew
        try simp only [List.getElem_toArray, List.getElem_cons_succ, List.getElem_cons_zero, Act.put, List.setIfInBounds_toArray, List.set_cons_zero, List.set_cons_succ]
        refine wpAnyL_take (i := 4) (oi := _) (v := ?_) rfl (by kernel_rfl) (by kernel_rfl) (by kernel_rfl) (by kernel_rfl) (by kernel_rfl) (fun _ _ _ h => h) (Or.inl ⟨by rfl, ?_⟩) (by assumption) (fun hNew => ?_)
        rotate_left
        · intro w _
          go_simp
          try with_reducible rfl
        clear hHeld
        have hHeld := hNew
        clear hNew
        try simp only [List.getElem_toArray, List.getElem_cons_succ, List.getElem_cons_zero, Act.put, List.setIfInBounds_toArray, List.set_cons_zero, List.set_cons_succ]
        refine wpAnyL_load 1 (i := 5) (oi := _) (v := ?_) rfl rfl (by kernel_rfl) (by kernel_rfl) (by kernel_rfl) (by kernel_rfl) (by kernel_rfl) (by kernel_rfl) (fun _ _ _ h => h) (Or.inl ⟨by rfl, ?_⟩) (by assumption) (fun hNew => ?_)
        rotate_left
        · intro w hSw
          (try dsimp only at hSw)
          go_simp
          try with_reducible rfl
        clear hHeld
        have hHeld := hNew
        clear hNew
        try simp only [List.getElem_toArray, List.getElem_cons_succ, List.getElem_cons_zero, Act.put, List.setIfInBounds_toArray, List.set_cons_zero, List.set_cons_succ]
        refine wpAnyL_take (i := 6) (oi := _) (v := ?_) rfl (by kernel_rfl) (by kernel_rfl) (by kernel_rfl) (by kernel_rfl) (by kernel_rfl) (fun _ _ _ h => h) (Or.inl ⟨by rfl, ?_⟩) (by assumption) (fun hNew => ?_)
        rotate_left
        · intro w _
          go_simp
          try with_reducible rfl
        clear hHeld
        have hHeld := hNew
        clear hNew
        try simp only [List.getElem_toArray, List.getElem_cons_succ, List.getElem_cons_zero, Act.put, List.setIfInBounds_toArray, List.set_cons_zero, List.set_cons_succ]
        refine wpAnyL_load 2 (i := 7) (oi := _) (v := ?_) rfl rfl (by kernel_rfl) (by kernel_rfl) (by kernel_rfl) (by kernel_rfl) (by kernel_rfl) (by kernel_rfl) (fun _ _ _ h => h) (Or.inl ⟨by rfl, ?_⟩) (by assumption) (fun hNew => ?_)
        rotate_left
        · intro w hSw
          (try dsimp only at hSw)
          go_simp
          try with_reducible rfl
        clear hHeld
        have hHeld := hNew
        clear hNew
        try simp only [List.getElem_toArray, List.getElem_cons_succ, List.getElem_cons_zero, Act.put, List.setIfInBounds_toArray, List.set_cons_zero, List.set_cons_succ]
        refine wpAnyL_ready (rs := [8]) (by kernel_rfl) (by simp) ?_
        refine AllReadyL.cons (o := _) rfl (fun K hK => ?_) AllReadyL.nil
        try simp only [List.getElem_toArray, List.getElem_cons_succ, List.getElem_cons_zero]
        go_simp
        refine CS.out.mono ?_
        rintro e w5 ⟨vs, rfl, hbs, hls, hc5⟩
        rw [← HL.out] at hbs hls
        have HG5 := Lib.hid (HG4.out.drew.keep0 hc5)
        have HR5 := Lib.hid (hc5.keep (by exact HR4.out) (by simp))
        have CC := Lib.hid (clone_any _ _ w5 hbs (by have := HSL.out; omega))
        clear hbs hls hc5 CS r0 r1 r2 r3
        clear p0 p1 p2 p3 o0 o1 o2 o3 o4 o5 o6 o7 c0 c1 c2 c3 c4 c5 c6 f0 f1 f2 f3 f4 f5 f6 hlt1 hlt2
        obtain ⟨⟨p0, p1, p2, p3⟩, ⟨o0, o1, o2, o3, o4, o5, o6, o7⟩, ⟨c0, c1, c2, c3, c4, c5, c6⟩, ⟨f0, f1, f2, f3, f4, f5, f6⟩, hlt1, hlt2⟩ := HG5.out.cells
        obtain ⟨⟨r0, r1, r2, r3⟩, _⟩ := row_cells HR5.out
        clear hHeld
        refine hK.out _ _ ?_ (fun hHeld => ?_)
        · exact (HoldC.cons (p2) (HoldC.cons (r2) (HoldC.past (by kernel_rfl) HoldC.nil)))
        clear hK K
        try simp only [List.getElem_toArray, List.getElem_cons_succ, List.getElem_cons_zero, Act.put, List.setIfInBounds_toArray, List.set_cons_zero, List.set_cons_succ]
        refine wpAnyL_ready (rs := [9]) (by kernel_rfl) (by simp) ?_
        refine AllReadyL.cons (o := _) rfl (fun K hK => ?_) AllReadyL.nil
        try simp only [List.getElem_toArray, List.getElem_cons_succ, List.getElem_cons_zero]
        go_simp
        refine CC.out.mono ?_
        rintro e w6 ⟨vn, rfl, hr6, hn6, hc6⟩
        have HG6 := Lib.hid (HG5.out.keep0 hc6)
        have HR6 := Lib.hid (Going.rows HG5.out hc6 vn (fun g hg => ⟨hn6 g hg, hr6.lt g hg⟩))
        have HFR : Hid (Free w6 (vn.ownBlock.toList ++ (w.heap.size :: (w.heap.size + 1) :: X)) vn l) := Lib.hid ⟨hr6.bytes, fun _ g hg => List.mem_append_left _ (Option.mem_toList.2 hg)⟩
        have HR6r := Lib.hid (hc6.keep HR5.out (by simp))
        clear hr6 hn6 hc6 CC r0 r1 r2 r3
        clear p0 p1 p2 p3 o0 o1 o2 o3 o4 o5 o6 o7 c0 c1 c2 c3 c4 c5 c6 f0 f1 f2 f3 f4 f5 f6 hlt1 hlt2
        obtain ⟨⟨p0, p1, p2, p3⟩, ⟨o0, o1, o2, o3, o4, o5, o6, o7⟩, ⟨c0, c1, c2, c3, c4, c5, c6⟩, ⟨f0, f1, f2, f3, f4, f5, f6⟩, hlt1, hlt2⟩ := HG6.out.cells
        obtain ⟨⟨r0, r1, r2, r3⟩, _⟩ := row_cells HR6r.out
        clear hHeld
        refine hK.out _ _ ?_ (fun hHeld => ?_)
        · exact (HoldC.cons (p2) (HoldC.cons (r2) (HoldC.past (by kernel_rfl) HoldC.nil)))
        clear hK K
        try simp only [List.getElem_toArray, List.getElem_cons_succ, List.getElem_cons_zero, Act.put, List.setIfInBounds_toArray, List.set_cons_zero, List.set_cons_succ]
        refine wpAnyL_ready (rs := [10]) (by kernel_rfl) (by simp) ?_
        refine AllReadyL.cons (o := _) rfl (fun K hK => ?_) AllReadyL.nil
        try simp only [List.getElem_toArray, List.getElem_cons_succ, List.getElem_cons_zero]
        rw [if_pos (by rfl)]
        refine wp_fset _ (.tmp 24) (.tmp 26) (.tmp 30) (by rfl) c (by rfl) HR6.out HFO.out ri (by rfl) HIK.out _ (by rfl) _ HFR.out ?_
        intro w7 h7 hs7
        have HG7 := Lib.hid (HG6.out.step (PAt.less h7 (fun x hx => List.mem_append_right _ hx)))
        clear h7 hs7 HFR r0 r1 r2 r3
        clear p0 p1 p2 p3 o0 o1 o2 o3 o4 o5 o6 o7 c0 c1 c2 c3 c4 c5 c6 f0 f1 f2 f3 f4 f5 f6 hlt1 hlt2
        obtain ⟨⟨p0, p1, p2, p3⟩, ⟨o0, o1, o2, o3, o4, o5, o6, o7⟩, ⟨c0, c1, c2, c3, c4, c5, c6⟩, ⟨f0, f1, f2, f3, f4, f5, f6⟩, hlt1, hlt2⟩ := HG7.out.cells
        clear hHeld
        refine hK.out _ _ ?_ (fun hHeld => ?_)
        · exact (HoldC.past (by kernel_rfl) (HoldC.past (by kernel_rfl) (HoldC.past (by kernel_rfl) HoldC.nil)))
        clear hK K
        try simp only [List.getElem_toArray, List.getElem_cons_succ, List.getElem_cons_zero, Act.put, List.setIfInBounds_toArray, List.set_cons_zero, List.set_cons_succ]
        refine wpAnyL_done (by kernel_rfl) ?_ _
        clear hHeld
        go_wp2
        obtain ⟨HBK, HAP⟩ := Going.done (no 0) { s with F := upd s.F ri l, O := s.O, K := s.K } HE.out HG7.out rfl rfl (u0 := .int .i64 0) (u1 := .int .i64 0) (u2 := .bool false) (u3 := .int .i64 0) (u4 := .int .i64 0) rfl rfl rfl rfl rfl
        obtain ⟨⟨d0, d1, d2, d3, d4, d5, d6⟩, _⟩ := ans_cells HBK
        unfold set7 at d0 d1 d2 d3 d4 d5 d6
        exact bodyPost_ret (v := .agg #[.int .i64 0, .int .i64 0, .bool false, .int .i64 0, .int .i64 0, .slice none 0 0, .slice none 0 0]) (by simp [results, Try.results37, go_sem, d0, d1, d2, d3, d4, d5, d6]) rfl HAP
end Go.Proofs.Ytaophafailmhjaa.W

/- The file system as it is meant: Do. -/
namespace Go.Proofs.Ytaophafailmhjaa.W
open Go.RowKit
open Go.Proofs.Ytaophafailmhjaa.NM
set_option linter.unusedVariables false
set_option linter.unusedSimpArgs false

variable {X Y S : List Nat} {w0 w w' w1 w2 w3 : World} {c : PC} {s s' : PS} {o : Op} {v : Value}
theorem Going.ofA (h : Going X w0 w w1 c S s o v) {vb vl : Value} (hA : PAt (vb.ownBlock.toList ++ (vl.ownBlock.toList ++ (w.heap.size :: (w.heap.size + 1) :: X))) w0 w2 c S s') (hk : KeepK (w.heap.size :: (w.heap.size + 1) :: X) w1 w2) : Going X w0 w w2 c S s' o v :=
  h.step ⟨hA.mono (fun x hx => List.mem_append_right _ (List.mem_append_right _ hx)), hk⟩
theorem psDo_inv (h : PInv s) (a : Int) (o : Op) (hT : TOk (psDo s a o).2.T) : PInv (psDo s a o).2 := by
  unfold psDo at hT ⊢
  split
  · exact h
  · rename_i h0
    rw [if_neg h0] at hT
    split
    · rename_i h1; rw [if_pos h1] at hT; exact h.make o (by omega) hT
    · rename_i h1; rw [if_neg h1] at hT
      split
      · rename_i h2; rw [if_pos h2] at hT; exact h.remove o (by omega) hT
      · rename_i h2; rw [if_neg h2] at hT
        split
        · rename_i h3; rw [if_pos h3] at hT; exact h.rename o hT
        · split
          · unfold psStat; split <;> exact h
          · split
            · exact h
            · split
              · exact h.opens a o
              · split
                · unfold psRead; split
                  · exact h
                  · split <;> exact h
                · split
                  · exact h.write a o
                  · split
                    · exact h.trunc a o
                    · exact h.sync a o
theorem ansV_eq (a : Ans) (vb vl : Value) : ansV a vb vl = .agg #[.int .i64 a.e, .int .i64 a.ino, .bool a.dir, .int .i64 (a.size : Int), .int .i64 a.h, vb, vl] := rfl
theorem nil_nil (w : World) : (binOp .eql 63 .nilFunc .nilFunc).run Try.prog w = .ok (.bool true) w := by kernel_rfl
theorem func_nil (n : Nat) (w : World) : (binOp .eql 63 (.func (.func n) #[] #[]) .nilFunc).run Try.prog w = .ok (.bool false) w := by kernel_rfl
set_option maxHeartbeats 4000000 in
set_option maxRecDepth 100000 in
theorem pdo_any (h : PAt X w0 w c S s) (hI : PInv s) (a : Int) (o : Op) (v : Value) (hv : BytesAt w v o.b) (hp : o.p.length ≤ 1000000) (hq : o.q.length ≤ 1000000) : Calls Try.prog 10 #[.pointer (some ⟨c.p, 0, none⟩), .int .i64 a, opV o v] w (APost X w0 w c S (psDo s a o)) := by
  obtain ⟨ab, cb, rfl⟩ := hv.slice
  have HB := begun h o (.slice ab o.b.length cb)
  obtain ⟨w1, hw1⟩ : ∃ w1, w1 = (w.alloc (.cells #[.int .i64 o.d, .string (NM.mk o.p), .string (NM.mk o.q), .int .i64 o.h, .int .i64 o.i, .int .i64 o.n, .bool o.w, .slice ab o.b.length cb] 33)).alloc (.cells #[.int .i64 0, .int .i64 0, .bool false, .int .i64 0, .int .i64 0, .slice none 0 0, .slice none 0 0] 30) := ⟨_, rfl⟩
  rw [← hw1] at HB
  have HG := Lib.hid HB.go
  have HW1 := Lib.hid hw1
  have HI := Lib.hid hI
  obtain ⟨⟨p0, p1, p2, p3⟩, ⟨o0, o1, o2, o3, o4, o5, o6, o7⟩, ⟨c0, c1, c2, c3, c4, c5, c6⟩, ⟨f0, f1, f2, f3, f4, f5, f6⟩, hlt1, hlt2⟩ := HG.out.cells
  obtain ⟨Z, hZ⟩ : ∃ Z, Z = psDo s a o := ⟨_, rfl⟩
  rw [← hZ]
  have HZ := Lib.hid hZ
  have HBV : Hid (BytesAt w1 (.slice ab o.b.length cb) o.b) := Lib.hid (hv.chg0 HB.chg)
  have CM := Lib.hid (made26_any HG.out.at_)
  have hnn := nil_nil
  have hfn := func_nil
  clear hZ h HB hI hw1 hv
  unfold opV opC
  by_cases ha : a < 0
  · have HE : Hid (Z = (no 1, s)) := Lib.hid (by rw [HZ.out]; unfold psDo; rw [if_pos (by omega)])
    clear HZ
    go_enter Try.func10, Try.ntmps10
    go_wp2_with fail
    rw [← HW1.out]
    refine CM.out.mono ?_
    rintro e w' ⟨rfl, hq1⟩
    subst hq1
    go_wp2_with fail
    refine (deedOf_any o.d _).mono ?_
    rintro e w' ⟨rfl, hq2⟩
    subst hq2
    go_wp2_with fail
    refine (no_any 1 _).mono ?_
    rintro e w9 ⟨rfl, h9⟩
    have HG4 := Lib.hid (HG.out.keep0 h9)
    clear h9
    unfold ansV no
    obtain ⟨⟨p0, p1, p2, p3⟩, ⟨o0, o1, o2, o3, o4, o5, o6, o7⟩, ⟨c0, c1, c2, c3, c4, c5, c6⟩, ⟨f0, f1, f2, f3, f4, f5, f6⟩, hlt1, hlt2⟩ := HG4.out.cells
    go_wp2
    obtain ⟨HBK, HAP⟩ := Going.done (no 1) s HE.out HG4.out rfl rfl (u0 := .int .i64 1) (u1 := .int .i64 0) (u2 := .bool false) (u3 := .int .i64 0) (u4 := .int .i64 0) rfl rfl rfl rfl rfl
    obtain ⟨⟨d0, d1, d2, d3, d4, d5, d6⟩, _⟩ := ans_cells HBK
    unfold set7 at d0 d1 d2 d3 d4 d5 d6
    exact bodyPost_ret (v := .agg #[.int .i64 1, .int .i64 0, .bool false, .int .i64 0, .int .i64 0, .slice none 0 0, .slice none 0 0]) (by simp [results, Try.results10, go_sem, d0, d1, d2, d3, d4, d5, d6]) rfl HAP
  by_cases hb : 4 ≤ a
  · have HE : Hid (Z = (no 1, s)) := Lib.hid (by rw [HZ.out]; unfold psDo; rw [if_pos (by omega)])
    clear HZ
    go_enter Try.func10, Try.ntmps10
    go_wp2_with fail
    rw [← HW1.out]
    refine CM.out.mono ?_
    rintro e w' ⟨rfl, hq1⟩
    subst hq1
    go_wp2_with fail
    refine (deedOf_any o.d _).mono ?_
    rintro e w' ⟨rfl, hq2⟩
    subst hq2
    go_wp2_with fail
    refine (no_any 1 _).mono ?_
    rintro e w9 ⟨rfl, h9⟩
    have HG4 := Lib.hid (HG.out.keep0 h9)
    clear h9
    unfold ansV no
    obtain ⟨⟨p0, p1, p2, p3⟩, ⟨o0, o1, o2, o3, o4, o5, o6, o7⟩, ⟨c0, c1, c2, c3, c4, c5, c6⟩, ⟨f0, f1, f2, f3, f4, f5, f6⟩, hlt1, hlt2⟩ := HG4.out.cells
    go_wp2
    obtain ⟨HBK, HAP⟩ := Going.done (no 1) s HE.out HG4.out rfl rfl (u0 := .int .i64 1) (u1 := .int .i64 0) (u2 := .bool false) (u3 := .int .i64 0) (u4 := .int .i64 0) rfl rfl rfl rfl rfl
    obtain ⟨⟨d0, d1, d2, d3, d4, d5, d6⟩, _⟩ := ans_cells HBK
    unfold set7 at d0 d1 d2 d3 d4 d5 d6
    exact bodyPost_ret (v := .agg #[.int .i64 1, .int .i64 0, .bool false, .int .i64 0, .int .i64 0, .slice none 0 0, .slice none 0 0]) (by simp [results, Try.results10, go_sem, d0, d1, d2, d3, d4, d5, d6]) rfl HAP
  by_cases hd : o.d < 1 ∨ 13 < o.d
  · have hdv : deedV o.d = .nilFunc := by
      unfold deedV deedNum
      repeat rw [if_neg (by omega)]
    have HE : Hid (Z = (no 1, s)) := Lib.hid (by rw [HZ.out]; unfold psDo; rw [if_pos (by omega)])
    clear HZ hd
    go_enter Try.func10, Try.ntmps10
    go_wp2_with fail
    rw [← HW1.out]
    refine CM.out.mono ?_
    rintro e w' ⟨rfl, hq1⟩
    subst hq1
    go_wp2_with fail
    refine (deedOf_any o.d _).mono ?_
    rw [hdv]
    rintro e w' ⟨rfl, hq2⟩
    subst hq2
    go_wp2_with fail
    refine (no_any 1 _).mono ?_
    rintro e w9 ⟨rfl, h9⟩
    have HG4 := Lib.hid (HG.out.keep0 h9)
    clear h9
    unfold ansV no
    obtain ⟨⟨p0, p1, p2, p3⟩, ⟨o0, o1, o2, o3, o4, o5, o6, o7⟩, ⟨c0, c1, c2, c3, c4, c5, c6⟩, ⟨f0, f1, f2, f3, f4, f5, f6⟩, hlt1, hlt2⟩ := HG4.out.cells
    go_wp2
    obtain ⟨HBK, HAP⟩ := Going.done (no 1) s HE.out HG4.out rfl rfl (u0 := .int .i64 1) (u1 := .int .i64 0) (u2 := .bool false) (u3 := .int .i64 0) (u4 := .int .i64 0) rfl rfl rfl rfl rfl
    obtain ⟨⟨d0, d1, d2, d3, d4, d5, d6⟩, _⟩ := ans_cells HBK
    unfold set7 at d0 d1 d2 d3 d4 d5 d6
    exact bodyPost_ret (v := .agg #[.int .i64 1, .int .i64 0, .bool false, .int .i64 0, .int .i64 0, .slice none 0 0, .slice none 0 0]) (by simp [results, Try.results10, go_sem, d0, d1, d2, d3, d4, d5, d6]) rfl HAP
  by_cases hd1 : o.d = 1 ∨ o.d = 2
  · have hdv : deedV o.d = .func (.func 28) #[] #[] := by
      rcases hd1 with h | h
      all_goals (rw [h]; rfl)
    have HPS : Hid (Z = psMake s o) := Lib.hid (by rw [HZ.out]; unfold psDo; rw [if_neg (by omega)]; rw [if_pos (by omega)])
    have CP : Hid (Calls Try.prog 28 #[.pointer (some ⟨c.p, 0, none⟩), .int .i64 a, .agg #[.int .i64 o.d, .string (NM.mk o.p), .string (NM.mk o.q), .int .i64 o.h, .int .i64 o.i, .int .i64 o.n, .bool o.w, .slice ab o.b.length cb]] w1 (APost (w.heap.size :: (w.heap.size + 1) :: X) w0 w1 c S Z)) := Lib.hid (by rw [HPS.out]; exact pmake_any HG.out.at_ HI.out a o _ (by omega) (by omega))
    clear HZ HPS HBV hd hp hq
    clear hd1
    unfold APost at CP
    go_enter Try.func10, Try.ntmps10
    go_wp2_with fail
    rw [← HW1.out]
    refine CM.out.mono ?_
    rintro e w' ⟨rfl, hq1⟩
    subst hq1
    go_wp2_with fail
    refine (deedOf_any o.d _).mono ?_
    rw [hdv]
    rintro e w' ⟨rfl, hq2⟩
    subst hq2
    go_wp2_with fail
    refine CP.out.mono ?_
    rintro e w3 ⟨vb, vl, rfl, hb3, hl3, ha3, hk3, hn3⟩
    have HG3 := Lib.hid (HG.out.ofA ha3 hk3)
    have HA3 := Lib.hid ha3
    have HB3 := Lib.hid hb3
    have HL3 := Lib.hid hl3
    have HN3 := Lib.hid hn3
    have HHI := Lib.hid HG.out.high
    clear ha3 hk3 hb3 hl3 hn3
    rw [ansV_eq]
    clear p0 p1 p2 p3 o0 o1 o2 o3 o4 o5 o6 o7 c0 c1 c2 c3 c4 c5 c6 f0 f1 f2 f3 f4 f5 f6 hlt1 hlt2
    obtain ⟨⟨p0, p1, p2, p3⟩, ⟨o0, o1, o2, o3, o4, o5, o6, o7⟩, ⟨c0, c1, c2, c3, c4, c5, c6⟩, ⟨f0, f1, f2, f3, f4, f5, f6⟩, hlt1, hlt2⟩ := HG3.out.cells
    have hx1 : ∃ x1 x2 x3, vb = .slice x1 x2 x3 := by obtain ⟨x1, x3, e, _⟩ := HB3.out; exact ⟨x1, _, x3, e⟩
    have hx2 : ∃ x1 x2 x3, vl = .slice x1 x2 x3 := by obtain ⟨x1, x3, e, _⟩ := HL3.out; exact ⟨x1, _, x3, e⟩
    obtain ⟨x1, x2, x3, rfl⟩ := hx1
    obtain ⟨y1, y2, y3, rfl⟩ := hx2
    go_wp2
    obtain ⟨HBK, HAP⟩ := Going.doneR Z.1 Z.2 rfl HG3.out (.slice x1 x2 x3) (.slice y1 y2 y3) HA3.out HB3.out HL3.out (fun g hg => by have := HN3.out g (.inl hg); have := HHI.out; omega) (fun g hg => by have := HN3.out g (.inr hg); have := HHI.out; omega) (u0 := .int .i64 Z.1.e) (u1 := .int .i64 Z.1.ino) (u2 := .bool Z.1.dir) (u3 := .int .i64 (Z.1.size : Int)) (u4 := .int .i64 Z.1.h) rfl rfl rfl rfl rfl
    obtain ⟨⟨d0, d1, d2, d3, d4, d5, d6⟩, _⟩ := ans_cells HBK
    unfold set7 at d0 d1 d2 d3 d4 d5 d6
    exact bodyPost_ret (v := .agg #[.int .i64 Z.1.e, .int .i64 Z.1.ino, .bool Z.1.dir, .int .i64 (Z.1.size : Int), .int .i64 Z.1.h, .slice x1 x2 x3, .slice y1 y2 y3]) (by simp [results, Try.results10, go_sem, d0, d1, d2, d3, d4, d5, d6]) rfl HAP
  by_cases hd1 : o.d = 3 ∨ o.d = 4
  · have hdv : deedV o.d = .func (.func 29) #[] #[] := by
      rcases hd1 with h | h
      all_goals (rw [h]; rfl)
    have HPS : Hid (Z = psRemove s o) := Lib.hid (by rw [HZ.out]; unfold psDo; rw [if_neg (by omega)]; rw [if_neg (by omega)]; rw [if_pos (by omega)])
    have CP : Hid (Calls Try.prog 29 #[.pointer (some ⟨c.p, 0, none⟩), .int .i64 a, .agg #[.int .i64 o.d, .string (NM.mk o.p), .string (NM.mk o.q), .int .i64 o.h, .int .i64 o.i, .int .i64 o.n, .bool o.w, .slice ab o.b.length cb]] w1 (APost (w.heap.size :: (w.heap.size + 1) :: X) w0 w1 c S Z)) := Lib.hid (by rw [HPS.out]; exact premove_any HG.out.at_ HI.out a o _ (by omega) (by omega))
    clear HZ HPS HBV hd hp hq
    clear hd1
    unfold APost at CP
    go_enter Try.func10, Try.ntmps10
    go_wp2_with fail
    rw [← HW1.out]
    refine CM.out.mono ?_
    rintro e w' ⟨rfl, hq1⟩
    subst hq1
    go_wp2_with fail
    refine (deedOf_any o.d _).mono ?_
    rw [hdv]
    rintro e w' ⟨rfl, hq2⟩
    subst hq2
    go_wp2_with fail
    refine CP.out.mono ?_
    rintro e w3 ⟨vb, vl, rfl, hb3, hl3, ha3, hk3, hn3⟩
    have HG3 := Lib.hid (HG.out.ofA ha3 hk3)
    have HA3 := Lib.hid ha3
    have HB3 := Lib.hid hb3
    have HL3 := Lib.hid hl3
    have HN3 := Lib.hid hn3
    have HHI := Lib.hid HG.out.high
    clear ha3 hk3 hb3 hl3 hn3
    rw [ansV_eq]
    clear p0 p1 p2 p3 o0 o1 o2 o3 o4 o5 o6 o7 c0 c1 c2 c3 c4 c5 c6 f0 f1 f2 f3 f4 f5 f6 hlt1 hlt2
    obtain ⟨⟨p0, p1, p2, p3⟩, ⟨o0, o1, o2, o3, o4, o5, o6, o7⟩, ⟨c0, c1, c2, c3, c4, c5, c6⟩, ⟨f0, f1, f2, f3, f4, f5, f6⟩, hlt1, hlt2⟩ := HG3.out.cells
    have hx1 : ∃ x1 x2 x3, vb = .slice x1 x2 x3 := by obtain ⟨x1, x3, e, _⟩ := HB3.out; exact ⟨x1, _, x3, e⟩
    have hx2 : ∃ x1 x2 x3, vl = .slice x1 x2 x3 := by obtain ⟨x1, x3, e, _⟩ := HL3.out; exact ⟨x1, _, x3, e⟩
    obtain ⟨x1, x2, x3, rfl⟩ := hx1
    obtain ⟨y1, y2, y3, rfl⟩ := hx2
    go_wp2
    obtain ⟨HBK, HAP⟩ := Going.doneR Z.1 Z.2 rfl HG3.out (.slice x1 x2 x3) (.slice y1 y2 y3) HA3.out HB3.out HL3.out (fun g hg => by have := HN3.out g (.inl hg); have := HHI.out; omega) (fun g hg => by have := HN3.out g (.inr hg); have := HHI.out; omega) (u0 := .int .i64 Z.1.e) (u1 := .int .i64 Z.1.ino) (u2 := .bool Z.1.dir) (u3 := .int .i64 (Z.1.size : Int)) (u4 := .int .i64 Z.1.h) rfl rfl rfl rfl rfl
    obtain ⟨⟨d0, d1, d2, d3, d4, d5, d6⟩, _⟩ := ans_cells HBK
    unfold set7 at d0 d1 d2 d3 d4 d5 d6
    exact bodyPost_ret (v := .agg #[.int .i64 Z.1.e, .int .i64 Z.1.ino, .bool Z.1.dir, .int .i64 (Z.1.size : Int), .int .i64 Z.1.h, .slice x1 x2 x3, .slice y1 y2 y3]) (by simp [results, Try.results10, go_sem, d0, d1, d2, d3, d4, d5, d6]) rfl HAP
  by_cases hd1 : o.d = 5
  · have hdv : deedV o.d = .func (.func 30) #[] #[] := by
      have h := hd1
      all_goals (rw [h]; rfl)
    have HPS : Hid (Z = psRename s o) := Lib.hid (by rw [HZ.out]; unfold psDo; rw [if_neg (by omega)]; rw [if_neg (by omega)]; rw [if_neg (by omega)]; rw [if_pos (by omega)])
    have CP : Hid (Calls Try.prog 30 #[.pointer (some ⟨c.p, 0, none⟩), .int .i64 a, .agg #[.int .i64 o.d, .string (NM.mk o.p), .string (NM.mk o.q), .int .i64 o.h, .int .i64 o.i, .int .i64 o.n, .bool o.w, .slice ab o.b.length cb]] w1 (APost (w.heap.size :: (w.heap.size + 1) :: X) w0 w1 c S Z)) := Lib.hid (by rw [HPS.out]; exact prename_any HG.out.at_ HI.out a o _ (by omega) (by omega))
    clear HZ HPS HBV hd hp hq
    clear hd1
    unfold APost at CP
    go_enter Try.func10, Try.ntmps10
    go_wp2_with fail
    rw [← HW1.out]
    refine CM.out.mono ?_
    rintro e w' ⟨rfl, hq1⟩
    subst hq1
    go_wp2_with fail
    refine (deedOf_any o.d _).mono ?_
    rw [hdv]
    rintro e w' ⟨rfl, hq2⟩
    subst hq2
    go_wp2_with fail
    refine CP.out.mono ?_
    rintro e w3 ⟨vb, vl, rfl, hb3, hl3, ha3, hk3, hn3⟩
    have HG3 := Lib.hid (HG.out.ofA ha3 hk3)
    have HA3 := Lib.hid ha3
    have HB3 := Lib.hid hb3
    have HL3 := Lib.hid hl3
    have HN3 := Lib.hid hn3
    have HHI := Lib.hid HG.out.high
    clear ha3 hk3 hb3 hl3 hn3
    rw [ansV_eq]
    clear p0 p1 p2 p3 o0 o1 o2 o3 o4 o5 o6 o7 c0 c1 c2 c3 c4 c5 c6 f0 f1 f2 f3 f4 f5 f6 hlt1 hlt2
    obtain ⟨⟨p0, p1, p2, p3⟩, ⟨o0, o1, o2, o3, o4, o5, o6, o7⟩, ⟨c0, c1, c2, c3, c4, c5, c6⟩, ⟨f0, f1, f2, f3, f4, f5, f6⟩, hlt1, hlt2⟩ := HG3.out.cells
    have hx1 : ∃ x1 x2 x3, vb = .slice x1 x2 x3 := by obtain ⟨x1, x3, e, _⟩ := HB3.out; exact ⟨x1, _, x3, e⟩
    have hx2 : ∃ x1 x2 x3, vl = .slice x1 x2 x3 := by obtain ⟨x1, x3, e, _⟩ := HL3.out; exact ⟨x1, _, x3, e⟩
    obtain ⟨x1, x2, x3, rfl⟩ := hx1
    obtain ⟨y1, y2, y3, rfl⟩ := hx2
    go_wp2
    obtain ⟨HBK, HAP⟩ := Going.doneR Z.1 Z.2 rfl HG3.out (.slice x1 x2 x3) (.slice y1 y2 y3) HA3.out HB3.out HL3.out (fun g hg => by have := HN3.out g (.inl hg); have := HHI.out; omega) (fun g hg => by have := HN3.out g (.inr hg); have := HHI.out; omega) (u0 := .int .i64 Z.1.e) (u1 := .int .i64 Z.1.ino) (u2 := .bool Z.1.dir) (u3 := .int .i64 (Z.1.size : Int)) (u4 := .int .i64 Z.1.h) rfl rfl rfl rfl rfl
    obtain ⟨⟨d0, d1, d2, d3, d4, d5, d6⟩, _⟩ := ans_cells HBK
    unfold set7 at d0 d1 d2 d3 d4 d5 d6
    exact bodyPost_ret (v := .agg #[.int .i64 Z.1.e, .int .i64 Z.1.ino, .bool Z.1.dir, .int .i64 (Z.1.size : Int), .int .i64 Z.1.h, .slice x1 x2 x3, .slice y1 y2 y3]) (by simp [results, Try.results10, go_sem, d0, d1, d2, d3, d4, d5, d6]) rfl HAP
  by_cases hd1 : o.d = 6
  · have hdv : deedV o.d = .func (.func 31) #[] #[] := by
      have h := hd1
      all_goals (rw [h]; rfl)
    have HPS : Hid (Z = psStat s o) := Lib.hid (by rw [HZ.out]; unfold psDo; rw [if_neg (by omega)]; rw [if_neg (by omega)]; rw [if_neg (by omega)]; rw [if_neg (by omega)]; rw [if_pos (by omega)])
    have CP : Hid (Calls Try.prog 31 #[.pointer (some ⟨c.p, 0, none⟩), .int .i64 a, .agg #[.int .i64 o.d, .string (NM.mk o.p), .string (NM.mk o.q), .int .i64 o.h, .int .i64 o.i, .int .i64 o.n, .bool o.w, .slice ab o.b.length cb]] w1 (APost (w.heap.size :: (w.heap.size + 1) :: X) w0 w1 c S Z)) := Lib.hid (by rw [HPS.out]; exact pstat_any HG.out.at_ HI.out a o _ (by omega))
    clear HZ HPS HBV hd hp hq
    clear hd1
    unfold APost at CP
    go_enter Try.func10, Try.ntmps10
    go_wp2_with fail
    rw [← HW1.out]
    refine CM.out.mono ?_
    rintro e w' ⟨rfl, hq1⟩
    subst hq1
    go_wp2_with fail
    refine (deedOf_any o.d _).mono ?_
    rw [hdv]
    rintro e w' ⟨rfl, hq2⟩
    subst hq2
    go_wp2_with fail
    refine CP.out.mono ?_
    rintro e w3 ⟨vb, vl, rfl, hb3, hl3, ha3, hk3, hn3⟩
    have HG3 := Lib.hid (HG.out.ofA ha3 hk3)
    have HA3 := Lib.hid ha3
    have HB3 := Lib.hid hb3
    have HL3 := Lib.hid hl3
    have HN3 := Lib.hid hn3
    have HHI := Lib.hid HG.out.high
    clear ha3 hk3 hb3 hl3 hn3
    rw [ansV_eq]
    clear p0 p1 p2 p3 o0 o1 o2 o3 o4 o5 o6 o7 c0 c1 c2 c3 c4 c5 c6 f0 f1 f2 f3 f4 f5 f6 hlt1 hlt2
    obtain ⟨⟨p0, p1, p2, p3⟩, ⟨o0, o1, o2, o3, o4, o5, o6, o7⟩, ⟨c0, c1, c2, c3, c4, c5, c6⟩, ⟨f0, f1, f2, f3, f4, f5, f6⟩, hlt1, hlt2⟩ := HG3.out.cells
    have hx1 : ∃ x1 x2 x3, vb = .slice x1 x2 x3 := by obtain ⟨x1, x3, e, _⟩ := HB3.out; exact ⟨x1, _, x3, e⟩
    have hx2 : ∃ x1 x2 x3, vl = .slice x1 x2 x3 := by obtain ⟨x1, x3, e, _⟩ := HL3.out; exact ⟨x1, _, x3, e⟩
    obtain ⟨x1, x2, x3, rfl⟩ := hx1
    obtain ⟨y1, y2, y3, rfl⟩ := hx2
    go_wp2
    obtain ⟨HBK, HAP⟩ := Going.doneR Z.1 Z.2 rfl HG3.out (.slice x1 x2 x3) (.slice y1 y2 y3) HA3.out HB3.out HL3.out (fun g hg => by have := HN3.out g (.inl hg); have := HHI.out; omega) (fun g hg => by have := HN3.out g (.inr hg); have := HHI.out; omega) (u0 := .int .i64 Z.1.e) (u1 := .int .i64 Z.1.ino) (u2 := .bool Z.1.dir) (u3 := .int .i64 (Z.1.size : Int)) (u4 := .int .i64 Z.1.h) rfl rfl rfl rfl rfl
    obtain ⟨⟨d0, d1, d2, d3, d4, d5, d6⟩, _⟩ := ans_cells HBK
    unfold set7 at d0 d1 d2 d3 d4 d5 d6
    exact bodyPost_ret (v := .agg #[.int .i64 Z.1.e, .int .i64 Z.1.ino, .bool Z.1.dir, .int .i64 (Z.1.size : Int), .int .i64 Z.1.h, .slice x1 x2 x3, .slice y1 y2 y3]) (by simp [results, Try.results10, go_sem, d0, d1, d2, d3, d4, d5, d6]) rfl HAP
  by_cases hd1 : o.d = 7
  · have hdv : deedV o.d = .func (.func 32) #[] #[] := by
      have h := hd1
      all_goals (rw [h]; rfl)
    have HPS : Hid (Z = psList s o) := Lib.hid (by rw [HZ.out]; unfold psDo; rw [if_neg (by omega)]; rw [if_neg (by omega)]; rw [if_neg (by omega)]; rw [if_neg (by omega)]; rw [if_neg (by omega)]; rw [if_pos (by omega)])
    have CP : Hid (Calls Try.prog 32 #[.pointer (some ⟨c.p, 0, none⟩), .int .i64 a, .agg #[.int .i64 o.d, .string (NM.mk o.p), .string (NM.mk o.q), .int .i64 o.h, .int .i64 o.i, .int .i64 o.n, .bool o.w, .slice ab o.b.length cb]] w1 (APost (w.heap.size :: (w.heap.size + 1) :: X) w0 w1 c S Z)) := Lib.hid (by rw [HPS.out]; exact plist_any HG.out.at_ HI.out a o _ (by omega))
    clear HZ HPS HBV hd hp hq
    clear hd1
    unfold APost at CP
    go_enter Try.func10, Try.ntmps10
    go_wp2_with fail
    rw [← HW1.out]
    refine CM.out.mono ?_
    rintro e w' ⟨rfl, hq1⟩
    subst hq1
    go_wp2_with fail
    refine (deedOf_any o.d _).mono ?_
    rw [hdv]
    rintro e w' ⟨rfl, hq2⟩
    subst hq2
    go_wp2_with fail
    refine CP.out.mono ?_
    rintro e w3 ⟨vb, vl, rfl, hb3, hl3, ha3, hk3, hn3⟩
    have HG3 := Lib.hid (HG.out.ofA ha3 hk3)
    have HA3 := Lib.hid ha3
    have HB3 := Lib.hid hb3
    have HL3 := Lib.hid hl3
    have HN3 := Lib.hid hn3
    have HHI := Lib.hid HG.out.high
    clear ha3 hk3 hb3 hl3 hn3
    rw [ansV_eq]
    clear p0 p1 p2 p3 o0 o1 o2 o3 o4 o5 o6 o7 c0 c1 c2 c3 c4 c5 c6 f0 f1 f2 f3 f4 f5 f6 hlt1 hlt2
    obtain ⟨⟨p0, p1, p2, p3⟩, ⟨o0, o1, o2, o3, o4, o5, o6, o7⟩, ⟨c0, c1, c2, c3, c4, c5, c6⟩, ⟨f0, f1, f2, f3, f4, f5, f6⟩, hlt1, hlt2⟩ := HG3.out.cells
    have hx1 : ∃ x1 x2 x3, vb = .slice x1 x2 x3 := by obtain ⟨x1, x3, e, _⟩ := HB3.out; exact ⟨x1, _, x3, e⟩
    have hx2 : ∃ x1 x2 x3, vl = .slice x1 x2 x3 := by obtain ⟨x1, x3, e, _⟩ := HL3.out; exact ⟨x1, _, x3, e⟩
    obtain ⟨x1, x2, x3, rfl⟩ := hx1
    obtain ⟨y1, y2, y3, rfl⟩ := hx2
    go_wp2
    obtain ⟨HBK, HAP⟩ := Going.doneR Z.1 Z.2 rfl HG3.out (.slice x1 x2 x3) (.slice y1 y2 y3) HA3.out HB3.out HL3.out (fun g hg => by have := HN3.out g (.inl hg); have := HHI.out; omega) (fun g hg => by have := HN3.out g (.inr hg); have := HHI.out; omega) (u0 := .int .i64 Z.1.e) (u1 := .int .i64 Z.1.ino) (u2 := .bool Z.1.dir) (u3 := .int .i64 (Z.1.size : Int)) (u4 := .int .i64 Z.1.h) rfl rfl rfl rfl rfl
    obtain ⟨⟨d0, d1, d2, d3, d4, d5, d6⟩, _⟩ := ans_cells HBK
    unfold set7 at d0 d1 d2 d3 d4 d5 d6
    exact bodyPost_ret (v := .agg #[.int .i64 Z.1.e, .int .i64 Z.1.ino, .bool Z.1.dir, .int .i64 (Z.1.size : Int), .int .i64 Z.1.h, .slice x1 x2 x3, .slice y1 y2 y3]) (by simp [results, Try.results10, go_sem, d0, d1, d2, d3, d4, d5, d6]) rfl HAP
  by_cases hd1 : o.d = 8
  · have hdv : deedV o.d = .func (.func 33) #[] #[] := by
      have h := hd1
      all_goals (rw [h]; rfl)
    have HPS : Hid (Z = psOpen s a o) := Lib.hid (by rw [HZ.out]; unfold psDo; rw [if_neg (by omega)]; rw [if_neg (by omega)]; rw [if_neg (by omega)]; rw [if_neg (by omega)]; rw [if_neg (by omega)]; rw [if_neg (by omega)]; rw [if_pos (by omega)])
    have CP : Hid (Calls Try.prog 33 #[.pointer (some ⟨c.p, 0, none⟩), .int .i64 a, .agg #[.int .i64 o.d, .string (NM.mk o.p), .string (NM.mk o.q), .int .i64 o.h, .int .i64 o.i, .int .i64 o.n, .bool o.w, .slice ab o.b.length cb]] w1 (APost (w.heap.size :: (w.heap.size + 1) :: X) w0 w1 c S Z)) := Lib.hid (by rw [HPS.out]; exact popen_any HG.out.at_ HI.out a o _ (by omega))
    clear HZ HPS HBV hd hp hq
    clear hd1
    unfold APost at CP
    go_enter Try.func10, Try.ntmps10
    go_wp2_with fail
    rw [← HW1.out]
    refine CM.out.mono ?_
    rintro e w' ⟨rfl, hq1⟩
    subst hq1
    go_wp2_with fail
    refine (deedOf_any o.d _).mono ?_
    rw [hdv]
    rintro e w' ⟨rfl, hq2⟩
    subst hq2
    go_wp2_with fail
    refine CP.out.mono ?_
    rintro e w3 ⟨vb, vl, rfl, hb3, hl3, ha3, hk3, hn3⟩
    have HG3 := Lib.hid (HG.out.ofA ha3 hk3)
    have HA3 := Lib.hid ha3
    have HB3 := Lib.hid hb3
    have HL3 := Lib.hid hl3
    have HN3 := Lib.hid hn3
    have HHI := Lib.hid HG.out.high
    clear ha3 hk3 hb3 hl3 hn3
    rw [ansV_eq]
    clear p0 p1 p2 p3 o0 o1 o2 o3 o4 o5 o6 o7 c0 c1 c2 c3 c4 c5 c6 f0 f1 f2 f3 f4 f5 f6 hlt1 hlt2
    obtain ⟨⟨p0, p1, p2, p3⟩, ⟨o0, o1, o2, o3, o4, o5, o6, o7⟩, ⟨c0, c1, c2, c3, c4, c5, c6⟩, ⟨f0, f1, f2, f3, f4, f5, f6⟩, hlt1, hlt2⟩ := HG3.out.cells
    have hx1 : ∃ x1 x2 x3, vb = .slice x1 x2 x3 := by obtain ⟨x1, x3, e, _⟩ := HB3.out; exact ⟨x1, _, x3, e⟩
    have hx2 : ∃ x1 x2 x3, vl = .slice x1 x2 x3 := by obtain ⟨x1, x3, e, _⟩ := HL3.out; exact ⟨x1, _, x3, e⟩
    obtain ⟨x1, x2, x3, rfl⟩ := hx1
    obtain ⟨y1, y2, y3, rfl⟩ := hx2
    go_wp2
    obtain ⟨HBK, HAP⟩ := Going.doneR Z.1 Z.2 rfl HG3.out (.slice x1 x2 x3) (.slice y1 y2 y3) HA3.out HB3.out HL3.out (fun g hg => by have := HN3.out g (.inl hg); have := HHI.out; omega) (fun g hg => by have := HN3.out g (.inr hg); have := HHI.out; omega) (u0 := .int .i64 Z.1.e) (u1 := .int .i64 Z.1.ino) (u2 := .bool Z.1.dir) (u3 := .int .i64 (Z.1.size : Int)) (u4 := .int .i64 Z.1.h) rfl rfl rfl rfl rfl
    obtain ⟨⟨d0, d1, d2, d3, d4, d5, d6⟩, _⟩ := ans_cells HBK
    unfold set7 at d0 d1 d2 d3 d4 d5 d6
    exact bodyPost_ret (v := .agg #[.int .i64 Z.1.e, .int .i64 Z.1.ino, .bool Z.1.dir, .int .i64 (Z.1.size : Int), .int .i64 Z.1.h, .slice x1 x2 x3, .slice y1 y2 y3]) (by simp [results, Try.results10, go_sem, d0, d1, d2, d3, d4, d5, d6]) rfl HAP
  by_cases hd1 : o.d = 9
  · have hdv : deedV o.d = .func (.func 34) #[] #[] := by
      have h := hd1
      all_goals (rw [h]; rfl)
    have HPS : Hid (Z = psRead s a o) := Lib.hid (by rw [HZ.out]; unfold psDo; rw [if_neg (by omega)]; rw [if_neg (by omega)]; rw [if_neg (by omega)]; rw [if_neg (by omega)]; rw [if_neg (by omega)]; rw [if_neg (by omega)]; rw [if_neg (by omega)]; rw [if_pos (by omega)])
    have CP : Hid (Calls Try.prog 34 #[.pointer (some ⟨c.p, 0, none⟩), .int .i64 a, .agg #[.int .i64 o.d, .string (NM.mk o.p), .string (NM.mk o.q), .int .i64 o.h, .int .i64 o.i, .int .i64 o.n, .bool o.w, .slice ab o.b.length cb]] w1 (APost (w.heap.size :: (w.heap.size + 1) :: X) w0 w1 c S Z)) := Lib.hid (by rw [HPS.out]; exact pread_any HG.out.at_ HI.out a o _)
    clear HZ HPS HBV hd hp hq
    clear hd1
    unfold APost at CP
    go_enter Try.func10, Try.ntmps10
    go_wp2_with fail
    rw [← HW1.out]
    refine CM.out.mono ?_
    rintro e w' ⟨rfl, hq1⟩
    subst hq1
    go_wp2_with fail
    refine (deedOf_any o.d _).mono ?_
    rw [hdv]
    rintro e w' ⟨rfl, hq2⟩
    subst hq2
    go_wp2_with fail
    refine CP.out.mono ?_
    rintro e w3 ⟨vb, vl, rfl, hb3, hl3, ha3, hk3, hn3⟩
    have HG3 := Lib.hid (HG.out.ofA ha3 hk3)
    have HA3 := Lib.hid ha3
    have HB3 := Lib.hid hb3
    have HL3 := Lib.hid hl3
    have HN3 := Lib.hid hn3
    have HHI := Lib.hid HG.out.high
    clear ha3 hk3 hb3 hl3 hn3
    rw [ansV_eq]
    clear p0 p1 p2 p3 o0 o1 o2 o3 o4 o5 o6 o7 c0 c1 c2 c3 c4 c5 c6 f0 f1 f2 f3 f4 f5 f6 hlt1 hlt2
    obtain ⟨⟨p0, p1, p2, p3⟩, ⟨o0, o1, o2, o3, o4, o5, o6, o7⟩, ⟨c0, c1, c2, c3, c4, c5, c6⟩, ⟨f0, f1, f2, f3, f4, f5, f6⟩, hlt1, hlt2⟩ := HG3.out.cells
    have hx1 : ∃ x1 x2 x3, vb = .slice x1 x2 x3 := by obtain ⟨x1, x3, e, _⟩ := HB3.out; exact ⟨x1, _, x3, e⟩
    have hx2 : ∃ x1 x2 x3, vl = .slice x1 x2 x3 := by obtain ⟨x1, x3, e, _⟩ := HL3.out; exact ⟨x1, _, x3, e⟩
    obtain ⟨x1, x2, x3, rfl⟩ := hx1
    obtain ⟨y1, y2, y3, rfl⟩ := hx2
    go_wp2
    obtain ⟨HBK, HAP⟩ := Going.doneR Z.1 Z.2 rfl HG3.out (.slice x1 x2 x3) (.slice y1 y2 y3) HA3.out HB3.out HL3.out (fun g hg => by have := HN3.out g (.inl hg); have := HHI.out; omega) (fun g hg => by have := HN3.out g (.inr hg); have := HHI.out; omega) (u0 := .int .i64 Z.1.e) (u1 := .int .i64 Z.1.ino) (u2 := .bool Z.1.dir) (u3 := .int .i64 (Z.1.size : Int)) (u4 := .int .i64 Z.1.h) rfl rfl rfl rfl rfl
    obtain ⟨⟨d0, d1, d2, d3, d4, d5, d6⟩, _⟩ := ans_cells HBK
    unfold set7 at d0 d1 d2 d3 d4 d5 d6
    exact bodyPost_ret (v := .agg #[.int .i64 Z.1.e, .int .i64 Z.1.ino, .bool Z.1.dir, .int .i64 (Z.1.size : Int), .int .i64 Z.1.h, .slice x1 x2 x3, .slice y1 y2 y3]) (by simp [results, Try.results10, go_sem, d0, d1, d2, d3, d4, d5, d6]) rfl HAP
  by_cases hd1 : o.d = 10
  · have hdv : deedV o.d = .func (.func 35) #[] #[] := by
      have h := hd1
      all_goals (rw [h]; rfl)
    have HPS : Hid (Z = psWrite s a o) := Lib.hid (by rw [HZ.out]; unfold psDo; rw [if_neg (by omega)]; rw [if_neg (by omega)]; rw [if_neg (by omega)]; rw [if_neg (by omega)]; rw [if_neg (by omega)]; rw [if_neg (by omega)]; rw [if_neg (by omega)]; rw [if_neg (by omega)]; rw [if_pos (by omega)])
    have CP : Hid (Calls Try.prog 35 #[.pointer (some ⟨c.p, 0, none⟩), .int .i64 a, .agg #[.int .i64 o.d, .string (NM.mk o.p), .string (NM.mk o.q), .int .i64 o.h, .int .i64 o.i, .int .i64 o.n, .bool o.w, .slice ab o.b.length cb]] w1 (APost (w.heap.size :: (w.heap.size + 1) :: X) w0 w1 c S Z)) := Lib.hid (by rw [HPS.out]; exact pwrite_any HG.out.at_ HI.out a o _ HBV.out)
    clear HZ HPS HBV hd hp hq
    clear hd1
    unfold APost at CP
    go_enter Try.func10, Try.ntmps10
    go_wp2_with fail
    rw [← HW1.out]
    refine CM.out.mono ?_
    rintro e w' ⟨rfl, hq1⟩
    subst hq1
    go_wp2_with fail
    refine (deedOf_any o.d _).mono ?_
    rw [hdv]
    rintro e w' ⟨rfl, hq2⟩
    subst hq2
    go_wp2_with fail
    refine CP.out.mono ?_
    rintro e w3 ⟨vb, vl, rfl, hb3, hl3, ha3, hk3, hn3⟩
    have HG3 := Lib.hid (HG.out.ofA ha3 hk3)
    have HA3 := Lib.hid ha3
    have HB3 := Lib.hid hb3
    have HL3 := Lib.hid hl3
    have HN3 := Lib.hid hn3
    have HHI := Lib.hid HG.out.high
    clear ha3 hk3 hb3 hl3 hn3
    rw [ansV_eq]
    clear p0 p1 p2 p3 o0 o1 o2 o3 o4 o5 o6 o7 c0 c1 c2 c3 c4 c5 c6 f0 f1 f2 f3 f4 f5 f6 hlt1 hlt2
    obtain ⟨⟨p0, p1, p2, p3⟩, ⟨o0, o1, o2, o3, o4, o5, o6, o7⟩, ⟨c0, c1, c2, c3, c4, c5, c6⟩, ⟨f0, f1, f2, f3, f4, f5, f6⟩, hlt1, hlt2⟩ := HG3.out.cells
    have hx1 : ∃ x1 x2 x3, vb = .slice x1 x2 x3 := by obtain ⟨x1, x3, e, _⟩ := HB3.out; exact ⟨x1, _, x3, e⟩
    have hx2 : ∃ x1 x2 x3, vl = .slice x1 x2 x3 := by obtain ⟨x1, x3, e, _⟩ := HL3.out; exact ⟨x1, _, x3, e⟩
    obtain ⟨x1, x2, x3, rfl⟩ := hx1
    obtain ⟨y1, y2, y3, rfl⟩ := hx2
    go_wp2
    obtain ⟨HBK, HAP⟩ := Going.doneR Z.1 Z.2 rfl HG3.out (.slice x1 x2 x3) (.slice y1 y2 y3) HA3.out HB3.out HL3.out (fun g hg => by have := HN3.out g (.inl hg); have := HHI.out; omega) (fun g hg => by have := HN3.out g (.inr hg); have := HHI.out; omega) (u0 := .int .i64 Z.1.e) (u1 := .int .i64 Z.1.ino) (u2 := .bool Z.1.dir) (u3 := .int .i64 (Z.1.size : Int)) (u4 := .int .i64 Z.1.h) rfl rfl rfl rfl rfl
    obtain ⟨⟨d0, d1, d2, d3, d4, d5, d6⟩, _⟩ := ans_cells HBK
    unfold set7 at d0 d1 d2 d3 d4 d5 d6
    exact bodyPost_ret (v := .agg #[.int .i64 Z.1.e, .int .i64 Z.1.ino, .bool Z.1.dir, .int .i64 (Z.1.size : Int), .int .i64 Z.1.h, .slice x1 x2 x3, .slice y1 y2 y3]) (by simp [results, Try.results10, go_sem, d0, d1, d2, d3, d4, d5, d6]) rfl HAP
  by_cases hd1 : o.d = 11
  · have hdv : deedV o.d = .func (.func 36) #[] #[] := by
      have h := hd1
      all_goals (rw [h]; rfl)
    have HPS : Hid (Z = psTrunc s a o) := Lib.hid (by rw [HZ.out]; unfold psDo; rw [if_neg (by omega)]; rw [if_neg (by omega)]; rw [if_neg (by omega)]; rw [if_neg (by omega)]; rw [if_neg (by omega)]; rw [if_neg (by omega)]; rw [if_neg (by omega)]; rw [if_neg (by omega)]; rw [if_neg (by omega)]; rw [if_pos (by omega)])
    have CP : Hid (Calls Try.prog 36 #[.pointer (some ⟨c.p, 0, none⟩), .int .i64 a, .agg #[.int .i64 o.d, .string (NM.mk o.p), .string (NM.mk o.q), .int .i64 o.h, .int .i64 o.i, .int .i64 o.n, .bool o.w, .slice ab o.b.length cb]] w1 (APost (w.heap.size :: (w.heap.size + 1) :: X) w0 w1 c S Z)) := Lib.hid (by rw [HPS.out]; exact ptrunc_any HG.out.at_ HI.out a o _ HBV.out)
    clear HZ HPS HBV hd hp hq
    clear hd1
    unfold APost at CP
    go_enter Try.func10, Try.ntmps10
    go_wp2_with fail
    rw [← HW1.out]
    refine CM.out.mono ?_
    rintro e w' ⟨rfl, hq1⟩
    subst hq1
    go_wp2_with fail
    refine (deedOf_any o.d _).mono ?_
    rw [hdv]
    rintro e w' ⟨rfl, hq2⟩
    subst hq2
    go_wp2_with fail
    refine CP.out.mono ?_
    rintro e w3 ⟨vb, vl, rfl, hb3, hl3, ha3, hk3, hn3⟩
    have HG3 := Lib.hid (HG.out.ofA ha3 hk3)
    have HA3 := Lib.hid ha3
    have HB3 := Lib.hid hb3
    have HL3 := Lib.hid hl3
    have HN3 := Lib.hid hn3
    have HHI := Lib.hid HG.out.high
    clear ha3 hk3 hb3 hl3 hn3
    rw [ansV_eq]
    clear p0 p1 p2 p3 o0 o1 o2 o3 o4 o5 o6 o7 c0 c1 c2 c3 c4 c5 c6 f0 f1 f2 f3 f4 f5 f6 hlt1 hlt2
    obtain ⟨⟨p0, p1, p2, p3⟩, ⟨o0, o1, o2, o3, o4, o5, o6, o7⟩, ⟨c0, c1, c2, c3, c4, c5, c6⟩, ⟨f0, f1, f2, f3, f4, f5, f6⟩, hlt1, hlt2⟩ := HG3.out.cells
    have hx1 : ∃ x1 x2 x3, vb = .slice x1 x2 x3 := by obtain ⟨x1, x3, e, _⟩ := HB3.out; exact ⟨x1, _, x3, e⟩
    have hx2 : ∃ x1 x2 x3, vl = .slice x1 x2 x3 := by obtain ⟨x1, x3, e, _⟩ := HL3.out; exact ⟨x1, _, x3, e⟩
    obtain ⟨x1, x2, x3, rfl⟩ := hx1
    obtain ⟨y1, y2, y3, rfl⟩ := hx2
    go_wp2
    obtain ⟨HBK, HAP⟩ := Going.doneR Z.1 Z.2 rfl HG3.out (.slice x1 x2 x3) (.slice y1 y2 y3) HA3.out HB3.out HL3.out (fun g hg => by have := HN3.out g (.inl hg); have := HHI.out; omega) (fun g hg => by have := HN3.out g (.inr hg); have := HHI.out; omega) (u0 := .int .i64 Z.1.e) (u1 := .int .i64 Z.1.ino) (u2 := .bool Z.1.dir) (u3 := .int .i64 (Z.1.size : Int)) (u4 := .int .i64 Z.1.h) rfl rfl rfl rfl rfl
    obtain ⟨⟨d0, d1, d2, d3, d4, d5, d6⟩, _⟩ := ans_cells HBK
    unfold set7 at d0 d1 d2 d3 d4 d5 d6
    exact bodyPost_ret (v := .agg #[.int .i64 Z.1.e, .int .i64 Z.1.ino, .bool Z.1.dir, .int .i64 (Z.1.size : Int), .int .i64 Z.1.h, .slice x1 x2 x3, .slice y1 y2 y3]) (by simp [results, Try.results10, go_sem, d0, d1, d2, d3, d4, d5, d6]) rfl HAP
  have hd1 : o.d = 12 ∨ o.d = 13 := by omega
  have hdv : deedV o.d = .func (.func 37) #[] #[] := by
    rcases hd1 with h | h
    all_goals (rw [h]; rfl)
  have HPS : Hid (Z = psSync s a o) := Lib.hid (by rw [HZ.out]; unfold psDo; rw [if_neg (by omega)]; rw [if_neg (by omega)]; rw [if_neg (by omega)]; rw [if_neg (by omega)]; rw [if_neg (by omega)]; rw [if_neg (by omega)]; rw [if_neg (by omega)]; rw [if_neg (by omega)]; rw [if_neg (by omega)]; rw [if_neg (by omega)])
  have CP : Hid (Calls Try.prog 37 #[.pointer (some ⟨c.p, 0, none⟩), .int .i64 a, .agg #[.int .i64 o.d, .string (NM.mk o.p), .string (NM.mk o.q), .int .i64 o.h, .int .i64 o.i, .int .i64 o.n, .bool o.w, .slice ab o.b.length cb]] w1 (APost (w.heap.size :: (w.heap.size + 1) :: X) w0 w1 c S Z)) := Lib.hid (by rw [HPS.out]; exact psync_any HG.out.at_ HI.out a o _ HBV.out)
  clear HZ HPS HBV hd hp hq
  clear hd1
  unfold APost at CP
  go_enter Try.func10, Try.ntmps10
  go_wp2_with fail
  rw [← HW1.out]
  refine CM.out.mono ?_
  rintro e w' ⟨rfl, hq1⟩
  subst hq1
  go_wp2_with fail
  refine (deedOf_any o.d _).mono ?_
  rw [hdv]
  rintro e w' ⟨rfl, hq2⟩
  subst hq2
  go_wp2_with fail
  refine CP.out.mono ?_
  rintro e w3 ⟨vb, vl, rfl, hb3, hl3, ha3, hk3, hn3⟩
  have HG3 := Lib.hid (HG.out.ofA ha3 hk3)
  have HA3 := Lib.hid ha3
  have HB3 := Lib.hid hb3
  have HL3 := Lib.hid hl3
  have HN3 := Lib.hid hn3
  have HHI := Lib.hid HG.out.high
  clear ha3 hk3 hb3 hl3 hn3
  rw [ansV_eq]
  clear p0 p1 p2 p3 o0 o1 o2 o3 o4 o5 o6 o7 c0 c1 c2 c3 c4 c5 c6 f0 f1 f2 f3 f4 f5 f6 hlt1 hlt2
  obtain ⟨⟨p0, p1, p2, p3⟩, ⟨o0, o1, o2, o3, o4, o5, o6, o7⟩, ⟨c0, c1, c2, c3, c4, c5, c6⟩, ⟨f0, f1, f2, f3, f4, f5, f6⟩, hlt1, hlt2⟩ := HG3.out.cells
  have hx1 : ∃ x1 x2 x3, vb = .slice x1 x2 x3 := by obtain ⟨x1, x3, e, _⟩ := HB3.out; exact ⟨x1, _, x3, e⟩
  have hx2 : ∃ x1 x2 x3, vl = .slice x1 x2 x3 := by obtain ⟨x1, x3, e, _⟩ := HL3.out; exact ⟨x1, _, x3, e⟩
  obtain ⟨x1, x2, x3, rfl⟩ := hx1
  obtain ⟨y1, y2, y3, rfl⟩ := hx2
  go_wp2
  obtain ⟨HBK, HAP⟩ := Going.doneR Z.1 Z.2 rfl HG3.out (.slice x1 x2 x3) (.slice y1 y2 y3) HA3.out HB3.out HL3.out (fun g hg => by have := HN3.out g (.inl hg); have := HHI.out; omega) (fun g hg => by have := HN3.out g (.inr hg); have := HHI.out; omega) (u0 := .int .i64 Z.1.e) (u1 := .int .i64 Z.1.ino) (u2 := .bool Z.1.dir) (u3 := .int .i64 (Z.1.size : Int)) (u4 := .int .i64 Z.1.h) rfl rfl rfl rfl rfl
  obtain ⟨⟨d0, d1, d2, d3, d4, d5, d6⟩, _⟩ := ans_cells HBK
  unfold set7 at d0 d1 d2 d3 d4 d5 d6
  exact bodyPost_ret (v := .agg #[.int .i64 Z.1.e, .int .i64 Z.1.ino, .bool Z.1.dir, .int .i64 (Z.1.size : Int), .int .i64 Z.1.h, .slice x1 x2 x3, .slice y1 y2 y3]) (by simp [results, Try.results10, go_sem, d0, d1, d2, d3, d4, d5, d6]) rfl HAP
end Go.Proofs.Ytaophafailmhjaa.W

/- The file system as it is meant: New, File, Tokens. -/
namespace Go.Proofs.Ytaophafailmhjaa.W
open Go.RowKit
open Go.Proofs.Ytaophafailmhjaa.NM
set_option linter.unusedVariables false
set_option linter.unusedSimpArgs false

variable {X Y S : List Nat} {w0 w w' w1 w2 w3 : World} {c : PC} {s s' : PS} {o : Op} {v : Value}
/-- A new one. -/
theorem new_at {t k : Nat} {St Sk : List Nat} (hc : Chg [] w0 w) (ht : TreeAt w t St []) (hk : TokAt w k Sk []) (h1 : ∀ x ∈ St, w0.heap.size ≤ x) (h2 : ∀ x ∈ Sk, w0.heap.size ≤ x) (h3 : ∀ x ∈ St, x ∉ Sk) :
    PAt [] w0 (((w.alloc (.map #[] 0)).alloc (.map #[] 0)).alloc (.cells #[.pointer (some ⟨t, 0, none⟩), .pointer (some ⟨k, 0, none⟩), .map (some w.heap.size), .map (some (w.heap.size + 1))] 60)) ⟨w.heap.size + 2, t, k, w.heap.size, w.heap.size + 1⟩ [] PS.new := by
  have l1 := ht.lim
  have l2 := hk.lim
  have hs := hc.size
  obtain ⟨w1, hw1⟩ : ∃ w1, w1 = w.alloc (.map #[] 0) := ⟨_, rfl⟩
  obtain ⟨w2, hw2⟩ : ∃ w2, w2 = w1.alloc (.map #[] 0) := ⟨_, rfl⟩
  obtain ⟨w3, hw3⟩ : ∃ w3, w3 = w2.alloc (.cells #[.pointer (some ⟨t, 0, none⟩), .pointer (some ⟨k, 0, none⟩), .map (some w.heap.size), .map (some (w.heap.size + 1))] 60) := ⟨_, rfl⟩
  have s1 : w1.heap.size = w.heap.size + 1 := by rw [hw1]; simp
  have s2 : w2.heap.size = w.heap.size + 2 := by rw [hw2]; simp [s1]
  have s3 : w3.heap.size = w.heap.size + 3 := by rw [hw3]; simp [s2]
  have c1 : Chg [] w w1 := by rw [hw1]; exact (Chg.refl [] w).alloc _
  have c2 : Chg [] w1 w2 := by rw [hw2]; exact (Chg.refl [] w1).alloc _
  have c3 : Chg [] w2 w3 := by rw [hw3]; exact (Chg.refl [] w2).alloc _
  have c13 : Chg [] w1 w3 := c2.trans c3 (by simp)
  have c03 : Chg [] w w3 := c1.trans c13 (by simp)
  rw [← hw1, ← hw2, ← hw3]
  have m1 : MapF 3 klI okI w1 w.heap.size (fun _ => none) 0 := by rw [hw1]; exact MapF.made w
  have m2 : MapF 66 klP okP w2 (w.heap.size + 1) (fun _ => none) 0 := by rw [hw2, ← s1]; exact MapF.made w1
  refine ⟨St, Sk, fun _ => none, fun _ => none, 0, 0, ⟨?_, ht.keep0 c03, hk.keep c03 (by simp), m1.chg c13 (by simp), m2.chg c3 (by simp), fun x hx => .inl ⟨rfl, rfl⟩, fun x hx => .inl ⟨rfl, rfl⟩, ?_⟩, fun x hx => .inr ?_, hc.trans c03 (by simp), by simp⟩
  · show w3.heap[w.heap.size + 2]? = _
    rw [hw3, ← s2]; exact heap_alloc_new w2 _
  · refine ⟨by simp, by simp, by simp, fun h => ?_, fun h => ?_, fun h => ?_, fun h => ?_, fun h => ?_, fun h => ?_, h3⟩
    · have := l1 _ h; simp only at this; omega
    · have := l2 _ h; simp only at this; omega
    · have := l1 _ h; simp only at this; omega
    · have := l2 _ h; simp only at this; omega
    · have := l1 _ h; simp only at this; omega
    · have := l2 _ h; simp only at this; omega
  · rcases mem_foot.1 hx with rfl | rfl | rfl | h | h
    · simp only; omega
    · simp only; omega
    · simp only; omega
    · exact h1 x h
    · exact h2 x h
def PNewPost (w0 : World) (e : Ending) (w' : World) : Prop := ∃ c : PC, e = .returned (.pointer (some ⟨c.p, 0, none⟩)) ∧ PAt [] w0 w' c [] PS.new
set_option maxHeartbeats 4000000 in
set_option maxRecDepth 100000 in
theorem pnew_any (hc : Chg [] w0 w) : Calls Try.prog 9 #[] w (PNewPost w0) := by
  have CT := Lib.hid (tnew_any w)
  have hmm := @run_makeMap Try.prog
  have HC := Lib.hid hc
  clear hc
  go_enter Try.func9, Try.ntmps9
  go_wp2_with fail
  refine CT.out.mono ?_
  rintro e w1 ⟨t, St, rfl, ht, hs, hc1⟩
  have HT := Lib.hid ht
  have HS := Lib.hid hs
  have HC1 := Lib.hid hc1
  have CK := Lib.hid (knew_any w1)
  clear ht hs hc1
  unfold pth
  go_wp2_with fail
  refine CK.out.mono ?_
  rintro e w2 ⟨rfl, hk, hc2, hz2⟩
  have HN := Lib.hid (new_at (HC.out.trans (HC1.out.trans hc2 (by simp)) (by simp)) (HT.out.keep0 hc2) hk (fun x hx => by have := HS.out x hx; have := HC.out.size; omega) (fun x hx => by have := HC.out.size; have := HC1.out.size; simp at hx; omega) (fun x hx hm => by have := HT.out.lim x hx; simp at hm; omega))
  clear hk hc2 hz2 HT HS HC HC1 CT
  go_wp2
  go_ret
  exact ⟨_, rfl, HN.out⟩
/-- File. -/
def FilePost (w : World) (l : Option (List UInt8)) (e : Ending) (w' : World) : Prop := ∃ v, e = .returned (.tuple #[v, .bool l.isSome]) ∧ BytesAt w' v (ofO l) ∧ (∀ g, v.ownBlock = some g → w.heap.size ≤ g ∧ g < w'.heap.size) ∧ Chg [] w w'
set_option maxHeartbeats 4000000 in
set_option maxRecDepth 100000 in
theorem pfile_any (h : PAt X w0 w c S s) (hI : PInv s) (y : Int) (hy : okI y) : Calls Try.prog 13 #[.pointer (some ⟨c.p, 0, none⟩), .int .i64 y] w (FilePost w (s.F y)) := by
  obtain ⟨vf, hv, hv', hbv, hlv⟩ := h.flook hy
  obtain ⟨af, cf, rfl⟩ := hbv.slice
  have hv0 := hv' 0
  rw [World.drewN_zero] at hv0
  have CC := Lib.hid (clone_any _ _ w hbv (by have := ofO_sz hI.fsz y; omega))
  have CM := Lib.hid (made26_any h)
  obtain ⟨p0, p1, p2, p3, hp⟩ := h.cells
  generalize s.F y = l at *
  clear hv hv' hbv hlv h
  go_enter Try.func13, Try.ntmps13
  go_wp2_with fail
  refine CM.out.mono ?_
  rintro e w' ⟨rfl, hq1⟩
  subst hq1
  go_wp2_with fail
  refine CC.out.mono ?_
  rintro e w2 ⟨vn, rfl, hr, hn, hc⟩
  have HR := Lib.hid hr
  have HN := Lib.hid hn
  have HC := Lib.hid hc
  clear hr hn hc
  go_wp2
  go_ret2
  exact ⟨vn, rfl, HR.out.bytes, fun g hg => ⟨HN.out g hg, HR.out.lt g hg⟩, HC.out⟩
/-- Tokens. -/
def RowsPost (w : World) (l : List K.TRow) (e : Ending) (w' : World) : Prop := ∃ v, e = .returned v ∧ w'.ownsRow w.heap.size 51 4 v l.length (K.encs l) ∧ Chg [] w w'
set_option maxHeartbeats 4000000 in
set_option maxRecDepth 100000 in
theorem ptokens_any (h : PAt X w0 w c S s) (hI : PInv s) : Calls Try.prog 17 #[.pointer (some ⟨c.p, 0, none⟩)] w (RowsPost w s.K) := by
  have CR := Lib.hid (ptRows h)
  have CM := Lib.hid (made26_any h)
  have HF := Lib.hid (good_few hI.good)
  obtain ⟨p0, p1, p2, p3, hp⟩ := h.cells
  clear h hI
  go_enter Try.func17, Try.ntmps17
  go_wp2_with fail
  refine CM.out.mono ?_
  rintro e w' ⟨rfl, hq1⟩
  subst hq1
  go_wp2_with fail
  refine CR.out.mono ?_
  rintro e w2 ⟨v2, rfl, ho2, hc2, _⟩
  have CC := Lib.hid (K.clone_any v2 w.heap.size s.K w2 ho2 (by have := HF.out; omega))
  have HC2 := Lib.hid hc2
  clear ho2 hc2
  go_wp2_with fail
  refine CC.out.mono ?_
  rintro e w3 ⟨v3, rfl, ho3, hb3⟩
  have HO3 := Lib.hid ho3
  have HB3 := Lib.hid hb3
  clear ho3 hb3
  go_wp2
  go_ret
  exact ⟨v3, rfl, row_base HO3.out w.heap.size (fun g hg => Nat.le_trans HC2.out.size (HO3.out.lt g hg).1), chg_tr HC2.out (Chg.of_below HB3.out)⟩
end Go.Proofs.Ytaophafailmhjaa.W

/- The file system as it is meant: awake. -/
namespace Go.Proofs.Ytaophafailmhjaa.W
open Go.RowKit
open Go.Proofs.Ytaophafailmhjaa.NM
set_option linter.unusedVariables false
set_option linter.unusedSimpArgs false

theorem bytes_text (w : World) (v : Value) (l : List UInt8) (h : BytesAt w v l) : (convert 22 9 v).run Try.prog w = .ok (.string (NM.mk l)) w := by
  obtain ⟨a, cap, rfl, h1, h2, h3⟩ := h
  rcases h3 with ⟨rfl, rfl⟩ | ⟨g, o, rfl, hc⟩
  · cases a with
    | none => exact run_convert_bytes_nil w 22 5 Try.underlying22 Try.underlying5 _ _ 9 Try.underlying9
    | some a => exact run_convert_bytes_back w 22 9 5 a 0 [] Try.underlying22 Try.underlying5 Try.underlying9 (fun j hj => absurd hj (by simp))
  · refine run_convert_bytes_back w 22 9 5 ⟨g, o, none⟩ cap l Try.underlying22 Try.underlying5 Try.underlying9 (fun j hj => ?_)
    rw [add_none, hc j hj, List.getD_eq_getElem?_getD, List.getElem?_eq_getElem hj]
    rfl
theorem conv_same (w : World) (C : Array Value) (n k : Nat) : (convert 22 22 (.slice (some ⟨w.heap.size, 0, none⟩) n k)).run Try.prog (w.alloc (.cells C 5)) = .ok (.slice (some ⟨w.heap.size, 0, none⟩) n k) (w.alloc (.cells C 5 (C.size, C.size + 1))) := Lib.run_convert_bytes_const w 22 5 C n k Try.underlying22 Try.underlying5
variable {X Y S : List Nat} {w0 w w' w1 w2 w3 : World} {c : PC} {s s' : PS} {o : Op} {v : Value}
/-- A file system of the law's own: all of it is new since w0. -/
structure POwn (X : List Nat) (w0 w : World) (c : PC) (s : PS) : Prop where
  at_ : PAt X w0 w c [] s
  inv : PInv s
theorem POwn.chg (h : POwn X w0 w c s) : Chg [] w0 w := h.at_.chg
theorem POwn.keep0 (h : POwn X w0 w c s) (hc : Chg [] w w') : POwn X w0 w' c s := ⟨h.at_.keep0 hc, h.inv⟩
theorem POwn.mono (h : POwn X w0 w c s) (hY : ∀ x ∈ Y, x ∈ X) : POwn Y w0 w c s := ⟨h.at_.mono hY, h.inv⟩
/-- An operation, as a law asks it. -/
def ODoPost (X : List Nat) (w0 w : World) (c : PC) (r : Ans × PS) (e : Ending) (w' : World) : Prop :=
  ∃ xb nb cb xl nl cl, e = .returned (.agg #[.int .i64 r.1.e, .int .i64 r.1.ino, .bool r.1.dir, .int .i64 (r.1.size : Int), .int .i64 r.1.h, .slice xb nb cb, .slice xl nl cl]) ∧ BytesAt w' (.slice xb nb cb) r.1.b ∧ EntsAt w' (.slice xl nl cl) r.1.l ∧
    POwn ((Value.slice xb nb cb).ownBlock.toList ++ ((Value.slice xl nl cl).ownBlock.toList ++ X)) w0 w' c r.2 ∧ KeepK X w w'
theorem odo_any (h : POwn X w0 w c s) (a : Int) (o : Op) (v : Value) (hv : BytesAt w v o.b) (hp : o.p.length ≤ 1000000) (hq : o.q.length ≤ 1000000) (r : Ans × PS) (hr : psDo s a o = r) :
    Calls Try.prog 10 #[.pointer (some ⟨c.p, 0, none⟩), .int .i64 a, .agg #[.int .i64 o.d, .string (NM.mk o.p), .string (NM.mk o.q), .int .i64 o.h, .int .i64 o.i, .int .i64 o.n, .bool o.w, v]] w (ODoPost X w0 w c r) := by
  refine (pdo_any h.at_ h.inv a o v hv hp hq).mono ?_
  rw [hr]
  rintro e w' ⟨vb, vl, rfl, hb, hl, hp', hk, _⟩
  obtain ⟨xb, cb, hvb, _⟩ := id hb
  obtain ⟨xl, cl, hvl, _⟩ := id hl
  subst hvb; subst hvl
  exact ⟨xb, _, cb, xl, _, cl, rfl, hb, hl, ⟨hp', by subst hr; exact psDo_inv h.inv a o hp'.tok⟩, hk⟩
def ONewPost26 (w0 : World) (e : Ending) (w' : World) : Prop := ∃ c : PC, e = .returned (.pointer (some ⟨c.p, 0, none⟩)) ∧ POwn [] w0 w' c PS.new
theorem onew26_any (hc : Chg [] w0 w) : Calls Try.prog 9 #[] w (ONewPost26 w0) := (pnew_any hc).mono fun e w' ⟨c, h1, h2⟩ => ⟨c, h1, h2, PInv.new⟩
def OFilePost (X : List Nat) (w0 w : World) (c : PC) (s : PS) (l : Option (List UInt8)) (e : Ending) (w' : World) : Prop := ∃ x k, e = .returned (.tuple #[.slice x (ofO l).length k, .bool l.isSome]) ∧ BytesAt w' (.slice x (ofO l).length k) (ofO l) ∧ POwn ((Value.slice x (ofO l).length k).ownBlock.toList ++ X) w0 w' c s ∧ Chg [] w w'
theorem ofile_any (h : POwn X w0 w c s) (y : Int) (hy : okI y) (l : Option (List UInt8)) (hl : s.F y = l) : Calls Try.prog 13 #[.pointer (some ⟨c.p, 0, none⟩), .int .i64 y] w (OFilePost X w0 w c s l) := by
  subst hl
  refine (pfile_any h.at_ h.inv y hy).mono ?_
  rintro e w' ⟨v, rfl, hb, hn, hc⟩
  obtain ⟨x, k, hv, _⟩ := id hb
  subst hv
  refine ⟨x, k, rfl, hb, ⟨h.at_.add hc fun g hg => ?_, h.inv⟩, hc⟩
  rcases List.mem_append.1 hg with hg | hg
  · exact .inr (hn g (Option.mem_toList.1 hg))
  · exact .inl hg

/-! ### awake -/
def oCreate : Op := ⟨1, [47, 102], [], 0, 0, 0, false, []⟩
def oOpenW : Op := ⟨8, [47, 102], [], 0, 0, 0, true, []⟩
def oWriteAb : Op := ⟨10, [], [], 0, 0, 0, false, [97, 98]⟩
def oRead9 : Op := ⟨9, [], [], 0, 0, 9, false, []⟩
def aw1 : Ans × PS := psDo PS.new 0 oCreate
def aw2 : Ans × PS := psDo aw1.2 0 oOpenW
def aw3 : Ans × PS := psDo aw2.2 0 oWriteAb
def aw4 : Ans × PS := psDo aw3.2 0 oRead9
theorem aw4_b : aw4.1.b = [97, 98] := by kernel_rfl
theorem aw4_F : aw4.2.F 2 = some [] := by kernel_rfl
theorem two_bytes (w : World) (x y : UInt8) (fz : Nat × Nat) : BytesAt (w.alloc (.cells #[.int .u8 (x.toNat : Int), .int .u8 (y.toNat : Int)] 5 fz)) (.slice (some ⟨w.heap.size, 0, none⟩) 2 2) [x, y] := by
  refine ⟨_, 2, rfl, Nat.le_refl _, by unfold maxLen; omega, .inr ⟨_, 0, rfl, fun i hi => ?_⟩⟩
  have hb := heap_alloc_new w (.cells #[.int .u8 (x.toNat : Int), .int .u8 (y.toNat : Int)] 5 fz)
  unfold World.cell?
  simp only [hb]
  match i, hi with
  | 0, _ => rfl
  | 1, _ => rfl
set_option maxHeartbeats 4000000 in
set_option maxRecDepth 100000 in
theorem awake26_any (w : World) : Calls Try.prog 8 #[] w fun e w' => e = .returned (.bool true) ∧ Chg [] w w' := by
  have CN := Lib.hid (onew26_any (Chg.refl [] w))
  have hcs := conv_same
  go_enter Try.func8, Try.ntmps8
  go_wp2_with fail
  refine CN.out.mono ?_
  rintro e w1 ⟨c, rfl, h1⟩
  have H1 := Lib.hid h1
  have C1 := Lib.hid (odo_any h1 0 oCreate (.slice none 0 0) (BytesAt.nil _) (by decide) (by decide) aw1 rfl)
  clear h1 CN
  go_wp2_with fail
  refine C1.out.mono ?_
  rintro e w2 ⟨xb, nb, cb, xl, nl, cl, rfl, _, _, h2, _⟩
  have h2 := h2.mono (Y := []) (by simp)
  have C2 := Lib.hid (odo_any h2 0 oOpenW (.slice none 0 0) (BytesAt.nil _) (by decide) (by decide) aw2 rfl)
  clear h2 C1 H1
  go_wp2_with fail
  refine C2.out.mono ?_
  rintro e w3 ⟨xb, nb, cb, xl, nl, cl, rfl, _, _, h3, _⟩
  have h3 := h3.mono (Y := []) (by simp)
  have C3 := Lib.hid (odo_any (h3.keep0 ((Chg.refl [] w3).alloc _)) 0 oWriteAb _ (two_bytes w3 97 98 (2, 3)) (by decide) (by decide) aw3 rfl)
  clear h3 C2
  go_wp2_with fail
  refine C3.out.mono ?_
  rintro e w4 ⟨xb, nb, cb, xl, nl, cl, rfl, _, _, h4, _⟩
  have h4 := h4.mono (Y := []) (by simp)
  have C4 := Lib.hid (odo_any h4 0 oRead9 (.slice none 0 0) (BytesAt.nil _) (by decide) (by decide) aw4 rfl)
  clear h4 C3
  go_wp2_with fail
  refine C4.out.mono ?_
  rintro e w5 ⟨xb, nb, cb, xl, nl, cl, rfl, hb5, _, h5, _⟩
  have HB5 := Lib.hid hb5
  rw [aw4_b] at HB5
  have CF := Lib.hid (fun (W : World) (hW : Chg [] w5 W) => ofile_any (h5.keep0 hW) 2 (okI_of (by omega) (by omega)) _ aw4_F)
  clear h5 hb5 C4
  go_wp2_with fail
  refine (CF.out _ ((Chg.refl [] w5).alloc _)).mono ?_
  rintro e w6 ⟨x6, k6, rfl, hb6, h6, hc6⟩
  have HA6 := Lib.hid (hc6.keep (heap_alloc_new w5 _) (by simp))
  have hq6 : BytesAt w6 (.slice xb nb cb) [97, 98] := HB5.out.chg0 (((Chg.refl [] w5).alloc _).trans hc6 (by simp))
  have hcv := bytes_text w6 _ _ hq6
  have hof : (ofO (some ([] : List UInt8))).length = 0 := rfl
  clear hb6
  have HC6 := Lib.hid h6.chg
  obtain ⟨⟨_, _, _, _, _, d5, _⟩, _⟩ := ans_cells HA6.out
  have hs6 : w5.heap.size < w6.heap.size := blk_lt HA6.out
  clear h6 hc6 hq6 CF
  unfold NM.mk at hcv
  go_wp2
  go_ret
  exact ⟨rfl, HC6.out⟩
end Go.Proofs.Ytaophafailmhjaa.W

/- The reference's Same. -/
namespace Go.Proofs.Ytaophafailmhjaa.W
open Go.RowKit
set_option linter.unusedVariables false
set_option linter.unusedSimpArgs false

theorem same_of (l m : List UInt8) (h : l.length = m.length) (hq : ∀ q, q < l.length → l.getD q 0 = m.getD q 0) : l = m := by
  apply List.ext_getElem h
  intro i h1 h2
  have := hq i h1
  simpa [List.getD_eq_getElem?_getD, List.getElem?_eq_getElem h1, List.getElem?_eq_getElem h2] using this
theorem bv_neq (a b : UInt8) (h : a ≠ b) : (((a.toNat : Int) != (b.toNat : Int)) = true) := by
  rw [bne_iff_ne]
  intro e
  exact h (UInt8.toNat_inj.1 (by omega))

set_option maxHeartbeats 4000000 in
set_option maxRecDepth 100000 in
/-- Same. -/
theorem same_any (u v : Value) (l m : List UInt8) (w : World) (hu : BytesAt w u l) (hv : BytesAt w v m) (hl : l.length ≤ 1000000000) (hm : m.length ≤ 1000000000) :
    Calls Try.prog 11 #[u, v] w fun e w' => e = .returned (.bool (decide (l = m))) ∧ ∃ n, w' = w.drewN n := by
  obtain ⟨au, cu, rfl, hlu, _, hu⟩ := hu
  obtain ⟨av, cv, rfl, hlv, _, hv⟩ := hv
  obtain ⟨d, hd⟩ : ∃ d, d = decide (l = m) := ⟨_, rfl⟩
  rw [← hd]
  have HD := Lib.hid hd
  clear hd
  have HU := Lib.hid hu
  have HV := Lib.hid hv
  clear hu hv
  by_cases hlen : l.length = m.length
  · have hmz : ((l.length : Int) != (m.length : Int)) = false := by rw [hlen]; simp
    have HL := Lib.hid hlen
    have hml : m.length = l.length := hlen.symm
    rw [hml]
    clear hlen hml hmz
    go_enter Try.func11, Try.ntmps11
    go_wp2
    go_loopg [5] l.length (fun g' s5 wr => ∃ (j n : Nat), s5 = .int .i64 j ∧ j ≤ l.length ∧ l.length ≤ j + g' ∧ Hid (∀ q, q < j → l.getD q 0 = m.getD q 0) ∧ wr = w.drewN n)
    case atStart => exact ⟨0, 0, rfl, by omega, by omega, fun q hq => absurd hq (by omega), rfl⟩
    case round =>
      obtain ⟨j, n, rfl, hj, hjg, HQ, rfl⟩ := hrel
      by_cases hlt : j < l.length
      · rcases HU.out with ⟨h0, _⟩ | ⟨gu, ou, rfl, hcu⟩
        · rw [h0] at hlt; simp at hlt
        rcases HV.out with ⟨h0, _⟩ | ⟨gv, ov, rfl, hcv⟩
        · have := HL.out; rw [h0, List.length_nil] at this; omega
        obtain ⟨x, hx, c0⟩ : ∃ x, l.getD j 0 = x ∧ w.cell? ⟨gu, ou + j, none⟩ = some (.int .u8 (x.toNat : Int)) := ⟨_, rfl, hcu j hlt⟩
        obtain ⟨y, hy, c1⟩ : ∃ y, m.getD j 0 = y ∧ w.cell? ⟨gv, ov + j, none⟩ = some (.int .u8 (y.toNat : Int)) := ⟨_, rfl, hcv j (by rw [← HL.out]; exact hlt)⟩
        have HX := Lib.hid hx
        have HY := Lib.hid hy
        have hjz : (j : Int) < (l.length : Int) := by omega
        have hjz0 : (0 : Int) ≤ (j : Int) := by omega
        have hjz1 : (j : Int).toNat = j := by omega
        clear hcu hcv hx hy
        by_cases hxy : x = y
        · subst hxy
          go_wp2
          go_quiet (fail)
          go_wp2
          go_roundg (gk - 1)
          case measure => omega
          case rel =>
            refine ⟨j + 1, _, by go_num, by omega, by omega, ?_, rfl⟩
            intro q hq
            rcases Nat.lt_or_ge q j with h | h
            · exact HQ.out q h
            · obtain rfl : q = j := by omega
              rw [HX.out, HY.out]
        · have hne := bv_neq x y hxy
          have hd : Hid (d = false) := Lib.hid (by
            rw [HD.out, decide_eq_false_iff_not]
            intro e
            have h1 := HX.out
            rw [e] at h1
            exact hxy (h1.symm.trans HY.out))
          clear hxy
          go_wp2
          go_quiet (fail)
          go_wp2
          go_ret
          exact ⟨ret_bool hd.out.symm, _, World.drewN_drewN ..⟩
      · have hd : Hid (d = true) := Lib.hid (by
          rw [HD.out, decide_eq_true_iff]
          exact same_of l m HL.out (fun q hq => HQ.out q (by omega)))
        go_wp2
        go_ret
        exact ⟨ret_bool hd.out.symm, _, rfl⟩
  · have hmz : ((l.length : Int) != (m.length : Int)) = true := by rw [bne_iff_ne]; omega
    have hd : Hid (d = false) := Lib.hid (by
      rw [HD.out, decide_eq_false_iff_not]
      intro e
      exact hlen (by rw [e]))
    clear hlen
    go_enter Try.func11, Try.ntmps11
    go_wp2
    go_ret
    exact ⟨ret_bool hd.out.symm, 0, rfl⟩
end Go.Proofs.Ytaophafailmhjaa.W

/- The pens of package wire and of the reference. -/
namespace Go.Proofs.Ytaophafailmhjaa.W
open Go.RowKit
set_option linter.unusedVariables false
set_option linter.unusedSimpArgs false

def penAdd (l : List UInt8) (bad : Int) (m : List UInt8) : List UInt8 × Int :=
  if bad ≠ 0 then (l, bad) else if 65536 < l.length + m.length then (l, 3) else (l ++ m, 0)
def beBytes : Nat → Nat → List UInt8
  | 0, _ => []
  | n + 1, x => UInt8.ofNat (x / 256 ^ n) :: beBytes n x
theorem beBytes_len (n x : Nat) : (beBytes n x).length = n := by
  induction n with
  | zero => rfl
  | succ n ih => simp [beBytes, ih]
def penNum (l : List UInt8) (bad : Int) (x : Int) (n : Nat) : List UInt8 × Int :=
  if bad ≠ 0 then (l, bad) else if x < 0 ∨ ((256 ^ n : Nat) : Int) ≤ x then (l, 1) else penAdd l bad (beBytes n x.toNat)
def penBool (l : List UInt8) (bad : Int) (q : Bool) : List UInt8 × Int := penAdd l bad [if q then 1 else 0]

/-- A pen in block b: of type t, its bytes a row of our own in another block. -/
def PenAt (t : TypeId) (w : World) (b : Nat) (g : Option Nat) (l : List UInt8) (bad : Int) : Prop :=
  ∃ v, w.heap[b]? = some (.cells #[v, .int .i64 bad] t (0, 0)) ∧ BRow w v l ∧ v.ownBlock = g ∧ g ≠ some b ∧ l.length ≤ 65536
theorem PenAt.keep {t : TypeId} {w w' : World} {b : Nat} {g : Option Nat} {l : List UInt8} {bad : Int} {S : List Nat} (h : PenAt t w b g l bad) (hc : Chg S w w') (hb : b ∉ S) (hg : ∀ k, g = some k → k ∉ S) : PenAt t w' b g l bad := by
  obtain ⟨v, h1, h2, h3, h4, h5⟩ := h
  exact ⟨v, hc.keep h1 hb, h2.keep (fun k hk => hc.block k (h2.lt k hk) (hg k (h3.symm.trans hk))), h3, h4, h5⟩
theorem PenAt.lt {t : TypeId} {w : World} {b : Nat} {g : Option Nat} {l : List UInt8} {bad : Int} (h : PenAt t w b g l bad) : b < w.heap.size ∧ ∀ k, g = some k → k < w.heap.size := by
  obtain ⟨v, h1, h2, h3, h4, h5⟩ := h
  exact ⟨blk_lt h1, fun k hk => h2.lt k (h3.trans hk)⟩
/-- What writing with a pen leaves. -/
def Wrote (t : TypeId) (w w' : World) (b : Nat) (g : Option Nat) (r : List UInt8 × Int) : Prop :=
  ∃ g', PenAt t w' b g' r.1 r.2 ∧ (g' = g ∨ ∃ k, g' = some k ∧ w.heap.size ≤ k) ∧ Chg (b :: g.toList) w w'
theorem Wrote.same {t : TypeId} {w : World} {b : Nat} {g : Option Nat} {l : List UInt8} {bad : Int} (h : PenAt t w b g l bad) : Wrote t w w b g (l, bad) := ⟨g, h, .inl rfl, Chg.refl _ _⟩
theorem Wrote.trans {t : TypeId} {w w1 w2 : World} {b : Nat} {g : Option Nat} {r1 r2 : List UInt8 × Int} (h1 : Wrote t w w1 b g r1) (h2 : ∀ g1, PenAt t w1 b g1 r1.1 r1.2 → Wrote t w1 w2 b g1 r2) : Wrote t w w2 b g r2 := by
  obtain ⟨g1, hp, hg, hc⟩ := h1
  obtain ⟨g2, hp2, hg2, hc2⟩ := h2 g1 hp
  refine ⟨g2, hp2, ?_, hc.trans hc2 ?_⟩
  · rcases hg2 with rfl | ⟨k, rfl, hk⟩
    · exact hg
    · exact .inr ⟨k, rfl, Nat.le_trans hc.size hk⟩
  · intro x hx
    rcases List.mem_cons.1 hx with rfl | hx
    · exact .inl (List.mem_cons_self ..)
    · rcases hg with rfl | ⟨k, rfl, hk⟩
      · exact .inl (List.mem_cons_of_mem _ hx)
      · obtain rfl : x = k := by simpa using hx
        exact .inr hk
theorem PenAt.stored {t : TypeId} {w w1 : World} {b : Nat} {g : Option Nat} {l' : List UInt8} {bad : Int} {v v' : Value} (hb : w.heap[b]? = some (.cells #[v, .int .i64 bad] t (0, 0))) (hg : v.ownBlock = g) (hne : g ≠ some b)
    (hr : BRow w1 v' l') (hgr : w.grownBy w1 v.ownBlock) (hat : v'.ownBlock = v.ownBlock ∨ v'.ownBlock = some w.heap.size) (hl : l'.length ≤ 65536) : Wrote t w (w1.setCell ⟨b, 0, none⟩ v') b g (l', bad) := by
  have hbl := blk_lt hb
  have hb1 : w1.heap[b]? = some (.cells #[v, .int .i64 bad] t (0, 0)) := (hgr.block b hbl (fun e => hne (by rw [← hg]; exact e.symm))).trans hb
  have hne' : v'.ownBlock ≠ some b := by
    rcases hat with h | h
    · rw [h, hg]; exact hne
    · rw [h]; intro e; simp at e; omega
  refine ⟨v'.ownBlock, ⟨v', set_blk hb1, hr.keep (fun k hk => Below.heap_setCell w1 _ _ k (fun e => hne' (by rw [hk, e]))), rfl, hne', hl⟩, ?_, ?_⟩
  · rcases hat with h | h
    · exact .inl (h.trans hg)
    · exact .inr ⟨_, h, Nat.le_refl _⟩
  · refine ((Chg.refl _ w).grown hgr (fun k hk => .inl ?_)).setCell (p := ⟨b, 0, none⟩) (.inl (List.mem_cons_self ..)) _
    rw [hg] at hk; rw [hk]; simp
theorem BRow.slice {w : World} {v : Value} {l : List UInt8} (h : BRow w v l) : ∃ a cap, v = .slice a l.length cap := by
  obtain ⟨a, cap, h, _⟩ := h.bytes
  exact ⟨a, cap, h⟩

theorem PenAt.app {t : TypeId} {w w1 : World} {b : Nat} {g : Option Nat} {l m : List UInt8} {bad : Int} {v v' : Value} (hb : w.heap[b]? = some (.cells #[v, .int .i64 bad] t (0, 0))) (hg : v.ownBlock = g) (hne : g ≠ some b) (hlong : ¬ 65536 < l.length + m.length)
    (hr : BRow w1 v' (l ++ m)) (hgr : w.grownBy w1 v.ownBlock) (hat : v'.ownBlock = v.ownBlock ∨ v'.ownBlock = some w.heap.size) :
    Hid (Wrote t w (w1.setCell ⟨b, 0, none⟩ v') b g (l ++ m, bad)) ∧ w1.cell? ⟨b, 0, none⟩ = some v ∧ w1.frozen? ⟨b, 0, none⟩ = false ∧ ∃ a c, v' = .slice a (l.length + m.length) c := by
  have hb1 : w1.heap[b]? = some (.cells #[v, .int .i64 bad] t (0, 0)) := (hgr.block b (blk_lt hb) (fun e => hne (by rw [← hg]; exact e.symm))).trans hb
  refine ⟨PenAt.stored hb hg hne hr hgr hat (by rw [List.length_append]; omega), blk_cell hb1 0 _ rfl, blk_frozen hb1 0, ?_⟩
  obtain ⟨a, c, h⟩ := hr.slice
  exact ⟨a, c, by rw [h, List.length_append]⟩

end Go.Proofs.Ytaophafailmhjaa.W

/- The pens' Num. -/
namespace Go.Proofs.Ytaophafailmhjaa.W
open Go.RowKit
set_option linter.unusedVariables false
set_option linter.unusedSimpArgs false

theorem pow_wrap (n : Nat) (h : n ≤ 7) : ∃ M : Nat, M = 256 ^ n ∧ wrap64 ((2 : Int) ^ (8 * n)) = (M : Int) := by
  have hp : (256 : Nat) ^ n = 2 ^ (8 * n) := by rw [show (256 : Nat) = 2 ^ 8 from rfl, ← Nat.pow_mul]
  have hle : (2 : Nat) ^ (8 * n) ≤ 2 ^ 56 := Nat.pow_le_pow_right (by omega) (by omega)
  refine ⟨_, rfl, ?_⟩
  rw [hp]
  have : ((2 : Int) ^ (8 * n)) = ((2 ^ (8 * n) : Nat) : Int) := by push_cast; rfl
  rw [this]
  generalize (2 : Nat) ^ (8 * n) = z at *
  rw [wrap64]
  omega
theorem byte_of (x k : Nat) : bv (UInt8.ofNat (x / 256 ^ k)) = .int .u8 ((x : Int) / 2 ^ (8 * k) % 256) := by
  unfold bv
  rw [UInt8.toNat_ofNat', show (256 : Nat) ^ k = 2 ^ (8 * k) by rw [show (256 : Nat) = 2 ^ 8 from rfl, ← Nat.pow_mul]]
  congr 1
theorem one_byte (w : World) (c : UInt8) (v : Value) (hv : bv c = v) : BytesAt (w.alloc (.cells #[v] 5)) (.slice (some ⟨w.heap.size, 0, none⟩) 1 1) [c] := by
  refine ⟨_, 1, rfl, by simp, by unfold maxLen; omega, .inr ⟨_, 0, rfl, fun i hi => ?_⟩⟩
  have : i = 0 := by simpa using hi
  subst this
  have h := blk_cell (heap_alloc_new w (.cells #[v] 5)) 0 v rfl
  rw [hv.symm] at h
  rw [← hv]
  exact h
theorem Wrote.before {t : TypeId} {w0 w w' : World} {b : Nat} {g : Option Nat} {r : List UInt8 × Int} (h : Wrote t w w' b g r) (hc : Chg [] w0 w) : Wrote t w0 w' b g r := by
  obtain ⟨g', h1, h2, h3⟩ := h
  refine ⟨g', h1, ?_, (hc.mono (by simp)).trans h3 (fun x hx => .inl hx)⟩
  rcases h2 with h2 | ⟨k, h2, h4⟩
  · exact .inl h2
  · exact .inr ⟨k, h2, Nat.le_trans hc.size h4⟩

end Go.Proofs.Ytaophafailmhjaa.W

/- The reference's Copy. -/
namespace Go.Proofs.Ytaophafailmhjaa.W
open Go.RowKit
set_option linter.unusedVariables false
set_option linter.unusedSimpArgs false

set_option maxHeartbeats 4000000 in
set_option maxRecDepth 100000 in
/-- Copy. -/
theorem rcopy_any (v : Value) (l : List UInt8) (w : World) (h : BytesAt w v l) (hl : l.length ≤ 1000000000) :
    Calls Try.prog 12 #[v] w fun e w' => ∃ v', e = .returned v' ∧ BRow w' v' l ∧ (∀ g, v'.ownBlock = some g → w.heap.size ≤ g) ∧ Chg [] w w' := by
  obtain ⟨a, cap, rfl, h1, h2, h3⟩ := h
  have H3 := Lib.hid h3
  clear h3
  go_enter Try.func12, Try.ntmps12
  go_wp2
  go_loopg [3, 4] l.length (fun g' s3 s4 wr => ∃ (k : Nat) (a3 : Option Addr) (c3 : Nat), s3 = .slice a3 (l.take k).length c3 ∧ s4 = .int .i64 k ∧ k ≤ l.length ∧ l.length ≤ k + g' ∧ Hid (BRow wr s3 (l.take k) ∧ (∀ g, s3.ownBlock = some g → w.heap.size ≤ g) ∧ Chg [] w wr))
  case atStart => exact ⟨0, none, 0, rfl, rfl, by omega, by omega, Lib.hid ⟨BRow.nil _, by simp [Value.ownBlock], Chg.refl _ _⟩⟩
  case round =>
    obtain ⟨k, a3, c3, rfl, rfl, hk, hkg, HR⟩ := hrel
    obtain ⟨s3, hs3⟩ : ∃ s3, s3 = Value.slice a3 (l.take k).length c3 := ⟨_, rfl⟩
    have HS3 := Lib.hid hs3
    rw [← hs3] at HR
    clear hs3
    by_cases hlt : k < l.length
    · rcases H3.out with ⟨h0, _⟩ | ⟨g, o, rfl, hcell⟩
      · rw [h0] at hlt; simp at hlt
      have hcl : wr.cell? ⟨g, o + k, none⟩ = some (.int .u8 ((l.getD k 0).toNat : Int)) := HR.out.2.2.cell (hcell k hlt) (by simp)
      obtain ⟨c, hc⟩ : ∃ c, c = l.getD k 0 := ⟨_, rfl⟩
      rw [← hc] at hcl
      have HT : Hid (l.take (k + 1) = l.take k ++ [c]) := Lib.hid (by rw [hc]; exact take_snocU l k hlt)
      have HB := Lib.hid (one_byte wr c _ rfl)
      unfold bv at HB
      have HR2 := Lib.hid (HR.out.1.keep (w' := wr.alloc (.cells #[.int .u8 (c.toNat : Int)] 5)) (fun g hg => heap_alloc_old wr _ (HR.out.1.lt g hg)))
      have hkz : (k : Int) < (l.length : Int) := by omega
      have hkz1 : (k : Int).toNat = k := by omega
      have hsz : Hid ((l.take k).length + [c].length ≤ 140737488355328) := Lib.hid (by rw [List.length_take]; simp; omega)
      clear hc hcell
      go_wp2_with (at_builtin; refine wpList_appB rfl (.tmp 11) (.tmp 16) rfl s3 (l.take k) HS3.out.symm HR2.out _ [c] rfl HB.out hsz.out ?_; intro v1 w1 ho1 hg1 hat1)
      have HO1 := Lib.hid ho1
      have HG1 := Lib.hid hg1
      have HA1 := Lib.hid hat1
      clear ho1 hg1 hat1
      go_roundg (gk - 1)
      case measure => omega
      case rel =>
        have hr : BRow w1 v1 (l.take (k + 1)) := by rw [HT.out]; exact HO1.out
        obtain ⟨a, c4, he, _⟩ := hr.bytes
        refine ⟨k + 1, a, c4, he, by go_num, by omega, by omega, Lib.hid ⟨hr, fun g hg => ?_, (HR.out.2.2.alloc _).grown HG1.out (fun g hg => .inr (HR.out.2.1 g hg))⟩⟩
        rcases HA1.out with h | h
        · exact HR.out.2.1 g (by rw [← h]; exact hg)
        · rw [h] at hg
          have h1 := HR.out.2.2.size
          have h2 : wr.heap.size + 1 = g := by simpa using hg
          omega
    · have hkn : k = l.length := by omega
      have HK : Hid (l.take k = l) := Lib.hid (by rw [hkn, List.take_length])
      clear hkn
      go_wp2
      go_ret
      exact ⟨s3, by rw [HS3.out]; rfl, by have := HR.out.1; rwa [HK.out] at this, HR.out.2.1, HR.out.2.2⟩

set_option maxHeartbeats 4000000 in
set_option maxRecDepth 100000 in
/-- Copy of nothing. -/
theorem rcopy_zero (a : Option Addr) (c : Nat) (w : World) : Calls Try.prog 12 #[.slice a 0 c] w fun e w' => e = .returned (.slice none 0 0) ∧ w = w' := by
  go_enter Try.func12, Try.ntmps12
  go_wp2
  go_loopg [3, 4] 0 (fun g' s3 s4 wr => s3 = .slice none 0 0 ∧ s4 = .int .i64 0 ∧ w = wr)
  case atStart => exact ⟨rfl, rfl, rfl⟩
  case round =>
    obtain ⟨rfl, rfl, rfl⟩ := hrel
    go_wp2
    go_ret
    exact ⟨rfl, rfl⟩
end Go.Proofs.Ytaophafailmhjaa.W

/- PlainBytes: what is written at a place is read there. -/
namespace Go.Proofs.Ytaophafailmhjaa.W
open Go.RowKit
open Go.Proofs.Ytaophafailmhjaa.NM
set_option linter.unusedVariables false
set_option linter.unusedSimpArgs false

variable {X Y S : List Nat} {w0 w w' w1 w2 w3 : World} {c : PC} {s s' : PS} {o : Op} {v : Value}
theorem POwn.add {Y : List Nat} (h : POwn X w0 w c s) (hc : Chg [] w w') (hY : ∀ k ∈ Y, k ∈ X ∨ w.heap.size ≤ k ∧ k < w'.heap.size) : POwn Y w0 w' c s := ⟨h.at_.add hc hY, h.inv⟩

/-! ### plainly -/
structure One (s : PS) (cur fl : List UInt8) : Prop where
  row : K.find s.K 1 0 = some ⟨1, 0, 2, true⟩
  own : s.O (1, 0) = some cur
  file : s.F 2 = some fl
theorem One.sees {cur fl : List UInt8} (h : One s cur fl) : psSees s ⟨1, 0, 2, true⟩ = cur := by
  unfold psSees
  rw [if_pos rfl]
  show ofO (s.O (1, 0)) = cur
  rw [h.own]; rfl
def oWrite (i : Int) (b : List UInt8) : Op := ⟨10, [], [], 0, i, 0, false, b⟩
def oRead (i n : Int) : Op := ⟨9, [], [], 0, i, n, false, []⟩
def oFsync : Op := ⟨12, [], [], 0, 0, 0, false, []⟩
theorem One.write {cur fl : List UInt8} (h : One s cur fl) (i : Nat) (b : List UInt8) (hi : i + b.length ≤ 4096) :
    (psDo s 1 (oWrite i b)).1.e = 0 ∧ One (psDo s 1 (oWrite i b)).2 (if b = [] then cur else writeB cur i b) fl := by
  have e : psDo s 1 (oWrite i b) = if b = [] then (no 0, s) else (no 0, { s with O := upd s.O (1, 0) (writeB cur i b) }) := by
    unfold psDo
    rw [if_neg (by unfold oWrite; simp), if_neg (by unfold oWrite; simp), if_neg (by unfold oWrite; simp), if_neg (by unfold oWrite; simp), if_neg (by unfold oWrite; simp), if_neg (by unfold oWrite; simp), if_neg (by unfold oWrite; simp), if_neg (by unfold oWrite; simp), if_pos (by unfold oWrite; simp)]
    unfold psWrite
    show (match K.find s.K 1 0 with | none => _ | some r => _) = _
    rw [h.row]
    simp only
    rw [if_neg (by simp), if_neg (by unfold oWrite; simp), if_neg (by unfold oWrite; simp only; omega), h.sees]
    unfold oWrite
    simp only [Int.toNat_natCast]
  rw [e]
  split
  · exact ⟨rfl, h⟩
  · exact ⟨rfl, h.row, by simp [upd], h.file⟩
theorem One.read {cur fl : List UInt8} (h : One s cur fl) (i n : Nat) : (psDo s 1 (oRead i n)).1.b = cutB cur i n ∧ (psDo s 1 (oRead i n)).2 = s := by
  have e : psDo s 1 (oRead i n) = (⟨0, 0, false, 0, 0, cutB cur i n, []⟩, s) := by
    unfold psDo
    rw [if_neg (by unfold oRead; simp), if_neg (by unfold oRead; simp), if_neg (by unfold oRead; simp), if_neg (by unfold oRead; simp), if_neg (by unfold oRead; simp), if_neg (by unfold oRead; simp), if_neg (by unfold oRead; simp), if_pos (by unfold oRead; simp)]
    unfold psRead
    show (match K.find s.K 1 0 with | none => _ | some r => _) = _
    rw [h.row]
    simp only
    rw [if_neg (by unfold oRead; simp only; omega), h.sees]
    unfold oRead
    simp only [Int.toNat_natCast]
  rw [e]
  exact ⟨rfl, rfl⟩
theorem One.sync {cur fl : List UInt8} (h : One s cur fl) : One (psDo s 1 oFsync).2 cur cur := by
  have e : psDo s 1 oFsync = (no 0, { s with F := upd s.F 2 cur }) := by
    unfold psDo
    rw [if_neg (by unfold oFsync; simp), if_neg (by unfold oFsync; simp), if_neg (by unfold oFsync; simp), if_neg (by unfold oFsync; simp), if_neg (by unfold oFsync; simp), if_neg (by unfold oFsync; simp), if_neg (by unfold oFsync; simp), if_neg (by unfold oFsync; simp), if_neg (by unfold oFsync; simp), if_neg (by unfold oFsync; simp)]
    unfold psSync
    show (match K.find s.K 1 0 with | none => _ | some r => _) = _
    rw [h.row]
    simp only
    rw [h.sees]
    simp [oFsync]
  rw [e]
  exact ⟨h.row, h.own, by simp [upd]⟩
def pb1 : Ans × PS := psDo PS.new 1 oCreate
def pb2 : Ans × PS := psDo pb1.2 1 oOpenW
theorem pb2_one : One pb2.2 [] [] := ⟨by kernel_rfl, by kernel_rfl, by kernel_rfl⟩
theorem sized_nil (n : Nat) : sizedB [] n = List.replicate n 0 := by unfold sizedB; simp
theorem write_nil (a : List UInt8) : (if a = [] then ([] : List UInt8) else writeB [] 0 a) = a := by
  split
  · rename_i h; rw [h]
  · unfold writeB putB
    rw [sized_nil]
    simp
theorem cut_write (l b : List UInt8) (i : Nat) : cutB (writeB l i b) i b.length = b := by
  unfold cutB writeB putB
  have h := sized_len l (max l.length (i + b.length))
  generalize sizedB l (max l.length (i + b.length)) = z at *
  have e1 : (z.take i).length = i := by rw [List.length_take]; omega
  rw [List.append_assoc, List.drop_append_of_le_length (by omega), List.drop_of_length_le (by omega), List.nil_append, List.take_append_of_le_length (by omega), List.take_of_length_le (Nat.le_refl _)]
theorem cut_all (l : List UInt8) (n : Nat) (h : l.length ≤ n) : cutB l 0 n = l := by
  unfold cutB
  rw [List.drop_zero, List.take_of_length_le h]
/-- What is wanted, step by step: noughts up to the end of what is written, then that. -/
theorem want_put (a b : List UInt8) (k : Nat) : putB (a ++ zs (k + b.length - a.length)) k b = writeB a k b := by
  unfold writeB
  congr 1
  unfold sizedB zs
  rw [List.take_of_length_le (by omega)]
  congr 2
  omega
theorem splice_take {α : Type} (cur cs : List α) (i n : Nat) (h : i + cs.length ≤ n) (hn : n ≤ cur.length) : (splice cur i cs).take n = splice (cur.take n) i cs := by
  unfold splice
  have e1 : (cur.take i).length = i := by rw [List.length_take]; omega
  have h1 : (cur.take i).take n = cur.take i := List.take_of_length_le (by rw [e1]; omega)
  have h2 : cs.take (n - i) = cs := List.take_of_length_le (by omega)
  have h3 : (cur.take n).take i = cur.take i := by rw [List.take_take, Nat.min_eq_left (by omega)]
  have h4 : (cur.take n).drop (i + cs.length) = (cur.drop (i + cs.length)).take (n - i - cs.length) := by
    rw [List.drop_take]
    congr 1
    omega
  rw [List.take_append, e1, List.take_append, h1, h2, h3, h4]
/-- 'copy(b[i:], m)' into a row of our own. -/
theorem wpList_putRow {w : World} {ops : Array Oper} {rest : List Oper} {o : Oper} {a : Act} {Q : Exit → Act → World → Prop} (hgd : o.guard = none) (d s : Operand)
    (ho : o.op = .call { callee := .builtin .copy, args := #[d, s], argTypes := #[22, 22] }) (g n k i dl dc : Nat) (hd : a.eval d = .slice (some ⟨g, i, none⟩) dl dc) (u : Value) (hs : a.eval s = u) (m : List UInt8) (hm : BytesAt w u m) (l : List UInt8)
    (hr : BRow w (.slice (some ⟨g, 0, none⟩) n k) l) (hfit : i + m.length ≤ l.length) (hdl : m.length ≤ dl)
    (h : ∀ w' r, Hid (BRow w' (.slice (some ⟨g, 0, none⟩) n k) (putB l i m) ∧ Below g w w') → wpList Try.prog ops Q rest (a.put o.dst r) w') : wpList Try.prog ops Q (o :: rest) a w := by
  obtain ⟨au, cap, rfl, h1, h2, h3⟩ := hm
  obtain ⟨hxl, hrow⟩ := hr
  rcases hrow with ⟨he, h0⟩ | ⟨g', cap', cur, he, hbg, hg, hnc, hcm, hcs, htake⟩
  · cases he
  · obtain ⟨hg', hn', hk'⟩ := Value.slice.inj he
    have hgg : g' = g := by simpa using hg'.symm
    subst hgg
    subst hk'
    rw [bvs_len] at hxl
    have hcl : cur.toList.length = k := by have : cur.size = k * 1 := hcs; simpa using this
    refine wpList_copy_splice hgd d s 22 22 ho 5 Try.underlying22 (by kernel_rfl) (some ⟨g', i, none⟩) au dl dc m.length cap hd hs g' i cur.toList 5 (by simpa using hg) (bvs m) (by rw [bvs_len]; exact (Nat.min_eq_left hdl).symm) ?_ (by rw [bvs_len, hcl]; omega) (bvs_one _) g' w (Below.refl _ _) (Nat.le_refl _) ?_
    · intro hpos
      refine ⟨rfl, ?_⟩
      rcases h3 with ⟨rfl, _⟩ | ⟨g, o', rfl, hc⟩
      · simp [bvs] at hpos
      · refine ⟨_, rfl, fun j v hv => ?_⟩
        have hj : j < m.length := by
          have := (List.getElem?_eq_some_iff.1 hv).1
          rwa [bvs_len] at this
        rw [bvs_at _ j hj] at hv
        cases hv
        rw [add_none, hc j hj]
    · intro w' hw' hb
      refine h w' _ ⟨⟨by rw [bvs_len, put_len hfit]; omega, .inr ⟨g', k, (splice cur.toList i (bvs m)).toArray, by rw [put_len hfit, hn'], hbg, hw'.out, by rw [put_len hfit]; exact hnc, hcm, ?_, ?_⟩⟩, hb⟩
      · have := length_splice cur.toList i (bvs m) (by rw [bvs_len, hcl]; omega)
        simp [this, hcl]
      · rw [put_len hfit]
        simp only [Nat.mul_one] at htake ⊢
        rw [splice_take _ _ _ _ (by rw [bvs_len]; omega) (by omega), htake, splice_put]
end Go.Proofs.Ytaophafailmhjaa.W

/- What a law has at hand: a file system of its own, answers in cells, rows of bytes. -/
namespace Go.Proofs.Ytaophafailmhjaa.W
open Go.RowKit
open Go.Proofs.Ytaophafailmhjaa.NM
set_option linter.unusedVariables false
set_option linter.unusedSimpArgs false

def Stop (p : Prop) : Prop := p
theorem stop_of {p : Prop} (h : Stop p) : p := h
/-- Blocks of cells that stand as they are told, and rows of bytes: none of the file system's. -/
structure Lives (w0 w : World) (c : PC) (s : PS) (L : List (Nat × Array Value)) (B : List (Value × List UInt8)) : Prop where
  own : POwn (L.map (·.1) ++ B.flatMap (fun q => q.1.ownBlock.toList)) w0 w c s
  mem : ∀ p ∈ L, w.heap[p.1]? = some (.cells p.2 30 (0, 0))
  byt : ∀ q ∈ B, BytesAt w q.1 q.2
variable {w0 w w' : World} {c : PC} {s s' : PS} {L : List (Nat × Array Value)} {B : List (Value × List UInt8)}
theorem Lives.chg (h : Lives w0 w c s L B) : Chg [] w0 w := h.own.chg
theorem Lives.keep0 (h : Lives w0 w c s L B) (hc : Chg [] w w') : Lives w0 w' c s L B := ⟨h.own.keep0 hc, fun p hp => hc.keep (h.mem p hp) (by simp), fun q hq => (h.byt q hq).chg0 hc⟩
theorem Lives.ans (h : Lives w0 w c s L B) (cs : Array Value) : Lives w0 (w.alloc (.cells cs 30)) c s ((w.heap.size, cs) :: L) B := by
  have hc : Chg [] w (w.alloc (.cells cs 30)) := (Chg.refl [] w).alloc _
  refine ⟨h.own.add hc (fun g hg => ?_), fun p hp => ?_, fun q hq => (h.byt q hq).chg0 hc⟩
  · rcases List.mem_append.1 hg with hg | hg
    · rcases List.mem_cons.1 hg with rfl | hg
      · exact .inr ⟨Nat.le_refl _, by simp⟩
      · exact .inl (List.mem_append_left _ hg)
    · exact .inl (List.mem_append_right _ hg)
  · rcases List.mem_cons.1 hp with rfl | hp
    · exact heap_alloc_new w _
    · exact hc.keep (h.mem p hp) (by simp)
theorem Lives.less (h : Lives w0 w c s L B) {L' : List (Nat × Array Value)} {B' : List (Value × List UInt8)} (hL : ∀ p ∈ L', p ∈ L) (hB : ∀ q ∈ B', q ∈ B) : Lives w0 w c s L' B' :=
  ⟨h.own.mono (fun g hg => by
    rcases List.mem_append.1 hg with hg | hg
    · obtain ⟨p, hp, rfl⟩ := List.mem_map.1 hg
      exact List.mem_append_left _ (List.mem_map_of_mem (hL p hp))
    · obtain ⟨q, hq, hg⟩ := List.mem_flatMap.1 hg
      exact List.mem_append_right _ (List.mem_flatMap.2 ⟨q, hB q hq, hg⟩)), fun p hp => h.mem p (hL p hp), fun q hq => h.byt q (hB q hq)⟩
/-- New bytes. -/
theorem Lives.bytes (h : Lives w0 w c s L B) (hc : Chg [] w w') (v : Value) (l : List UInt8) (hb : BytesAt w' v l) (hn : ∀ g, v.ownBlock = some g → w.heap.size ≤ g ∧ g < w'.heap.size) : Lives w0 w' c s L ((v, l) :: B) := by
  refine ⟨h.own.add hc (fun g hg => ?_), fun p hp => hc.keep (h.mem p hp) (by simp), fun q hq => ?_⟩
  · rcases List.mem_append.1 hg with hg | hg
    · exact .inl (List.mem_append_left _ hg)
    · rw [List.flatMap_cons] at hg
      rcases List.mem_append.1 hg with hg | hg
      · exact .inr (hn g (Option.mem_toList.1 hg))
      · exact .inl (List.mem_append_right _ hg)
  · rcases List.mem_cons.1 hq with rfl | hq
    · exact hb
    · exact (h.byt q hq).chg0 hc
/-- An operation: its bytes live on. -/
def LDoPost (w0 : World) (c : PC) (L : List (Nat × Array Value)) (B : List (Value × List UInt8)) (r : Ans × PS) (e : Ending) (w' : World) : Prop :=
  ∃ xb nb cb xl nl cl, e = .returned (.agg #[.int .i64 r.1.e, .int .i64 r.1.ino, .bool r.1.dir, .int .i64 (r.1.size : Int), .int .i64 r.1.h, .slice xb nb cb, .slice xl nl cl]) ∧ EntsAt w' (.slice xl nl cl) r.1.l ∧ Lives w0 w' c r.2 L ((.slice xb nb cb, r.1.b) :: B)
theorem ldo_any (h : Lives w0 w c s L B) (a : Int) (o : Op) (v : Value) (hv : BytesAt w v o.b) (hp : o.p.length ≤ 1000000) (hq : o.q.length ≤ 1000000) (r : Ans × PS) (hr : psDo s a o = r) :
    Calls Try.prog 10 #[.pointer (some ⟨c.p, 0, none⟩), .int .i64 a, .agg #[.int .i64 o.d, .string (NM.mk o.p), .string (NM.mk o.q), .int .i64 o.h, .int .i64 o.i, .int .i64 o.n, .bool o.w, v]] w (LDoPost w0 c L B r) := by
  refine (odo_any h.own a o v hv hp hq r hr).mono ?_
  rintro e w' ⟨xb, nb, cb, xl, nl, cl, rfl, hb, hl, ho, hk⟩
  refine ⟨xb, nb, cb, xl, nl, cl, rfl, hl, ho.mono (fun g hg => ?_), fun p hp => (hk _ (List.mem_append_left _ (List.mem_map_of_mem hp))).trans (h.mem p hp), fun q hq => ?_⟩
  · rcases List.mem_append.1 hg with hg | hg
    · exact List.mem_append_right _ (List.mem_append_right _ (List.mem_append_left _ hg))
    · rw [List.flatMap_cons] at hg
      rcases List.mem_append.1 hg with hg | hg
      · exact List.mem_append_left _ hg
      · exact List.mem_append_right _ (List.mem_append_right _ (List.mem_append_right _ hg))
  · rcases List.mem_cons.1 hq with rfl | hq
    · exact hb
    · exact (h.byt q hq).keep fun g hg => hk g (List.mem_append_right _ (List.mem_flatMap.2 ⟨q, hq, Option.mem_toList.2 hg⟩))
def LNewPost (w0 : World) (e : Ending) (w' : World) : Prop := ∃ c : PC, e = .returned (.pointer (some ⟨c.p, 0, none⟩)) ∧ Lives w0 w' c PS.new [] []
theorem lnew_any (hc : Chg [] w0 w) : Calls Try.prog 9 #[] w (LNewPost w0) := (onew26_any hc).mono fun e w' ⟨c, h1, h2⟩ => ⟨c, h1, h2, by simp, by simp⟩
def LFilePost (w0 : World) (c : PC) (s : PS) (L : List (Nat × Array Value)) (B : List (Value × List UInt8)) (l : Option (List UInt8)) (e : Ending) (w' : World) : Prop := ∃ x k, e = .returned (.tuple #[.slice x (ofO l).length k, .bool l.isSome]) ∧ Lives w0 w' c s L ((.slice x (ofO l).length k, ofO l) :: B)
theorem lfile_any (h : Lives w0 w c s L B) (y : Int) (hy : okI y) (l : Option (List UInt8)) (hl : s.F y = l) : Calls Try.prog 13 #[.pointer (some ⟨c.p, 0, none⟩), .int .i64 y] w (LFilePost w0 c s L B l) := by
  subst hl
  refine (pfile_any h.own.at_ h.own.inv y hy).mono ?_
  rintro e w' ⟨v, rfl, hb, hn, hc⟩
  obtain ⟨x, k, hv, _⟩ := id hb
  subst hv
  exact ⟨x, k, rfl, h.bytes hc _ _ hb hn⟩
end Go.Proofs.Ytaophafailmhjaa.W
