/- Texts laid together. -/
import Derived.Test.YtaophafailmhjaaBB6
import Derived.Test.YtaophafailmhjaaBB3
import Derived.Deep.Slices
import Derived.ChangeSlices
/- PlainBytes: the walk. -/
namespace Go.Proofs.Ytaophafailmhjaa.W
open Go.RowKit
open Go.Proofs.Ytaophafailmhjaa.NM
set_option linter.unusedVariables false
set_option linter.unusedSimpArgs false

def Stop (p : Prop) : Prop := p
theorem stop_of {p : Prop} (h : Stop p) : p := h
theorem keepB {X : List Nat} {w w' : World} {v : Value} {l : List UInt8} (h : BytesAt w v l) (hk : KeepK X w w') (hx : ∀ g, v.ownBlock = some g → g ∈ X) : BytesAt w' v l := h.keep fun g hg => hk g (hx g hg)
set_option maxHeartbeats 8000000 in
set_option maxRecDepth 100000 in
theorem bytes26_any (va vb : Value) (A B : List UInt8) (z : Int) (w : World) (ha : BytesAt w va A) (hb : BytesAt w vb B) (hz : 0 ≤ z ∧ z < 65536) : Calls Try.prog 3 #[va, vb, .int .u16 z] w fun e w' => e = .returned (.bool true) ∧ Chg [] w w' := by
  have CA := Lib.hid (awake26_any w)
  obtain ⟨aa, ca, rfl⟩ := ha.slice
  obtain ⟨ab, cb, rfl⟩ := hb.slice
  by_cases hla : 400 < A.length
  · have hl1 : (400 : Int) < (A.length : Int) := by omega
    clear hla
    go_enter Try.func3, Try.ntmps3
    go_wp2_with fail
    refine CA.out.mono ?_
    rintro e w1 ⟨rfl, hc1⟩
    have HC1 := Lib.hid hc1
    clear hc1
    go_wp2
    go_ret
    exact ⟨rfl, HC1.out⟩
  · by_cases hlb : 400 < B.length
    · have hl1 : ¬ (400 : Int) < (A.length : Int) := by omega
      have hl2 : (400 : Int) < (B.length : Int) := by omega
      clear hla hlb
      go_enter Try.func3, Try.ntmps3
      go_wp2_with fail
      refine CA.out.mono ?_
      rintro e w1 ⟨rfl, hc1⟩
      have HC1 := Lib.hid hc1
      clear hc1
      go_wp2
      go_ret
      exact ⟨rfl, HC1.out⟩
    · have hl1 : ¬ (400 : Int) < (A.length : Int) := by omega
      have hl2 : ¬ (400 : Int) < (B.length : Int) := by omega
      have HLA := Lib.hid hla
      have HLB := Lib.hid hlb
      have HA := Lib.hid ha
      have HB := Lib.hid hb
      have HZ := Lib.hid hz
      have hw64 : wrap64 z = z := by rw [wrap64]; omega
      obtain ⟨k, hk⟩ : ∃ k : Nat, (wrap64 z).tmod 800 = (k : Int) := ⟨(z.tmod 800).toNat, by rw [hw64, Int.tmod_eq_emod_of_nonneg hz.1]; omega⟩
      have hk8 : k < 800 := by rw [hw64, Int.tmod_eq_emod_of_nonneg hz.1] at hk; omega
      have HK := Lib.hid hk
      have HK8 := Lib.hid hk8
      obtain ⟨W, hW⟩ : ∃ W, W = if B = [] then A else writeB A k B := ⟨_, rfl⟩
      have hWl : W.length ≤ 4096 := by
        rw [hW]
        split
        · omega
        · rw [write_len]; omega
      have HW := Lib.hid hW
      have HWL := Lib.hid hWl
      clear hla hlb ha hb hz hk hk8 hw64 hW hWl
      go_enter Try.func3, Try.ntmps3
      go_wp2_with fail
      refine CA.out.mono ?_
      rintro e w1 ⟨rfl, hc1⟩
      have HC1 := Lib.hid hc1
      clear hc1
      have CN := Lib.hid (onew26_any HC1.out)
      go_wp2_with fail
      refine CN.out.mono ?_
      rintro e w2 ⟨c, rfl, h2⟩
      have C2 := Lib.hid (odo_any h2 1 oCreate (.slice none 0 0) (BytesAt.nil _) (by decide) (by decide) pb1 rfl)
      clear h2 CN
      go_wp2_with fail
      rw [HK.out]
      refine C2.out.mono ?_
      rintro e w3 ⟨xb, nb, cb', xl, nl, cl, rfl, _, _, h3, _⟩
      have h3 := h3.mono (Y := []) (by simp)
      have C3 := Lib.hid (odo_any h3 1 oOpenW (.slice none 0 0) (BytesAt.nil _) (by decide) (by decide) pb2 rfl)
      clear h3 C2
      go_wp2_with fail
      refine C3.out.mono ?_
      rintro e w4 ⟨xb, nb, cb', xl, nl, cl, rfl, _, _, h4, _⟩
      have h4 := h4.mono (Y := []) (by simp)
      have HO4 := Lib.hid pb2_one
      generalize pb2 = r4 at *
      obtain ⟨_, s4⟩ := r4
      obtain ⟨r5, hr5⟩ : ∃ r5, r5 = psDo s4 1 (oWrite 0 A) := ⟨_, rfl⟩
      have ho5 := HO4.out.write 0 A (by have := HLA.out; omega)
      rw [write_nil] at ho5
      rw [show ((0 : Nat) : Int) = 0 from rfl, ← hr5] at ho5
      have HA4 := Lib.hid (HA.out.chg0 h4.chg)
      have C4 := Lib.hid (odo_any h4 1 (oWrite 0 A) _ HA4.out (Nat.zero_le _) (Nat.zero_le _) r5 hr5.symm)
      have HO5 := Lib.hid ho5
      clear h4 C3 hr5 ho5 HO4
      obtain ⟨⟨e5, i5, d5, z5, q5, b5, l5⟩, s5⟩ := r5
      simp only at HO5
      have he5 := HO5.out.1
      subst he5
      go_wp2_with fail
      refine C4.out.mono ?_
      rintro e w5 ⟨xb5, nb5, cb5, xl5, nl5, cl5, rfl, _, _, h5, _⟩
      dsimp only
      obtain ⟨w5a, hw5a⟩ : ∃ w5a, w5a = w5.alloc (.cells #[.int .i64 0, .int .i64 i5, .bool d5, .int .i64 (z5 : Int), .int .i64 q5, .slice xb5 nb5 cb5, .slice xl5 nl5 cl5] 30) := ⟨_, rfl⟩
      have hc5 : Chg [] w5 w5a := by rw [hw5a]; exact (Chg.refl [] w5).alloc _
      have ha5 : w5a.heap[w5.heap.size]? = some (.cells #[.int .i64 0, .int .i64 i5, .bool d5, .int .i64 (z5 : Int), .int .i64 q5, .slice xb5 nb5 cb5, .slice xl5 nl5 cl5] 30 (0, 0)) := by rw [hw5a]; exact heap_alloc_new w5 _
      have h5a : POwn [w5.heap.size] w w5a c s5 := h5.add hc5 (fun g hg => .inr (by simp at hg; subst hg; exact ⟨Nat.le_refl _, blk_lt ha5⟩))
      have HC5a := Lib.hid h5a.chg
      have HW5 := Lib.hid hw5a
      have HA5 := Lib.hid ha5
      clear h5 hw5a hc5 ha5 C4
      obtain ⟨r6, hr6⟩ : ∃ r6, r6 = psDo s5 1 (oWrite (k : Int) B) := ⟨_, rfl⟩
      have ho6 := HO5.out.2.write k B (by have := HLB.out; have := HK8.out; omega)
      rw [← HW.out, ← hr6] at ho6
      have C6 := Lib.hid (odo_any h5a 1 (oWrite (k : Int) B) _ (HB.out.chg0 h5a.chg) (Nat.zero_le _) (Nat.zero_le _) r6 hr6.symm)
      have HO6 := Lib.hid ho6
      clear h5a hr6 ho6
      obtain ⟨⟨e6, i6, d6, z6, q6, b6, l6⟩, s6⟩ := r6
      simp only at HO6
      have he6 := HO6.out.1
      subst he6
      go_wp2_with fail
      rw [← HW5.out]
      refine C6.out.mono ?_
      rintro e w6 ⟨xb6, nb6, cb6, xl6, nl6, cl6, rfl, _, _, h6, k6⟩
      dsimp only
      have HA5 := Lib.hid ((k6 _ (List.mem_singleton_self _)).trans HA5.out)
      have h6 := h6.mono (Y := [w5.heap.size]) (fun x hx => List.mem_append_right _ (List.mem_append_right _ hx))
      obtain ⟨w6a, hw6a⟩ : ∃ w6a, w6a = w6.alloc (.cells #[.int .i64 0, .int .i64 i6, .bool d6, .int .i64 (z6 : Int), .int .i64 q6, .slice xb6 nb6 cb6, .slice xl6 nl6 cl6] 30) := ⟨_, rfl⟩
      have hc6 : Chg [] w6 w6a := by rw [hw6a]; exact (Chg.refl [] w6).alloc _
      have ha6 : w6a.heap[w6.heap.size]? = some (.cells #[.int .i64 0, .int .i64 i6, .bool d6, .int .i64 (z6 : Int), .int .i64 q6, .slice xb6 nb6 cb6, .slice xl6 nl6 cl6] 30 (0, 0)) := by rw [hw6a]; exact heap_alloc_new w6 _
      have h6a : POwn [w6.heap.size, w5.heap.size] w w6a c s6 := h6.add hc6 (fun g hg => by
        rcases List.mem_cons.1 hg with rfl | hg
        · exact .inr ⟨Nat.le_refl _, blk_lt ha6⟩
        · exact .inl hg)
      have HA5 := Lib.hid (hc6.keep HA5.out (by simp))
      have HW6 := Lib.hid hw6a
      have HA6 := Lib.hid ha6
      clear h6 hw6a hc6 ha6 C6 k6 HW5 HC5a
      have hr7 := HO6.out.2.read 0 4096
      rw [show ((0 : Nat) : Int) = 0 from rfl, show ((4096 : Nat) : Int) = 4096 from rfl, cut_all _ _ HWL.out] at hr7
      obtain ⟨r7, hr7e⟩ : ∃ r7, r7 = psDo s6 1 (oRead 0 4096) := ⟨_, rfl⟩
      rw [← hr7e] at hr7
      have C7 := Lib.hid (odo_any h6a 1 (oRead 0 4096) (.slice none 0 0) (BytesAt.nil _) (Nat.zero_le _) (Nat.zero_le _) r7 hr7e.symm)
      clear h6a hr7e
      obtain ⟨⟨e7, i7, d7, z7, q7, b7, l7⟩, s7⟩ := r7
      simp only at hr7
      obtain ⟨hb7e, hs7e⟩ := hr7
      obtain rfl := hs7e.symm
      have HB7E := Lib.hid hb7e
      clear hb7e
      go_wp2_with fail
      rw [← HW6.out]
      refine C7.out.mono ?_
      rintro e w7 ⟨xb7, nb7, cb7, xl7, nl7, cl7, rfl, hb7, _, h7, k7⟩
      dsimp only
      dsimp only at hb7
      rw [HB7E.out] at hb7
      have HB7 := Lib.hid hb7
      have HA5 := Lib.hid ((k7 _ (by simp)).trans HA5.out)
      have HA6 := Lib.hid ((k7 _ (by simp)).trans HA6.out)
      have h7 := h7.mono (Y := (Value.slice xb7 nb7 cb7).ownBlock.toList ++ [w6.heap.size, w5.heap.size]) (fun x hx => by
        rcases List.mem_append.1 hx with hx | hx
        · exact List.mem_append_left _ hx
        · exact List.mem_append_right _ (List.mem_append_right _ hx))
      obtain ⟨w7a, hw7a⟩ : ∃ w7a, w7a = w7.alloc (.cells #[.int .i64 e7, .int .i64 i7, .bool d7, .int .i64 (z7 : Int), .int .i64 q7, .slice xb7 nb7 cb7, .slice xl7 nl7 cl7] 30) := ⟨_, rfl⟩
      have hc7 : Chg [] w7 w7a := by rw [hw7a]; exact (Chg.refl [] w7).alloc _
      have ha7 : w7a.heap[w7.heap.size]? = some (.cells #[.int .i64 e7, .int .i64 i7, .bool d7, .int .i64 (z7 : Int), .int .i64 q7, .slice xb7 nb7 cb7, .slice xl7 nl7 cl7] 30 (0, 0)) := by rw [hw7a]; exact heap_alloc_new w7 _
      have h7a : POwn (w7.heap.size :: ((Value.slice xb7 nb7 cb7).ownBlock.toList ++ [w6.heap.size, w5.heap.size])) w w7a c s6 := h7.add hc7 (fun g hg => by
        rcases List.mem_cons.1 hg with rfl | hg
        · exact .inr ⟨Nat.le_refl _, blk_lt ha7⟩
        · exact .inl hg)
      have HA5 := Lib.hid (hc7.keep HA5.out (by simp))
      have HA6 := Lib.hid (hc7.keep HA6.out (by simp))
      have HB7 := Lib.hid (HB7.out.chg0 hc7)
      have HW7 := Lib.hid hw7a
      have HA7 := Lib.hid ha7
      clear h7 hw7a hc7 ha7 C7 k7 HW6 hb7 HB7E
      have hr8 := HO6.out.2.read k B.length
      have hcut : cutB W k B.length = B := by
        rw [HW.out]
        split
        · rename_i hbn; rw [hbn]; unfold cutB; simp
        · exact cut_write A B k
      rw [hcut] at hr8
      obtain ⟨r8, hr8e⟩ : ∃ r8, r8 = psDo s6 1 (oRead (k : Int) (B.length : Int)) := ⟨_, rfl⟩
      rw [← hr8e] at hr8
      have C8 := Lib.hid (odo_any h7a 1 (oRead (k : Int) (B.length : Int)) (.slice none 0 0) (BytesAt.nil _) (Nat.zero_le _) (Nat.zero_le _) r8 hr8e.symm)
      clear h7a hr8e hcut
      obtain ⟨⟨e8, i8, d8, z8, q8, b8, l8⟩, s8⟩ := r8
      simp only at hr8
      obtain ⟨hb8e, hs8e⟩ := hr8
      obtain rfl := hs8e.symm
      have HB8E := Lib.hid hb8e
      clear hb8e
      go_wp2_with fail
      rw [← HW7.out]
      refine C8.out.mono ?_
      rintro e w8 ⟨xb8, nb8, cb8, xl8, nl8, cl8, rfl, hb8, _, h8, k8⟩
      dsimp only
      dsimp only at hb8
      rw [HB8E.out] at hb8
      have HB8 := Lib.hid hb8
      have HA5 := Lib.hid ((k8 _ (by simp)).trans HA5.out)
      have HA6 := Lib.hid ((k8 _ (by simp)).trans HA6.out)
      have HA7 := Lib.hid ((k8 _ (by simp)).trans HA7.out)
      have HB7 := Lib.hid (keepB HB7.out k8 (fun g hg => List.mem_cons_of_mem _ (List.mem_append_left _ (Option.mem_toList.2 hg))))
      have h8 := h8.mono (Y := (w7.heap.size :: ((Value.slice xb7 nb7 cb7).ownBlock.toList ++ [w6.heap.size, w5.heap.size]))) (fun x hx => List.mem_append_right _ (List.mem_append_right _ hx))
      obtain ⟨w8a, hw8a⟩ : ∃ w8a, w8a = w8.alloc (.cells #[.int .i64 e8, .int .i64 i8, .bool d8, .int .i64 (z8 : Int), .int .i64 q8, .slice xb8 nb8 cb8, .slice xl8 nl8 cl8] 30) := ⟨_, rfl⟩
      have hc8 : Chg [] w8 w8a := by rw [hw8a]; exact (Chg.refl [] w8).alloc _
      have ha8 : w8a.heap[w8.heap.size]? = some (.cells #[.int .i64 e8, .int .i64 i8, .bool d8, .int .i64 (z8 : Int), .int .i64 q8, .slice xb8 nb8 cb8, .slice xl8 nl8 cl8] 30 (0, 0)) := by rw [hw8a]; exact heap_alloc_new w8 _
      have H8 := Lib.hid (h8.keep0 hc8)
      obtain ⟨⟨x0, _⟩, _⟩ := ans_cells HA5.out
      obtain ⟨⟨y0, _⟩, _⟩ := ans_cells HA6.out
      have hs5 : w5.heap.size < w8.heap.size := blk_lt HA5.out
      have hs6 : w6.heap.size < w8.heap.size := blk_lt HA6.out
      have HA5 := Lib.hid (hc8.keep HA5.out (by simp))
      have HA6 := Lib.hid (hc8.keep HA6.out (by simp))
      have HA7 := Lib.hid (hc8.keep HA7.out (by simp))
      have HB7 := Lib.hid (HB7.out.chg0 hc8)
      have HB8 := Lib.hid (HB8.out.chg0 hc8)
      have HW8 := Lib.hid hw8a
      have HA8 := Lib.hid ha8
      clear h8 hw8a hc8 ha8 C8 k8 HW7 hb8 HB8E
      have CS := Lib.hid (same_any _ _ B B w8a HB8.out (HB.out.chg0 H8.out.chg) (by have := HLB.out; omega) (by have := HLB.out; omega))
      rw [decide_eq_true rfl] at CS
      go_wp2_with fail
      rw [← HW8.out]
      refine CS.out.mono ?_
      rintro e w9 ⟨rfl, n9, hq9⟩
      have hc9 : Chg [] w8a w9 := by rw [hq9]; exact Chg.drewN (Chg.refl [] w8a) n9
      have H9 := Lib.hid (H8.out.keep0 hc9)
      have HA7 := Lib.hid (hc9.keep HA7.out (by simp))
      have HB7 := Lib.hid (HB7.out.chg0 hc9)
      have CC := Lib.hid (rcopy_any _ A w9 (HA.out.chg0 H9.out.chg) (by have := HLA.out; omega))
      clear hq9 hc9 CS H8 x0 y0 hs5 hs6 HA5 HA6 HA8 HB8 HW8
      go_wp2_with fail
      refine CC.out.mono ?_
      rintro e w10 ⟨v10, rfl, hr10, hn10, hc10⟩
      have HR10 := Lib.hid (And.intro hr10 (And.intro hn10 hc10))
      obtain ⟨a10, c10, e10, _⟩ := hr10.bytes
      subst e10
      obtain ⟨need, hneed⟩ : ∃ need, need = k + B.length - A.length := ⟨_, rfl⟩
      have HND := Lib.hid hneed
      have hwk : wrap64 ((k : Int) + (B.length : Int)) = (k : Int) + (B.length : Int) := by have := HK8.out; have := HLB.out; rw [wrap64]; omega
      clear hr10 hn10 hc10 CC hneed
      go_wp2
      go_loopg [13] need (fun g' s13 wr => ∃ (j : Nat) (a3 : Option Addr) (c3 : Nat), s13 = .slice a3 (A.length + j) c3 ∧ j ≤ need ∧ need ≤ j + g' ∧ Hid ((B = [] → j = 0) ∧ BRow wr s13 (A ++ zs j) ∧ (∀ g, s13.ownBlock = some g → w9.heap.size ≤ g) ∧ Chg [] w9 wr))
      case atStart => exact ⟨0, a10, c10, rfl, by omega, by omega, Lib.hid ⟨fun _ => rfl, by simpa [zs] using HR10.out.1, HR10.out.2.1, HR10.out.2.2⟩⟩
      case round =>
        obtain ⟨j, a3, c3, rfl, hj, hjg, HR⟩ := hrel
        by_cases hlt : 0 < B.length ∧ A.length + j < k + B.length
        · have hb0 : (0 : Int) < (B.length : Int) := by omega
          have hb1 : (A.length : Int) + (j : Int) < (k : Int) + (B.length : Int) := by omega
          have hb2 : A.length + j < k + B.length := hlt.2
          have hb3 : 0 < B.length := hlt.1
          have hbn : ¬ B = [] := fun h => by rw [h] at hlt; simp at hlt
          have HBN := Lib.hid hbn
          obtain ⟨s3, hs3⟩ : ∃ s3, s3 = Value.slice a3 (A.length + j) c3 := ⟨_, rfl⟩
          have HS3 := Lib.hid hs3
          rw [← hs3] at HR
          have HB1 := Lib.hid (one_byte wr 0 _ rfl)
          unfold bv at HB1
          have HR2 := Lib.hid (HR.out.2.1.keep (w' := wr.alloc (.cells #[.int .u8 ((0 : UInt8).toNat : Int)] 5)) (fun g hg => heap_alloc_old wr _ (HR.out.2.1.lt g hg)))
          have hsz : Hid ((A ++ zs j).length + [(0 : UInt8)].length ≤ 140737488355328) := Lib.hid (by have := HLA.out; have := HLB.out; have := HK8.out; have := HND.out; unfold zs; simp; omega)
          have hjn : j < need := by have := HND.out; omega
          clear hs3 hlt hbn
          go_wp2_with (at_builtin; refine wpList_appB rfl (.tmp 87) (.tmp 88) rfl s3 (A ++ zs j) HS3.out.symm HR2.out _ [0] rfl HB1.out hsz.out ?_; intro v1 w1' ho1 hg1 hat1)
          have HO1 := Lib.hid ho1
          have HG1 := Lib.hid hg1
          have HA1 := Lib.hid hat1
          clear ho1 hg1 hat1
          go_roundg (gk - 1)
          case measure => omega
          case rel =>
            have hr : BRow w1' v1 (A ++ zs (j + 1)) := by
              have e : A ++ zs (j + 1) = A ++ zs j ++ [0] := by unfold zs; rw [List.replicate_succ', List.append_assoc]
              rw [e]; exact HO1.out
            obtain ⟨a, c4, he, _⟩ := hr.bytes
            have hlen : (A ++ zs (j + 1)).length = A.length + (j + 1) := by unfold zs; simp
            rw [hlen] at he
            refine ⟨j + 1, a, c4, he, by omega, by omega, Lib.hid ⟨fun h => absurd h HBN.out, hr, fun g hg => ?_, (HR.out.2.2.2.alloc _).grown HG1.out (fun g hg => .inr (HR.out.2.2.1 g hg))⟩⟩
            rcases HA1.out with h | h
            · exact HR.out.2.2.1 g (by rw [← h]; exact hg)
            · rw [h] at hg
              have h1 := HR.out.2.2.2.size
              have h2 : wr.heap.size + 1 = g := by simpa using hg
              omega
        · by_cases hbn : B = []
          · have hb3 : B.length = 0 := by rw [hbn]; rfl
            have hb0 : ¬ (0 : Int) < (B.length : Int) := by omega
            have hb4 : ¬ 0 < B.length := by omega
            have hj0 := HR.out.1 hbn
            subst hj0
            have hWA : A ++ zs 0 = W := by rw [HW.out, if_pos hbn]; simp [zs]
            have HWR := Lib.hid HR.out.2
            rw [hWA] at HWR
            clear hbn hlt hWA hb3
            have hof : (ofO (some ([] : List UInt8))).length = 0 := rfl
            have HA7 := Lib.hid (HWR.out.2.2.keep HA7.out (by simp))
            have HB7 := Lib.hid (HB7.out.chg0 HWR.out.2.2)
            obtain ⟨sW, hsW⟩ : ∃ sW, sW = Value.slice a3 (A.length + 0) c3 := ⟨_, rfl⟩
            have HSW := Lib.hid hsW
            rw [← hsW] at HWR
            have H11 : Hid (POwn (sW.ownBlock.toList ++ (w7.heap.size :: ((Value.slice xb7 nb7 cb7).ownBlock.toList ++ [w6.heap.size, w5.heap.size]))) w wr c s6) := Lib.hid (H9.out.add HWR.out.2.2 (fun g hg => by
              rcases List.mem_append.1 hg with hg | hg
              · exact .inr ⟨HWR.out.2.1 g (Option.mem_toList.1 hg), HWR.out.1.lt g (Option.mem_toList.1 hg)⟩
              · exact .inl hg))
            have HWB := Lib.hid HWR.out.1
            have C12 := Lib.hid (ofile_any H11.out 2 (okI_of (by omega) (by omega)) _ HO6.out.2.file)
            clear HR H9 HWR hsW HR10
            go_wp2_with fail
            refine C12.out.mono ?_
            rintro e w12 ⟨x12, k12, rfl, _, h12, hc12⟩
            have HWB := Lib.hid (HWB.out.keep (fun g hg => hc12.block g (HWB.out.lt g hg) (by simp)))
            have HA7 := Lib.hid (hc12.keep HA7.out (by simp))
            have HB7 := Lib.hid (HB7.out.chg0 hc12)
            have h12 := H11.out.keep0 hc12
            have ho13 := HO6.out.2.sync
            obtain ⟨r13, hr13⟩ : ∃ r13, r13 = psDo s6 1 oFsync := ⟨_, rfl⟩
            rw [← hr13] at ho13
            have C13 := Lib.hid (odo_any h12 1 oFsync (.slice none 0 0) (BytesAt.nil _) (Nat.zero_le _) (Nat.zero_le _) r13 hr13.symm)
            have HO13 := Lib.hid ho13
            clear h12 hc12 ho13 hr13 C12 H11
            obtain ⟨⟨e13, i13, d13, z13, q13, b13, l13⟩, s13⟩ := r13
            simp only at HO13
            go_wp2_with fail
            refine C13.out.mono ?_
            rintro e w13 ⟨xb13, nb13, cb13, xl13, nl13, cl13, rfl, _, _, h13, k13⟩
            have HWB := Lib.hid (HWB.out.keep (fun g hg => k13 g (List.mem_append_left _ (Option.mem_toList.2 hg))))
            have HA7 := Lib.hid ((k13 _ (List.mem_append_right _ (List.mem_cons_self ..))).trans HA7.out)
            have HB7 := Lib.hid (keepB HB7.out k13 (fun g hg => List.mem_append_right _ (List.mem_cons_of_mem _ (List.mem_append_left _ (Option.mem_toList.2 hg)))))
            have C14 := Lib.hid (ofile_any h13 2 (okI_of (by omega) (by omega)) _ HO13.out.file)
            have H13 := Lib.hid h13
            clear h13 k13 C13
            go_wp2_with fail
            refine C14.out.mono ?_
            rintro e w14 ⟨x14, k14, rfl, hb14, h14, hc14⟩
            have hof2 : (ofO (some W)).length = W.length := rfl
            have HB14 : Hid (BytesAt w14 (.slice x14 W.length k14) W) := Lib.hid hb14
            have HWB := Lib.hid (HWB.out.keep (fun g hg => hc14.block g (HWB.out.lt g hg) (by simp)))
            have HA7 := Lib.hid (hc14.keep HA7.out (by simp))
            have HB7 := Lib.hid (HB7.out.chg0 hc14)
            have HC14 := Lib.hid h14.chg
            obtain ⟨⟨_, _, _, _, _, u5, _⟩, _⟩ := ans_cells HA7.out
            have CS := Lib.hid (same_any _ _ W W w14 HB7.out HWB.out.bytes (by have := HWL.out; omega) (by have := HWL.out; omega))
            rw [decide_eq_true rfl, HSW.out] at CS
            clear hb14 h14 hc14 C14
            go_wp2_with fail
            refine CS.out.mono ?_
            rintro e w15 ⟨rfl, n15, hq15⟩
            have hc15 : Chg [] w14 w15 := by rw [hq15]; exact Chg.drewN (Chg.refl [] w14) n15
            have CS2 := Lib.hid (same_any _ _ W W w15 (HB14.out.chg0 hc15) (HWB.out.bytes.chg0 hc15) (by have := HWL.out; omega) (by have := HWL.out; omega))
            rw [decide_eq_true rfl, HSW.out] at CS2
            have HC15 := Lib.hid (chg_tr HC14.out hc15)
            clear hq15 hc15 CS
            go_wp2_with fail
            refine CS2.out.mono ?_
            rintro e w16 ⟨rfl, n16, hq16⟩
            have HC16 : Hid (Chg [] w w16) := Lib.hid (by rw [hq16]; exact HC15.out.drewN n16)
            clear hq16 CS2
            go_wp2
            go_ret
            exact ⟨rfl, HC16.out⟩
          · have hbl : 0 < B.length := List.length_pos_iff.2 hbn
            have hb0 : (0 : Int) < (B.length : Int) := by omega
            have hjn : j = k + B.length - A.length := by have := HND.out; omega
            have hkl : k + B.length ≤ A.length + j := by omega
            have hb1 : ¬ ((A.length : Int) + (j : Int) < (k : Int) + (B.length : Int)) := by omega
            have hb2 : ¬ A.length + j < k + B.length := by omega
            have hzl : (A ++ zs j).length = A.length + j := by unfold zs; simp
            have HWP : Hid (putB (A ++ zs j) k B = W) := Lib.hid (by rw [HW.out, if_neg hbn, hjn]; exact want_put A B k)
            obtain ⟨-, hrow⟩ := HR.out.2.1
            rcases hrow with ⟨he, h0⟩ | ⟨g, cap, cur, he, -, -, hnc, hcm, -, -⟩
            · rw [hzl] at h0; omega
            obtain ⟨ha3, -, hc3⟩ := Value.slice.inj he
            subst ha3
            subst hc3
            have HZL := Lib.hid hzl
            have hck : ¬ (c3 = k) := by omega
            have hcc : k ≤ c3 := by omega
            have hkj : k ≤ A.length + j := by omega
            unfold maxLen at hcm
            have HBW : Hid (BytesAt wr (.slice ab B.length cb) B) := Lib.hid ((HB.out.chg0 H9.out.chg).chg0 HR.out.2.2.2)
            clear he hnc hbn hlt hjn hzl
            go_wp2_with (refine wpList_putRow (by rfl) (.tmp 95) (.tmp 96) (by rfl) g (A.length + j) c3 k (A.length + j - k) (c3 - k) (by simp [Act.eval, Act.put, hck]) _ (by rfl) B HBW.out (A ++ zs j) HR.out.2.1 (by rw [HZL.out]; exact hkl) (by omega) ?_; intro w11 r11 h11; refine stop_of ?_)
            have HWR : Hid (BRow w11 (.slice (some ⟨g, 0, none⟩) (A.length + j) c3) W ∧ (∀ b, (Value.slice (some ⟨g, 0, none⟩) (A.length + j) c3).ownBlock = some b → w9.heap.size ≤ b) ∧ Chg [] w9 w11) := Lib.hid ⟨by rw [← HWP.out]; exact h11.out.1, HR.out.2.2.1, Chg.of_below ((Chg.below HR.out.2.2.2 (by simp)).trans (h11.out.2.mono (HR.out.2.2.1 g rfl)))⟩
            clear h11 HBW
            unfold Stop
            have hof : (ofO (some ([] : List UInt8))).length = 0 := rfl
            have HA7 := Lib.hid (HWR.out.2.2.keep HA7.out (by simp))
            have HB7 := Lib.hid (HB7.out.chg0 HWR.out.2.2)
            obtain ⟨sW, hsW⟩ : ∃ sW, sW = Value.slice (some ⟨g, 0, none⟩) (A.length + j) c3 := ⟨_, rfl⟩
            have HSW := Lib.hid hsW
            rw [← hsW] at HWR
            have H11 : Hid (POwn (sW.ownBlock.toList ++ (w7.heap.size :: ((Value.slice xb7 nb7 cb7).ownBlock.toList ++ [w6.heap.size, w5.heap.size]))) w w11 c s6) := Lib.hid (H9.out.add HWR.out.2.2 (fun g hg => by
              rcases List.mem_append.1 hg with hg | hg
              · exact .inr ⟨HWR.out.2.1 g (Option.mem_toList.1 hg), HWR.out.1.lt g (Option.mem_toList.1 hg)⟩
              · exact .inl hg))
            have HWB := Lib.hid HWR.out.1
            have C12 := Lib.hid (ofile_any H11.out 2 (okI_of (by omega) (by omega)) _ HO6.out.2.file)
            clear HR H9 HWR hsW HR10
            go_wp2_with fail
            refine C12.out.mono ?_
            rintro e w12 ⟨x12, k12, rfl, _, h12, hc12⟩
            have HWB := Lib.hid (HWB.out.keep (fun g hg => hc12.block g (HWB.out.lt g hg) (by simp)))
            have HA7 := Lib.hid (hc12.keep HA7.out (by simp))
            have HB7 := Lib.hid (HB7.out.chg0 hc12)
            have h12 := H11.out.keep0 hc12
            have ho13 := HO6.out.2.sync
            obtain ⟨r13, hr13⟩ : ∃ r13, r13 = psDo s6 1 oFsync := ⟨_, rfl⟩
            rw [← hr13] at ho13
            have C13 := Lib.hid (odo_any h12 1 oFsync (.slice none 0 0) (BytesAt.nil _) (Nat.zero_le _) (Nat.zero_le _) r13 hr13.symm)
            have HO13 := Lib.hid ho13
            clear h12 hc12 ho13 hr13 C12 H11
            obtain ⟨⟨e13, i13, d13, z13, q13, b13, l13⟩, s13⟩ := r13
            simp only at HO13
            go_wp2_with fail
            refine C13.out.mono ?_
            rintro e w13 ⟨xb13, nb13, cb13, xl13, nl13, cl13, rfl, _, _, h13, k13⟩
            have HWB := Lib.hid (HWB.out.keep (fun g hg => k13 g (List.mem_append_left _ (Option.mem_toList.2 hg))))
            have HA7 := Lib.hid ((k13 _ (List.mem_append_right _ (List.mem_cons_self ..))).trans HA7.out)
            have HB7 := Lib.hid (keepB HB7.out k13 (fun g hg => List.mem_append_right _ (List.mem_cons_of_mem _ (List.mem_append_left _ (Option.mem_toList.2 hg)))))
            have C14 := Lib.hid (ofile_any h13 2 (okI_of (by omega) (by omega)) _ HO13.out.file)
            have H13 := Lib.hid h13
            clear h13 k13 C13
            go_wp2_with fail
            refine C14.out.mono ?_
            rintro e w14 ⟨x14, k14, rfl, hb14, h14, hc14⟩
            have hof2 : (ofO (some W)).length = W.length := rfl
            have HB14 : Hid (BytesAt w14 (.slice x14 W.length k14) W) := Lib.hid hb14
            have HWB := Lib.hid (HWB.out.keep (fun g hg => hc14.block g (HWB.out.lt g hg) (by simp)))
            have HA7 := Lib.hid (hc14.keep HA7.out (by simp))
            have HB7 := Lib.hid (HB7.out.chg0 hc14)
            have HC14 := Lib.hid h14.chg
            obtain ⟨⟨_, _, _, _, _, u5, _⟩, _⟩ := ans_cells HA7.out
            have CS := Lib.hid (same_any _ _ W W w14 HB7.out HWB.out.bytes (by have := HWL.out; omega) (by have := HWL.out; omega))
            rw [decide_eq_true rfl, HSW.out] at CS
            clear hb14 h14 hc14 C14
            go_wp2_with fail
            refine CS.out.mono ?_
            rintro e w15 ⟨rfl, n15, hq15⟩
            have hc15 : Chg [] w14 w15 := by rw [hq15]; exact Chg.drewN (Chg.refl [] w14) n15
            have CS2 := Lib.hid (same_any _ _ W W w15 (HB14.out.chg0 hc15) (HWB.out.bytes.chg0 hc15) (by have := HWL.out; omega) (by have := HWL.out; omega))
            rw [decide_eq_true rfl, HSW.out] at CS2
            have HC15 := Lib.hid (chg_tr HC14.out hc15)
            clear hq15 hc15 CS
            go_wp2_with fail
            refine CS2.out.mono ?_
            rintro e w16 ⟨rfl, n16, hq16⟩
            have HC16 : Hid (Chg [] w w16) := Lib.hid (by rw [hq16]; exact HC15.out.drewN n16)
            clear hq16 CS2
            go_wp2
            go_ret
            exact ⟨rfl, HC16.out⟩
end Go.Proofs.Ytaophafailmhjaa.W

/- Bytes that came in. -/
namespace Go.Proofs.Ytaophafailmhjaa.W
open Go.RowKit Go.ChangeShapes Go.WideShapes
set_option linter.unusedVariables false
set_option linter.unusedSimpArgs false

/-- Bytes that came in. -/
def Came (w : World) (v : Value) (l : List UInt8) : Prop := BytesAt w v l ∧ (l ≠ [] → ∀ k, v.ownBlock = some k → k < w.heap.size)
theorem Came.chg {w w' : World} {v : Value} {l : List UInt8} (h : Came w v l) (hc : Chg [] w w') : Came w' v l := ⟨h.1.chg0 hc, fun hl k hk => Nat.lt_of_lt_of_le (h.2 hl k hk) hc.size⟩
theorem toU8 (z : Int) (h : (Lit.int .u8 z).wf = true) : .int .u8 z = bv (UInt8.ofNat z.toNat) := by
  simp [Lit.wf, IntKind.min, IntKind.max, IntKind.signed, IntKind.bits] at h
  unfold bv
  rw [UInt8.toNat_ofNat']
  congr 1
  omega

section
variable {H : Type} {enc : TypeId × Value → H} {w : World} {base : Nat} {held : Bool}
/-- A slice of bytes that came in. -/
theorem open_came {fuel : Nat} {cs : List Value} {x : DataW H × List MemPlace} (h : DataW.trod enc Try.prog w base (fun _ => true) held fuel 22 cs = some x) : ∃ v l, cs = [v] ∧ Came w v l ∧ l.length ≤ maxLen := by
  rcases open_ints Try.underlying22 Try.underlying5 (by kernel_rfl) h with ⟨rfl, _⟩ | ⟨a, len, cap, zs, rfl, _, hl, hm, hz, _, hcell, hwf⟩
  · exact ⟨_, [], rfl, ⟨BytesAt.nil _, by simp⟩, by unfold maxLen; simp⟩
  · replace hz : zs.length = cap := by simpa using hz
    have hlen : ((zs.take len).map (fun z => UInt8.ofNat z.toNat)).length = len := by rw [List.length_map, List.length_take]; omega
    have hg : ∀ i, i < len → ((zs.take len).map (fun z => UInt8.ofNat z.toNat)).getD i 0 = UInt8.ofNat (zs.getD i 0).toNat := by
      intro i hi
      rw [List.getD_eq_getElem?_getD, List.getElem?_map, List.getElem?_take, if_pos hi, List.getD_eq_getElem?_getD, List.getElem?_eq_getElem (by omega)]
      rfl
    have hw : ∀ i, i < zs.length → (Lit.int .u8 (zs.getD i 0)).wf = true := fun i hi => hwf _ (by
      rw [List.getD_eq_getElem?_getD, List.getElem?_eq_getElem hi]
      exact List.getElem_mem hi)
    refine ⟨_, (zs.take len).map (fun z => UInt8.ofNat z.toNat), rfl, ?_, by rw [hlen]; omega⟩
    by_cases hc0 : cap = 0
    · have h0 : len = 0 := by omega
      subst hc0; subst h0
      have hnil : (zs.take 0).map (fun z => UInt8.ofNat z.toNat) = [] := by simp
      rw [hnil]
      exact ⟨⟨some a, 0, rfl, Nat.le_refl _, by unfold maxLen; omega, .inl ⟨rfl, rfl⟩⟩, fun h => absurd rfl h⟩
    · obtain ⟨g, o, spot⟩ := a
      have hc := hcell 0 (by omega)
      have hspot : spot = none := by simpa [Addr.add] using World.cell?_spot hc
      subst hspot
      have hlt : g < w.heap.size := by
        have := World.block_lt_of_cell? w _ hc
        simpa [Addr.add] using this
      refine ⟨⟨some ⟨g, o, none⟩, cap, by rw [hlen], by omega, hm, .inr ⟨g, o, rfl, fun i hi => ?_⟩⟩, fun _ k hk => ?_⟩
      · rw [hlen] at hi
        have := hcell i (by omega)
        rw [add_none] at this
        rw [this, hg i hi, ← toU8 _ (hw i (by omega))]
      · obtain rfl : g = k := by simpa [Value.ownBlock] using hk
        exact hlt
end
theorem IsRow.came {w : World} {a : Option Addr} {len cap : Nat} {zs : List Int} (h : IsRow .u8 w a len cap zs) : ∃ l, l.length = len ∧ len ≤ maxLen ∧ Came w (.slice a len cap) l := by
  rcases h with ⟨rfl, rfl, rfl, rfl⟩ | ⟨x, rfl, h1, h2, h3, h4, h5⟩
  · exact ⟨[], rfl, by unfold maxLen; omega, BytesAt.nil w, by simp⟩
  · have hlen : ((zs.take len).map (fun z => UInt8.ofNat z.toNat)).length = len := by rw [List.length_map, List.length_take]; omega
    have hg : ∀ i, i < len → ((zs.take len).map (fun z => UInt8.ofNat z.toNat)).getD i 0 = UInt8.ofNat (zs.getD i 0).toNat := by
      intro i hi
      rw [List.getD_eq_getElem?_getD, List.getElem?_map, List.getElem?_take, if_pos hi, List.getD_eq_getElem?_getD, List.getElem?_eq_getElem (by omega)]
      rfl
    have hw : ∀ i, i < zs.length → (Lit.int .u8 (zs.getD i 0)).wf = true := fun i hi => h5 _ (by
      rw [List.getD_eq_getElem?_getD, List.getElem?_eq_getElem hi]
      exact List.getElem_mem hi)
    refine ⟨_, hlen, by omega, ?_⟩
    by_cases hl0 : len = 0
    · subst hl0
      have hnil : (zs.take 0).map (fun z => UInt8.ofNat z.toNat) = [] := by simp
      rw [hnil]
      by_cases hc0 : cap = 0
      · subst hc0
        exact ⟨⟨some x, 0, rfl, Nat.le_refl _, by unfold maxLen; omega, .inl ⟨rfl, rfl⟩⟩, by simp⟩
      · obtain ⟨g, o, spot⟩ := x
        have hc := h4 0 (by omega)
        have hspot : spot = none := by simpa [Addr.add] using World.cell?_spot hc
        subst hspot
        exact ⟨⟨some ⟨g, o, none⟩, cap, rfl, by simp, h2, .inr ⟨g, o, rfl, by simp⟩⟩, by simp⟩
    · obtain ⟨g, o, spot⟩ := x
      have hc := h4 0 (by omega)
      have hspot : spot = none := by simpa [Addr.add] using World.cell?_spot hc
      subst hspot
      have hlt : g < w.heap.size := by
        have := World.block_lt_of_cell? w _ hc
        simpa [Addr.add] using this
      refine ⟨⟨some ⟨g, o, none⟩, cap, by rw [hlen], by omega, h2, .inr ⟨g, o, rfl, fun i hi => ?_⟩⟩, fun _ k hk => ?_⟩
      · rw [hlen] at hi
        have := h4 i (by omega)
        rw [add_none] at this
        rw [this, hg i hi, ← toU8 _ (hw i (by omega))]
      · obtain rfl : g = k := by simpa [Value.ownBlock] using hk
        exact hlt
end Go.Proofs.Ytaophafailmhjaa.W

/- PlainBytes: what the row asks. -/
namespace Go.Proofs.Ytaophafailmhjaa.plainBytes
open Go.RowKit
theorem walk (a0 : Option Addr) (len0 cap0 : Nat) (z0 : List Int) (a1 : Option Addr) (len1 cap1 : Nat) (z1 : List Int) (a2 : Int) (W : World) (w0 : IsRow .u8 W a0 len0 cap0 z0) (w1 : IsRow .u8 W a1 len1 cap1 z1) (w2 : (Lit.int .u16 a2).wf = true) :
    Calls Try.prog 3 #[.slice a0 len0 cap0, .slice a1 len1 cap1, .int .u16 a2] W fun e w' => e = .returned (.bool true) ∧ Below W.heap.size W w' := by
  obtain ⟨l0, h0, _, hc0, _⟩ := Go.Proofs.Ytaophafailmhjaa.W.IsRow.came w0
  obtain ⟨l1, h1, _, hc1, _⟩ := Go.Proofs.Ytaophafailmhjaa.W.IsRow.came w1
  have hz : 0 ≤ a2 ∧ a2 < 65536 := by
    simp [Lit.wf, IntKind.min, IntKind.max, IntKind.signed, IntKind.bits] at w2
    omega
  exact (Go.Proofs.Ytaophafailmhjaa.W.bytes26_any _ _ l0 l1 a2 W hc0 hc1 hz).mono fun e w' ⟨h1, h2⟩ => ⟨h1, h2.below (by simp)⟩
end Go.Proofs.Ytaophafailmhjaa.plainBytes
