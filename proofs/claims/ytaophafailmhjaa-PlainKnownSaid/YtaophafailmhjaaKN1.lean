/- Texts laid together. -/
import Derived.Test.YtaophafailmhjaaBP7
/- PlainKnown: the walk. -/
namespace Go.Proofs.Ytaophafailmhjaa.W
open Go.RowKit
open Go.Proofs.Ytaophafailmhjaa.NM
set_option linter.unusedVariables false
set_option linter.unusedSimpArgs false

theorem oneB (w : World) (x : UInt8) (fz : Nat × Nat) : BytesAt (w.alloc (.cells #[.int .u8 (x.toNat : Int)] 5 fz)) (.slice (some ⟨w.heap.size, 0, none⟩) 1 1) [x] := by
  refine ⟨_, 1, rfl, Nat.le_refl _, by unfold maxLen; omega, .inr ⟨_, 0, rfl, fun i hi => ?_⟩⟩
  have hb := heap_alloc_new w (.cells #[.int .u8 (x.toNat : Int)] 5 fz)
  unfold World.cell?
  simp only [hb]
  match i, hi with
  | 0, _ => rfl
/-- An answer's cells. -/
abbrev ansC (a : Ans) (b l : Value) : Array Value := #[.int .i64 a.e, .int .i64 a.ino, .bool a.dir, .int .i64 (a.size : Int), .int .i64 a.h, b, l]
def oOpenR : Op := ⟨8, [47, 102], [], 0, 0, 0, false, []⟩
def oClose : Op := ⟨13, [], [], 0, 0, 0, false, []⟩
def oWriteX : Op := ⟨10, [], [], 0, 0, 0, false, [120]⟩
def oUnlink : Op := ⟨3, [47, 102], [], 0, 0, 0, false, []⟩
def kn4 : Ans × PS := psDo aw3.2 1 oOpenR
def kn5 : Ans × PS := psDo kn4.2 0 oClose
def kn6 : Ans × PS := psDo kn5.2 1 oOpenR
def kn7 : Ans × PS := psDo kn6.2 1 oRead9
def kn8 : Ans × PS := psDo kn7.2 1 oWriteX
def kn9 : Ans × PS := psDo kn8.2 1 oUnlink
def kn10 : Int × PS := psCrash kn9.2 1
theorem kn2_e : aw2.1.e = 0 := by kernel_rfl
theorem kn2_h : aw2.1.h = 0 := by kernel_rfl
theorem kn4_e : kn4.1.e = 8 := by kernel_rfl
theorem kn6_e : kn6.1.e = 0 := by kernel_rfl
theorem kn6_s : (kn6.1.size : Int) = 2 := by kernel_rfl
theorem kn7_b : kn7.1.b = [97, 98] := by kernel_rfl
theorem kn8_e : kn8.1.e = 13 := by kernel_rfl
theorem kn9_e : kn9.1.e = 8 := by kernel_rfl
theorem kn10_n : kn10.1 = 1 := by kernel_rfl
theorem size2 (w : World) (O : Obj) : (w.alloc O).heap.size = w.heap.size + 1 := Array.size_push ..
theorem twoB2 (w : World) (O : Obj) (x y : UInt8) (fz : Nat × Nat) : BytesAt ((w.alloc O).alloc (.cells #[.int .u8 (x.toNat : Int), .int .u8 (y.toNat : Int)] 5 fz)) (.slice (some ⟨w.heap.size + 1, 0, none⟩) 2 2) [x, y] := by
  have := two_bytes (w.alloc O) x y fz
  rw [size2] at this
  exact this
theorem oneB2 (w : World) (O : Obj) (x : UInt8) (fz : Nat × Nat) : BytesAt ((w.alloc O).alloc (.cells #[.int .u8 (x.toNat : Int)] 5 fz)) (.slice (some ⟨w.heap.size + 1, 0, none⟩) 1 1) [x] := by
  have := oneB (w.alloc O) x fz
  rw [size2] at this
  exact this
/-- The run: each answer, without a look at how it came. -/
structure KnownRun (r1 r2 r3 r4 r5 r6 r7 r8 r9 : Ans × PS) (r10 : Int × PS) : Prop where
  h1 : psDo PS.new 0 oCreate = r1
  h2 : psDo r1.2 0 oOpenW = r2
  h3 : psDo r2.2 0 oWriteAb = r3
  h4 : psDo r3.2 1 oOpenR = r4
  h5 : psDo r4.2 0 oClose = r5
  h6 : psDo r5.2 1 oOpenR = r6
  h7 : psDo r6.2 1 oRead9 = r7
  h8 : psDo r7.2 1 oWriteX = r8
  h9 : psDo r8.2 1 oUnlink = r9
  h10 : psCrash r9.2 1 = r10
  e2 : r2.1.e = 0
  q2 : r2.1.h = 0
  e4 : r4.1.e = 8
  e6 : r6.1.e = 0
  s6 : (r6.1.size : Int) = 2
  b7 : r7.1.b = [97, 98]
  e8 : r8.1.e = 13
  e9 : r9.1.e = 8
  n10 : r10.1 = 1
theorem known_run : ∃ r1 r2 r3 r4 r5 r6 r7 r8 r9 r10, KnownRun r1 r2 r3 r4 r5 r6 r7 r8 r9 r10 :=
  ⟨aw1, aw2, aw3, kn4, kn5, kn6, kn7, kn8, kn9, kn10, rfl, rfl, rfl, rfl, rfl, rfl, rfl, rfl, rfl, rfl, kn2_e, kn2_h, kn4_e, kn6_e, kn6_s, kn7_b, kn8_e, kn9_e, kn10_n⟩
theorem conv_same2 (w : World) (O : Obj) (C : Array Value) (n k : Nat) : (convert 22 22 (.slice (some ⟨w.heap.size + 1, 0, none⟩) n k)).run Try.prog ((w.alloc O).alloc (.cells C 5)) = .ok (.slice (some ⟨w.heap.size + 1, 0, none⟩) n k) ((w.alloc O).alloc (.cells C 5 (C.size, C.size + 1))) := by
  have := conv_same (w.alloc O) C n k
  rw [show (w.alloc O).heap.size = w.heap.size + 1 from Array.size_push ..] at this
  exact this
set_option maxHeartbeats 1000000 in
set_option maxRecDepth 100000 in
theorem known26_any (w : World) : Calls Try.prog 4 #[] w fun e w' => e = .returned (.bool true) ∧ Chg [] w w' := by
  have CA := Lib.hid (awake26_any w)
  obtain ⟨r1, r2, r3, r4, r5, r6, r7, r8, r9, r10, HR⟩ := known_run
  have HR := Lib.hid HR
  have hcs := conv_same2
  go_enter Try.func4, Try.ntmps4
  go_wp2_with fail
  refine CA.out.mono ?_
  rintro e w1 ⟨rfl, hc1⟩
  have CN := Lib.hid (lnew_any hc1)
  clear hc1 CA
  go_wp2_with fail
  refine CN.out.mono ?_
  rintro e w2 ⟨c, rfl, h2⟩
  have C2 := Lib.hid (ldo_any h2 0 oCreate (.slice none 0 0) (BytesAt.nil _) (by decide) (by decide) r1 HR.out.h1)
  clear h2 CN
  go_wp2_with fail
  refine C2.out.mono ?_
  rintro e w3 ⟨xb, nb, cb, xl, nl, cl, rfl, _, h3⟩
  have h3 := h3.less (L' := []) (B' := []) (by simp) (by simp)
  have C3 := Lib.hid (ldo_any h3 0 oOpenW (.slice none 0 0) (BytesAt.nil _) (by decide) (by decide) r2 HR.out.h2)
  clear h3 C2
  go_wp2_with fail
  refine C3.out.mono ?_
  rintro e w4 ⟨xb4, nb4, cb4, xl4, nl4, cl4, rfl, _, h4⟩
  have h4 := (h4.ans (ansC r2.1 (.slice xb4 nb4 cb4) (.slice xl4 nl4 cl4))).less (L' := [(w4.heap.size, ansC r2.1 (.slice xb4 nb4 cb4) (.slice xl4 nl4 cl4))]) (B' := []) (by simp) (by simp)
  have C4 := Lib.hid (ldo_any (h4.keep0 ((Chg.refl [] _).alloc _)) 0 oWriteAb _ (twoB2 _ _ 97 98 (2, 3)) (by decide) (by decide) r3 HR.out.h3)
  clear h4 C3
  go_wp2_with fail
  refine C4.out.mono ?_
  rintro e w5 ⟨xb, nb, cb, xl, nl, cl, rfl, _, h5⟩
  have h5 := h5.less (B' := []) (fun p hp => hp) (by simp)
  have C5 := Lib.hid (ldo_any h5 1 oOpenR (.slice none 0 0) (BytesAt.nil _) (by decide) (by decide) r4 HR.out.h4)
  clear h5 C4
  go_wp2_with fail
  refine C5.out.mono ?_
  rintro e w6 ⟨xb6, nb6, cb6, xl6, nl6, cl6, rfl, _, h6⟩
  have h6 := (h6.ans (ansC r4.1 (.slice xb6 nb6 cb6) (.slice xl6 nl6 cl6))).less (B' := []) (fun p hp => hp) (by simp)
  have C6 := Lib.hid (ldo_any h6 0 oClose (.slice none 0 0) (BytesAt.nil _) (by decide) (by decide) r5 HR.out.h5)
  clear h6 C5
  go_wp2_with fail
  refine C6.out.mono ?_
  rintro e w7 ⟨xb, nb, cb, xl, nl, cl, rfl, _, h7⟩
  have h7 := h7.less (B' := []) (fun p hp => hp) (by simp)
  have C7 := Lib.hid (ldo_any h7 1 oOpenR (.slice none 0 0) (BytesAt.nil _) (by decide) (by decide) r6 HR.out.h6)
  clear h7 C6
  go_wp2_with fail
  refine C7.out.mono ?_
  rintro e w8 ⟨xb8, nb8, cb8, xl8, nl8, cl8, rfl, _, h8⟩
  have h8 := (h8.ans (ansC r6.1 (.slice xb8 nb8 cb8) (.slice xl8 nl8 cl8))).less (B' := []) (fun p hp => hp) (by simp)
  have C8 := Lib.hid (ldo_any h8 1 oRead9 (.slice none 0 0) (BytesAt.nil _) (by decide) (by decide) r7 HR.out.h7)
  clear h8 C7
  go_wp2_with fail
  refine C8.out.mono ?_
  rintro e w9 ⟨xb9, nb9, cb9, xl9, nl9, cl9, rfl, _, h9⟩
  have h9 := (h9.ans (ansC r7.1 (.slice xb9 nb9 cb9) (.slice xl9 nl9 cl9)))
  have C9 := Lib.hid (ldo_any (h9.keep0 ((Chg.refl [] _).alloc _)) 1 oWriteX _ (oneB2 _ _ 120 (1, 2)) (by decide) (by decide) r8 HR.out.h8)
  clear h9 C8
  go_wp2_with fail
  refine C9.out.mono ?_
  rintro e w10 ⟨xb10, nb10, cb10, xl10, nl10, cl10, rfl, _, h10⟩
  have h10 := (h10.ans (ansC r8.1 (.slice xb10 nb10 cb10) (.slice xl10 nl10 cl10))).less (fun p hp => hp) (B' := [(.slice xb9 nb9 cb9, r7.1.b)]) (by simp)
  have C10 := Lib.hid (ldo_any h10 1 oUnlink (.slice none 0 0) (BytesAt.nil _) (by decide) (by decide) r9 HR.out.h9)
  clear h10 C9
  go_wp2_with fail
  refine C10.out.mono ?_
  rintro e w11 ⟨xb11, nb11, cb11, xl11, nl11, cl11, rfl, _, h11⟩
  have M6 := h11.mem (w6.heap.size, _) (.tail _ (.tail _ (.tail _ (.head _))))
  have M8 := h11.mem (w8.heap.size, _) (.tail _ (.tail _ (.head _)))
  have M9 := h11.mem (w9.heap.size, _) (.tail _ (.head _))
  have M10 := h11.mem (w10.heap.size, _) (.head _)
  have M4 := h11.mem (w4.heap.size, _) (.tail _ (.tail _ (.tail _ (.tail _ (.head _)))))
  have hb := h11.byt (.slice xb9 nb9 cb9, r7.1.b) (by simp)
  dsimp only at M4 M6 M8 M9 M10 hb
  have h11 := (h11.ans (ansC r9.1 (.slice xb11 nb11 cb11) (.slice xl11 nl11 cl11))).less (L' := []) (B' := []) (by simp) (by simp)
  have CC := Lib.hid (lcrash_any h11 1 r10 HR.out.h10)
  have hcv := bytes_text _ _ _ (hb.chg0 (show Chg [] w11 (w11.alloc (.cells (ansC r9.1 (.slice xb11 nb11 cb11) (.slice xl11 nl11 cl11)) 30)) from (Chg.refl [] w11).alloc _))
  rw [HR.out.b7] at hcv
  unfold ansC at M4 M6 M8 M9 M10
  obtain ⟨⟨a0, _, _, _, a4, _⟩, _⟩ := ans_cells M4
  obtain ⟨⟨b0, _⟩, _⟩ := ans_cells M6
  obtain ⟨⟨d0, _, _, d3, _⟩, _⟩ := ans_cells M8
  obtain ⟨⟨_, _, _, _, _, f5, _⟩, _⟩ := ans_cells M9
  obtain ⟨⟨g0, _⟩, _⟩ := ans_cells M10
  have z4 : w4.heap.size < w11.heap.size := blk_lt M4
  have z6 : w6.heap.size < w11.heap.size := blk_lt M6
  have z8 : w8.heap.size < w11.heap.size := blk_lt M8
  have z9 : w9.heap.size < w11.heap.size := blk_lt M9
  have z10 : w10.heap.size < w11.heap.size := blk_lt M10
  rw [HR.out.e2] at a0
  rw [HR.out.q2] at a4
  rw [HR.out.e4] at b0
  rw [HR.out.e6] at d0
  rw [HR.out.s6] at d3
  rw [HR.out.e8] at g0
  have E9 := HR.out.e9
  unfold ansC at CC hcv
  rw [E9] at CC hcv
  have hn := Lib.hid HR.out.n10
  clear M4 M6 M8 M9 M10 hb C10 HR hcs
  clear h3 h4 h5 h6 h7 h8 h9 h10 h11
  unfold NM.mk at hcv
  rw [E9]
  go_wp2_with fail
  refine CC.out.mono ?_
  rintro e w12 ⟨rfl, h12⟩
  rw [hn.out]
  have HE := Lib.hid h12.chg
  clear h12
  go_wp2
  go_ret
  exact ⟨rfl, HE.out⟩
end Go.Proofs.Ytaophafailmhjaa.W

/- PlainKnown: what the row asks. -/
namespace Go.Proofs.Ytaophafailmhjaa.plainKnown
open Go.RowKit
theorem walk (W : World) : Calls Try.prog 4 #[] W fun e w' => e = .returned (.bool true) ∧ Below W.heap.size W w' :=
  (Go.Proofs.Ytaophafailmhjaa.W.known26_any W).mono fun e w' ⟨h1, h2⟩ => ⟨h1, h2.below (by simp)⟩
end Go.Proofs.Ytaophafailmhjaa.plainKnown
