/- Texts laid together. -/
import Derived.Test.YtaophafailmhjaaBP7
import Derived.Test.YtaophafailmhjaaBP3
import Derived.Test.YtaophafailmhjaaBP2
import Derived.Test.YtaophafailmhjaaBP6
/- A deed: an operation, or a crash. -/
namespace Go.Proofs.Ytaophafailmhjaa.W
open Go.RowKit
open Go.Proofs.Ytaophafailmhjaa.NM
set_option linter.unusedVariables false
set_option linter.unusedSimpArgs false

def psDeed (s : PS) (d : Dd) : (Ans × Int) × PS := if d.o.d = 0 then ((no 0, (psCrash s d.c).1), (psCrash s d.c).2) else (((psDo s d.c d.o).1, 0), (psDo s d.c d.o).2)
theorem PInv.deed {s : PS} (h : PInv s) (hT : ∀ a o, TOk (psDo s a o).2.T) (d : Dd) : PInv (psDeed s d).2 := by
  unfold psDeed
  split
  · exact h.crash d.c
  · exact psDo_inv h d.c d.o (hT d.c d.o)
variable {w0 w w' : World} {c : PC} {s s' : PS} {L : List (Nat × Array Value)} {B : List (Value × List UInt8)}
theorem BytesAt.keepB {w w' : World} {U : List Nat} {v : Value} {l : List UInt8} (h : BytesAt w v l) (hc : Chg U w w') (hU : ∀ x ∈ U, NoBytes w x) : BytesAt w' v l := by
  refine h.keepL fun hl g hg => ?_
  obtain ⟨a, cap, rfl, h1, h2, h3⟩ := h
  rcases h3 with ⟨rfl, _⟩ | ⟨g', o, rfl, hcell⟩
  · exact absurd rfl hl
  · obtain rfl : g' = g := by simpa [Value.ownBlock] using hg
    have hc0 := hcell 0 (List.length_pos_iff.2 hl)
    exact hc.block g' (by simpa using World.block_lt_of_cell? w _ hc0) (fun hm => hU g' hm _ _ hc0)
theorem Lives.ans2 (h : Lives w0 w c s L B) (O : Obj) : Lives w0 ((w.alloc O).alloc (.cells zeroA 30)) c s ((w.heap.size + 1, zeroA) :: L) B := by
  have := (h.keep0 ((Chg.refl [] w).alloc O)).ans zeroA
  rwa [show (w.alloc O).heap.size = w.heap.size + 1 from Array.size_push ..] at this
/-- A block for an answer is laid. -/
theorem Lives.laid {g : Nat} (h : Lives w0 w c s ((g, zeroA) :: L) B) (hg : w0.heap.size ≤ g) (hL : ∀ p ∈ L, p.1 ≠ g) (u0 u1 u2 u3 u4 u5 u6 : Value) : Lives w0 (set7 w g u0 u1 u2 u3 u4 u5 u6) c s L B := by
  have hz : w.heap[g]? = some (.cells zeroA 30 (0, 0)) := h.mem _ (List.mem_cons_self ..)
  have hc := set7_chg w g u0 u1 u2 u3 u4 u5 u6
  have hn : ∀ x ∈ [g], NoBytes w x := fun x hx => by simp at hx; subst hx; exact zeroA_noBytes hz
  refine ⟨⟨(h.own.at_.keepB hc (fun x hx => ⟨by simp at hx; subst hx; simp, by simp at hx; subst hx; exact hg, hn x hx⟩)).mono (fun x hx => List.mem_cons_of_mem _ hx), h.own.inv⟩, fun p hp => hc.keep (h.mem p (List.mem_cons_of_mem _ hp)) (by simpa using hL p hp), fun q hq => (h.byt q hq).keepB hc hn⟩
theorem Lives.nilB (h : Lives w0 w c s L B) : Lives w0 w c s L ((.slice none 0 0, []) :: B) :=
  ⟨h.own.mono (fun g hg => by simpa [Value.ownBlock] using hg), h.mem, fun q hq => by
    rcases List.mem_cons.1 hq with rfl | hq
    · exact BytesAt.nil w
    · exact h.byt q hq⟩
def LDeedPost (w0 : World) (c : PC) (L : List (Nat × Array Value)) (B : List (Value × List UInt8)) (r : (Ans × Int) × PS) (e : Ending) (w' : World) : Prop :=
  ∃ xb nb cb xl nl cl, e = .returned (.tuple #[.agg #[.int .i64 r.1.1.e, .int .i64 r.1.1.ino, .bool r.1.1.dir, .int .i64 (r.1.1.size : Int), .int .i64 r.1.1.h, .slice xb nb cb, .slice xl nl cl], .int .i64 r.1.2]) ∧ Lives w0 w' c r.2 L ((.slice xb nb cb, r.1.1.b) :: B)
set_option maxHeartbeats 2000000 in
set_option maxRecDepth 100000 in
theorem ldeed_any (h : Lives w0 w c s L B) (d : Dd) (hv : BytesAt w d.v d.o.b) (hp : d.o.p.length ≤ 1000000) (hq : d.o.q.length ≤ 1000000) (r : (Ans × Int) × PS) (hr : psDeed s d = r) :
    Calls Try.prog 16 #[.pointer (some ⟨c.p, 0, none⟩), .agg #[.int .i64 d.c, .int .i64 d.o.d, .string (mk d.o.p), .string (mk d.o.q), .int .i64 d.o.h, .int .i64 d.o.i, .int .i64 d.o.n, .bool d.o.w, d.v]] w (LDeedPost w0 c L B r) := by
  obtain ⟨dc, ⟨od, op, oq, oh, oi, on, ow, ob⟩, v⟩ := d
  dsimp only at hv hp hq ⊢
  obtain ⟨av, cv, rfl⟩ := hv.slice
  by_cases hd : od = 0
  · subst hd
    have hr' : ((no 0, (psCrash s dc).1), (psCrash s dc).2) = r := hr
    clear hr
    obtain ⟨q, hqr⟩ : ∃ q, psCrash s dc = q := ⟨_, rfl⟩
    rw [hqr] at hr'
    subst hr'
    have hL : ∀ p ∈ L, p.1 ≠ w.heap.size + 1 := fun p hp e => by have := blk_lt (h.mem p hp); omega
    have hw0 : w0.heap.size ≤ w.heap.size + 1 := by have := h.chg.size; omega
    have CC := Lib.hid (lcrash_any (h.ans2 (.cells #[.int .i64 dc, .int .i64 0, .string (mk op), .string (mk oq), .int .i64 oh, .int .i64 oi, .int .i64 on, .bool ow, .slice av ob.length cv] 43 (0, 0))) dc q hqr)
    have HL := Lib.hid (And.intro hL hw0)
    clear h hqr hv hp hq hL hw0
    go_enter Try.func16, Try.ntmps16
    go_wp2_with fail
    refine CC.out.mono ?_
    rintro e w1 ⟨rfl, h1⟩
    have H1 := Lib.hid h1
    have hz := h1.mem (w.heap.size + 1, zeroA) (List.mem_cons_self ..)
    have HZ := Lib.hid hz
    unfold zeroA at hz
    obtain ⟨⟨b0, b1, b2, b3, b4, b5, b6⟩, f0, f1, f2, f3, f4, f5, f6⟩ := ans_cells hz
    have hlt := blk_lt hz
    clear h1 hz CC
    go_wp2
    have HF := H1.out.laid HL.out.2 HL.out.1 (.int .i64 0) (.int .i64 0) (.bool false) (.int .i64 0) (.int .i64 0) (.slice none 0 0) (.slice none 0 0)
    obtain ⟨⟨d0, d1, d2, d3, d4, d5, d6⟩, _⟩ := ans_cells (set7_heap HZ.out (u0 := .int .i64 0) (u1 := .int .i64 0) (u2 := .bool false) (u3 := .int .i64 0) (u4 := .int .i64 0) (u5 := .slice none 0 0) (u6 := .slice none 0 0))
    have HFF := Lib.hid HF
    clear HF
    unfold set7 at d0 d1 d2 d3 d4 d5 d6
    refine bodyPost_ret (v := .tuple #[.agg #[.int .i64 0, .int .i64 0, .bool false, .int .i64 0, .int .i64 0, .slice none 0 0, .slice none 0 0], .int .i64 q.1]) (by simp [results, Try.results16, go_sem, d0, d1, d2, d3, d4, d5, d6]) rfl ?_
    refine ⟨none, 0, 0, none, 0, 0, rfl, ?_⟩
    exact HFF.out.nilB
  · have hr' : (((psDo s dc ⟨od, op, oq, oh, oi, on, ow, ob⟩).1, 0), (psDo s dc ⟨od, op, oq, oh, oi, on, ow, ob⟩).2) = r := by rw [← hr]; unfold psDeed; rw [if_neg hd]
    clear hr
    obtain ⟨q, hqr⟩ : ∃ q, psDo s dc ⟨od, op, oq, oh, oi, on, ow, ob⟩ = q := ⟨_, rfl⟩
    rw [hqr] at hr'
    subst hr'
    have hL : ∀ p ∈ L, p.1 ≠ w.heap.size + 1 := fun p hp e => by have := blk_lt (h.mem p hp); omega
    have hw0 : w0.heap.size ≤ w.heap.size + 1 := by have := h.chg.size; omega
    have CC := Lib.hid (ldo_any (h.ans2 (.cells #[.int .i64 dc, .int .i64 od, .string (mk op), .string (mk oq), .int .i64 oh, .int .i64 oi, .int .i64 on, .bool ow, .slice av ob.length cv] 43 (0, 0))) dc ⟨od, op, oq, oh, oi, on, ow, ob⟩ _ (hv.chg0 (((Chg.refl [] w).alloc _).alloc _)) hp hq q hqr)
    have HL := Lib.hid (And.intro hL hw0)
    clear h hqr hv hp hq hL hw0
    go_enter Try.func16, Try.ntmps16
    go_wp2_with fail
    refine CC.out.mono ?_
    rintro e w1 ⟨xb, nb, cb, xl, nl, cl, rfl, _, h1⟩
    have H1 := Lib.hid h1
    have hz := h1.mem (w.heap.size + 1, zeroA) (List.mem_cons_self ..)
    have HZ := Lib.hid hz
    unfold zeroA at hz
    obtain ⟨⟨b0, b1, b2, b3, b4, b5, b6⟩, f0, f1, f2, f3, f4, f5, f6⟩ := ans_cells hz
    have hlt := blk_lt hz
    clear h1 hz CC
    go_wp2
    have HF := H1.out.laid HL.out.2 HL.out.1 (.int .i64 q.1.e) (.int .i64 q.1.ino) (.bool q.1.dir) (.int .i64 (q.1.size : Int)) (.int .i64 q.1.h) (.slice xb nb cb) (.slice xl nl cl)
    obtain ⟨⟨d0, d1, d2, d3, d4, d5, d6⟩, _⟩ := ans_cells (set7_heap HZ.out (u0 := .int .i64 q.1.e) (u1 := .int .i64 q.1.ino) (u2 := .bool q.1.dir) (u3 := .int .i64 (q.1.size : Int)) (u4 := .int .i64 q.1.h) (u5 := .slice xb nb cb) (u6 := .slice xl nl cl))
    have HFF := Lib.hid HF
    clear HF
    unfold set7 at d0 d1 d2 d3 d4 d5 d6
    refine bodyPost_ret (v := .tuple #[.agg #[.int .i64 q.1.e, .int .i64 q.1.ino, .bool q.1.dir, .int .i64 (q.1.size : Int), .int .i64 q.1.h, .slice xb nb cb, .slice xl nl cl], .int .i64 0]) (by simp [results, Try.results16, go_sem, d0, d1, d2, d3, d4, d5, d6]) rfl ?_
    exact ⟨xb, nb, cb, xl, nl, cl, rfl, HFF.out⟩
end Go.Proofs.Ytaophafailmhjaa.W

/- PlainKnown: the walk. -/
namespace Go.Proofs.Ytaophafailmhjaa.W
open Go.RowKit
open Go.Proofs.Ytaophafailmhjaa.NM
set_option linter.unusedVariables false
set_option linter.unusedSimpArgs false

theorem oneB (w : World) (x : UInt8) (fz : Nat × Nat) : BytesAt (w.alloc (.cells #[.int .u8 (x.toNat : Int)] 5 fz)) (.slice (some ⟨w.heap.size, 0, none⟩) 1 1) [x] := by
  refine ⟨_, 1, rfl, Nat.le_refl _, by unfold maxLen; omega, .inr ⟨_, 0, rfl, fun i hi => ?_⟩⟩
  have hb := heap_alloc_new w (.cells #[.int .u8 (x.toNat : Int)] 5 fz)
  unfold World.cell?
  simp only [hb]
  match i, hi with
  | 0, _ => rfl
/-- An answer's cells. -/
abbrev ansC (a : Ans) (b l : Value) : Array Value := #[.int .i64 a.e, .int .i64 a.ino, .bool a.dir, .int .i64 (a.size : Int), .int .i64 a.h, b, l]
def oOpenR : Op := ⟨8, [47, 102], [], 0, 0, 0, false, []⟩
def oClose : Op := ⟨13, [], [], 0, 0, 0, false, []⟩
def oWriteX : Op := ⟨10, [], [], 0, 0, 0, false, [120]⟩
def oUnlink : Op := ⟨3, [47, 102], [], 0, 0, 0, false, []⟩
def kn4 : Ans × PS := psDo aw3.2 1 oOpenR
def kn5 : Ans × PS := psDo kn4.2 0 oClose
def kn6 : Ans × PS := psDo kn5.2 1 oOpenR
def kn7 : Ans × PS := psDo kn6.2 1 oRead9
def kn8 : Ans × PS := psDo kn7.2 1 oWriteX
def kn9 : Ans × PS := psDo kn8.2 1 oUnlink
def kn10 : Int × PS := psCrash kn9.2 1
theorem kn2_e : aw2.1.e = 0 := by kernel_rfl
theorem kn2_h : aw2.1.h = 0 := by kernel_rfl
theorem kn4_e : kn4.1.e = 8 := by kernel_rfl
theorem kn6_e : kn6.1.e = 0 := by kernel_rfl
theorem kn6_s : (kn6.1.size : Int) = 2 := by kernel_rfl
theorem kn7_b : kn7.1.b = [97, 98] := by kernel_rfl
theorem kn8_e : kn8.1.e = 13 := by kernel_rfl
theorem kn9_e : kn9.1.e = 8 := by kernel_rfl
theorem kn10_n : kn10.1 = 1 := by kernel_rfl
theorem size2 (w : World) (O : Obj) : (w.alloc O).heap.size = w.heap.size + 1 := Array.size_push ..
theorem twoB2 (w : World) (O : Obj) (x y : UInt8) (fz : Nat × Nat) : BytesAt ((w.alloc O).alloc (.cells #[.int .u8 (x.toNat : Int), .int .u8 (y.toNat : Int)] 5 fz)) (.slice (some ⟨w.heap.size + 1, 0, none⟩) 2 2) [x, y] := by
  have := two_bytes (w.alloc O) x y fz
  rw [size2] at this
  exact this
theorem oneB2 (w : World) (O : Obj) (x : UInt8) (fz : Nat × Nat) : BytesAt ((w.alloc O).alloc (.cells #[.int .u8 (x.toNat : Int)] 5 fz)) (.slice (some ⟨w.heap.size + 1, 0, none⟩) 1 1) [x] := by
  have := oneB (w.alloc O) x fz
  rw [size2] at this
  exact this
/-- The run: each answer, without a look at how it came. -/
structure KnownRun (r1 r2 r3 r4 r5 r6 r7 r8 r9 : Ans × PS) (r10 : Int × PS) : Prop where
  h1 : psDo PS.new 0 oCreate = r1
  h2 : psDo r1.2 0 oOpenW = r2
  h3 : psDo r2.2 0 oWriteAb = r3
  h4 : psDo r3.2 1 oOpenR = r4
  h5 : psDo r4.2 0 oClose = r5
  h6 : psDo r5.2 1 oOpenR = r6
  h7 : psDo r6.2 1 oRead9 = r7
  h8 : psDo r7.2 1 oWriteX = r8
  h9 : psDo r8.2 1 oUnlink = r9
  h10 : psCrash r9.2 1 = r10
  e2 : r2.1.e = 0
  q2 : r2.1.h = 0
  e4 : r4.1.e = 8
  e6 : r6.1.e = 0
  s6 : (r6.1.size : Int) = 2
  b7 : r7.1.b = [97, 98]
  e8 : r8.1.e = 13
  e9 : r9.1.e = 8
  n10 : r10.1 = 1
theorem known_run : ∃ r1 r2 r3 r4 r5 r6 r7 r8 r9 r10, KnownRun r1 r2 r3 r4 r5 r6 r7 r8 r9 r10 :=
  ⟨aw1, aw2, aw3, kn4, kn5, kn6, kn7, kn8, kn9, kn10, rfl, rfl, rfl, rfl, rfl, rfl, rfl, rfl, rfl, rfl, kn2_e, kn2_h, kn4_e, kn6_e, kn6_s, kn7_b, kn8_e, kn9_e, kn10_n⟩
theorem conv_same2 (w : World) (O : Obj) (C : Array Value) (n k : Nat) : (convert 22 22 (.slice (some ⟨w.heap.size + 1, 0, none⟩) n k)).run Try.prog ((w.alloc O).alloc (.cells C 5)) = .ok (.slice (some ⟨w.heap.size + 1, 0, none⟩) n k) ((w.alloc O).alloc (.cells C 5 (C.size, C.size + 1))) := by
  have := conv_same (w.alloc O) C n k
  rw [show (w.alloc O).heap.size = w.heap.size + 1 from Array.size_push ..] at this
  exact this
set_option maxHeartbeats 1000000 in
set_option maxRecDepth 100000 in
theorem known26_any (w : World) : Calls Try.prog 4 #[] w fun e w' => e = .returned (.bool true) ∧ Chg [] w w' := by
  have CA := Lib.hid (awake26_any w)
  obtain ⟨r1, r2, r3, r4, r5, r6, r7, r8, r9, r10, HR⟩ := known_run
  have HR := Lib.hid HR
  have hcs := conv_same2
  go_enter Try.func4, Try.ntmps4
  go_wp2_with fail
  refine CA.out.mono ?_
  rintro e w1 ⟨rfl, hc1⟩
  have CN := Lib.hid (lnew_any hc1)
  clear hc1 CA
  go_wp2_with fail
  refine CN.out.mono ?_
  rintro e w2 ⟨c, rfl, h2⟩
  have C2 := Lib.hid (ldo_any h2 0 oCreate (.slice none 0 0) (BytesAt.nil _) (by decide) (by decide) r1 HR.out.h1)
  clear h2 CN
  go_wp2_with fail
  refine C2.out.mono ?_
  rintro e w3 ⟨xb, nb, cb, xl, nl, cl, rfl, _, h3⟩
  have h3 := h3.less (L' := []) (B' := []) (by simp) (by simp)
  have C3 := Lib.hid (ldo_any h3 0 oOpenW (.slice none 0 0) (BytesAt.nil _) (by decide) (by decide) r2 HR.out.h2)
  clear h3 C2
  go_wp2_with fail
  refine C3.out.mono ?_
  rintro e w4 ⟨xb4, nb4, cb4, xl4, nl4, cl4, rfl, _, h4⟩
  have h4 := (h4.ans (ansC r2.1 (.slice xb4 nb4 cb4) (.slice xl4 nl4 cl4))).less (L' := [(w4.heap.size, ansC r2.1 (.slice xb4 nb4 cb4) (.slice xl4 nl4 cl4))]) (B' := []) (by simp) (by simp)
  have C4 := Lib.hid (ldo_any (h4.keep0 ((Chg.refl [] _).alloc _)) 0 oWriteAb _ (twoB2 _ _ 97 98 (2, 3)) (by decide) (by decide) r3 HR.out.h3)
  clear h4 C3
  go_wp2_with fail
  refine C4.out.mono ?_
  rintro e w5 ⟨xb, nb, cb, xl, nl, cl, rfl, _, h5⟩
  have h5 := h5.less (B' := []) (fun p hp => hp) (by simp)
  have C5 := Lib.hid (ldo_any h5 1 oOpenR (.slice none 0 0) (BytesAt.nil _) (by decide) (by decide) r4 HR.out.h4)
  clear h5 C4
  go_wp2_with fail
  refine C5.out.mono ?_
  rintro e w6 ⟨xb6, nb6, cb6, xl6, nl6, cl6, rfl, _, h6⟩
  have h6 := (h6.ans (ansC r4.1 (.slice xb6 nb6 cb6) (.slice xl6 nl6 cl6))).less (B' := []) (fun p hp => hp) (by simp)
  have C6 := Lib.hid (ldo_any h6 0 oClose (.slice none 0 0) (BytesAt.nil _) (by decide) (by decide) r5 HR.out.h5)
  clear h6 C5
  go_wp2_with fail
  refine C6.out.mono ?_
  rintro e w7 ⟨xb, nb, cb, xl, nl, cl, rfl, _, h7⟩
  have h7 := h7.less (B' := []) (fun p hp => hp) (by simp)
  have C7 := Lib.hid (ldo_any h7 1 oOpenR (.slice none 0 0) (BytesAt.nil _) (by decide) (by decide) r6 HR.out.h6)
  clear h7 C6
  go_wp2_with fail
  refine C7.out.mono ?_
  rintro e w8 ⟨xb8, nb8, cb8, xl8, nl8, cl8, rfl, _, h8⟩
  have h8 := (h8.ans (ansC r6.1 (.slice xb8 nb8 cb8) (.slice xl8 nl8 cl8))).less (B' := []) (fun p hp => hp) (by simp)
  have C8 := Lib.hid (ldo_any h8 1 oRead9 (.slice none 0 0) (BytesAt.nil _) (by decide) (by decide) r7 HR.out.h7)
  clear h8 C7
  go_wp2_with fail
  refine C8.out.mono ?_
  rintro e w9 ⟨xb9, nb9, cb9, xl9, nl9, cl9, rfl, _, h9⟩
  have h9 := (h9.ans (ansC r7.1 (.slice xb9 nb9 cb9) (.slice xl9 nl9 cl9)))
  have C9 := Lib.hid (ldo_any (h9.keep0 ((Chg.refl [] _).alloc _)) 1 oWriteX _ (oneB2 _ _ 120 (1, 2)) (by decide) (by decide) r8 HR.out.h8)
  clear h9 C8
  go_wp2_with fail
  refine C9.out.mono ?_
  rintro e w10 ⟨xb10, nb10, cb10, xl10, nl10, cl10, rfl, _, h10⟩
  have h10 := (h10.ans (ansC r8.1 (.slice xb10 nb10 cb10) (.slice xl10 nl10 cl10))).less (fun p hp => hp) (B' := [(.slice xb9 nb9 cb9, r7.1.b)]) (by simp)
  have C10 := Lib.hid (ldo_any h10 1 oUnlink (.slice none 0 0) (BytesAt.nil _) (by decide) (by decide) r9 HR.out.h9)
  clear h10 C9
  go_wp2_with fail
  refine C10.out.mono ?_
  rintro e w11 ⟨xb11, nb11, cb11, xl11, nl11, cl11, rfl, _, h11⟩
  have M6 := h11.mem (w6.heap.size, _) (.tail _ (.tail _ (.tail _ (.head _))))
  have M8 := h11.mem (w8.heap.size, _) (.tail _ (.tail _ (.head _)))
  have M9 := h11.mem (w9.heap.size, _) (.tail _ (.head _))
  have M10 := h11.mem (w10.heap.size, _) (.head _)
  have M4 := h11.mem (w4.heap.size, _) (.tail _ (.tail _ (.tail _ (.tail _ (.head _)))))
  have hb := h11.byt (.slice xb9 nb9 cb9, r7.1.b) (by simp)
  dsimp only at M4 M6 M8 M9 M10 hb
  have h11 := (h11.ans (ansC r9.1 (.slice xb11 nb11 cb11) (.slice xl11 nl11 cl11))).less (L' := []) (B' := []) (by simp) (by simp)
  have CC := Lib.hid (lcrash_any h11 1 r10 HR.out.h10)
  have hcv := bytes_text _ _ _ (hb.chg0 (show Chg [] w11 (w11.alloc (.cells (ansC r9.1 (.slice xb11 nb11 cb11) (.slice xl11 nl11 cl11)) 30)) from (Chg.refl [] w11).alloc _))
  rw [HR.out.b7] at hcv
  unfold ansC at M4 M6 M8 M9 M10
  obtain ⟨⟨a0, _, _, _, a4, _⟩, _⟩ := ans_cells M4
  obtain ⟨⟨b0, _⟩, _⟩ := ans_cells M6
  obtain ⟨⟨d0, _, _, d3, _⟩, _⟩ := ans_cells M8
  obtain ⟨⟨_, _, _, _, _, f5, _⟩, _⟩ := ans_cells M9
  obtain ⟨⟨g0, _⟩, _⟩ := ans_cells M10
  have z4 : w4.heap.size < w11.heap.size := blk_lt M4
  have z6 : w6.heap.size < w11.heap.size := blk_lt M6
  have z8 : w8.heap.size < w11.heap.size := blk_lt M8
  have z9 : w9.heap.size < w11.heap.size := blk_lt M9
  have z10 : w10.heap.size < w11.heap.size := blk_lt M10
  rw [HR.out.e2] at a0
  rw [HR.out.q2] at a4
  rw [HR.out.e4] at b0
  rw [HR.out.e6] at d0
  rw [HR.out.s6] at d3
  rw [HR.out.e8] at g0
  have E9 := HR.out.e9
  unfold ansC at CC hcv
  rw [E9] at CC hcv
  have hn := Lib.hid HR.out.n10
  clear M4 M6 M8 M9 M10 hb C10 HR hcs
  clear h3 h4 h5 h6 h7 h8 h9 h10 h11
  unfold NM.mk at hcv
  rw [E9]
  go_wp2_with fail
  refine CC.out.mono ?_
  rintro e w12 ⟨rfl, h12⟩
  rw [hn.out]
  have HE := Lib.hid h12.chg
  clear h12
  go_wp2
  go_ret
  exact ⟨rfl, HE.out⟩
end Go.Proofs.Ytaophafailmhjaa.W

/- Paths in a tree, plainly: one thing has one path; each thing is below the root. -/
namespace Go.Proofs.Ytaophafailmhjaa.W
open Go.Proofs.Ytaophafailmhjaa.NM
set_option linter.unusedVariables false
set_option linter.unusedSimpArgs false

theorem walk_app (T : PT) : ∀ (l m : List (List UInt8)) (a : Nat), (tWalk T l a).2 = 0 → tWalk T (l ++ m) a = tWalk T m (tWalk T l a).1
  | [], m, a, _ => rfl
  | s :: l, m, a, h => by
    unfold tWalk at h
    rw [List.cons_append]
    conv => lhs; unfold tWalk
    conv => rhs; arg 3; unfold tWalk
    by_cases h1 : tIsDir T a = false
    · rw [if_pos h1] at h; cases h
    · rw [if_neg h1] at h ⊢
      rw [if_neg h1]
      by_cases h3 : tKid T a s = 0
      · rw [if_pos h3] at h; cases h
      · rw [if_neg h3] at h ⊢
        rw [if_neg h3]
        exact walk_app T l m _ h
theorem walk_stop (T : PT) : ∀ (l m : List (List UInt8)) (a : Nat), (tWalk T l a).2 ≠ 0 → tWalk T (l ++ m) a = tWalk T l a
  | [], m, a, h => absurd rfl h
  | s :: l, m, a, h => by
    unfold tWalk at h
    rw [List.cons_append]
    unfold tWalk
    by_cases h1 : tIsDir T a = false
    · rw [if_pos h1, if_pos h1]
    · rw [if_neg h1] at h ⊢
      rw [if_neg h1]
      by_cases h3 : tKid T a s = 0
      · rw [if_pos h3, if_pos h3]
      · rw [if_neg h3] at h ⊢
        rw [if_neg h3]
        exact walk_stop T l m _ h
theorem walk_one (T : PT) (s : List UInt8) (a : Nat) : tWalk T [s] a = if tIsDir T a = false then (0, 10) else if tKid T a s = 0 then (0, 6) else (tKid T a s, 0) := rfl
theorem walk_snoc {T : PT} {l : List (List UInt8)} {s : List UInt8} {a c : Nat} (h : tWalk T l a = (c, 0)) (hd : tIsDir T c = true) (hk : tKid T c s ≠ 0) : tWalk T (l ++ [s]) a = (tKid T c s, 0) := by
  rw [walk_app T l [s] a (by rw [h]), h, walk_one, if_neg (by rw [hd]; simp), if_neg hk]
theorem walk_snoc_inv {T : PT} {l : List (List UInt8)} {s : List UInt8} {a b : Nat} (h : tWalk T (l ++ [s]) a = (b, 0)) : ∃ c, tWalk T l a = (c, 0) ∧ tIsDir T c = true ∧ tKid T c s = b ∧ tKid T c s ≠ 0 := by
  by_cases h2 : (tWalk T l a).2 = 0
  · rw [walk_app T l [s] a h2, walk_one] at h
    by_cases h1 : tIsDir T (tWalk T l a).1 = false
    · rw [if_pos h1] at h; cases h
    · rw [if_neg h1] at h
      by_cases h3 : tKid T (tWalk T l a).1 s = 0
      · rw [if_pos h3] at h; cases h
      · rw [if_neg h3] at h
        exact ⟨_, Prod.ext rfl h2, by simpa using h1, (Prod.mk.inj h).1, h3⟩
  · rw [walk_stop T l [s] a h2] at h
    rw [h] at h2; exact absurd rfl h2
theorem kid_some {T : PT} {c : Nat} {s : List UInt8} (h : tKid T c s ≠ 0) : ∃ x, tKidOf T c s = some x ∧ x ∈ T ∧ x.dir = c ∧ x.name = s ∧ tKid T c s = x.ino := by
  unfold tKid at h
  cases hk : tKidOf T c s with
  | none => rw [hk] at h; exact absurd rfl h
  | some x =>
    obtain ⟨h1, h2, h3⟩ := kidOf_some hk
    exact ⟨x, rfl, h1, h2, h3, by unfold tKid; rw [hk]⟩
theorem kid_of_mem {T : PT} (h : TOk T) {x : Th} (hx : x ∈ T) : tKid T x.dir x.name = x.ino ∧ tKid T x.dir x.name ≠ 0 := by
  have := (h.nums x hx).1
  have e : tKid T x.dir x.name = x.ino := by unfold tKid; rw [kidOf_mem h hx]
  exact ⟨e, by rw [e]; omega⟩
theorem ino_inj {T : PT} (h : TOk T) {x y : Th} (hx : x ∈ T) (hy : y ∈ T) (e : x.ino = y.ino) : x = y := by
  have h1 := get_mem h hx
  rw [e, get_mem h hy] at h1
  exact (Option.some.inj h1).symm
/-- One thing has one path. -/
theorem walk_uniq {T : PT} (h : TOk T) : ∀ (n : Nat) (l m : List (List UInt8)) (b : Nat), l.length = n → tWalk T l 1 = (b, 0) → tWalk T m 1 = (b, 0) → l = m
  | 0, l, m, b, hn, h1, h2 => by
    obtain rfl := List.eq_nil_of_length_eq_zero hn
    obtain rfl : 1 = b := (Prod.mk.inj h1).1
    rcases List.eq_nil_or_concat m with rfl | ⟨m', s, rfl⟩
    · rfl
    · rw [List.concat_eq_append] at h2
      obtain ⟨c, _, _, e, hk⟩ := walk_snoc_inv h2
      obtain ⟨x, _, hx, _, _, e2⟩ := kid_some hk
      have := (h.nums x hx).1
      omega
  | n + 1, l, m, b, hn, h1, h2 => by
    rcases List.eq_nil_or_concat l with rfl | ⟨l', s, rfl⟩
    · simp at hn
    · rw [List.concat_eq_append] at h1 hn ⊢
      obtain ⟨c, g1, g2, g3, g4⟩ := walk_snoc_inv h1
      obtain ⟨x, _, hx, xd, xn, xe⟩ := kid_some g4
      rcases List.eq_nil_or_concat m with rfl | ⟨m', s', rfl⟩
      · obtain rfl : 1 = b := (Prod.mk.inj h2).1
        have := (h.nums x hx).1
        omega
      · rw [List.concat_eq_append] at h2 ⊢
        obtain ⟨c', k1, k2, k3, k4⟩ := walk_snoc_inv h2
        obtain ⟨y, _, hy, yd, yn, ye⟩ := kid_some k4
        obtain rfl := ino_inj h hx hy (by omega)
        obtain rfl : c = c' := by omega
        obtain rfl : s = s' := by rw [← xn, yn]
        rw [walk_uniq h n l' m' c (by simpa using hn) g1 k1]
theorem walk_inj {T : PT} (h : TOk T) {l m : List (List UInt8)} {b : Nat} (h1 : tWalk T l 1 = (b, 0)) (h2 : tWalk T m 1 = (b, 0)) : l = m := walk_uniq h _ l m b rfl h1 h2

/-! ### Below the root -/
inductive Reach (T : PT) : Nat → Prop
  | root : Reach T 1
  | step {x : Th} : x ∈ T → Reach T x.dir → Reach T x.ino
def TR (T : PT) : Prop := ∀ x ∈ T, Reach T x.ino
theorem TR.nil : TR [] := fun x hx => by cases hx
theorem Reach.mono {T U : PT} (h : ∀ x ∈ T, x ∈ U) {a : Nat} (hr : Reach T a) : Reach U a := by
  induction hr with
  | root => exact .root
  | step hx _ ih => exact .step (h _ hx) ih
theorem walk_reach {T : PT} : ∀ (l : List (List UInt8)) (a b : Nat), Reach T a → tWalk T l a = (b, 0) → Reach T b
  | [], a, b, ha, h => by obtain rfl : a = b := (Prod.mk.inj h).1; exact ha
  | s :: l, a, b, ha, h => by
    unfold tWalk at h
    by_cases h1 : tIsDir T a = false
    · rw [if_pos h1] at h; cases h
    · rw [if_neg h1] at h
      by_cases h3 : tKid T a s = 0
      · rw [if_pos h3] at h; cases h
      · rw [if_neg h3] at h
        obtain ⟨x, _, hx, xd, xn, xe⟩ := kid_some h3
        rw [xe] at h
        exact walk_reach l _ b (.step hx (by rw [xd]; exact ha)) h
theorem place_walk {T : PT} {p : List UInt8} (h : (tPlace T p).2.2 = 0) : ∃ l s, splitB p = some (l ++ [s]) ∧ tWalk T l 1 = ((tPlace T p).1, 0) ∧ (tPlace T p).2.1 = s ∧ tIsDir T (tPlace T p).1 = true := by
  unfold tPlace at h ⊢
  cases hs : splitB p with
  | none => rw [hs] at h; cases h
  | some l =>
    rw [hs] at h
    simp only at h ⊢
    by_cases h0 : l = []
    · rw [if_pos h0] at h; cases h
    · rw [if_neg h0] at h ⊢
      by_cases h1 : (tWalk T l.dropLast 1).2 ≠ 0
      · rw [if_pos h1] at h; exact absurd h h1
      · rw [if_neg h1] at h ⊢
        by_cases h2 : tIsDir T (tWalk T l.dropLast 1).1 = false
        · rw [if_pos h2] at h; cases h
        · rw [if_neg h2]
          have e : l.dropLast ++ [l.getLastD []] = l := by
            rw [List.getLastD_eq_getLast?, List.getLast?_eq_some_getLast h0]
            exact List.dropLast_concat_getLast h0
          exact ⟨l.dropLast, l.getLastD [], by rw [e], Prod.ext rfl (by simpa using h1), rfl, by simpa using h2⟩
theorem TR.make {T : PT} (hT : TOk T) (h : TR T) (p : List UInt8) (d : Bool) : TR (tMake T p d).2 := by
  unfold tMake
  split
  · exact h
  · split
    · exact h
    · rename_i h0
      split
      · exact h
      · split
        · exact h
        · obtain ⟨l, s, _, hw, _, _⟩ := place_walk (T := T) (p := p) (by simpa using h0)
          have hr := walk_reach l 1 _ .root hw
          intro x hx
          have hm : ∀ z ∈ T, z ∈ tIns ⟨tLeast 2 T, (tPlace T p).1, (tPlace T p).2.1, d⟩ T := fun z hz => (mem_ins T z).2 (.inr hz)
          rcases (mem_ins T x).1 hx with rfl | hx'
          · exact .step hx (hr.mono hm)
          · exact (h x hx').mono hm
theorem reach_del {T : PT} {n : Nat} (hno : ∀ x ∈ T, x.dir ≠ n) {a : Nat} (hr : Reach T a) (ha : a ≠ n) : Reach (T.filter (fun x => x.ino != n)) a := by
  induction hr with
  | root => exact .root
  | @step x hx _ ih => exact .step (List.mem_filter.2 ⟨hx, by simpa using ha⟩) (ih (hno x hx))
theorem TR.remove {T : PT} (h : TR T) (p : List UInt8) (d : Bool) : TR (tRemove T p d).2 := by
  unfold tRemove
  split
  · exact h
  · split
    · exact h
    · split
      · exact h
      · split
        · exact h
        · split
          · exact h
          · rename_i h5
            intro x hx
            obtain ⟨h1, h2⟩ := List.mem_filter.1 hx
            refine reach_del (fun y hy e => h5 ?_) (h x h1) (by simpa using h2)
            rw [List.any_eq_true]
            exact ⟨y, hy, by simpa using e⟩
/-- A walk that doesn't meet n goes as before when n is given another name. -/
theorem walk_ren {T : PT} (hT : TOk T) {n q : Nat} {s : List UInt8} (hok : TOk (tRename T n q s)) : ∀ (l : List (List UInt8)) (a b : Nat), tWalk T l a = (b, 0) → (∀ k, k ≤ l.length → k ≠ 0 → tWalk T (l.take k) a ≠ (n, 0)) → tWalk (tRename T n q s) l a = (b, 0)
  | [], a, b, h, _ => h
  | u :: l, a, b, h, hno => by
    have h' := h
    unfold tWalk at h ⊢
    rw [isDir_ren]
    by_cases h1 : tIsDir T a = false
    · rw [if_pos h1] at h; cases h
    · rw [if_neg h1] at h ⊢
      by_cases h3 : tKid T a u = 0
      · rw [if_pos h3] at h; cases h
      · rw [if_neg h3] at h
        obtain ⟨x, _, hx, xd, xn, xe⟩ := kid_some h3
        have h1w : tWalk T ((u :: l).take 1) a = (x.ino, 0) := by
          show tWalk T [u] a = _
          rw [walk_one, if_neg h1, if_neg h3, xe]
        have hne : x.ino ≠ n := fun e => hno 1 (by simp) (by omega) (by rw [h1w, e])
        have hx' : x ∈ tRename T n q s := mem_ren.2 ⟨x, hx, by rw [if_neg hne]⟩
        have hk : tKid (tRename T n q s) a u = x.ino := by
          have := (kid_of_mem hok hx').1
          rw [xd, xn] at this; exact this
        have := (hT.nums x hx).1
        rw [hk, if_neg (by omega)]
        rw [xe] at h
        refine walk_ren hT hok l _ b h (fun k hk hk0 he => hno (k + 1) (by simp; omega) (by omega) ?_)
        rw [List.take_succ_cons]
        unfold tWalk
        rw [if_neg h1, if_neg h3, xe, he]
theorem look_walk {T : PT} {p : List UInt8} (h : (tLook T p).2.2 = 0) : ∃ l, splitB p = some l ∧ tWalk T l 1 = ((tLook T p).1, 0) ∧ (tLook T p).2.1 = tIsDir T (tLook T p).1 := by
  unfold tLook at h ⊢
  cases hs : splitB p with
  | none => rw [hs] at h; cases h
  | some l =>
    rw [hs] at h
    simp only at h ⊢
    by_cases h1 : (tWalk T l 1).2 ≠ 0
    · rw [if_pos h1] at h; exact absurd h h1
    · rw [if_neg h1]
      exact ⟨l, rfl, Prod.ext rfl (by simpa using h1), rfl⟩
/-- What a move that goes looks like. -/
theorem move_goes {T : PT} {p q : List UInt8} (h : (tMove T p q).1 = 0) : ∃ l m s n d, splitB p = some l ∧ splitB q = some (m ++ [s]) ∧ tWalk T l 1 = (n, 0) ∧ n ≠ 1 ∧ tWalk T m 1 = (d, 0) ∧ tIsDir T d = true ∧ tKid T d s = 0 ∧
    l.isPrefixOf (m ++ [s]) = false ∧ (m ++ [s]).isPrefixOf l = false ∧ tMove T p q = (0, tRename T n d s) ∧ tLook T p = (n, tIsDir T n, 0) := by
  have h0 := h
  unfold tMove at h
  by_cases h1 : (tLook T p).2.2 ≠ 0
  · rw [if_pos h1] at h; exact absurd h h1
  · rw [if_neg h1] at h
    by_cases h2 : (tLook T p).1 = 1
    · rw [if_pos h2] at h; cases h
    · rw [if_neg h2] at h
      by_cases h3 : splitB q = none
      · rw [if_pos h3] at h; cases h
      · rw [if_neg h3] at h
        by_cases h4 : (withinB q p || withinB p q) = true
        · rw [if_pos h4] at h; cases h
        · rw [if_neg h4] at h
          by_cases h5 : (tPlace T q).2.2 ≠ 0
          · rw [if_pos h5] at h; exact absurd h h5
          · rw [if_neg h5] at h
            by_cases h6 : tKid T (tPlace T q).1 (tPlace T q).2.1 ≠ 0
            · rw [if_pos h6] at h; cases h
            · obtain ⟨l, e1, e2, e3⟩ := look_walk (T := T) (p := p) (by simpa using h1)
              obtain ⟨m, s, f1, f2, f3, f4⟩ := place_walk (T := T) (p := q) (by simpa using h5)
              have hw : withinB q p = false ∧ withinB p q = false := by simpa using h4
              unfold withinB at hw
              rw [e1, f1] at hw
              refine ⟨l, m, s, _, _, e1, f1, e2, h2, f2, f4, by rw [← f3]; simpa using h6, hw.1, hw.2, ?_, ?_⟩
              · unfold tMove
                rw [if_neg h1, if_neg h2, if_neg h3, if_neg h4, if_neg h5, if_neg h6, f3]
              · exact Prod.ext rfl (Prod.ext e3 (by simpa using h1))
theorem move_stays {T : PT} {p q : List UInt8} (h : (tMove T p q).1 ≠ 0) : (tMove T p q).2 = T := by
  unfold tMove at h ⊢
  split
  · rfl
  · split
    · rfl
    · split
      · rfl
      · split
        · rfl
        · split
          · rfl
          · split
            · rfl
            · rename_i h1 h2 h3 h4 h5 h6
              rw [if_neg h1, if_neg h2, if_neg h3, if_neg h4, if_neg h5, if_neg h6] at h
              exact absurd rfl h
/-- Where no way leads through what is moved. -/
theorem free_walk {T : PT} (hT : TOk T) {l m : List (List UInt8)} {s : List UInt8} {n : Nat} (hl : tWalk T l 1 = (n, 0)) (hp : l.isPrefixOf (m ++ [s]) = false) : ∀ k, k ≤ m.length → k ≠ 0 → tWalk T (m.take k) 1 ≠ (n, 0) := by
  intro k hk _ he
  have e := walk_inj hT hl he
  have : l.isPrefixOf (m ++ [s]) = true := by
    rw [List.isPrefixOf_iff_prefix, e]
    exact (List.take_prefix k m).trans (List.prefix_append m [s])
  rw [hp] at this; cases this
theorem ren_tok {T : PT} (hT : TOk T) {n d : Nat} {s : List UInt8} {q : List UInt8} {m : List (List UInt8)} (hq : splitB q = some (m ++ [s])) (hd : tIsDir T d = true) (hk : tKid T d s = 0) : TOk (tRename T n d s) :=
  hT.ren hd ((kid_zero hT).1 hk) ((split_some hq).1 s (by simp))
theorem reach_ren {T : PT} (hT : TOk T) (h : TR T) {n d : Nat} {s : List UInt8} {m : List (List UInt8)} (hok : TOk (tRename T n d s)) (hm : tWalk T m 1 = (d, 0)) (hf : ∀ k, k ≤ m.length → k ≠ 0 → tWalk T (m.take k) 1 ≠ (n, 0)) : TR (tRename T n d s) := by
  have hd : Reach (tRename T n d s) d := walk_reach m 1 d .root (walk_ren hT hok m 1 d hm hf)
  have key : ∀ a, Reach T a → Reach (tRename T n d s) a := by
    intro a ha
    induction ha with
    | root => exact .root
    | @step x hx _ ih =>
      by_cases e : x.ino = n
      · have : ({ x with dir := d, name := s } : Th) ∈ tRename T n d s := mem_ren.2 ⟨x, hx, by rw [if_pos e]⟩
        exact Reach.step (x := { x with dir := d, name := s }) this hd
      · exact Reach.step (mem_ren.2 ⟨x, hx, by rw [if_neg e]⟩) ih
  intro y hy
  obtain ⟨x, hx, rfl⟩ := mem_ren.1 hy
  rw [(ren_ino x n d s).1]
  exact key _ (h x hx)
theorem TR.move {T : PT} (hT : TOk T) (h : TR T) (p q : List UInt8) : TR (tMove T p q).2 := by
  by_cases h0 : (tMove T p q).1 = 0
  · obtain ⟨l, m, s, n, d, e1, e2, e3, e4, e5, e6, e7, e8, e9, e10, e11⟩ := move_goes h0
    rw [e10]
    exact reach_ren hT h (ren_tok hT e2 e6 e7) e5 (free_walk hT e3 e8)
  · rw [move_stays h0]; exact h
end Go.Proofs.Ytaophafailmhjaa.W

/- Each directory once: plain. -/
namespace Go.Proofs.Ytaophafailmhjaa.W
open Go.Proofs.Ytaophafailmhjaa.NM
set_option linter.unusedVariables false
set_option linter.unusedSimpArgs false

def inoW (T : PT) (l : List (List UInt8)) : Nat := (tWalk T l 1).1
def cntP (T : PT) (P : List Nat) : Nat := T.countP (fun x => decide (x.dir ∈ P))
structure BFS (T : PT) (P : List Nat) (Q : List (List (List UInt8))) : Prop where
  ways : ∀ l ∈ Q, (∀ p ∈ l, mayB p = true) ∧ l.length ≤ 8 ∧ tWalk T l 1 = (inoW T l, 0) ∧ tIsDir T (inoW T l) = true
  nodup : (P ++ Q.map (inoW T)).Nodup
  root : 1 ∈ P ++ Q.map (inoW T)
  kids : ∀ x ∈ T, x.dir ∈ P → x.isDir = true → x.ino ∈ P ++ Q.map (inoW T)
  src : ∀ b ∈ P ++ Q.map (inoW T), b = 1 ∨ ∃ x ∈ T, x.ino = b ∧ x.dir ∈ P
theorem BFS.start (T : PT) : BFS T [] [[]] where
  ways l hl := by
    obtain rfl := List.mem_singleton.1 hl
    exact ⟨by simp, by simp, rfl, rfl⟩
  nodup := by simp
  root := by simp [inoW, tWalk]
  kids x _ h := by cases h
  src b hb := by
    left
    simpa [inoW, tWalk] using hb
theorem cnt_nil (T : PT) : cntP T [] = 0 := by
  unfold cntP
  rw [List.countP_eq_zero]
  intro x _; simp
theorem cnt_le (T : PT) (P : List Nat) : cntP T P ≤ T.length := List.countP_le_length
theorem mem_names {T : PT} {a : Nat} {s : List UInt8} : s ∈ namesOf T a ↔ ∃ x ∈ T, x.dir = a ∧ x.name = s := by
  unfold namesOf
  rw [List.mem_mergeSort, List.mem_map]
  constructor
  · rintro ⟨x, hx, rfl⟩
    obtain ⟨h1, h2⟩ := List.mem_filter.1 hx
    exact ⟨x, h1, by simpa using h2, rfl⟩
  · rintro ⟨x, hx, h2, rfl⟩
    exact ⟨x, List.mem_filter.2 ⟨hx, by simpa using h2⟩, rfl⟩
theorem names_len (T : PT) (a : Nat) : (namesOf T a).length = T.countP (fun x => x.dir == a) := by
  unfold namesOf
  rw [List.length_mergeSort, List.length_map, List.countP_eq_length_filter]
theorem cnt_snoc {T : PT} {P : List Nat} {a : Nat} (ha : a ∉ P) : cntP T (P ++ [a]) = cntP T P + (namesOf T a).length := by
  rw [names_len]
  unfold cntP
  induction T with
  | nil => rfl
  | cons x r ih =>
    rw [List.countP_cons, List.countP_cons, List.countP_cons, ih]
    by_cases h1 : x.dir ∈ P
    · have h2 : x.dir ≠ a := fun e => ha (by rw [← e]; exact h1)
      simp [h1, h2]; omega
    · by_cases h2 : x.dir = a
      · subst h2; simp [h1]; omega
      · simp [h1, h2]
theorem names_nodup' {T : PT} (h : TOk T) (a : Nat) : (namesOf T a).Nodup := by
  unfold namesOf
  exact (List.mergeSort_perm _ _).nodup_iff.2 (names_nodup h a)
theorem names_sorted (T : PT) (a : Nat) : (namesOf T a).Pairwise (fun x y => x ≤ y) :=
  (List.pairwise_mergeSort (le := fun x y : List UInt8 => decide (x ≤ y)) leB_trans leB_total _).imp fun {a b} hab => by simpa using hab
theorem names_strict {T : PT} (h : TOk T) {a i : Nat} {s u : List UInt8} (hi : (namesOf T a)[i]? = some s) (hj : (namesOf T a)[i + 1]? = some u) : s < u := by
  obtain ⟨h1, h2⟩ := List.getElem?_eq_some_iff.1 hi
  obtain ⟨h3, h4⟩ := List.getElem?_eq_some_iff.1 hj
  have hle := List.pairwise_iff_getElem.1 (names_sorted T a) i (i + 1) h1 h3 (by omega)
  have hne := List.pairwise_iff_getElem.1 (names_nodup' h a) i (i + 1) h1 h3 (by omega)
  rw [h2, h4] at hle hne
  rcases List.le_iff_lt_or_eq.1 hle with h | h
  · exact h
  · exact absurd h hne
/-- A directory's kid, by its name. -/
theorem kid_facts {T : PT} (h : TOk T) {a : Nat} {s : List UInt8} (hs : s ∈ namesOf T a) : ∃ x ∈ T, x.dir = a ∧ x.name = s ∧ tKid T a s = x.ino ∧ tKid T a s ≠ 0 ∧ tIsDir T (tKid T a s) = x.isDir ∧ mayB s = true := by
  obtain ⟨x, hx, rfl, rfl⟩ := mem_names.1 hs
  obtain ⟨e1, e2⟩ := kid_of_mem h hx
  refine ⟨x, hx, rfl, rfl, e1, e2, ?_, h.may x hx⟩
  have := (h.nums x hx).1
  have e : (x.ino == 1) = false := by simp; omega
  rw [e1]
  unfold tIsDir
  rw [get_mem h hx, e]; rfl
/-- What the directories among some names are called. -/
def downs (T : PT) (l : List (List UInt8)) (a : Nat) (ss : List (List UInt8)) : List (List (List UInt8)) := (ss.filter (fun s => tIsDir T (tKid T a s))).map (fun s => l ++ [s])
theorem downs_snoc (T : PT) (l : List (List UInt8)) (a : Nat) (ss : List (List UInt8)) (s : List UInt8) : downs T l a (ss ++ [s]) = downs T l a ss ++ if tIsDir T (tKid T a s) then [l ++ [s]] else [] := by
  unfold downs
  rw [List.filter_append, List.map_append]
  congr 1
  cases h : tIsDir T (tKid T a s) <;> simp [List.filter_cons, h]
theorem downs_ino {T : PT} (h : TOk T) {l : List (List UInt8)} {a : Nat} (hl : tWalk T l 1 = (a, 0)) (hd : tIsDir T a = true) {s : List UInt8} (hs : s ∈ namesOf T a) : tWalk T (l ++ [s]) 1 = (tKid T a s, 0) := by
  obtain ⟨x, _, _, _, _, e2, _⟩ := kid_facts h hs
  exact walk_snoc hl hd e2
theorem BFS.step {T : PT} (hT : TOk T) {P : List Nat} {l : List (List UInt8)} {Q : List (List (List UInt8))} (h : BFS T P (l :: Q)) (h7 : l.length ≤ 7 ∨ namesOf T (inoW T l) = []) :
    BFS T (P ++ [inoW T l]) (Q ++ downs T l (inoW T l) (namesOf T (inoW T l))) := by
  obtain ⟨w1, w2, w3, w4⟩ := h.ways l (List.mem_cons_self ..)
  generalize inoW T l = a at *
  have hmap : (downs T l a (namesOf T a)).map (inoW T) = ((namesOf T a).filter (fun s => tIsDir T (tKid T a s))).map (tKid T a) := by
    unfold downs
    rw [List.map_map]
    refine List.map_congr_left fun s hs => ?_
    show inoW T (l ++ [s]) = _
    unfold inoW
    rw [downs_ino hT w3 w4 (List.mem_filter.1 hs).1]
  have hnd := h.nodup
  have hsrc := h.src
  have hroot := h.root
  have hkids := h.kids
  have hla : inoW T l = a := by unfold inoW; rw [w3]
  rw [List.map_cons, hla] at hnd hsrc hroot hkids
  have haP : a ∉ P := fun hm => by
    have := List.nodup_append.1 hnd
    exact this.2.2 a hm a (List.mem_cons_self ..) rfl
  have hmem : ∀ b, b ∈ (P ++ [a]) ++ (Q ++ downs T l a (namesOf T a)).map (inoW T) ↔ b ∈ P ++ a :: Q.map (inoW T) ∨ b ∈ ((namesOf T a).filter (fun s => tIsDir T (tKid T a s))).map (tKid T a) := by
    intro b
    rw [List.map_append, hmap]
    simp only [List.mem_append, List.mem_cons, List.mem_nil_iff, or_false]
    constructor
    · rintro ((h | h) | (h | h))
      · exact .inl (.inl h)
      · exact .inl (.inr (.inl h))
      · exact .inl (.inr (.inr h))
      · exact .inr h
    · rintro ((h | (h | h)) | h)
      · exact .inl (.inl h)
      · exact .inl (.inr h)
      · exact .inr (.inl h)
      · exact .inr (.inr h)
  refine ⟨fun l' hl' => ?_, ?_, (hmem 1).2 (.inl hroot), fun x hx hxd hxi => (hmem _).2 ?_, fun b hb => ?_⟩
  · rcases List.mem_append.1 hl' with h1 | h1
    · exact h.ways l' (List.mem_cons_of_mem _ h1)
    · unfold downs at h1
      obtain ⟨s, hs, rfl⟩ := List.mem_map.1 h1
      obtain ⟨hs1, hs2⟩ := List.mem_filter.1 hs
      obtain ⟨x, hx, xd, xn, xe, e2, e3, e4⟩ := kid_facts hT hs1
      have hw := downs_ino hT w3 w4 hs1
      have hi : inoW T (l ++ [s]) = tKid T a s := by unfold inoW; rw [hw]
      refine ⟨fun p hp => ?_, ?_, by rw [hi]; exact hw, by rw [hi]; exact hs2⟩
      · rcases List.mem_append.1 hp with hp | hp
        · exact w1 p hp
        · obtain rfl := List.mem_singleton.1 hp
          exact e4
      · rcases h7 with h7 | h7
        · simp; omega
        · rw [h7] at hs1; cases hs1
  · rw [List.map_append, hmap]
    have hp : ((P ++ [a]) ++ (Q.map (inoW T) ++ ((namesOf T a).filter (fun s => tIsDir T (tKid T a s))).map (tKid T a))) = (P ++ a :: Q.map (inoW T)) ++ ((namesOf T a).filter (fun s => tIsDir T (tKid T a s))).map (tKid T a) := by simp
    rw [hp]
    refine List.nodup_append.2 ⟨hnd, ?_, ?_⟩
    · unfold List.Nodup
      rw [List.pairwise_map]
      refine List.Pairwise.imp_of_mem ?_ ((names_nodup' hT a).filter _)
      intro s u hs hu hne he
      obtain ⟨x, hx, xd, xn, xe, _⟩ := kid_facts hT (List.mem_filter.1 hs).1
      obtain ⟨y, hy, yd, yn, ye, _⟩ := kid_facts hT (List.mem_filter.1 hu).1
      have := ino_inj hT hx hy (by omega)
      exact hne (by rw [← xn, ← yn, this])
    · intro b hb c hc e
      subst e
      obtain ⟨s, hs, rfl⟩ := List.mem_map.1 hc
      obtain ⟨y, hy, yd, yn, ye, _⟩ := kid_facts hT (List.mem_filter.1 hs).1
      have h2 := (hT.nums y hy).1
      rcases hsrc _ hb with h1 | ⟨x, hx, xe, xP⟩
      · omega
      · have := ino_inj hT hx hy (by omega)
        subst this
        exact haP (by rw [← yd]; exact xP)
  · rcases List.mem_append.1 hxd with h1 | h1
    · exact .inl (hkids x hx h1 hxi)
    · right
      have hxa : x.dir = a := List.mem_singleton.1 h1
      obtain ⟨e1, e2⟩ := kid_of_mem hT hx
      rw [hxa] at e1
      have hs : x.name ∈ namesOf T a := mem_names.2 ⟨x, hx, hxa, rfl⟩
      obtain ⟨y, hy, yd, yn, ye, _, yi, _⟩ := kid_facts hT hs
      have := ino_inj hT hx hy (by omega)
      subst this
      exact List.mem_map.2 ⟨x.name, List.mem_filter.2 ⟨hs, by rw [yi]; exact hxi⟩, e1⟩
  · rcases (hmem b).1 hb with h1 | h1
    · rcases hsrc b h1 with h2 | ⟨x, hx, xe, xP⟩
      · exact .inl h2
      · exact .inr ⟨x, hx, xe, List.mem_append_left _ xP⟩
    · right
      obtain ⟨s, hs, rfl⟩ := List.mem_map.1 h1
      obtain ⟨y, hy, yd, yn, ye, _⟩ := kid_facts hT (List.mem_filter.1 hs).1
      exact ⟨y, hy, ye.symm, List.mem_append_right _ (by rw [yd]; simp)⟩
theorem BFS.fresh {T : PT} {P : List Nat} {l : List (List UInt8)} {Q : List (List (List UInt8))} (h : BFS T P (l :: Q)) : inoW T l ∉ P := fun hm => by
  have := List.nodup_append.1 h.nodup
  exact this.2.2 _ hm _ (by rw [List.map_cons]; exact List.mem_cons_self ..) rfl
theorem BFS.all {T : PT} (hT : TOk T) (hR : TR T) {P : List Nat} (h : BFS T P []) : cntP T P = T.length := by
  have key : ∀ a, Reach T a → tIsDir T a = true → a ∈ P := by
    intro a ha
    induction ha with
    | root => intro _; simpa using h.root
    | @step x hx _ ih =>
      intro hd
      have h2 := (hT.nums x hx).1
      have e : (x.ino == 1) = false := by simp; omega
      have : x.isDir = true := by
        unfold tIsDir at hd
        rw [get_mem hT hx, e] at hd
        simpa using hd
      simpa using h.kids x hx (ih (hT.dirs x hx)) this
  unfold cntP
  rw [List.countP_eq_length]
  intro x hx
  have : Reach T x.dir := by
    have h1 := hR x hx
    generalize hb : x.ino = b at h1
    cases h1 with
    | root => have := (hT.nums x hx).1; omega
    | @step y hy hr =>
      obtain rfl := ino_inj hT hx hy hb
      exact hr
  simpa using key _ this (hT.dirs x hx)

theorem nodup_le : ∀ (l m : List Nat), l.Nodup → (∀ x ∈ l, x ∈ m) → l.length ≤ m.length
  | [], m, _, _ => Nat.zero_le _
  | x :: r, m, h, hs => by
    have h' := List.nodup_cons.1 h
    have hx := hs x (List.mem_cons_self ..)
    have := nodup_le r (m.erase x) h'.2 (fun y hy => (List.mem_erase_of_ne (fun e => h'.1 (by rw [← e]; exact hy))).2 (hs y (List.mem_cons_of_mem _ hy)))
    rw [List.length_erase_of_mem hx] at this
    have := List.length_pos_of_mem hx
    rw [List.length_cons]; omega
theorem BFS.len {T : PT} {P : List Nat} {Q : List (List (List UInt8))} (h : BFS T P Q) : P.length + Q.length ≤ T.length + 1 := by
  have := nodup_le _ (1 :: T.map (fun x => x.ino)) h.nodup (fun b hb => by
    rcases h.src b hb with h1 | ⟨x, hx, h1, _⟩
    · rw [h1]; exact List.mem_cons_self ..
    · exact List.mem_cons_of_mem _ (List.mem_map.2 ⟨x, hx, h1⟩))
  simpa using this

/-! ### The paths -/
theorem tail_app : ∀ (l : List (List UInt8)) (s : List UInt8), tailB (l ++ [s]) = tailB l ++ 47 :: s
  | [], s => by simp [tailB]
  | p :: l, s => by rw [List.cons_append]; simp only [tailB]; rw [tail_app l s]; simp
theorem join_app (l : List (List UInt8)) (s : List UInt8) : joinB (l ++ [s]) = (if l = [] then [] else joinB l) ++ 47 :: s := by
  unfold joinB
  rw [if_neg (by simp), tail_app]
  by_cases h : l = []
  · subst h; simp [tailB]
  · rw [if_neg h, if_neg h]
theorem join_root {l : List (List UInt8)} (h : ∀ p ∈ l, mayB p = true) : joinB l = [47] ↔ l = [] := by
  constructor
  · intro e
    cases l with
    | nil => rfl
    | cons p r =>
      unfold joinB at e
      rw [if_neg (by simp)] at e
      have h1 := (may_len (h p (List.mem_cons_self ..))).1
      simp only [tailB] at e
      have h2 := congrArg List.length e
      simp only [List.length_cons, List.length_append, List.length_nil] at h2
      omega
  · rintro rfl; rfl
theorem split_nine {l : List (List UInt8)} (hm : ∀ p ∈ l, mayB p = true) (h9 : 9 ≤ l.length) : splitB (joinB l) = none := by
  cases hs : splitB (joinB l) with
  | none => rfl
  | some k =>
    obtain ⟨k1, k2, k3⟩ := split_some hs
    have hl0 : l ≠ [] := by rintro rfl; simp at h9
    have hk0 : k ≠ [] := by
      rintro rfl
      have := (join_root hm).1 k3.symm
      exact hl0 this
    unfold joinB at k3
    rw [if_neg hl0, if_neg hk0] at k3
    obtain ⟨r, e1, e2⟩ := cuts_tail l hl0 (fun p hp => may_stroke (hm p hp))
    obtain ⟨r', f1, f2⟩ := cuts_tail k hk0 (fun p hp => may_stroke (k1 p hp))
    rw [e1, f1] at k3
    obtain rfl : r' = r := (List.cons.inj k3).2
    rw [e2] at f2
    rw [f2] at h9; omega
def depB (l : List UInt8) : Nat := l.countP (fun c => c == 47)
theorem dep_name {p : List UInt8} (h : mayB p = true) : depB p = 0 := by
  unfold depB
  rw [List.countP_eq_zero]
  intro c hc
  simp
  rintro rfl
  exact may_stroke h hc
theorem dep_tail : ∀ (l : List (List UInt8)), (∀ p ∈ l, mayB p = true) → depB (tailB l) = l.length
  | [], _ => rfl
  | p :: l, h => by
    have h1 := dep_tail l (fun q hq => h q (List.mem_cons_of_mem _ hq))
    have h2 := dep_name (h p (List.mem_cons_self ..))
    unfold depB at h1 h2 ⊢
    simp only [tailB]
    rw [List.countP_cons, List.countP_append, h1, h2]
    simp
theorem dep_join {l : List (List UInt8)} (h0 : l ≠ []) (h : ∀ p ∈ l, mayB p = true) : depB (joinB l) = l.length := by
  unfold joinB
  rw [if_neg h0, dep_tail l h]
/-- A kid's path: looked at. -/
theorem look_kid {T : PT} (hT : TOk T) {l : List (List UInt8)} {a : Nat} (hm : ∀ p ∈ l, mayB p = true) (hl : tWalk T l 1 = (a, 0)) (hd : tIsDir T a = true) {s : List UInt8} (hs : s ∈ namesOf T a) (h7 : l.length ≤ 7) :
    tLook T (joinB (l ++ [s])) = (tKid T a s, tIsDir T (tKid T a s), 0) ∧ (tList T (joinB (l ++ [s]))).2 = if tIsDir T (tKid T a s) then 0 else 10 := by
  obtain ⟨x, _, _, _, _, _, _, e4⟩ := kid_facts hT hs
  have hsp : splitB (joinB (l ++ [s])) = some (l ++ [s]) := split_join _ (fun p hp => by
    rcases List.mem_append.1 hp with hp | hp
    · exact hm p hp
    · obtain rfl := List.mem_singleton.1 hp; exact e4) (by simp; omega)
  have hw := downs_ino hT hl hd hs
  have hlk : tLook T (joinB (l ++ [s])) = (tKid T a s, tIsDir T (tKid T a s), 0) := by
    unfold tLook
    rw [hsp]
    simp [hw]
  refine ⟨hlk, ?_⟩
  unfold tList
  rw [hlk]
  cases tIsDir T (tKid T a s) <;> simp
theorem look_deep {T : PT} {l : List (List UInt8)} {s : List UInt8} (hm : ∀ p ∈ l, mayB p = true) (hs : mayB s = true) (h8 : 8 ≤ l.length) : tLook T (joinB (l ++ [s])) = (0, false, 12) ∧ (tList T (joinB (l ++ [s]))).2 = 12 := by
  have hsp : splitB (joinB (l ++ [s])) = none := split_nine (fun p hp => by
    rcases List.mem_append.1 hp with hp | hp
    · exact hm p hp
    · obtain rfl := List.mem_singleton.1 hp; exact hs) (by simp; omega)
  have hlk : tLook T (joinB (l ++ [s])) = (0, false, 12) := by unfold tLook; rw [hsp]
  refine ⟨hlk, ?_⟩
  unfold tList
  rw [hlk]
  simp
theorem list_join {T : PT} {l : List (List UInt8)} {a : Nat} (hm : ∀ p ∈ l, mayB p = true) (h8 : l.length ≤ 8) (hl : tWalk T l 1 = (a, 0)) (hd : tIsDir T a = true) : tList T (joinB l) = (entsOf T a, 0) := by
  have hlk : tLook T (joinB l) = (a, true, 0) := by
    unfold tLook
    rw [split_join l hm h8]
    simp [hl, hd]
  unfold tList
  rw [hlk]
  simp
end Go.Proofs.Ytaophafailmhjaa.W

/- A move, and back: plain. -/
namespace Go.Proofs.Ytaophafailmhjaa.W
open Go.Proofs.Ytaophafailmhjaa.NM
set_option linter.unusedVariables false
set_option linter.unusedSimpArgs false

theorem ren_mem_of {T : PT} (hT : TOk T) {x : Th} (hx : x ∈ T) (d : Nat) (s : List UInt8) : ({ x with dir := d, name := s } : Th) ∈ tRename T x.ino d s := mem_ren.2 ⟨x, hx, by rw [if_pos rfl]⟩
theorem ren_other {T : PT} {x y : Th} {d : Nat} {s : List UInt8} (hy : y ∈ tRename T x.ino d s) : y = { y with dir := d, name := s } ∧ y.ino = x.ino ∨ y ∈ T ∧ y.ino ≠ x.ino := by
  obtain ⟨z, hz, rfl⟩ := mem_ren.1 hy
  by_cases e : z.ino = x.ino
  · left; rw [if_pos e]; exact ⟨rfl, e⟩
  · right; rw [if_neg e]; exact ⟨hz, e⟩
theorem ren_back {T : PT} (hT : TOk T) {x : Th} (hx : x ∈ T) (d : Nat) (s : List UInt8) : tRename (tRename T x.ino d s) x.ino x.dir x.name = T := by
  unfold tRename
  rw [List.map_map]
  conv => rhs; rw [← List.map_id T]
  refine List.map_congr_left fun y hy => ?_
  show (if (if y.ino = x.ino then ({ y with dir := d, name := s } : Th) else y).ino = x.ino then _ else _) = y
  by_cases e : y.ino = x.ino
  · have := ino_inj hT hy hx e
    subst this
    simp
  · simp [e]
/-- What is known of a move that goes. -/
structure Moved (T : PT) (p q : List UInt8) (n d : Nat) (s : List UInt8) (x : Th) (l m : List (List UInt8)) : Prop where
  hx : x ∈ T
  xn : x.ino = n
  sp : splitB p = some (l ++ [x.name])
  sq : splitB q = some (m ++ [s])
  wl : tWalk T l 1 = (x.dir, 0)
  dl : tIsDir T x.dir = true
  wm : tWalk T m 1 = (d, 0)
  dm : tIsDir T d = true
  km : tKid T d s = 0
  ok : TOk (tRename T n d s)
  n1 : n ≠ 1
  ne : ¬ (x.dir = d ∧ x.name = s)
  wl' : tWalk (tRename T n d s) l 1 = (x.dir, 0)
  wm' : tWalk (tRename T n d s) m 1 = (d, 0)
  dn : d ≠ n
  xd : x.dir ≠ n
  w1 : withinB q p = false
  w2 : withinB p q = false
  mv : tMove T p q = (0, tRename T n d s)
  lk : tLook T p = (n, tIsDir T n, 0)
theorem moved {T : PT} (hT : TOk T) {p q : List UInt8} (h : (tMove T p q).1 = 0) : ∃ n d s x l m, Moved T p q n d s x l m := by
  obtain ⟨l, m, s, n, d, e1, e2, e3, e4, e5, e6, e7, e8, e9, e10, e11⟩ := move_goes h
  have hok := ren_tok (n := n) hT e2 e6 e7
  rcases List.eq_nil_or_concat l with rfl | ⟨l', s0, rfl⟩
  · obtain rfl : 1 = n := (Prod.mk.inj e3).1
    exact absurd rfl e4
  · rw [List.concat_eq_append] at e1 e3 e8 e9
    obtain ⟨c, g1, g2, g3, g4⟩ := walk_snoc_inv e3
    obtain ⟨x, _, hx, xd, xn, xe⟩ := kid_some g4
    have hxn : x.ino = n := by omega
    subst xd; subst xn
    have hfm := free_walk hT e3 e8
    have hw' := walk_ren hT hok m 1 d e5 hfm
    have hfl : ∀ k, k ≤ l'.length → k ≠ 0 → tWalk T (l'.take k) 1 ≠ (n, 0) := fun k hk _ he => by
      have := congrArg List.length (walk_inj hT e3 he)
      rw [List.length_append, List.length_take] at this
      simp at this
      omega
    have hdn : d ≠ n := by
      rcases List.eq_nil_or_concat m with rfl | ⟨m', u, rfl⟩
      · obtain rfl : 1 = d := (Prod.mk.inj e5).1
        exact fun e => e4 e.symm
      · intro e
        exact hfm (m'.concat u).length (Nat.le_refl _) (by simp) (by rw [List.take_length, e5, e])
    have hxd : x.dir ≠ n := by
      rcases List.eq_nil_or_concat l' with rfl | ⟨m', u, rfl⟩
      · have : 1 = x.dir := (Prod.mk.inj g1).1
        omega
      · intro e
        exact hfl (m'.concat u).length (Nat.le_refl _) (by simp) (by rw [List.take_length, g1, e])
    refine ⟨n, d, s, x, l', m, ⟨hx, hxn, e1, e2, g1, g2, e5, e6, e7, hok, e4, fun hh => ?_, walk_ren hT hok l' 1 x.dir g1 hfl, hw', hdn, hxd, ?_, ?_, e10, e11⟩⟩
    · have := (kid_of_mem hT hx).2
      rw [hh.1, hh.2, e7] at this; exact this rfl
    · unfold withinB; rw [e1, e2]; exact e8
    · unfold withinB; rw [e1, e2]; exact e9
theorem Moved.lookQ {T : PT} {p q : List UInt8} {n d : Nat} {s : List UInt8} {x : Th} {l m : List (List UInt8)} (hT : TOk T) (h : Moved T p q n d s x l m) : tLook (tRename T n d s) q = (n, tIsDir T n, 0) := by
  have hm := ren_mem_of hT h.hx d s
  rw [h.xn] at hm
  obtain ⟨k1, k2⟩ := kid_of_mem h.ok hm
  simp only at k1 k2
  have hw := walk_snoc h.wm' (by rw [isDir_ren]; exact h.dm) k2
  rw [k1] at hw
  unfold tLook
  rw [h.sq]
  simp only [hw]
  rw [isDir_ren]; simp
theorem Moved.kidP {T : PT} {p q : List UInt8} {n d : Nat} {s : List UInt8} {x : Th} {l m : List (List UInt8)} (hT : TOk T) (h : Moved T p q n d s x l m) : tKid (tRename T n d s) x.dir x.name = 0 := by
  rw [kid_zero h.ok]
  cases hk : tKidOf (tRename T n d s) x.dir x.name with
  | none => rfl
  | some y =>
    exfalso
    obtain ⟨h1, h2, h3⟩ := kidOf_some hk
    rw [← h.xn] at h1
    rcases ren_other h1 with ⟨e, _⟩ | ⟨hy, hne⟩
    · rw [e] at h2 h3
      exact h.ne ⟨h2.symm, h3.symm⟩
    · have a1 := kidOf_mem hT hy
      have a2 := kidOf_mem hT h.hx
      rw [h2, h3, a2] at a1
      exact hne (by rw [Option.some.inj a1])
theorem Moved.lookP {T : PT} {p q : List UInt8} {n d : Nat} {s : List UInt8} {x : Th} {l m : List (List UInt8)} (hT : TOk T) (h : Moved T p q n d s x l m) : tLook (tRename T n d s) p = (0, false, 6) := by
  have hw : tWalk (tRename T n d s) (l ++ [x.name]) 1 = (0, 6) := by
    rw [walk_app _ l [x.name] 1 (by rw [h.wl']), h.wl', walk_one, isDir_ren, if_neg (by rw [h.dl]; simp), if_pos (h.kidP hT)]
  unfold tLook
  rw [h.sp]
  simp [hw]
theorem Moved.kids {T : PT} {p q : List UInt8} {n d : Nat} {s : List UInt8} {x : Th} {l m : List (List UInt8)} (hT : TOk T) (h : Moved T p q n d s x l m) : entsOf (tRename T n d s) n = entsOf T n := by
  have hf : (tRename T n d s).filter (fun y => y.dir == n) = T.filter (fun y => y.dir == n) := by
    unfold tRename
    rw [List.filter_map]
    have e : T.filter ((fun y : Th => y.dir == n) ∘ fun y : Th => if y.ino = n then { y with dir := d, name := s } else y) = T.filter (fun y => y.dir == n) := by
      refine List.filter_congr fun y hy => ?_
      show ((if y.ino = n then ({ y with dir := d, name := s } : Th) else y).dir == n) = _
      by_cases e : y.ino = n
      · have := ino_inj hT hy h.hx (by rw [e, h.xn])
        subst this
        rw [if_pos e]
        have h1 : (d == n) = false := by simpa using h.dn
        have h2 : (y.dir == n) = false := by simpa using h.xd
        simp [h1, h2]
      · rw [if_neg e]
    rw [e]
    conv => rhs; rw [← List.map_id (T.filter (fun y => y.dir == n))]
    refine List.map_congr_left fun y hy => ?_
    obtain ⟨hy1, hy2⟩ := List.mem_filter.1 hy
    rw [if_neg]
    · rfl
    · intro e
      have := ino_inj hT hy1 h.hx (by rw [e, h.xn])
      subst this
      exact h.xd (by simpa using hy2)
  have hn : namesOf (tRename T n d s) n = namesOf T n := by unfold namesOf; rw [hf]
  unfold entsOf
  rw [hn]
  refine List.map_congr_left fun u hu => ?_
  have hk : tKid (tRename T n d s) n u = tKid T n u := by
    obtain ⟨y, hy, yd, yn, ye, _⟩ := kid_facts hT hu
    have hyn : y.ino ≠ n := fun e => by
      have := ino_inj hT hy h.hx (by rw [e, h.xn])
      subst this
      exact h.xd yd
    have hy' : y ∈ tRename T n d s := mem_ren.2 ⟨y, hy, by rw [if_neg hyn]⟩
    have := (kid_of_mem h.ok hy').1
    rw [yd, yn] at this
    rw [this, ye]
  unfold entOf
  rw [hk, isDir_ren]
theorem Moved.list {T : PT} {p q : List UInt8} {n d : Nat} {s : List UInt8} {x : Th} {l m : List (List UInt8)} (hT : TOk T) (h : Moved T p q n d s x l m) : tList (tRename T n d s) q = tList T p := by
  unfold tList
  rw [h.lookQ hT, h.lk]
  simp only
  rw [h.kids hT]
theorem Moved.back {T : PT} {p q : List UInt8} {n d : Nat} {s : List UInt8} {x : Th} {l m : List (List UInt8)} (hT : TOk T) (h : Moved T p q n d s x l m) : tMove (tRename T n d s) q p = (0, T) := by
  have hpl : tPlace (tRename T n d s) p = (x.dir, x.name, 0) := by
    unfold tPlace
    rw [h.sp]
    have e1 : (l ++ [x.name]) ≠ [] := by simp
    have e2 : (l ++ [x.name]).dropLast = l := by simp
    have e3 : (l ++ [x.name]).getLastD [] = x.name := by simp [List.getLastD_eq_getLast?]
    simp only [if_neg e1, e2, e3, h.wl']
    rw [isDir_ren, h.dl]
    simp
  unfold tMove
  rw [h.lookQ hT, hpl]
  simp only [ne_eq, not_true_eq_false, if_false, if_neg h.n1, h.w1, h.w2, h.kidP hT]
  rw [if_neg (by rw [h.sp]; simp)]
  simp only [Bool.or_self, Bool.false_eq_true, if_false]
  have := ren_back hT h.hx d s
  rw [h.xn] at this
  rw [this]
end Go.Proofs.Ytaophafailmhjaa.W

/- A file that lies at a path: made, found, moved, removed; plain. -/
namespace Go.Proofs.Ytaophafailmhjaa.W
open Go.Proofs.Ytaophafailmhjaa.NM
set_option linter.unusedVariables false
set_option linter.unusedSimpArgs false

theorem isDir_iff {T : PT} (h : TOk T) {a : Nat} : tIsDir T a = true ↔ a = 1 ∨ ∃ x ∈ T, x.ino = a ∧ x.isDir = true := by
  constructor
  · intro hd
    by_cases h1 : a = 1
    · exact .inl h1
    · right
      unfold tIsDir at hd
      have e : (a == 1) = false := by simpa using h1
      rw [e] at hd
      cases hg : tGet T a with
      | none => rw [hg] at hd; cases hd
      | some x =>
        rw [hg] at hd
        unfold tGet at hg
        have hm := List.mem_of_find?_eq_some hg
        have hp := List.find?_some hg
        exact ⟨x, hm, by simpa using hp, by simpa using hd⟩
  · rintro (rfl | ⟨x, hx, rfl, hd⟩)
    · rfl
    · unfold tIsDir
      rw [get_mem h hx]
      simp [hd]
theorem ino_same {T : PT} (h : TOk T) {x y : Th} (hx : x ∈ T) (hy : y ∈ T) (e : x.ino = y.ino) : x = y := by
  have h1 := get_mem h hx
  rw [e, get_mem h hy] at h1
  exact (Option.some.inj h1).symm
theorem kid_is {T : PT} {a : Nat} {s : List UInt8} (hk : tKid T a s ≠ 0) : ∃ y ∈ T, y.dir = a ∧ y.name = s ∧ tKid T a s = y.ino := by
  cases h : tKidOf T a s with
  | none => exact absurd (by unfold tKid; rw [h]) hk
  | some y =>
    obtain ⟨h1, h2, h3⟩ := kidOf_some h
    exact ⟨y, h1, h2, h3, by unfold tKid; rw [h]⟩
theorem walk_begin {T : PT} {l : List (List UInt8)} {a b : Nat} (h : tWalk T l a = (b, 0)) (hd : tIsDir T b = true) : tIsDir T a = true := by
  cases l with
  | nil => obtain rfl : a = b := (Prod.mk.inj h).1; exact hd
  | cons s l =>
    unfold tWalk at h
    split at h
    · exact absurd (Prod.mk.inj h).2 (by decide)
    · rename_i e; simpa using e
/-- A way over directories that stay. -/
theorem walk_keep {T U : PT} (hT : TOk T) (hU : TOk U) (hk : ∀ y ∈ T, y.isDir = true → y ∈ U) : ∀ (l : List (List UInt8)) (a b : Nat), tWalk T l a = (b, 0) → tIsDir T b = true → tWalk U l a = (b, 0)
  | [], a, b, h, _ => h
  | s :: l, a, b, h, hd => by
    have ha := walk_begin h hd
    unfold tWalk at h ⊢
    rw [if_neg (by rw [ha]; simp)] at h
    have haU : tIsDir U a = true := by
      rcases (isDir_iff hT).1 ha with e | ⟨x, hx, e1, e2⟩
      · exact (isDir_iff hU).2 (.inl e)
      · exact (isDir_iff hU).2 (.inr ⟨x, hk x hx e2, e1, e2⟩)
    rw [if_neg (by rw [haU]; simp)]
    split at h
    · exact absurd (Prod.mk.inj h).2 (by decide)
    · rename_i h0
      obtain ⟨y, hy, h1, h2, h3⟩ := kid_is h0
      have hyd : y.isDir = true := by
        have := walk_begin h hd
        rw [h3] at this
        rcases (isDir_iff hT).1 this with e | ⟨x, hx, e1, e2⟩
        · have := (hT.nums y hy).1; omega
        · rw [← ino_same hT hx hy e1]; exact e2
      have k := kid_of_mem hU (hk y hy hyd)
      rw [h1, h2] at k
      rw [if_neg k.2, k.1, ← h3]
      exact walk_keep hT hU hk l _ _ h hd
theorem isDir_keep {T U : PT} (hT : TOk T) (hU : TOk U) (hk : ∀ y ∈ T, y.isDir = true → y ∈ U) {a : Nat} (h : tIsDir T a = true) : tIsDir U a = true := by
  rcases (isDir_iff hT).1 h with e | ⟨x, hx, e1, e2⟩
  · exact (isDir_iff hU).2 (.inl e)
  · exact (isDir_iff hU).2 (.inr ⟨x, hk x hx e2, e1, e2⟩)
/-- A file n lies at p. -/
structure FileAt (T : PT) (p : List UInt8) (x : Th) (l : List (List UInt8)) : Prop where
  hx : x ∈ T
  fd : x.isDir = false
  sp : splitB p = some (l ++ [x.name])
  wl : tWalk T l 1 = (x.dir, 0)
  dl : tIsDir T x.dir = true
  leaf : ∀ y ∈ T, y.dir ≠ x.ino
variable {T : PT} {p q : List UInt8} {x : Th} {l : List (List UInt8)}
theorem FileAt.no (h : FileAt T p x l) (hT : TOk T) : tIsDir T x.ino = false := by
  cases hd : tIsDir T x.ino with
  | false => rfl
  | true =>
    rcases (isDir_iff hT).1 hd with e | ⟨y, hy, e1, e2⟩
    · have := (hT.nums x h.hx).1; omega
    · rw [ino_same hT hy h.hx e1, h.fd] at e2; cases e2
theorem FileAt.look (h : FileAt T p x l) (hT : TOk T) : tLook T p = (x.ino, false, 0) := by
  obtain ⟨k1, k2⟩ := kid_of_mem hT h.hx
  have hw := walk_snoc h.wl h.dl k2
  rw [k1] at hw
  unfold tLook
  rw [h.sp]
  simp only [hw, h.no hT]
  simp
theorem FileAt.place (h : FileAt T p x l) : tPlace T p = (x.dir, x.name, 0) := by
  unfold tPlace
  rw [h.sp]
  simp [h.wl, h.dl]
theorem FileAt.again (h : FileAt T p x l) (hT : TOk T) (d : Bool) : tMake T p d = ((0, 7), T) := by
  unfold tMake
  split
  · rfl
  · rw [h.place, if_neg (by simp), if_pos (kid_of_mem hT h.hx).2]
theorem FileAt.remove (h : FileAt T p x l) (hT : TOk T) : tRemove T p false = ((x.ino, 0), T.filter (fun z => z.ino != x.ino)) := by
  unfold tRemove
  rw [h.look hT]
  have := (hT.nums x h.hx).1
  rw [if_neg (by simp), if_neg (by simp only; omega), if_neg (by simp), if_neg (by simp), if_neg ?_]
  rw [List.any_eq_true]
  rintro ⟨y, hy, e⟩
  exact h.leaf y hy (by simpa using e)
theorem FileAt.gone (h : FileAt T p x l) (hT : TOk T) : tLook (T.filter (fun z => z.ino != x.ino)) p = (0, false, 6) := by
  have hn := (hT.nums x h.hx).1
  have hU := hT.del (n := x.ino) (by omega) (fun y hy => h.leaf y hy)
  have hk : ∀ y ∈ T, y.isDir = true → y ∈ T.filter (fun z => z.ino != x.ino) := fun y hy hd => by
    refine List.mem_filter.2 ⟨hy, ?_⟩
    rw [bne_iff_ne]
    intro e
    rw [ino_same hT hy h.hx e, h.fd] at hd; cases hd
  have hw := walk_keep hT hU hk l 1 x.dir h.wl h.dl
  have hd := isDir_keep hT hU hk h.dl
  have hk0 : tKid (T.filter (fun z => z.ino != x.ino)) x.dir x.name = 0 := by
    rw [kid_zero hU, kidOf_del hT, if_pos (kid_of_mem hT h.hx).1]
  have hw2 : tWalk (T.filter (fun z => z.ino != x.ino)) (l ++ [x.name]) 1 = (0, 6) := by
    rw [walk_app _ l [x.name] 1 (by rw [hw]), hw, walk_one, if_neg (by rw [hd]; simp), if_pos hk0]
  unfold tLook
  rw [h.sp]
  simp [hw2]
/-- A file is made. -/
theorem made_file (hT : TOk T) (h0 : (tMake T p false).1.2 = 0) (hU : TOk (tMake T p false).2) : ∃ x l, FileAt (tMake T p false).2 p x l ∧ (tMake T p false).1.1 = x.ino ∧ ∀ y ∈ T, y.ino ≠ x.ino := by
  unfold tMake at h0 hU ⊢
  split at h0
  · exact absurd h0 (by simp)
  · rename_i c1
    rw [if_neg c1] at hU ⊢
    split at h0
    · rename_i c2; exact absurd h0 c2
    · rename_i c2
      rw [if_neg c2] at hU ⊢
      split at h0
      · exact absurd h0 (by simp)
      · rename_i c3
        rw [if_neg c3] at hU ⊢
        split at h0
        · exact absurd h0 (by simp)
        · rename_i c4
          rw [if_neg c4] at hU ⊢
          have hz : (tPlace T p).2.2 = 0 := by simpa using c2
          obtain ⟨l, s, e1, e2, e3, e4⟩ := place_walk hz
          have hfr := least_free T 2 hT.rise (fun x hx => (hT.nums x hx).1)
          have hmem : ∀ y ∈ T, y.isDir = true → y ∈ tIns ⟨tLeast 2 T, (tPlace T p).1, (tPlace T p).2.1, false⟩ T := fun y hy _ => (mem_ins _ _).2 (.inr hy)
          refine ⟨⟨tLeast 2 T, (tPlace T p).1, (tPlace T p).2.1, false⟩, l, ⟨(mem_ins _ _).2 (.inl rfl), rfl, by rw [e1, e3], walk_keep hT hU hmem l 1 _ e2 e4, isDir_keep hT hU hmem e4, fun y hy e => ?_⟩, rfl, fun y hy => hfr y hy⟩
          have hdn : (tPlace T p).1 ≠ tLeast 2 T := fun e => by
            rcases (isDir_iff hT).1 e4 with e5 | ⟨z, hz1, hz2, _⟩
            · have := least_ge T 2; omega
            · exact hfr z hz1 (by omega)
          rcases (mem_ins _ _).1 hy with rfl | hy
          · exact hdn e
          · simp only at e
            rcases (isDir_iff hT).1 (hT.dirs y hy) with e5 | ⟨z, hz1, hz2, _⟩
            · have := least_ge T 2; omega
            · exact hfr z hz1 (by omega)
/-- A file is moved. -/
theorem FileAt.goes (h : FileAt T p x l) (hT : TOk T) (h0 : (tMove T p q).1 = 0) : ∃ y m, FileAt (tMove T p q).2 q y m ∧ y.ino = x.ino ∧ tLook (tMove T p q).2 p = (0, false, 6) := by
  obtain ⟨n, d, s, z, l', m, M⟩ := moved hT h0
  have hlk := M.lk
  rw [h.look hT] at hlk
  obtain rfl : x.ino = n := (Prod.mk.inj hlk).1
  obtain rfl : z = x := ino_same hT M.hx h.hx M.xn
  rw [M.mv]
  refine ⟨⟨z.ino, d, s, false⟩, m, ⟨?_, rfl, M.sq, M.wm', by rw [isDir_ren]; exact M.dm, fun y hy e => ?_⟩, rfl, M.lookP hT⟩
  · have := ren_mem_of hT h.hx d s
    rw [h.fd] at this
    exact this
  · rcases ren_other hy with ⟨e1, _⟩ | ⟨hy, hne⟩
    · rw [e1] at e; exact M.dn e
    · exact h.leaf y hy e
theorem FileAt.stays (h : FileAt T p x l) (h0 : (tMove T p q).1 ≠ 0) : (tMove T p q).2 = T := by
  unfold tMove at h0 ⊢
  split
  · rfl
  · split
    · rfl
    · split
      · rfl
      · split
        · rfl
        · split
          · rfl
          · split
            · rfl
            · exfalso
              apply h0
              simp [*]
end Go.Proofs.Ytaophafailmhjaa.W

/- PlainTwo: its plain law. -/
namespace Go.Proofs.Ytaophafailmhjaa.W
open Go.Proofs.Ytaophafailmhjaa.NM
set_option linter.unusedVariables false
set_option linter.unusedSimpArgs false

def mineP : List UInt8 := [47, 109, 105, 110, 101]
def mineN : List UInt8 := [109, 105, 110, 101]
def movedP : List UInt8 := [47, 109, 111, 118, 101, 100, 46, 116, 104, 101, 114, 101]
def mineT : Th := ⟨2, 1, mineN, false⟩
def mineR : K.TRow := ⟨3, 0, 2, true⟩
theorem mine_split : splitB mineP = some ([] ++ [mineN]) := by kernel_rfl
structure Mine (s : PS) (b : List UInt8) : Prop where
  inv : PInv s
  th : mineT ∈ s.T
  row : mineR ∈ s.K
  own : s.O (3, 0) = some b
variable {s : PS} {b : List UInt8}
theorem Mine.file (h : Mine s b) : FileAt s.T mineP mineT [] where
  hx := h.th
  fd := rfl
  sp := mine_split
  wl := rfl
  dl := rfl
  leaf := fun y hy e => by
    rcases (isDir_iff h.inv.tok).1 (h.inv.tok.dirs y hy) with e1 | ⟨z, hz, e1, e2⟩
    · rw [e1] at e; cases e
    · have := ino_same h.inv.tok hz h.th (by rw [e1, e])
      rw [this] at e2; cases e2
/-- What leads to it is its path. -/
theorem Mine.only (h : Mine s b) {p : List UInt8} (h0 : (tLook s.T p).2.2 = 0) (h1 : (tLook s.T p).1 = 2) : p = mineP := by
  obtain ⟨l, e1, e2, _⟩ := look_walk h0
  obtain ⟨l', e3, e4, _⟩ := look_walk (p := mineP) (T := s.T) (by rw [h.file.look h.inv.tok])
  rw [h.file.look h.inv.tok] at e4
  rw [h1] at e2
  have := walk_inj h.inv.tok e2 (show tWalk s.T l' 1 = (2, 0) from e4)
  rw [this] at e1
  exact split_inj e1 e3
theorem Mine.tmake (h : Mine s b) (p : List UInt8) (d : Bool) : mineT ∈ (tMake s.T p d).2 := by
  rcases make_cases h.inv.tok p d with ⟨_, e⟩ | ⟨y, e, _⟩
  · rw [e]; exact h.th
  · rw [e]; exact (mem_ins _ _).2 (.inr h.th)
theorem Mine.tremove (h : Mine s b) {p : List UInt8} (hp : p ≠ mineP) (d : Bool) : mineT ∈ (tRemove s.T p d).2 := by
  rcases remove_cases h.inv.tok p d with ⟨_, e⟩ | ⟨x, hx, e, hl, _⟩
  · rw [e]; exact h.th
  · rw [e]
    refine List.mem_filter.2 ⟨h.th, ?_⟩
    rw [bne_iff_ne]
    intro e2
    exact hp (h.only (by rw [hl]) (by rw [hl]; exact e2.symm))
theorem Mine.tmove (h : Mine s b) {p : List UInt8} (hp : p ≠ mineP) (q : List UInt8) : mineT ∈ (tMove s.T p q).2 := by
  by_cases h0 : (tMove s.T p q).1 = 0
  · obtain ⟨n, d, u, x, l, m, M⟩ := moved h.inv.tok h0
    rw [M.mv]
    refine mem_ren.2 ⟨mineT, h.th, ?_⟩
    rw [if_neg]
    intro e
    exact hp (h.only (by rw [M.lk]) (by rw [M.lk]; exact e.symm))
  · rw [move_stays h0]; exact h.th
set_option maxHeartbeats 4000000 in
theorem Mine.do_ (h : Mine s b) {c : Int} (hc : c ≠ 3) {o : Op} (hp : o.p ≠ mineP) (hI : PInv (psDo s c o).2) : Mine (psDo s c o).2 b := by
  refine ⟨hI, ?_, ?_, ?_⟩
  · unfold psDo
    repeat' split
    all_goals try exact h.th
    · unfold psMake; split <;> exact h.tmake _ _
    · unfold psRemove
      split
      · exact h.th
      · split
        · exact h.th
        · split <;> exact h.tremove hp _
    · exact h.tmove hp _
    · unfold psStat; split <;> exact h.th
    · unfold psOpen; split
      · exact h.th
      · split
        · exact h.th
        · split <;> exact h.th
    · unfold psRead; split
      · exact h.th
      · split <;> exact h.th
    · unfold psWrite; split
      · exact h.th
      · repeat' split
        all_goals exact h.th
    · unfold psTrunc; split
      · exact h.th
      · repeat' split
        all_goals exact h.th
    · unfold psSync; split <;> exact h.th
  · unfold psDo
    repeat' split
    all_goals try exact h.row
    · unfold psMake; split <;> exact h.row
    · unfold psRemove
      split
      · exact h.row
      · split
        · exact h.row
        · split <;> exact h.row
    · unfold psStat; split <;> exact h.row
    · unfold psOpen; split
      · exact h.row
      · split
        · exact h.row
        · split
          · rcases open_cases s.K c ((tLook s.T o.p).1 : Int) o.w with ⟨_, e⟩ | ⟨_, _, _, _, _, _, _, e⟩
            · show mineR ∈ (K.openR s.K c ((tLook s.T o.p).1 : Int) o.w).2.2
              rw [e]; exact h.row
            · show mineR ∈ (K.openR s.K c ((tLook s.T o.p).1 : Int) o.w).2.2
              rw [e]; exact ins_mem.2 (.inr h.row)
          · rcases open_cases s.K c ((tLook s.T o.p).1 : Int) o.w with ⟨_, e⟩ | ⟨_, _, _, _, _, _, _, e⟩
            · show mineR ∈ (K.openR s.K c ((tLook s.T o.p).1 : Int) o.w).2.2
              rw [e]; exact h.row
            · show mineR ∈ (K.openR s.K c ((tLook s.T o.p).1 : Int) o.w).2.2
              rw [e]; exact ins_mem.2 (.inr h.row)
    · unfold psRead; split
      · exact h.row
      · split <;> exact h.row
    · unfold psWrite; split
      · exact h.row
      · repeat' split
        all_goals exact h.row
    · unfold psTrunc; split
      · exact h.row
      · repeat' split
        all_goals exact h.row
    · unfold psSync; split
      · exact h.row
      · rename_i r hf
        simp only
        split
        · refine close_mem.2 ⟨h.row, fun e => ?_⟩
          have := (find_mem hf).2.1
          rw [← e] at this
          exact hc this.symm
        · exact h.row
  · have hk : ∀ (l : List UInt8) (y : Int), upd s.O (c, y) l (3, 0) = some b := fun l y => by
      unfold upd
      rw [if_neg (by intro e; exact hc (Prod.mk.inj e).1.symm)]
      exact h.own
    have hd : ∀ (y : Int), del s.O (c, y) (3, 0) = some b := fun y => by
      unfold del
      rw [if_neg (by intro e; exact hc (Prod.mk.inj e).1.symm)]
      exact h.own
    unfold psDo
    repeat' split
    all_goals try exact h.own
    · unfold psMake; split <;> exact h.own
    · unfold psRemove
      split
      · exact h.own
      · split
        · exact h.own
        · split <;> exact h.own
    · unfold psStat; split <;> exact h.own
    · unfold psOpen; split
      · exact h.own
      · split
        · exact h.own
        · split
          · exact h.own
          · simp only
            split
            · exact hk _ _
            · exact h.own
    · unfold psRead; split
      · exact h.own
      · split <;> exact h.own
    · unfold psWrite; split
      · exact h.own
      · repeat' split
        all_goals first | exact h.own | exact hk _ _
    · unfold psTrunc; split
      · exact h.own
      · repeat' split
        all_goals first | exact h.own | exact hk _ _
    · unfold psSync; split
      · exact h.own
      · simp only
        split
        · exact hd _
        · exact h.own
theorem Mine.deed (h : Mine s b) {d : Dd} (hc : d.c ≠ 3) (hp : d.o.p ≠ mineP) (hI : PInv (psDeed s d).2) : Mine (psDeed s d).2 b := by
  unfold psDeed at hI ⊢
  split
  · rename_i h0
    rw [if_pos h0] at hI
    refine ⟨hI, h.th, keep_mem.2 ⟨h.row, ?_⟩, ?_⟩
    · rw [beq_eq_false_iff_ne]
      exact fun e => hc e.symm
    · unfold psCrash
      simp only
      rw [if_neg (fun e => hc e.symm)]
      exact h.own
  · rename_i h0
    rw [if_neg h0] at hI
    exact h.do_ hc hp hI
end Go.Proofs.Ytaophafailmhjaa.W

/- PlainTwo: the beginning and the end, plainly. -/
namespace Go.Proofs.Ytaophafailmhjaa.W
open Go.Proofs.Ytaophafailmhjaa.NM
set_option linter.unusedVariables false
set_option linter.unusedSimpArgs false

def tMk : Op := ⟨1, mineP, [], 0, 0, 0, false, []⟩
def tOp : Op := ⟨8, mineP, [], 0, 0, 0, true, []⟩
def tMv : Op := ⟨5, mineP, movedP, 0, 0, 0, false, []⟩
def tCl : Op := ⟨13, [], [], 0, 0, 0, false, []⟩
def tSt (p : List UInt8) : Op := ⟨6, p, [], 0, 0, 0, false, []⟩
def tw1 : Ans × PS := psDo PS.new 3 tMk
def tw2 : Ans × PS := psDo tw1.2 3 tOp
theorem tw1_i : tw1.1.ino = 2 := by kernel_rfl
theorem tw2_T : tw2.2.T = [mineT] := by kernel_rfl
theorem tw2_K : tw2.2.K = [mineR] := by kernel_rfl
theorem tw2_O : tw2.2.O (3, 0) = some [] := by kernel_rfl
structure TwoRun (r1 r2 : Ans × PS) : Prop where
  h1 : psDo PS.new 3 tMk = r1
  h2 : psDo r1.2 3 tOp = r2
  i1 : r1.1.ino = 2
  T2 : r2.2.T = [mineT]
  K2 : r2.2.K = [mineR]
  O2 : r2.2.O (3, 0) = some []
theorem two_run : ∃ r1 r2, TwoRun r1 r2 := ⟨tw1, tw2, rfl, rfl, tw1_i, tw2_T, tw2_K, tw2_O⟩
variable {s : PS} {b : List UInt8}
theorem mine_write (hT : s.T = [mineT]) (hK : s.K = [mineR]) (hO : s.O (3, 0) = some []) (hb : b.length ≤ 400) (hI : PInv (psDo s 3 (oWrite 0 b)).2) : Mine (psDo s 3 (oWrite 0 b)).2 b := by
  have hf : K.find s.K 3 0 = some mineR := by rw [hK]; rfl
  have hs : psSees s mineR = [] := by
    unfold psSees
    rw [if_pos (show mineR.b = true from rfl)]
    show ofO (s.O (3, 0)) = []
    rw [hO]; rfl
  have e : psDo s 3 (oWrite 0 b) = if b = [] then (no 0, s) else (no 0, { s with O := upd s.O (3, 0) (writeB [] 0 b) }) := by
    unfold psDo
    rw [if_neg (by unfold oWrite; simp), if_neg (by unfold oWrite; simp), if_neg (by unfold oWrite; simp), if_neg (by unfold oWrite; simp), if_neg (by unfold oWrite; simp), if_neg (by unfold oWrite; simp), if_neg (by unfold oWrite; simp), if_neg (by unfold oWrite; simp), if_pos (by unfold oWrite; simp)]
    unfold psWrite
    show (match K.find s.K 3 0 with | none => _ | some r => _) = _
    rw [hf]
    simp only
    rw [if_neg (by simp [mineR]), if_neg (by unfold oWrite; simp), if_neg (by unfold oWrite; simp only; omega), hs]
    unfold oWrite
    rfl
  have hw : b ≠ [] → writeB [] 0 b = b := fun hn => by
    have := write_nil b
    rwa [if_neg hn] at this
  rw [e] at hI ⊢
  split
  · rename_i h0
    rw [if_pos h0] at hI
    exact ⟨hI, by rw [hT]; simp, by rw [hK]; simp, by rw [h0]; exact hO⟩
  · rename_i h0
    rw [if_neg h0] at hI
    exact ⟨hI, by rw [hT]; simp, by rw [hK]; simp, by simp [upd, hw h0]⟩
theorem do_mv3 (s : PS) : psDo s 3 tMv = psRename s tMv := by unfold psDo; simp [tMv]
/-- Behind the move: where it lies. -/
structure Here (s : PS) (b : List UInt8) (p : List UInt8) (x : Th) (l : List (List UInt8)) : Prop where
  tok : TOk s.T
  at_ : FileAt s.T p x l
  ino : x.ino = 2
  row : K.find s.K 3 0 = some mineR
  own : s.O (3, 0) = some b
theorem Mine.move (h : Mine s b) (hT : TOk (psDo s 3 tMv).2.T) : ∃ x l, Here (psDo s 3 tMv).2 b (if (psDo s 3 tMv).1.e = 0 then movedP else mineP) x l := by
  rw [do_mv3] at hT ⊢
  unfold psRename at hT ⊢
  have hp : tMv.p = mineP := rfl
  have hq : tMv.q = movedP := rfl
  rw [hp, hq] at hT ⊢
  have hf : K.find s.K 3 0 = some mineR := find_of_mem h.inv.good h.row
  by_cases h0 : (tMove s.T mineP movedP).1 = 0
  · obtain ⟨y, m, h1, h2, _⟩ := h.file.goes h.inv.tok h0
    rw [if_pos (show (no (tMove s.T mineP movedP).1).e = 0 from h0)]
    exact ⟨y, m, hT, h1, h2, hf, h.own⟩
  · rw [if_neg (show ¬ (no (tMove s.T mineP movedP).1).e = 0 from h0)]
    have := move_stays h0
    rw [this] at hT ⊢
    exact ⟨mineT, [], hT, h.file, rfl, hf, h.own⟩
theorem Here.close {p : List UInt8} {x : Th} {l : List (List UInt8)} (h : Here s b p x l) : (psDo s 3 tCl).2.T = s.T ∧ (psDo s 3 tCl).2.F 2 = some b := by
  have e : psDo s 3 tCl = psSync s 3 tCl := by unfold psDo; simp [tCl]
  rw [e]
  unfold psSync
  rw [show K.find s.K 3 tCl.h = some mineR from h.row]
  refine ⟨rfl, ?_⟩
  show (if mineR.b = true then upd s.F mineR.i (psSees s mineR) else s.F) 2 = some b
  rw [if_pos (show mineR.b = true from rfl)]
  show upd s.F 2 (psSees s mineR) 2 = some b
  unfold psSees upd
  rw [if_pos rfl, if_pos (show mineR.b = true from rfl)]
  show some (ofO (s.O (3, 0))) = some b
  rw [h.own]; rfl
theorem Here.stat {p : List UInt8} {x : Th} {l : List (List UInt8)} (h : Here s b p x l) {s' : PS} (hT : s'.T = s.T) (hF : s'.F 2 = some b) : (psDo s' 3 (tSt p)).1.ino = 2 ∧ (psDo s' 3 (tSt p)).1.size = b.length := by
  have e : psDo s' 3 (tSt p) = psStat s' (tSt p) := by unfold psDo; simp [tSt]
  rw [e]
  unfold psStat
  rw [show (tSt p).p = p from rfl, hT, h.at_.look h.tok, h.ino]
  simp only
  rw [if_neg (by simp)]
  exact ⟨rfl, by show (ofO (s'.F 2)).length = _; rw [hF]; rfl⟩
end Go.Proofs.Ytaophafailmhjaa.W

/- PlainTwo: the walk. -/
namespace Go.Proofs.Ytaophafailmhjaa.W
open Go.RowKit
open Go.Proofs.Ytaophafailmhjaa.NM
set_option linter.unusedVariables false
set_option linter.unusedSimpArgs false

set_option maxHeartbeats 4000000 in
set_option maxRecDepth 100000 in
theorem two26_any (a0 : Option Addr) (n cap : Nat) (f : Nat → Dd) (vb : Value) (B : List UInt8) (w : World) (hd : DeedsAt w a0 n f) (hn : n ≤ maxLen) (hB : BytesAt w vb B) : Calls Try.prog 5 #[.slice a0 n cap, vb] w fun e w' => e = .returned (.bool true) ∧ Chg [] w w' := by
  have CA := Lib.hid (awake26_any w)
  have HD := Lib.hid hd
  have HN := Lib.hid hn
  have HBB := Lib.hid hB
  obtain ⟨ab, cb, rfl⟩ := hB.slice
  have hcapb : B.length ≤ 9223372036854775807 := by
    obtain ⟨a', c', he, h1, h2, _⟩ := hB
    unfold maxLen at h2
    omega
  clear hB
  have CR := Lib.hid (fun (W : World) (hW : Chg [] w W) => room_any a0 n cap f 40 W (HD.out.keep hW) HN.out)
  clear hd
  have hbegin : (roomB n f 40 = false ∨ roomB n f 40 = true ∧ ¬ B.length ≤ 400) ∨ (roomB n f 40 = true ∧ B.length ≤ 400) := by
    cases roomB n f 40 with
    | false => exact .inl (.inl rfl)
    | true => exact (Classical.em (B.length ≤ 400)).elim (fun h => .inr ⟨rfl, h⟩) (fun h => .inl (.inr ⟨rfl, h⟩))
  rcases hbegin with hno | ⟨hroom, hB4⟩
  · rcases hno with hroom | ⟨hroom, hB4⟩
    all_goals
      rw [hroom] at CR
      clear hroom
      go_enter Try.func5, Try.ntmps5
      go_wp2_with fail
      refine CA.out.mono ?_
      rintro e w1 ⟨rfl, hc1⟩
      have HC1 := Lib.hid hc1
      clear hc1
      go_wp2_with fail
      refine (CR.out w1 HC1.out).mono ?_
      rintro e w2 ⟨rfl, hq⟩
      subst hq
      go_wp2
      go_ret
      exact ⟨rfl, HC1.out⟩
  · rw [hroom] at CR
    have HR := Lib.hid (room_true hroom)
    clear hroom
    obtain ⟨r1, r2, hrun⟩ := two_run
    have HRN := Lib.hid hrun
    clear hrun
    go_enter Try.func5, Try.ntmps5
    go_wp2_with fail
    refine CA.out.mono ?_
    rintro e w1 ⟨rfl, hc1⟩
    have HC1 := Lib.hid hc1
    clear hc1
    go_wp2_with fail
    refine (CR.out w1 HC1.out).mono ?_
    rintro e w2 ⟨rfl, hq⟩
    subst hq
    have CN := Lib.hid (lnew_any HC1.out)
    go_wp2_with fail
    refine CN.out.mono ?_
    rintro e w3 ⟨c, rfl, h3⟩
    have C4 := Lib.hid (ldo_any h3 3 tMk (.slice none 0 0) (BytesAt.nil _) (by decide) (Nat.zero_le _) r1 HRN.out.h1)
    clear h3 CN CR CA HC1
    go_wp2_with fail
    refine C4.out.mono ?_
    rintro e w4 ⟨xb4, nb4, cb4, xl4, nl4, cl4, rfl, _, h4⟩
    have h4 := (h4.ans (ansC r1.1 (.slice xb4 nb4 cb4) (.slice xl4 nl4 cl4))).less (B' := []) (fun p hp => hp) (by simp)
    have C5 := Lib.hid (ldo_any h4 3 tOp (.slice none 0 0) (BytesAt.nil _) (by decide) (Nat.zero_le _) r2 HRN.out.h2)
    clear h4 C4
    go_wp2_with fail
    refine C5.out.mono ?_
    rintro e w5 ⟨xb5, nb5, cb5, xl5, nl5, cl5, rfl, _, h5⟩
    have h5 := h5.less (B' := []) (fun p hp => hp) (by simp)
    obtain ⟨r3, hr3⟩ : ∃ r3, psDo r2.2 3 (oWrite 0 B) = r3 := ⟨_, rfl⟩
    have C6 := Lib.hid (ldo_any h5 3 (oWrite 0 B) _ (HBB.out.chg0 h5.chg) (Nat.zero_le _) (Nat.zero_le _) r3 hr3)
    have HM : Hid (PInv r3.2 → Mine r3.2 B) := Lib.hid (fun hI => by subst hr3; exact mine_write HRN.out.T2 HRN.out.K2 HRN.out.O2 hB4 hI)
    clear h5 C5 hr3
    go_wp2_with fail
    refine C6.out.mono ?_
    rintro e w6 ⟨xb6, nb6, cb6, xl6, nl6, cl6, rfl, _, h6⟩
    have h6 := h6.less (B' := []) (fun p hp => hp) (by simp)
    have H6 := Lib.hid h6
    have HM6 := Lib.hid (HM.out h6.own.inv)
    clear h6 C6 HM
    have hn60 : (n : Int) ≤ 40 := HR.out.1
    obtain ⟨A4, hA4⟩ : ∃ A4, A4 = ansC r1.1 (.slice xb4 nb4 cb4) (.slice xl4 nl4 cl4) := ⟨_, rfl⟩
    have HA4 := Lib.hid hA4
    rw [← hA4] at H6
    clear hA4
    go_wp2
    go_loopg [7] n (fun g' s7 wr => ∃ (j : Nat) (s : PS), s7 = .int .i64 j ∧ j ≤ n ∧ n ≤ j + g' ∧ Hid (Lives w wr c s [(w4.heap.size, A4)] []) ∧ Hid (Mine s B))
    case atStart => exact ⟨0, r3.2, rfl, by omega, by omega, H6, HM6⟩
    case round =>
      obtain ⟨j, s, rfl, hj, hjg, HS, HMS⟩ := hrel
      by_cases hlt : j < n
      · obtain ⟨g, o, rfl, hdd⟩ : ∃ g o, a0 = some ⟨g, o, none⟩ ∧ DeedAt wr g (o + j * 9) (f j) := by
          rcases HD.out.keep HS.out.chg with h0 | ⟨g, o, h1, h2⟩
          · omega
          · exact ⟨g, o, h1, h2 j hlt⟩
        have hrp := Lib.hid (HR.out.2 j hlt)
        have hjz : (j : Int) < (n : Int) := by omega
        generalize f j = d at hdd hrp
        obtain ⟨q0, q1, q2, q3, q4, q5, q6, q7, q8, qb, _⟩ := hdd
        obtain ⟨av, cv, hav⟩ := qb.1.slice
        have CD := Lib.hid (ldeed_any HS.out d qb.1 (by have := hrp.out.1; omega) (by have := hrp.out.2.1; omega) _ rfl)
        rw [hav] at q8 CD
        have HME : Hid (d.c ≠ 3 → d.o.p ≠ mineP → PInv (psDeed s d).2 → Mine (psDeed s d).2 B) := Lib.hid (fun h1 h2 h3 => HMS.out.deed h1 h2 h3)
        obtain ⟨S1, hS1⟩ : ∃ S1, psDeed s d = S1 := ⟨_, rfl⟩
        rw [hS1] at CD HME
        clear qb hav hrp hS1
        cases hc3 : (d.c != 3) with
        | false =>
          clear q1 q4 q5 q6 q7 q8 CD HME
          go_wp2
          go_roundg (gk - 1)
          case measure => omega
          case rel => exact ⟨j + 1, s, by go_num, by omega, by omega, HS, HMS⟩
        | true =>
          cases hp3 : (d.o.p == [47, 109, 105, 110, 101]) with
          | true =>
            clear q1 q4 q5 q6 q7 q8 CD HME
            go_wp2
            go_roundg (gk - 1)
            case measure => omega
            case rel => exact ⟨j + 1, s, by go_num, by omega, by omega, HS, HMS⟩
          | false =>
            cases hq3 : (d.o.q == [47, 109, 105, 110, 101]) with
            | true =>
              clear q1 q4 q5 q6 q7 q8 CD HME
              go_wp2
              go_roundg (gk - 1)
              case measure => omega
              case rel => exact ⟨j + 1, s, by go_num, by omega, by omega, HS, HMS⟩
            | false =>
              have HME2 := Lib.hid (HME.out (by simpa using hc3) (by simpa [mineP] using hp3))
              clear HME
              go_wp2_with fail
              refine CD.out.mono ?_
              rintro e w7 ⟨xb, nb, cb', xl, nl, cl, rfl, h7⟩
              have h7 := Lib.hid (h7.less (B' := []) (fun p hp => hp) (by simp))
              have HM7 := Lib.hid (HME2.out h7.out.own.inv)
              clear CD q0 q1 q2 q3 q4 q5 q6 q7 q8
              go_wp2
              go_roundg (gk - 1)
              case measure => omega
              case rel => exact ⟨j + 1, S1.2, by go_num, by omega, by omega, h7, HM7⟩
      · obtain ⟨m1, hm1⟩ : ∃ m1, psDo s 3 tMv = m1 := ⟨_, rfl⟩
        have C8 := Lib.hid (ldo_any HS.out 3 tMv (.slice none 0 0) (BytesAt.nil _) (by decide) (by decide) m1 hm1)
        have HMV : Hid (TOk m1.2.T → ∃ x l, Here m1.2 B (if m1.1.e = 0 then movedP else mineP) x l) := Lib.hid (fun hT => by subst hm1; exact HMS.out.move hT)
        have HI1 := Lib.hid HRN.out.i1
        clear hm1
        go_wp2_with fail
        refine C8.out.mono ?_
        rintro e w8 ⟨xb8, nb8, cb8, xl8, nl8, cl8, rfl, _, h8⟩
        obtain ⟨⟨e8, i8, d8, z8, t8, b8, l8⟩, s8⟩ := m1
        dsimp only at h8 HMV ⊢
        have HH := Lib.hid (HMV.out h8.own.inv.tok)
        have h8 := (h8.ans #[.int .i64 e8, .int .i64 i8, .bool d8, .int .i64 (z8 : Int), .int .i64 t8, .slice xb8 nb8 cb8, .slice xl8 nl8 cl8]).less (B' := []) (fun p hp => hp) (by simp)
        obtain ⟨m2, hm2⟩ : ∃ m2, psDo s8 3 tCl = m2 := ⟨_, rfl⟩
        have C9 := Lib.hid (ldo_any h8 3 tCl (.slice none 0 0) (BytesAt.nil _) (by decide) (by decide) m2 hm2)
        have HCL : Hid (m2.2.T = s8.T ∧ m2.2.F 2 = some B) := Lib.hid (by subst hm2; obtain ⟨x, l, hh⟩ := HH.out; exact hh.close)
        clear h8 C8 HMV hm2
        go_wp2_with fail
        refine C9.out.mono ?_
        rintro e w9 ⟨xb9, nb9, cb9, xl9, nl9, cl9, rfl, _, h9⟩
        have h9 := h9.less (B' := []) (fun p hp => hp) (by simp)
        have H9 := Lib.hid h9
        have M4 := h9.mem (w4.heap.size, _) (.tail _ (.head _))
        have M8 := h9.mem (w8.heap.size, _) (.head _)
        dsimp only at M4 M8
        rw [HA4.out] at M4
        unfold ansC at M4
        rw [HI1.out] at M4
        obtain ⟨⟨_, p4, _⟩, _⟩ := ans_cells M4
        obtain ⟨⟨p8, _⟩, _⟩ := ans_cells M8
        have CF := Lib.hid (lfile_any h9 2 (okI_of (by omega) (by omega)) _ HCL.out.2)
        clear h9 C9 M4 M8
        go_wp2_with fail
        refine CF.out.mono ?_
        rintro e w10 ⟨x10, k10, rfl, h10⟩
        have hof : (some B).isSome = true := rfl
        have M4 := h10.mem (w4.heap.size, _) (.tail _ (.head _))
        have M8 := h10.mem (w8.heap.size, _) (.head _)
        dsimp only at M4 M8
        rw [HA4.out] at M4
        unfold ansC at M4
        rw [HI1.out] at M4
        obtain ⟨⟨_, p4, _⟩, _⟩ := ans_cells M4
        obtain ⟨⟨p8, _⟩, _⟩ := ans_cells M8
        have H10 := Lib.hid h10
        clear h10 M4 M8 CF
        by_cases he8 : e8 = 0
        · have HX := HH.out
          rw [if_pos he8] at HX
          obtain ⟨x, l, hh⟩ := HX
          subst he8
          obtain ⟨m3, hm3⟩ : ∃ m3, psDo m2.2 3 (tSt movedP) = m3 := ⟨_, rfl⟩
          have hst := hh.stat HCL.out.1 HCL.out.2
          rw [hm3] at hst
          have C11 := Lib.hid (ldo_any H10.out 3 (tSt movedP) (.slice none 0 0) (BytesAt.nil _) (by decide) (by decide) m3 hm3)
          clear hm3
          obtain ⟨⟨e3, i3, d3, z3, t3, b3, l3⟩, s3⟩ := m3
          dsimp only at hst
          obtain ⟨rfl, rfl⟩ := hst
          go_wp2_with fail
          refine C11.out.mono ?_
          rintro e w11 ⟨xb11, nb11, cb11, xl11, nl11, cl11, rfl, _, h11⟩
          dsimp only at h11 ⊢
          have h11 := (h11.ans #[.int .i64 e3, .int .i64 2, .bool d3, .int .i64 (B.length : Int), .int .i64 t3, .slice xb11 nb11 cb11, .slice xl11 nl11 cl11]).less (B' := [(.slice x10 B.length k10, B)]) (fun p hp => hp) (by simp [ofO])
          have CS := Lib.hid (same_any _ _ B B _ (h11.byt _ (List.mem_singleton_self _)) (HBB.out.chg0 h11.chg) (by omega) (by omega))
          rw [decide_eq_true rfl] at CS
          have H11 := Lib.hid h11
          clear h11 C11 p4 p8
          go_wp2_with fail
          refine CS.out.mono ?_
          rintro e w12 ⟨rfl, n12, hq12⟩
          have h12 := H11.out.keep0 (show Chg [] _ w12 by rw [hq12]; exact Chg.drewN (Chg.refl [] _) n12)
          have M11 := h12.mem (w11.heap.size, _) (.head _)
          have M4 := h12.mem (w4.heap.size, _) (.tail _ (.tail _ (.head _)))
          dsimp only at M4 M11
          rw [HA4.out] at M4
          unfold ansC at M4
          rw [HI1.out] at M4
          obtain ⟨⟨_, p4, _⟩, _⟩ := ans_cells M4
          obtain ⟨⟨_, p11, _, p113, _⟩, _⟩ := ans_cells M11
          have HE := Lib.hid h12.chg
          clear h12 M4 M11 hq12 CS
          go_wp2
          go_ret
          exact ⟨rfl, HE.out⟩
        · have HX := HH.out
          rw [if_neg he8] at HX
          obtain ⟨x, l, hh⟩ := HX
          obtain ⟨m3, hm3⟩ : ∃ m3, psDo m2.2 3 (tSt mineP) = m3 := ⟨_, rfl⟩
          have hst := hh.stat HCL.out.1 HCL.out.2
          rw [hm3] at hst
          have C11 := Lib.hid (ldo_any H10.out 3 (tSt mineP) (.slice none 0 0) (BytesAt.nil _) (by decide) (by decide) m3 hm3)
          clear hm3
          obtain ⟨⟨e3, i3, d3, z3, t3, b3, l3⟩, s3⟩ := m3
          dsimp only at hst
          obtain ⟨rfl, rfl⟩ := hst
          go_wp2_with fail
          refine C11.out.mono ?_
          rintro e w11 ⟨xb11, nb11, cb11, xl11, nl11, cl11, rfl, _, h11⟩
          dsimp only at h11 ⊢
          have h11 := (h11.ans #[.int .i64 e3, .int .i64 2, .bool d3, .int .i64 (B.length : Int), .int .i64 t3, .slice xb11 nb11 cb11, .slice xl11 nl11 cl11]).less (B' := [(.slice x10 B.length k10, B)]) (fun p hp => hp) (by simp [ofO])
          have CS := Lib.hid (same_any _ _ B B _ (h11.byt _ (List.mem_singleton_self _)) (HBB.out.chg0 h11.chg) (by omega) (by omega))
          rw [decide_eq_true rfl] at CS
          have H11 := Lib.hid h11
          clear h11 C11 p4 p8
          go_wp2_with fail
          refine CS.out.mono ?_
          rintro e w12 ⟨rfl, n12, hq12⟩
          have h12 := H11.out.keep0 (show Chg [] _ w12 by rw [hq12]; exact Chg.drewN (Chg.refl [] _) n12)
          have M11 := h12.mem (w11.heap.size, _) (.head _)
          have M4 := h12.mem (w4.heap.size, _) (.tail _ (.tail _ (.head _)))
          dsimp only at M4 M11
          rw [HA4.out] at M4
          unfold ansC at M4
          rw [HI1.out] at M4
          obtain ⟨⟨_, p4, _⟩, _⟩ := ans_cells M4
          obtain ⟨⟨_, p11, _, p113, _⟩, _⟩ := ans_cells M11
          have HE := Lib.hid h12.chg
          clear h12 M4 M11 hq12 CS
          go_wp2
          go_ret
          exact ⟨rfl, HE.out⟩
end Go.Proofs.Ytaophafailmhjaa.W

/- PlainTwo: what the row asks. -/
namespace Go.Proofs.Ytaophafailmhjaa.plainTwo
open Go.RowKit
set_option linter.unusedVariables false
theorem walk (a0 : Option Addr) (len0 cap0 : Nat) (f0 : Nat → Go.Proofs.Ytaophafailmhjaa.W.Dd) (a1 : Option Addr) (len1 cap1 : Nat) (z1 : List Int) (W : World) (w0 : len0 ≤ maxLen ∧ Go.Proofs.Ytaophafailmhjaa.W.DeedsAt W a0 len0 f0) (w1 : IsRow .u8 W a1 len1 cap1 z1) :
    Calls Try.prog 5 #[.slice a0 len0 cap0, .slice a1 len1 cap1] W fun e w' => e = .returned (.bool true) ∧ Below W.heap.size W w' := by
  obtain ⟨l1, h1, _, hc1, _⟩ := Go.Proofs.Ytaophafailmhjaa.W.IsRow.came w1
  exact (Go.Proofs.Ytaophafailmhjaa.W.two26_any a0 len0 cap0 f0 _ l1 W w0.2 w0.1 hc1).mono fun e w' ⟨h1, h2⟩ => ⟨h1, h2.below (by simp)⟩
end Go.Proofs.Ytaophafailmhjaa.plainTwo
