/- Texts laid together. -/
import Derived.Test.YtaophafailmhjaaBP7
import Derived.Test.YtaophafailmhjaaBP2
import Derived.Deep.RegionHeld3
/- A deed: an operation, or a crash. -/
namespace Go.Proofs.Ytaophafailmhjaa.W
open Go.RowKit
open Go.Proofs.Ytaophafailmhjaa.NM
set_option linter.unusedVariables false
set_option linter.unusedSimpArgs false

def psDeed (s : PS) (d : Dd) : (Ans × Int) × PS := if d.o.d = 0 then ((no 0, (psCrash s d.c).1), (psCrash s d.c).2) else (((psDo s d.c d.o).1, 0), (psDo s d.c d.o).2)
theorem PInv.deed {s : PS} (h : PInv s) (hT : ∀ a o, TOk (psDo s a o).2.T) (d : Dd) : PInv (psDeed s d).2 := by
  unfold psDeed
  split
  · exact h.crash d.c
  · exact psDo_inv h d.c d.o (hT d.c d.o)
variable {w0 w w' : World} {c : PC} {s s' : PS} {L : List (Nat × Array Value)} {B : List (Value × List UInt8)}
theorem BytesAt.keepB {w w' : World} {U : List Nat} {v : Value} {l : List UInt8} (h : BytesAt w v l) (hc : Chg U w w') (hU : ∀ x ∈ U, NoBytes w x) : BytesAt w' v l := by
  refine h.keepL fun hl g hg => ?_
  obtain ⟨a, cap, rfl, h1, h2, h3⟩ := h
  rcases h3 with ⟨rfl, _⟩ | ⟨g', o, rfl, hcell⟩
  · exact absurd rfl hl
  · obtain rfl : g' = g := by simpa [Value.ownBlock] using hg
    have hc0 := hcell 0 (List.length_pos_iff.2 hl)
    exact hc.block g' (by simpa using World.block_lt_of_cell? w _ hc0) (fun hm => hU g' hm _ _ hc0)
theorem Lives.ans2 (h : Lives w0 w c s L B) (O : Obj) : Lives w0 ((w.alloc O).alloc (.cells zeroA 30)) c s ((w.heap.size + 1, zeroA) :: L) B := by
  have := (h.keep0 ((Chg.refl [] w).alloc O)).ans zeroA
  rwa [show (w.alloc O).heap.size = w.heap.size + 1 from Array.size_push ..] at this
/-- A block for an answer is laid. -/
theorem Lives.laid {g : Nat} (h : Lives w0 w c s ((g, zeroA) :: L) B) (hg : w0.heap.size ≤ g) (hL : ∀ p ∈ L, p.1 ≠ g) (u0 u1 u2 u3 u4 u5 u6 : Value) : Lives w0 (set7 w g u0 u1 u2 u3 u4 u5 u6) c s L B := by
  have hz : w.heap[g]? = some (.cells zeroA 30 (0, 0)) := h.mem _ (List.mem_cons_self ..)
  have hc := set7_chg w g u0 u1 u2 u3 u4 u5 u6
  have hn : ∀ x ∈ [g], NoBytes w x := fun x hx => by simp at hx; subst hx; exact zeroA_noBytes hz
  refine ⟨⟨(h.own.at_.keepB hc (fun x hx => ⟨by simp at hx; subst hx; simp, by simp at hx; subst hx; exact hg, hn x hx⟩)).mono (fun x hx => List.mem_cons_of_mem _ hx), h.own.inv⟩, fun p hp => hc.keep (h.mem p (List.mem_cons_of_mem _ hp)) (by simpa using hL p hp), fun q hq => (h.byt q hq).keepB hc hn⟩
theorem Lives.nilB (h : Lives w0 w c s L B) : Lives w0 w c s L ((.slice none 0 0, []) :: B) :=
  ⟨h.own.mono (fun g hg => by simpa [Value.ownBlock] using hg), h.mem, fun q hq => by
    rcases List.mem_cons.1 hq with rfl | hq
    · exact BytesAt.nil w
    · exact h.byt q hq⟩
def LDeedPost (w0 : World) (c : PC) (L : List (Nat × Array Value)) (B : List (Value × List UInt8)) (r : (Ans × Int) × PS) (e : Ending) (w' : World) : Prop :=
  ∃ xb nb cb xl nl cl, e = .returned (.tuple #[.agg #[.int .i64 r.1.1.e, .int .i64 r.1.1.ino, .bool r.1.1.dir, .int .i64 (r.1.1.size : Int), .int .i64 r.1.1.h, .slice xb nb cb, .slice xl nl cl], .int .i64 r.1.2]) ∧ Lives w0 w' c r.2 L ((.slice xb nb cb, r.1.1.b) :: B)
set_option maxHeartbeats 2000000 in
set_option maxRecDepth 100000 in
theorem ldeed_any (h : Lives w0 w c s L B) (d : Dd) (hv : BytesAt w d.v d.o.b) (hp : d.o.p.length ≤ 1000000) (hq : d.o.q.length ≤ 1000000) (r : (Ans × Int) × PS) (hr : psDeed s d = r) :
    Calls Try.prog 16 #[.pointer (some ⟨c.p, 0, none⟩), .agg #[.int .i64 d.c, .int .i64 d.o.d, .string (mk d.o.p), .string (mk d.o.q), .int .i64 d.o.h, .int .i64 d.o.i, .int .i64 d.o.n, .bool d.o.w, d.v]] w (LDeedPost w0 c L B r) := by
  obtain ⟨dc, ⟨od, op, oq, oh, oi, on, ow, ob⟩, v⟩ := d
  dsimp only at hv hp hq ⊢
  obtain ⟨av, cv, rfl⟩ := hv.slice
  by_cases hd : od = 0
  · subst hd
    have hr' : ((no 0, (psCrash s dc).1), (psCrash s dc).2) = r := hr
    clear hr
    obtain ⟨q, hqr⟩ : ∃ q, psCrash s dc = q := ⟨_, rfl⟩
    rw [hqr] at hr'
    subst hr'
    have hL : ∀ p ∈ L, p.1 ≠ w.heap.size + 1 := fun p hp e => by have := blk_lt (h.mem p hp); omega
    have hw0 : w0.heap.size ≤ w.heap.size + 1 := by have := h.chg.size; omega
    have CC := Lib.hid (lcrash_any (h.ans2 (.cells #[.int .i64 dc, .int .i64 0, .string (mk op), .string (mk oq), .int .i64 oh, .int .i64 oi, .int .i64 on, .bool ow, .slice av ob.length cv] 43 (0, 0))) dc q hqr)
    have HL := Lib.hid (And.intro hL hw0)
    clear h hqr hv hp hq hL hw0
    go_enter Try.func16, Try.ntmps16
    go_wp2_with fail
    refine CC.out.mono ?_
    rintro e w1 ⟨rfl, h1⟩
    have H1 := Lib.hid h1
    have hz := h1.mem (w.heap.size + 1, zeroA) (List.mem_cons_self ..)
    have HZ := Lib.hid hz
    unfold zeroA at hz
    obtain ⟨⟨b0, b1, b2, b3, b4, b5, b6⟩, f0, f1, f2, f3, f4, f5, f6⟩ := ans_cells hz
    have hlt := blk_lt hz
    clear h1 hz CC
    go_wp2
    have HF := H1.out.laid HL.out.2 HL.out.1 (.int .i64 0) (.int .i64 0) (.bool false) (.int .i64 0) (.int .i64 0) (.slice none 0 0) (.slice none 0 0)
    obtain ⟨⟨d0, d1, d2, d3, d4, d5, d6⟩, _⟩ := ans_cells (set7_heap HZ.out (u0 := .int .i64 0) (u1 := .int .i64 0) (u2 := .bool false) (u3 := .int .i64 0) (u4 := .int .i64 0) (u5 := .slice none 0 0) (u6 := .slice none 0 0))
    have HFF := Lib.hid HF
    clear HF
    unfold set7 at d0 d1 d2 d3 d4 d5 d6
    refine bodyPost_ret (v := .tuple #[.agg #[.int .i64 0, .int .i64 0, .bool false, .int .i64 0, .int .i64 0, .slice none 0 0, .slice none 0 0], .int .i64 q.1]) (by simp [results, Try.results16, go_sem, d0, d1, d2, d3, d4, d5, d6]) rfl ?_
    refine ⟨none, 0, 0, none, 0, 0, rfl, ?_⟩
    exact HFF.out.nilB
  · have hr' : (((psDo s dc ⟨od, op, oq, oh, oi, on, ow, ob⟩).1, 0), (psDo s dc ⟨od, op, oq, oh, oi, on, ow, ob⟩).2) = r := by rw [← hr]; unfold psDeed; rw [if_neg hd]
    clear hr
    obtain ⟨q, hqr⟩ : ∃ q, psDo s dc ⟨od, op, oq, oh, oi, on, ow, ob⟩ = q := ⟨_, rfl⟩
    rw [hqr] at hr'
    subst hr'
    have hL : ∀ p ∈ L, p.1 ≠ w.heap.size + 1 := fun p hp e => by have := blk_lt (h.mem p hp); omega
    have hw0 : w0.heap.size ≤ w.heap.size + 1 := by have := h.chg.size; omega
    have CC := Lib.hid (ldo_any (h.ans2 (.cells #[.int .i64 dc, .int .i64 od, .string (mk op), .string (mk oq), .int .i64 oh, .int .i64 oi, .int .i64 on, .bool ow, .slice av ob.length cv] 43 (0, 0))) dc ⟨od, op, oq, oh, oi, on, ow, ob⟩ _ (hv.chg0 (((Chg.refl [] w).alloc _).alloc _)) hp hq q hqr)
    have HL := Lib.hid (And.intro hL hw0)
    clear h hqr hv hp hq hL hw0
    go_enter Try.func16, Try.ntmps16
    go_wp2_with fail
    refine CC.out.mono ?_
    rintro e w1 ⟨xb, nb, cb, xl, nl, cl, rfl, _, h1⟩
    have H1 := Lib.hid h1
    have hz := h1.mem (w.heap.size + 1, zeroA) (List.mem_cons_self ..)
    have HZ := Lib.hid hz
    unfold zeroA at hz
    obtain ⟨⟨b0, b1, b2, b3, b4, b5, b6⟩, f0, f1, f2, f3, f4, f5, f6⟩ := ans_cells hz
    have hlt := blk_lt hz
    clear h1 hz CC
    go_wp2
    have HF := H1.out.laid HL.out.2 HL.out.1 (.int .i64 q.1.e) (.int .i64 q.1.ino) (.bool q.1.dir) (.int .i64 (q.1.size : Int)) (.int .i64 q.1.h) (.slice xb nb cb) (.slice xl nl cl)
    obtain ⟨⟨d0, d1, d2, d3, d4, d5, d6⟩, _⟩ := ans_cells (set7_heap HZ.out (u0 := .int .i64 q.1.e) (u1 := .int .i64 q.1.ino) (u2 := .bool q.1.dir) (u3 := .int .i64 (q.1.size : Int)) (u4 := .int .i64 q.1.h) (u5 := .slice xb nb cb) (u6 := .slice xl nl cl))
    have HFF := Lib.hid HF
    clear HF
    unfold set7 at d0 d1 d2 d3 d4 d5 d6
    refine bodyPost_ret (v := .tuple #[.agg #[.int .i64 q.1.e, .int .i64 q.1.ino, .bool q.1.dir, .int .i64 (q.1.size : Int), .int .i64 q.1.h, .slice xb nb cb, .slice xl nl cl], .int .i64 0]) (by simp [results, Try.results16, go_sem, d0, d1, d2, d3, d4, d5, d6]) rfl ?_
    exact ⟨xb, nb, cb, xl, nl, cl, rfl, HFF.out⟩
end Go.Proofs.Ytaophafailmhjaa.W

/- PlainHandles: the walk. -/
namespace Go.Proofs.Ytaophafailmhjaa.W
open Go.RowKit
open Go.Proofs.Ytaophafailmhjaa.NM
set_option linter.unusedVariables false
set_option linter.unusedSimpArgs false

theorem crash_count (s : PS) (a : Int) : (psCrash s a).1 = (K.cm s.K a s.K.length : Int) := by
  unfold psCrash K.cm K.keep
  simp only
  rw [List.take_of_length_le (Nat.le_refl _), ← List.countP_eq_length_filter]
  have := List.length_eq_countP_add_countP (fun r : K.TRow => r.c == a) (l := s.K)
  have e : List.countP (fun r : K.TRow => !(r.c == a)) s.K = List.countP (fun r : K.TRow => decide (¬ (r.c == a) = true)) s.K := List.countP_congr (fun x _ => by simp)
  omega
theorem crash_twice (s : PS) (a : Int) : (psCrash (psCrash s a).2 a).1 = 0 := by
  unfold psCrash K.keep
  simp only [List.filter_filter, Bool.and_self]
  omega
theorem crash_gone (s : PS) (a : Int) : ∀ r ∈ (psCrash s a).2.K, (r.c == a) = false := fun r hr => (keep_mem.1 hr).2
variable {w0 w w' : World} {c : PC} {s s' : PS} {L : List (Nat × Array Value)} {B : List (Value × List UInt8)}
def LTokPost (w0 w : World) (c : PC) (s : PS) (L : List (Nat × Array Value)) (B : List (Value × List UInt8)) (e : Ending) (w' : World) : Prop :=
  ∃ a k, e = .returned (.slice a s.K.length k) ∧ s.K.length ≤ k ∧ K.RowsAt w' w'.heap.size a s.K.length (fun i => s.K.getD i default) ∧ Lives w0 w' c s L B
theorem ltokens_any (h : Lives w0 w c s L B) : Calls Try.prog 17 #[.pointer (some ⟨c.p, 0, none⟩)] w (LTokPost w0 w c s L B) := by
  refine (ptokens_any h.own.at_ h.own.inv).mono ?_
  rintro e w' ⟨v, rfl, ho, hc⟩
  obtain ⟨a, k, rfl, hk, hr⟩ := K.own_rows ho
  exact ⟨a, k, rfl, hk, hr, h.keep0 hc⟩
theorem rows_at {w : World} {top g n i : Nat} {f : Nat → K.TRow} (h : K.RowsAt w top (some ⟨g, 0, none⟩) n f) (hi : i < n) : w.cell? ⟨g, i * 4, none⟩ = some (.int .i64 (f i).c) ∧ w.cell? ⟨g, i * 4 + 1, none⟩ = some (.int .i64 (f i).h) ∧ w.cell? ⟨g, i * 4 + 2, none⟩ = some (.int .i64 (f i).i) ∧ w.cell? ⟨g, i * 4 + 3, none⟩ = some (.bool (f i).b) := by
  rcases h with h0 | ⟨g', h1, h2, h3⟩
  · omega
  · cases h1; exact h3 i hi
def LFilePost2 (w0 w : World) (c : PC) (s : PS) (L : List (Nat × Array Value)) (B : List (Value × List UInt8)) (l : Option (List UInt8)) (e : Ending) (w' : World) : Prop := ∃ x k, e = .returned (.tuple #[.slice x (ofO l).length k, .bool l.isSome]) ∧ Lives w0 w' c s L ((.slice x (ofO l).length k, ofO l) :: B) ∧ Chg [] w w'
theorem lfile2_any (h : Lives w0 w c s L B) (y : Int) (hy : okI y) (l : Option (List UInt8)) (hl : s.F y = l) : Calls Try.prog 13 #[.pointer (some ⟨c.p, 0, none⟩), .int .i64 y] w (LFilePost2 w0 w c s L B l) := by
  subst hl
  refine (pfile_any h.own.at_ h.own.inv y hy).mono ?_
  rintro e w' ⟨v, rfl, hb, hn, hc⟩
  obtain ⟨x, k, hv, _⟩ := id hb
  subst hv
  exact ⟨x, k, rfl, h.bytes hc _ _ hb hn, hc⟩
set_option maxHeartbeats 4000000 in
set_option maxRecDepth 100000 in
theorem handles26_any (a0 : Option Addr) (n cap : Nat) (f : Nat → Dd) (z : Int) (w : World) (hd : DeedsAt w a0 n f) (hn : n ≤ maxLen) : Calls Try.prog 7 #[.slice a0 n cap, .int .u8 z] w fun e w' => e = .returned (.bool true) ∧ Chg [] w w' := by
  have CA := Lib.hid (awake26_any w)
  have HD := Lib.hid hd
  have HN := Lib.hid hn
  clear hd
  cases hroom : roomB n f 60 with
  | false =>
    have CR := Lib.hid (fun (W : World) (hW : Chg [] w W) => room_any a0 n cap f 60 W (HD.out.keep hW) HN.out)
    rw [hroom] at CR
    clear hroom
    go_enter Try.func7, Try.ntmps7
    go_wp2_with fail
    refine CA.out.mono ?_
    rintro e w1 ⟨rfl, hc1⟩
    have HC1 := Lib.hid hc1
    clear hc1
    go_wp2_with fail
    refine (CR.out w1 HC1.out).mono ?_
    rintro e w2 ⟨rfl, hq⟩
    subst hq
    go_wp2
    go_ret
    exact ⟨rfl, HC1.out⟩
  | true =>
    have CR := Lib.hid (fun (W : World) (hW : Chg [] w W) => room_any a0 n cap f 60 W (HD.out.keep hW) HN.out)
    rw [hroom] at CR
    have HR := Lib.hid (room_true hroom)
    obtain ⟨ck, hck⟩ : ∃ ck, (wrap64 z).tmod 4 = ck := ⟨_, rfl⟩
    clear hroom
    go_enter Try.func7, Try.ntmps7
    go_wp2_with fail
    refine CA.out.mono ?_
    rintro e w1 ⟨rfl, hc1⟩
    have HC1 := Lib.hid hc1
    clear hc1
    go_wp2_with fail
    refine (CR.out w1 HC1.out).mono ?_
    rintro e w2 ⟨rfl, hq⟩
    subst hq
    have CN := Lib.hid (lnew_any HC1.out)
    go_wp2_with fail
    refine CN.out.mono ?_
    rintro e w3 ⟨c, rfl, h3⟩
    have H3 := Lib.hid h3
    clear h3 CN CR CA HC1
    have hn60 : (n : Int) ≤ 60 := HR.out.1
    go_wp2
    go_loopg [7, 8, 9, 10, 11, 12] n (fun g' s7 s8 s9 s10 s11 s12 wr => ∃ (j : Nat) (s : PS), s7 = .int .i64 j ∧ j ≤ n ∧ n ≤ j + g' ∧ Hid (Lives w wr c s [] []))
    case atStart => exact ⟨0, PS.new, rfl, by omega, by omega, H3⟩
    case round =>
      obtain ⟨j, s, rfl, hj, hjg, HS⟩ := hrel
      by_cases hlt : j < n
      · obtain ⟨g, o, rfl, hdd⟩ : ∃ g o, a0 = some ⟨g, o, none⟩ ∧ DeedAt wr g (o + j * 9) (f j) := by
          rcases HD.out.keep HS.out.chg with h0 | ⟨g, o, h1, h2⟩
          · omega
          · exact ⟨g, o, h1, h2 j hlt⟩
        have hrp := Lib.hid (HR.out.2 j hlt)
        have hjz : (j : Int) < (n : Int) := by omega
        generalize f j = d at hdd hrp
        obtain ⟨q0, q1, q2, q3, q4, q5, q6, q7, q8, qb, _⟩ := hdd
        obtain ⟨av, cv, hav⟩ := qb.1.slice
        have CD := Lib.hid (ldeed_any HS.out d qb.1 (by have := hrp.out.1; omega) (by have := hrp.out.2.1; omega) _ rfl)
        rw [hav] at q8 CD
        clear qb hav hrp
        go_wp2_with fail
        refine CD.out.mono ?_
        rintro e w5 ⟨xb, nb, cb, xl, nl, cl, rfl, h5⟩
        have h5 := h5.less (L' := []) (B' := []) (by simp) (by simp)
        generalize (psDeed s d).2 = s1 at h5
        have CT := Lib.hid (ltokens_any h5)
        clear h5 CD q0 q1 q2 q3 q4 q5 q6 q7 q8
        go_wp2_with fail
        refine CT.out.mono ?_
        rintro e w6 ⟨a8, k8, rfl, hk8, hr8, h6⟩
        have HR8 := Lib.hid hr8
        have H6 := Lib.hid h6
        have HI := Lib.hid h6.own.inv
        have hl16 : s1.K.length ≤ 16 := good_few HI.out.good
        clear hr8 h6 CT
        go_wp2
        obtain ⟨gko, rfl⟩ : ∃ gko : Nat, gko = gk := ⟨_, rfl⟩
        go_loopg [9, 10, 11, 12] s1.K.length (fun g' s9 s10 s11 s12 wr => ∃ (p : Nat), s9 = .int .i64 p ∧ p ≤ s1.K.length ∧ s1.K.length ≤ p + g' ∧ Hid (Lives w wr c s1 [] [] ∧ Chg [] w6 wr))
        case atStart => exact ⟨0, rfl, by omega, by omega, H6.out, Chg.refl [] w6⟩
        case round =>
          obtain ⟨p, rfl, hp, hpg, HP⟩ := hrel
          by_cases hpl : p < s1.K.length
          · obtain ⟨g5, rfl, hg5⟩ : ∃ g5, a8 = some ⟨g5, 0, none⟩ ∧ g5 < w6.heap.size := by
              rcases HR8.out with h0 | ⟨g5, h1, h2, _⟩
              · omega
              · exact ⟨g5, h1, h2⟩
            obtain ⟨rp, hrp⟩ : ∃ rp, s1.K.getD p default = rp := ⟨_, rfl⟩
            have hrm : rp ∈ s1.K := by rw [← hrp, K.getD_getElem _ p hpl]; exact List.getElem_mem hpl
            have HRP := Lib.hid hrp
            have hFs := HI.out.rows rp hrm
            have hFi := HI.out.ino hFs
            obtain ⟨fl, hfl⟩ := Option.isSome_iff_exists.1 hFs
            have HRR : Hid (∀ W, Chg [] w6 W → K.RowsAt W w6.heap.size (some ⟨g5, 0, none⟩) s1.K.length (fun i => s1.K.getD i default)) := Lib.hid (fun W hW => HR8.out.below (hW.below (by simp)))
            obtain ⟨a0', a1, a2, a3⟩ := rows_at (HRR.out wr HP.out.2) hpl
            simp only [hrp] at a0' a1 a2 a3
            have CF := Lib.hid (lfile2_any HP.out.1 rp.i (okI_of (by omega) (by omega)) _ hfl)
            have hpz : (p : Int) < (s1.K.length : Int) := by omega
            have hpz1 : (p : Int).toNat = p := by omega
            clear hrp hrm hFs hFi hfl a0' a1 a3
            go_wp2_with fail
            refine CF.out.mono ?_
            rintro e w7 ⟨x7, k7, rfl, h7, hc7⟩
            have H7 := Lib.hid (h7.less (L' := []) (B' := []) (by simp) (by simp))
            have HC7 := Lib.hid (HP.out.2.trans hc7 (by simp))
            have HRW := Lib.hid (HRR.out w7 HC7.out)
            have hof : (some fl).isSome = true := rfl
            obtain ⟨a0', a1, a2, a3⟩ := rows_at HRW.out hpl
            simp only [HRP.out] at a0' a1 a2 a3
            clear h7 hc7 CF a0' a1
            go_wp2
            obtain ⟨gko2, rfl⟩ : ∃ gko2 : Nat, gko2 = gk := ⟨_, rfl⟩
            go_loopg [12] s1.K.length (fun g' s12 wr => ∃ (q m : Nat), s12 = .int .i64 q ∧ q ≤ p ∧ p ≤ q + g' ∧ wr = w7.drewN m)
            case atStart => exact ⟨0, 0, rfl, by omega, by omega, rfl⟩
            case round =>
              obtain ⟨q, m, rfl, hq, hqg, rfl⟩ := hrel
              by_cases hqp : q < p
              · obtain ⟨rq, hrq⟩ : ∃ rq, s1.K.getD q default = rq := ⟨_, rfl⟩
                obtain ⟨b0, b1, b2, b3⟩ := rows_at HRW.out (i := q) (by omega)
                simp only [hrq] at b0 b1 b2 b3
                have hqz : (q : Int) < (p : Int) := by omega
                have hqz1 : (q : Int).toNat = q := by omega
                have hql : (q : Int) < (s1.K.length : Int) := by omega
                have hfacts : (rp.i == rq.i) = false ∨ ((rp.i == rq.i) = true ∧ rp.b = false ∧ rq.b = false) := by
                  have hg := (HI.out.good.pair p q hpl (by omega) (by omega)).1
                  rw [HRP.out, hrq] at hg
                  by_cases hi : rp.i = rq.i
                  · obtain ⟨k1, k2⟩ := hg hi
                    exact .inr ⟨by rw [beq_iff_eq]; exact hi, k1, k2⟩
                  · exact .inl (by rw [beq_eq_false_iff_ne]; exact hi)
                clear hrq b0 b1
                rcases hfacts with hf1 | ⟨hf1, hf2, hf3⟩
                all_goals
                  go_wp2
                  go_quiet (fail)
                  go_wp2
                  go_roundg (gk - 1)
                  case measure => omega
                  case rel => exact ⟨q + 1, _, by go_num, by omega, by omega, rfl⟩
              · go_wp2
                go_roundg (gko2 - 1)
                case measure => omega
                case rel => exact ⟨p + 1, by go_num, by omega, by omega, H7.out.keep0 ((Chg.refl [] w7).drewN m), HC7.out.drewN m⟩
          · go_wp2
            go_roundg (gko - 1)
            case measure => omega
            case rel => exact ⟨j + 1, s1, by go_num, by omega, by omega, HP.out.1⟩
      · have CT := Lib.hid (ltokens_any HS.out)
        go_wp2_with fail
        refine CT.out.mono ?_
        rintro e w6 ⟨a8, k8, rfl, hk8, hr8, h6⟩
        have HR8 := Lib.hid hr8
        have H6 := Lib.hid h6
        have hl16 : s.K.length ≤ 16 := good_few h6.own.inv.good
        clear hr8 h6 CT HS
        obtain ⟨cf, hcf⟩ : ∃ cf : Nat → Nat, cf = K.cm s.K ck := ⟨_, rfl⟩
        have hcf0 : cf 0 = 0 := by rw [hcf]; simp [K.cm]
        have CF4 : Hid (∀ q, cf q ≤ 4) := Lib.hid (fun q => by rw [hcf]; exact H6.out.own.inv.good.few4 _ q)
        have CFS : Hid (∀ q, q < s.K.length → cf (q + 1) = cf q + if (s.K.getD q default).c = ck then 1 else 0) := Lib.hid (fun q hq => by rw [hcf]; exact K.cm_succ s.K ck q hq)
        have HCN : Hid ((psCrash s ck).1 = (cf s.K.length : Int)) := Lib.hid (by rw [hcf]; exact crash_count s ck)
        clear hcf
        go_wp2
        obtain ⟨gko, rfl⟩ : ∃ gko : Nat, gko = gk := ⟨_, rfl⟩
        go_loopg [13, 15] s.K.length (fun g' s13 s15 wr => ∃ (q m : Nat), s15 = .int .i64 q ∧ q ≤ s.K.length ∧ s.K.length ≤ q + g' ∧ s13 = .int .i64 (cf q) ∧ wr = w6.drewN m)
        case atStart => exact ⟨0, 0, rfl, by omega, by omega, by rw [hcf0]; rfl, rfl⟩
        case round =>
          obtain ⟨q, m, rfl, hq, hqg, rfl, rfl⟩ := hrel
          have hc4 := CF4.out q
          by_cases hql : q < s.K.length
          · obtain ⟨g5, rfl, hg5⟩ : ∃ g5, a8 = some ⟨g5, 0, none⟩ ∧ g5 < w6.heap.size := by
              rcases HR8.out with h0 | ⟨g5, h1, h2, _⟩
              · omega
              · exact ⟨g5, h1, h2⟩
            obtain ⟨rq, hrq⟩ : ∃ rq, s.K.getD q default = rq := ⟨_, rfl⟩
            obtain ⟨b0, b1, b2, b3⟩ := rows_at HR8.out hql
            have HFS := Lib.hid (CFS.out q hql)
            rw [hrq] at HFS
            simp only [hrq] at b0
            have hqz : (q : Int) < (s.K.length : Int) := by omega
            have hqz1 : (q : Int).toNat = q := by omega
            have hccs : ((rq.c == ck) = true ∧ Hid (cf (q + 1) = cf q + 1)) ∨ ((rq.c == ck) = false ∧ Hid (cf (q + 1) = cf q)) := by
              have hx := HFS.out
              by_cases hcc : rq.c = ck
              · rw [if_pos hcc] at hx
                exact .inl ⟨by rw [beq_iff_eq]; exact hcc, Lib.hid hx⟩
              · rw [if_neg hcc] at hx
                exact .inr ⟨by rw [beq_eq_false_iff_ne]; exact hcc, Lib.hid hx⟩
            clear HFS hrq b1 b2 b3
            rcases hccs with ⟨hc1, HNX⟩ | ⟨hc1, HNX⟩
            all_goals
              go_wp2
              go_roundg (gk - 1)
              case measure => omega
              case rel => exact ⟨q + 1, _, by go_num, by omega, by omega, by rw [HNX.out] <;> go_num, rfl⟩
          · have hqe : q = s.K.length := by omega
            subst hqe
            have CC1 := Lib.hid (lcrash_any (H6.out.keep0 ((Chg.refl [] w6).drewN m)) ck _ rfl)
            rw [HCN.out] at CC1
            have HTW := Lib.hid (crash_twice s ck)
            have HGN := Lib.hid (crash_gone s ck)
            obtain ⟨s1, hs1⟩ : ∃ s1, (psCrash s ck).2 = s1 := ⟨_, rfl⟩
            rw [hs1] at CC1 HTW HGN
            clear hs1
            go_wp2_with fail
            refine CC1.out.mono ?_
            rintro e w7 ⟨rfl, h7⟩
            have CC2 := Lib.hid (lcrash_any h7 ck _ rfl)
            rw [HTW.out] at CC2
            clear h7 CC1
            go_wp2_with fail
            refine CC2.out.mono ?_
            rintro e w8 ⟨rfl, h8⟩
            have HG2 := Lib.hid (crash_gone s1 ck)
            obtain ⟨s2, hs2⟩ : ∃ s2, (psCrash s1 ck).2 = s2 := ⟨_, rfl⟩
            rw [hs2] at h8 HG2
            have CT2 := Lib.hid (ltokens_any h8)
            clear h8 hs2 CC2 HTW HGN HCN CFS CF4 hcf0 H6 HR8 hk8 hl16
            go_wp2_with fail
            refine CT2.out.mono ?_
            rintro e w9 ⟨a9, k9, rfl, hk9, hr9, h9⟩
            have HR9 := Lib.hid hr9
            have HE := Lib.hid h9.chg
            have hl16 : s2.K.length ≤ 16 := good_few h9.own.inv.good
            clear hr9 h9 CT2
            go_wp2
            go_loopg [16] s2.K.length (fun g' s16 wr => ∃ (q m : Nat), s16 = .int .i64 q ∧ q ≤ s2.K.length ∧ s2.K.length ≤ q + g' ∧ wr = w9.drewN m)
            case atStart => exact ⟨0, 0, rfl, by omega, by omega, rfl⟩
            case round =>
              obtain ⟨q, m, rfl, hq, hqg, rfl⟩ := hrel
              by_cases hql : q < s2.K.length
              · obtain ⟨g5, rfl, hg5⟩ : ∃ g5, a9 = some ⟨g5, 0, none⟩ ∧ g5 < w9.heap.size := by
                  rcases HR9.out with h0 | ⟨g5, h1, h2, _⟩
                  · omega
                  · exact ⟨g5, h1, h2⟩
                obtain ⟨rq, hrq⟩ : ∃ rq, s2.K.getD q default = rq := ⟨_, rfl⟩
                obtain ⟨b0, b1, b2, b3⟩ := rows_at HR9.out hql
                have hc1 : (rq.c == ck) = false := HG2.out rq (by rw [← hrq, K.getD_getElem _ q hql]; exact List.getElem_mem hql)
                simp only [hrq] at b0
                have hqz : (q : Int) < (s2.K.length : Int) := by omega
                have hqz1 : (q : Int).toNat = q := by omega
                clear hrq b1 b2 b3
                go_wp2
                go_roundg (gk - 1)
                case measure => omega
                case rel => exact ⟨q + 1, _, by go_num, by omega, by omega, rfl⟩
              · go_wp2
                go_ret
                exact ⟨rfl, HE.out.drewN m⟩
end Go.Proofs.Ytaophafailmhjaa.W

/- PlainHandles: what the row asks. -/
namespace Go.Proofs.Ytaophafailmhjaa.plainHandles
open Go.RowKit
set_option linter.unusedVariables false
theorem walk (a0 : Option Addr) (len0 cap0 : Nat) (f0 : Nat → Go.Proofs.Ytaophafailmhjaa.W.Dd) (a1 : Int) (W : World) (w0 : len0 ≤ maxLen ∧ Go.Proofs.Ytaophafailmhjaa.W.DeedsAt W a0 len0 f0) (w1 : (Lit.int .u8 a1).wf = true) :
    Calls Try.prog 7 #[.slice a0 len0 cap0, .int .u8 a1] W fun e w' => e = .returned (.bool true) ∧ Below W.heap.size W w' :=
  (Go.Proofs.Ytaophafailmhjaa.W.handles26_any a0 len0 cap0 f0 a1 W w0.2 w0.1).mono fun e w' ⟨h1, h2⟩ => ⟨h1, h2.below (by simp)⟩
end Go.Proofs.Ytaophafailmhjaa.plainHandles
