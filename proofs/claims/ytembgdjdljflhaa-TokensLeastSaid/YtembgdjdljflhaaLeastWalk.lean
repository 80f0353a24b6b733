/- The walk of TokensLeast. -/
import Derived.Test.YtembgdjdljflhaaS
import Derived.Deep.RegionHeld3
namespace Go.Proofs.Ytembgdjdljflhaa.tokensLeast
open Go.RowKit
set_option linter.unusedVariables false
set_option linter.unusedSimpArgs false

instance : DecidableEq TRow := fun a b => decidable_of_iff (a.c = b.c ∧ a.h = b.h ∧ a.i = b.i ∧ a.b = b.b)
  ⟨fun ⟨h1, h2, h3, h4⟩ => by cases a; cases b; simp_all, fun h => by subst h; exact ⟨rfl, rfl, rfl, rfl⟩⟩

/-- What is had, by number. -/
def hv (h0 h1 h2 h3 : Bool) (q : Nat) : Bool := if q = 0 then h0 else if q = 1 then h1 else if q = 2 then h2 else h3
def oth (c : Nat) : Nat := (c + 1) % 4
def mine (c : Nat) (h0 h1 h2 h3 : Bool) : List TRow := ((List.range 4).filter (hv h0 h1 h2 h3)).map fun k : Nat => ⟨(c : Int), (k : Int), 5, false⟩
def rowsOf (c : Nat) (h0 h1 h2 h3 : Bool) : List TRow := if c = 3 then ⟨oth c, 0, 9, false⟩ :: mine c h0 h1 h2 h3 else mine c h0 h1 h2 h3 ++ [⟨oth c, 0, 9, false⟩]
def wantUp (h : Nat → Bool) : Nat → Nat → Int
  | 0, _ => -1
  | f + 1, j => if h j then wantUp h f (j + 1) else j
def want (h : Nat → Bool) (m : Nat) : Int := wantUp h (4 - m) m
def cntTo (h : Nat → Bool) (m : Nat) : Int := ((List.range m).filter h).length
def bs : List Bool := [false, true]
def allB (f : Bool → Bool → Bool → Bool → Bool) : Bool := bs.all fun a => bs.all fun b => bs.all fun c => bs.all fun d => f a b c d
theorem allB_at {f : Bool → Bool → Bool → Bool → Bool} (h : allB f = true) (a b c d : Bool) : f a b c d = true := by
  have m : ∀ x : Bool, x ∈ bs := fun x => by cases x <;> simp [bs]
  have h1 := List.all_eq_true.1 (List.all_eq_true.1 (List.all_eq_true.1 (List.all_eq_true.1 h a (m a)) b (m b)) c (m c)) d (m d)
  exact h1
def upd (h0 h1 h2 h3 v : Bool) (k q : Nat) : Bool := if q = k then v else hv h0 h1 h2 h3 q
def rowsU (c : Nat) (h0 h1 h2 h3 v : Bool) (k : Nat) : List TRow := rowsOf c (upd h0 h1 h2 h3 v k 0) (upd h0 h1 h2 h3 v k 1) (upd h0 h1 h2 h3 v k 2) (upd h0 h1 h2 h3 v k 3)

def chk1 : Bool := (List.range 4).all fun c => decide (openR [] (oth c) 9 false = (0, 0, rowsOf c false false false false))
theorem ok1 (c : Nat) (hc : c < 4) : openR [] (oth c) 9 false = (0, 0, rowsOf c false false false false) :=
  of_decide_eq_true (List.all_eq_true.1 (show chk1 = true by kernel_rfl) c (List.mem_range.2 hc))
def chk2 : Bool := (List.range 4).all fun c => (List.range 4).all fun k => allB fun a b d e => decide (closeE (find (rowsOf c a b d e) c k) = (if hv a b d e k then 0 else 13)) && decide (closeL (rowsOf c a b d e) (find (rowsOf c a b d e) c k) = rowsU c a b d e false k)
theorem ok2 (c k : Nat) (hc : c < 4) (hk : k < 4) (a b d e : Bool) : closeE (find (rowsOf c a b d e) c k) = (if hv a b d e k then 0 else 13) ∧ closeL (rowsOf c a b d e) (find (rowsOf c a b d e) c k) = rowsU c a b d e false k := by
  have := allB_at (List.all_eq_true.1 (List.all_eq_true.1 (show chk2 = true by kernel_rfl) c (List.mem_range.2 hc)) k (List.mem_range.2 hk)) a b d e
  simpa using this
def chk3 : Bool := (List.range 4).all fun c => allB fun a b d e =>
  decide (openR (rowsOf c a b d e) c 5 false = if want (hv a b d e) 0 < 0 then (0, 5, rowsOf c a b d e) else (want (hv a b d e) 0, 0, rowsU c a b d e true (want (hv a b d e) 0).toNat)) && decide (want (hv a b d e) 0 < 4)
theorem ok3 (c : Nat) (hc : c < 4) (a b d e : Bool) : openR (rowsOf c a b d e) c 5 false = (if want (hv a b d e) 0 < 0 then (0, 5, rowsOf c a b d e) else (want (hv a b d e) 0, 0, rowsU c a b d e true (want (hv a b d e) 0).toNat)) ∧ want (hv a b d e) 0 < 4 := by
  have := allB_at (List.all_eq_true.1 (show chk3 = true by kernel_rfl) c (List.mem_range.2 hc)) a b d e
  simpa using this
def chk4 : Bool := (List.range 4).all fun c => allB fun a b d e => decide (find (rowsOf c a b d e) (oth c) 0 = some ⟨oth c, 0, 9, false⟩) && decide (keep (fun r => r.c == (c : Int)) (rowsOf c a b d e) = [⟨oth c, 0, 9, false⟩]) &&
  decide (((rowsOf c a b d e).length : Int) - ([(⟨oth c, 0, 9, false⟩ : TRow)] : List TRow).length = cntTo (hv a b d e) 4) && decide ((rowsOf c a b d e).length ≤ 5)
theorem ok4 (c : Nat) (hc : c < 4) (a b d e : Bool) : find (rowsOf c a b d e) (oth c) 0 = some ⟨oth c, 0, 9, false⟩ ∧ keep (fun r => r.c == (c : Int)) (rowsOf c a b d e) = [⟨oth c, 0, 9, false⟩] ∧
    ((rowsOf c a b d e).length : Int) - ([(⟨oth c, 0, 9, false⟩ : TRow)] : List TRow).length = cntTo (hv a b d e) 4 ∧ (rowsOf c a b d e).length ≤ 5 := by
  have := allB_at (List.all_eq_true.1 (show chk4 = true by kernel_rfl) c (List.mem_range.2 hc)) a b d e
  simp only [Bool.and_eq_true, decide_eq_true_eq] at this
  exact ⟨this.1.1.1, this.1.1.2, this.1.2, this.2⟩
theorem info4 : (Try.prog.info? 4).map (fun i => (i.zero, i.size, i.bytes)) = some (some (.bool false), 1, 1) := by kernel_rfl
theorem mk4 (w : World) : (Instr.makeSlice 40 (.int .i64 4) (.int .i64 4)).run Try.prog w = .ok (.slice (some ⟨w.heap.size, 0, none⟩) 4 4) (w.alloc (.cells #[.bool false, .bool false, .bool false, .bool false] 4)) := by
  obtain ⟨i, hi, hz, h1, h2⟩ := info_parts info4
  have h := run_make w 40 4 i _ Try.underlying40 hi hz .i64 .i64 4 4 (by omega) (by omega) (by rw [h2]; omega) (by omega)
  rw [h, h1]
  have e : madeCells (Value.bool false).cells (Int.toNat 4 * 1) = #[.bool false, .bool false, .bool false, .bool false] := by kernel_rfl
  rw [e]
  rfl
theorem TokS.drew {w0 w : World} {b : Nat} {l : List TRow} (h : TokS w0 w b l) : TokS w0 w.drew b l := by
  obtain ⟨v, base, h1, h2, h3, h4, h5⟩ := h
  exact ⟨v, base, h1.drew, h2, h3, h4, h5.drew⟩

def bools (x0 x1 x2 x3 : Bool) : Array Value := #[.bool x0, .bool x1, .bool x2, .bool x3]
theorem bools_at (x0 x1 x2 x3 : Bool) (k : Nat) (hk : k < 4) : (bools x0 x1 x2 x3)[k]? = some (.bool (hv x0 x1 x2 x3 k)) := by
  match k, hk with
  | 0, _ => rfl
  | 1, _ => rfl
  | 2, _ => rfl
  | 3, _ => rfl
theorem bools_set (x0 x1 x2 x3 v : Bool) (k : Nat) (hk : k < 4) : (bools x0 x1 x2 x3).setIfInBounds k (.bool v) = bools (upd x0 x1 x2 x3 v k 0) (upd x0 x1 x2 x3 v k 1) (upd x0 x1 x2 x3 v k 2) (upd x0 x1 x2 x3 v k 3) := by
  match k, hk with
  | 0, _ => rfl
  | 1, _ => rfl
  | 2, _ => rfl
  | 3, _ => rfl
theorem TokS.setOther {w0 w : World} {b kh j : Nat} {l : List TRow} {cs : Array Value} {u : Value} (h : TokS w0 w b l) (hk : w.heap[kh]? = some (.cells cs 4 (0, 0))) (hne : b ≠ kh) (hW : w0.heap.size ≤ kh) : TokS w0 (w.setCell ⟨kh, j, none⟩ u) b l := by
  obtain ⟨v, base, h1, h2, h3, h4, h5⟩ := h
  have hap : v.ownBlock ≠ some kh := by
    intro e
    rcases h1.rows.2 with ⟨rfl, _⟩ | ⟨g, cap, cur, rfl, _, hg, _⟩
    · simp [Value.ownBlock] at e
    · obtain rfl : g = kh := by simpa [Value.ownBlock] using e
      rw [hg] at hk
      simp at hk
  exact ⟨v, base, ⟨blk_sets h1.head hne, ownsRow_set h1.rows hap, h1.few⟩, h2, h3, by simpa [World.setCell] using h4, h5.setCell hW u⟩
theorem drop_after {w0 w X : World} {b : Nat} {l : List TRow} (h : TokS w0 w b l) (hX : Below w.heap.size w X) (c : Int) :
    Calls Try.prog 14 #[.pointer (some ⟨b, 0, none⟩), .int .i64 c] X fun e w' => e = .returned (.int .i64 ((l.length : Int) - (keep (fun r => r.c == c) l).length)) ∧ TokS w0 w' b (keep (fun r => r.c == c) l) ∧ ∀ k, w.heap.size ≤ k → k < X.heap.size → w'.heap[k]? = X.heap[k]? := by
  obtain ⟨v, base, h1, h2, h3, h4, h5⟩ := h
  have h1' := h1.below hX
  refine (drop_any b v base l c X h1').mono ?_
  rintro e w' ⟨v', rfl, ht, hf⟩
  refine ⟨rfl, (frame_s h1' h2 h3 (Nat.le_trans h4 hX.size) (bt h5 hX) ht hf).1, fun k hk hk2 => hf.block k hk2 (by have := h1.lt; omega) (fun e => by have := (h1.rows.lt k e).2; omega)⟩
theorem cnt_succ (h : Nat → Bool) (m : Nat) : cntTo h (m + 1) = cntTo h m + if h m then 1 else 0 := by
  unfold cntTo
  rw [List.range_succ, List.filter_append]
  cases hm : h m <;> simp [hm]
theorem busy9 (o : Nat) : has (fun r => r.i == 5) [(⟨(o : Int), 0, 9, false⟩ : TRow)] = false := by
  simp [has]
theorem keep4 {w w' : World} {b kh : Nat} {cs : Array Value} (h : Keeps w w' b) (hne : b ≠ kh) (hk : w.heap[kh]? = some (.cells cs 4 (0, 0))) : w'.heap[kh]? = some (.cells cs 4 (0, 0)) :=
  h.2 kh _ (fun e => hne e.symm) hk (fun cs' fz e => by cases e)

set_option maxHeartbeats 8000000 in
set_option maxRecDepth 100000 in
theorem walk (a0 : Int) (a1 : Option Addr) (len1 cap1 : Nat) (z1 : List Int) (W : World) (w0 : (Lit.int .u8 a0).wf = true) (w1 : IsRow .u8 W a1 len1 cap1 z1) :
    Calls Try.prog 5 #[.int .u8 a0, .slice a1 len1 cap1] W fun e W' => e = .returned (.bool true) ∧ Below W.heap.size W W' := by
  obtain ⟨hrow, hlen, hlz, hwf⟩ := w1.rowAt
  have CA := Lib.hid (awake_any W)
  have ha0 : 0 ≤ a0 ∧ a0 < 256 := by
    simp [Lit.wf, IntKind.min, IntKind.max, IntKind.signed, IntKind.bits] at w0
    omega
  obtain ⟨c, hc⟩ : ∃ c : Nat, a0.tmod 4 = c := ⟨(a0 % 4).toNat, by rw [Int.tmod_eq_emod_of_nonneg ha0.1]; omega⟩
  have hc4 : c < 4 := by rw [Int.tmod_eq_emod_of_nonneg ha0.1] at hc; omega
  obtain ⟨o, ho⟩ : ∃ o : Nat, o = oth c := ⟨_, rfl⟩
  have hoz : ((c : Int) + 1).tmod 4 = o := by
    rw [ho, Int.tmod_eq_emod_of_nonneg (by omega)]; unfold oth; omega
  have OK1 := ok1 c hc4
  rw [← ho] at OK1
  have HO := Lib.hid ho
  have HW := Lib.hid hwf
  have HR := Lib.hid hrow
  clear w0 w1 ho hwf hrow
  by_cases h60 : 60 < len1
  · clear OK1
    go_enter Try.func5, Try.ntmps5
    go_wp2_with fail
    refine CA.out.mono ?_
    rintro e w1 ⟨rfl, hb1⟩
    go_wp2
    go_ret
    exact ⟨rfl, hb1⟩
  · have HK1 := Lib.hid OK1
    clear OK1
    go_enter Try.func5, Try.ntmps5
    go_wp2_with fail
    refine CA.out.mono ?_
    rintro e w1 ⟨rfl, hb1⟩
    have CN := Lib.hid (new_s W w1 hb1)
    clear hb1 CA
    go_wp2_with fail
    refine CN.out.mono ?_
    rintro e w2 ⟨rfl, ht2, _⟩
    generalize w1.heap.size = b at *
    clear CN
    have C := open_s ht2 (by simp) o 9 false
    rw [HK1.out] at C
    have HC := Lib.hid C
    clear C ht2
    go_wp2_with fail
    refine HC.out.mono ?_
    rintro e w3 ⟨rfl, ht3, _⟩
    clear HC
    have HT := Lib.hid ht3
    clear ht3
    have hmk := mk4 w3
    have HKB := Lib.hid (heap_alloc_new w3 (.cells #[.bool false, .bool false, .bool false, .bool false] 4))
    have HT0 := Lib.hid (HT.out.below ((Below.refl _ _).alloc (Nat.le_refl _) (.cells #[.bool false, .bool false, .bool false, .bool false] 4)))
    have hbk : b ≠ w3.heap.size := by
      obtain ⟨v, base, h1, _⟩ := HT.out
      exact Nat.ne_of_lt h1.lt
    obtain ⟨kh, hkh⟩ : ∃ kh, kh = w3.heap.size := ⟨_, rfl⟩
    have hkW : W.heap.size ≤ kh := by rw [hkh]; exact HT.out.bel.size
    rw [← hkh] at hmk HKB hbk
    have HBK := Lib.hid hbk
    clear hkh hbk
    go_wp2
    go_loopg [9, 10, 11, 12, 13, 14] len1 (fun g' s9 _ _ _ _ _ wr => ∃ (j : Nat) (x0 x1 x2 x3 : Bool), s9 = .int .i64 j ∧ j ≤ len1 ∧ len1 ≤ j + g' ∧ Hid (TokS W wr b (rowsOf c x0 x1 x2 x3)) ∧
      Hid (wr.heap[kh]? = some (.cells (bools x0 x1 x2 x3) 4 (0, 0))))
    case atStart => exact ⟨0, false, false, false, false, rfl, by omega, by omega, HT0.out, HKB.out⟩
    case round =>
      obtain ⟨j, x0, x1, x2, x3, rfl, hj, hjg, HS, HX⟩ := hrel
      by_cases hlt : j < len1
      · have hz : 0 ≤ z1.getD j 0 ∧ z1.getD j 0 < 256 := by
          have := HW.out j
          simp [Lit.wf, IntKind.min, IntKind.max, IntKind.signed, IntKind.bits] at this
          simp; omega
        obtain ⟨z, hz0, hzz⟩ : ∃ z : Int, z1.getD j 0 = z ∧ 0 ≤ z ∧ z < 256 := ⟨_, rfl, hz⟩
        obtain ⟨k, hk⟩ : ∃ k : Nat, z.tmod 4 = k := ⟨(z % 4).toNat, by rw [Int.tmod_eq_emod_of_nonneg hzz.1]; omega⟩
        have hk4 : k < 4 := by rw [Int.tmod_eq_emod_of_nonneg hzz.1] at hk; omega
        have hcell : ∃ g off, a1 = some ⟨g, off, none⟩ ∧ wr.cell? ⟨g, off + j, none⟩ = some (.int .u8 z) := by
          rcases HR.out with h0 | ⟨g, off, h1, h2, h3⟩
          · omega
          · exact ⟨g, off, h1, (HS.out.bel.cell (p := ⟨g, off + j, none⟩) h2).trans (by rw [h3 j hlt]; simp only [hz0])⟩
        obtain ⟨g, off, rfl, hcz⟩ := hcell
        clear hz hz0
        have OK3 := Lib.hid (ok3 c hc4 x0 x1 x2 x3)
        have OK2 := Lib.hid (ok2 c k hc4 hk4 x0 x1 x2 x3)
        have hl5 := (ok4 c hc4 x0 x1 x2 x3).2.2.2
        obtain ⟨kb, hkb⟩ : ∃ kb, hv x0 x1 x2 x3 k = kb := ⟨_, rfl⟩
        have CL : Hid (∀ X, TokS W X b (rowsOf c x0 x1 x2 x3) → X.heap[kh]? = some (.cells (bools x0 x1 x2 x3) 4 (0, 0)) → Calls Try.prog 11 #[.pointer (some ⟨b, 0, none⟩), .int .i64 c, .int .i64 k] X fun e w' =>
            e = .returned (.int .i64 (if kb = true then 0 else 13)) ∧ Hid (TokS W w' b (rowsU c x0 x1 x2 x3 false k)) ∧ Hid (w'.heap[kh]? = some (.cells (bools x0 x1 x2 x3) 4 (0, 0)))) := by
          intro X h1 h2
          refine (close_s h1 c k).mono ?_
          rintro e w' ⟨rfl, h3, h4⟩
          obtain ⟨o1, o2⟩ := OK2.out
          rw [o1, hkb, ← o2]
          exact ⟨rfl, h3, keep4 h4 HBK.out h2⟩
        have hck := blk_cell HX.out k _ (bools_at x0 x1 x2 x3 k hk4)
        rw [hkb] at hck
        have HKB2 := Lib.hid hkb
        clear hkb
        by_cases hb64 : bits BinOp.and IntKind.u8 z 64 = 0
        · have hb65 : (bits BinOp.and IntKind.u8 z 64 != 0) = false := by simp [hb64]
          clear hb64
          obtain ⟨wf, hwf⟩ : ∃ wf : Nat → Int, wf = want (hv x0 x1 x2 x3) := ⟨_, rfl⟩
          obtain ⟨hf, hhf⟩ : ∃ hf : Nat → Bool, hf = hv x0 x1 x2 x3 := ⟨_, rfl⟩
          have w4 : wf 4 = -1 := by rw [hwf]; rfl
          have wst : Hid (∀ p, p < 4 → wf p = if hf p then wf (p + 1) else (p : Int)) := by
            intro p hp
            rw [hwf, hhf]
            match p, hp with
            | 0, _ => rfl
            | 1, _ => rfl
            | 2, _ => rfl
            | 3, _ => rfl
          have hw4 : wf 0 < 4 := by rw [hwf]; exact OK3.out.2
          have OP : Hid (∀ X, TokS W X b (rowsOf c x0 x1 x2 x3) → X.heap[kh]? = some (.cells (bools x0 x1 x2 x3) 4 (0, 0)) → Calls Try.prog 10 #[.pointer (some ⟨b, 0, none⟩), .int .i64 c, .int .i64 5, .bool false] X fun e w' =>
              (e = .returned (.tuple #[.int .i64 (if wf 0 < 0 then 0 else wf 0), .int .i64 (if wf 0 < 0 then 5 else 0)])) ∧
              Hid (TokS W w' b (if wf 0 < 0 then rowsOf c x0 x1 x2 x3 else rowsU c x0 x1 x2 x3 true (wf 0).toNat)) ∧ Hid (w'.heap[kh]? = some (.cells (bools x0 x1 x2 x3) 4 (0, 0)))) := by
            intro X h1 h2
            refine (open_s h1 (by omega) c 5 false).mono ?_
            rintro e w' ⟨rfl, h3, h4⟩
            rw [OK3.out.1, ← hwf] at h3 ⊢
            by_cases hw : wf 0 < 0
            · simp only [if_pos hw] at h3 ⊢
              exact ⟨by first | rfl | trivial, h3, keep4 h4 HBK.out h2⟩
            · simp only [if_neg hw] at h3 ⊢
              exact ⟨by first | rfl | trivial, h3, keep4 h4 HBK.out h2⟩
          have HCS := Lib.hid (show ∀ p, p < 4 → wr.cell? ⟨kh, p, none⟩ = some (.bool (hf p)) from fun p hp => blk_cell HX.out p _ (by rw [hhf]; exact bools_at x0 x1 x2 x3 p hp))
          clear CL hck hwf hhf
          go_wp2
          obtain ⟨wo, rfl⟩ : ∃ wo : World, wo = wr := ⟨_, rfl⟩
          obtain ⟨gko, rfl⟩ : ∃ gko : Nat, gko = gk := ⟨_, rfl⟩
          go_loopg [11, 12] 4 (fun g' s11 s12 wr => ∃ (m : Nat) (q : Int), q = (m : Int) - 1 ∧ m ≤ 4 ∧ m ≤ g' ∧ s12 = .int .i64 q ∧ s11 = .int .i64 (wf m) ∧ wr = wo)
          case atStart => exact ⟨4, 3, rfl, by omega, by omega, rfl, by rw [w4], rfl⟩
          case round =>
            obtain ⟨m, q, hq, hm4, hmg, rfl, rfl, rfl⟩ := hrel
            cases m with
            | zero =>
              obtain rfl : q = -1 := by omega
              clear hq
              by_cases hneg : wf 0 < 0
              · have hn5 : ¬ (0 ≤ wf 0) := by omega
                simp only [if_pos hneg] at OP
                go_wp2_with (go_at_call 10; refine (OP.out _ HS.out HX.out).mono ?_; rintro e w5 ⟨rfl, HS5, HX5⟩)
                go_roundg (gko - 1)
                case measure => omega
                case rel => exact ⟨j + 1, x0, x1, x2, x3, rfl, by omega, by omega, HS5, HX5⟩
              · have hn5 : 0 ≤ wf 0 := by omega
                simp only [if_neg hneg] at OP
                obtain ⟨t, ht⟩ : ∃ t : Nat, wf 0 = t := ⟨(wf 0).toNat, by omega⟩
                have ht4 : t < 4 := by omega
                rw [ht] at OP
                have HT2 := Lib.hid ht
                go_wp2_with (go_at_call 10; refine (OP.out _ HS.out HX.out).mono ?_; rintro e w5 ⟨rfl, HS5, HX5⟩
                             have d5 := blk_cell HX5.out t _ (bools_at x0 x1 x2 x3 t ht4)
                             have f5 := blk_frozen HX5.out t)
                go_roundg (gko - 1)
                case measure => omega
                case rel =>
                  refine ⟨j + 1, upd x0 x1 x2 x3 true t 0, upd x0 x1 x2 x3 true t 1, upd x0 x1 x2 x3 true t 2, upd x0 x1 x2 x3 true t 3, rfl, by omega, by omega, ?_, ?_⟩
                  · have h5 := HS5.out
                    rw [Int.toNat_natCast] at h5
                    exact TokS.setOther h5 HX5.out HBK.out hkW
                  · rw [← bools_set x0 x1 x2 x3 true t ht4]
                    exact set_blk HX5.out
            | succ p =>
              obtain rfl : q = (p : Int) := by omega
              clear hq
              have hp4 : p < 4 := by omega
              have hcp := HCS.out p hp4
              have hst := wst.out p hp4
              cases hv2 : hf p with
              | true =>
                rw [hv2] at hcp hst
                go_wp2
                go_roundg (gk - 1)
                case measure => omega
                case rel => exact ⟨p, (p : Int) - 1, rfl, by omega, by omega, rfl, by rw [hst]; rfl, rfl⟩
              | false =>
                rw [hv2] at hcp hst
                go_wp2
                go_roundg (gk - 1)
                case measure => omega
                case rel => exact ⟨p, (p : Int) - 1, rfl, by omega, by omega, rfl, by rw [hst]; rfl, rfl⟩
        · have hb65 : (bits BinOp.and IntKind.u8 z 64 != 0) = true := by simp [hb64]
          clear hb64
          cases kb with
          | true =>
            have hk5 : (k : Int) < 4 := by omega
            have hk6 : (0 : Int) ≤ (k : Int) := by omega
            have hk7 : (k : Int).toNat = k := by omega
            go_wp2
            go_region_held3 (fun w' => w'.cell? ⟨kh, k, none⟩ = some (.bool true))
              (first
                | go_keep
                | exact d5)
              (first
                | (go_at_call 11; refine (CL.out _ (by first | exact HS.out | exact TokS.drew HS.out) (by exact HX.out)).mono ?_; rintro e w5 ⟨rfl, HS5, HX5⟩
                   have d5 : w5.cell? ⟨kh, k, none⟩ = some (.bool true) := blk_cell HX5.out k _ (by rw [← HKB2.out]; exact bools_at x0 x1 x2 x3 k hk4)
                   have f5 := blk_frozen HX5.out k))
            all_goals
              go_wp2
              go_roundg (gk - 1)
              case measure => omega
              case rel =>
                refine ⟨j + 1, upd x0 x1 x2 x3 false k 0, upd x0 x1 x2 x3 false k 1, upd x0 x1 x2 x3 false k 2, upd x0 x1 x2 x3 false k 3, rfl, by omega, by omega, ?_, ?_⟩
                · first
                    | exact TokS.setOther HS5.out HX5.out HBK.out hkW
                    | exact TokS.drew (TokS.setOther HS5.out HX5.out HBK.out hkW)
                    | exact TokS.setOther (TokS.drew HS5.out) HX5.out HBK.out hkW
                · rw [← bools_set x0 x1 x2 x3 false k hk4]
                  exact set_blk HX5.out
          | false =>
            have hk5 : (k : Int) < 4 := by omega
            have hk6 : (0 : Int) ≤ (k : Int) := by omega
            have hk7 : (k : Int).toNat = k := by omega
            go_wp2
            go_region_held3 (fun w' => w'.cell? ⟨kh, k, none⟩ = some (.bool false))
              (first
                | go_keep
                | exact d5)
              (first
                | (go_at_call 11; refine (CL.out _ (by first | exact HS.out | exact TokS.drew HS.out) (by exact HX.out)).mono ?_; rintro e w5 ⟨rfl, HS5, HX5⟩
                   have d5 : w5.cell? ⟨kh, k, none⟩ = some (.bool false) := blk_cell HX5.out k _ (by rw [← HKB2.out]; exact bools_at x0 x1 x2 x3 k hk4)
                   have f5 := blk_frozen HX5.out k))
            all_goals
              go_wp2
              go_roundg (gk - 1)
              case measure => omega
              case rel =>
                refine ⟨j + 1, upd x0 x1 x2 x3 false k 0, upd x0 x1 x2 x3 false k 1, upd x0 x1 x2 x3 false k 2, upd x0 x1 x2 x3 false k 3, rfl, by omega, by omega, ?_, ?_⟩
                · first
                    | exact TokS.setOther HS5.out HX5.out HBK.out hkW
                    | exact TokS.drew (TokS.setOther HS5.out HX5.out HBK.out hkW)
                    | exact TokS.setOther (TokS.drew HS5.out) HX5.out HBK.out hkW
                · rw [← bools_set x0 x1 x2 x3 false k hk4]
                  exact set_blk HX5.out
      · obtain ⟨f1, f2, f3, f4⟩ := ok4 c hc4 x0 x1 x2 x3
        rw [← HO.out] at f1 f2 f3
        obtain ⟨cf, hcf⟩ : ∃ cf : Nat → Int, cf = cntTo (hv x0 x1 x2 x3) := ⟨_, rfl⟩
        obtain ⟨hf, hhf⟩ : ∃ hf : Nat → Bool, hf = hv x0 x1 x2 x3 := ⟨_, rfl⟩
        have hc0 : cf 0 = 0 := by rw [hcf]; rfl
        have CS : Hid (∀ m, cf (m + 1) = cf m + if hf m then 1 else 0) := fun m => by rw [hcf, hhf]; exact cnt_succ _ m
        have CB : Hid (∀ m, 0 ≤ cf m ∧ cf m ≤ m) := fun m => by
          induction m with
          | zero => rw [hc0]; simp
          | succ m ih => rw [CS.out m]; split <;> omega
        have HCS := Lib.hid (show ∀ p, p < 4 → wr.cell? ⟨kh, p, none⟩ = some (.bool (hf p)) from fun p hp => blk_cell HX.out p _ (by rw [hhf]; exact bools_at x0 x1 x2 x3 p hp))
        have F3 := Lib.hid (show ((rowsOf c x0 x1 x2 x3).length : Int) - (keep (fun r => r.c == (c : Int)) (rowsOf c x0 x1 x2 x3)).length = cf 4 by rw [f2, hcf]; exact f3)
        have F2 := Lib.hid f2
        have COF := of_s HS.out o 0
        rw [f1] at COF
        unfold ofAns enc at COF
        have HCOF := Lib.hid COF
        clear COF f1 f2 f3 f4 hcf hhf
        go_wp2
        obtain ⟨wo, rfl⟩ : ∃ wo : World, wo = wr := ⟨_, rfl⟩
        obtain ⟨gko, rfl⟩ : ∃ gko : Nat, gko = gk := ⟨_, rfl⟩
        go_loopg [15, 16] 4 (fun g' s15 s16 wr => ∃ m : Nat, m ≤ 4 ∧ 4 ≤ m + g' ∧ s16 = .int .i64 m ∧ s15 = .int .i64 (cf m) ∧ wr = wo)
        case atStart => exact ⟨0, by omega, by omega, rfl, by rw [hc0], rfl⟩
        case round =>
          obtain ⟨m, hm4, hmg, rfl, rfl, rfl⟩ := hrel
          obtain ⟨hb0, hb1⟩ := CB.out m
          by_cases hm : m < 4
          · have hcp := HCS.out m hm
            have hst := CS.out m
            cases hv2 : hf m with
            | true =>
              rw [hv2] at hcp hst
              simp only [if_true] at hst
              have HST := Lib.hid hst
              clear hst
              go_wp2
              go_roundg (gk - 1)
              case measure => omega
              case rel => exact ⟨m + 1, by omega, by omega, rfl, by rw [HST.out], rfl⟩
            | false =>
              rw [hv2] at hcp hst
              have HST := Lib.hid (show cf (m + 1) = cf m by rw [hst]; simp)
              clear hst
              go_wp2
              go_roundg (gk - 1)
              case measure => omega
              case rel => exact ⟨m + 1, by omega, by omega, rfl, by rw [HST.out], rfl⟩
          · obtain rfl : m = 4 := by omega
            go_wp2_with fail
            refine HCOF.out.mono ?_
            rintro e w5 ⟨rfl, HS5, _⟩
            have CD := drop_after HS5 ((Below.refl _ _).alloc (Nat.le_refl _) (.cells #[.int .i64 o, .int .i64 0, .int .i64 9, .bool false] 35)) c
            rw [F3.out, F2.out] at CD
            have HCD := Lib.hid CD
            clear CD HS5
            go_wp2_with fail
            refine HCD.out.mono ?_
            rintro e w6 ⟨rfl, HS6, HF6⟩
            have HA := Lib.hid ((HF6 w5.heap.size (Nat.le_refl _) (by simp)).trans (heap_alloc_new w5 _))
            have CR := Lib.hid (rows_s HS6)
            have l2 := blk_cell HA.out 2 _ rfl
            clear HF6 HS6 HCD
            go_wp2_with fail
            refine CR.out.mono ?_
            rintro e w7 ⟨a7, c7, rfl, hr7, HS7, _⟩
            have CBU := busy_s HS7 5
            rw [busy9] at CBU
            have HCBU := Lib.hid CBU
            clear CBU HS7 hr7 CR
            go_wp2_with fail
            refine HCBU.out.mono ?_
            rintro e w8 ⟨rfl, HS8, _⟩
            have HB := Lib.hid HS8.bel
            clear HS8
            go_wp2
            go_ret
            exact ⟨rfl, HB.out⟩
end Go.Proofs.Ytembgdjdljflhaa.tokensLeast
