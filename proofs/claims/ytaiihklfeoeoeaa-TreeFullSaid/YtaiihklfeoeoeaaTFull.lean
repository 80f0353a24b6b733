/- So many things as may be go, one more does not; the least number that is free is given next. -/
import Derived.Test.YtaiihklfeoeoeaaTLab
namespace Go.Proofs.Ytaiihklfeoeoeaa.treeFull
open Go.RowKit
open Go.Proofs.Ytaiihklfeoeoeaa.NM
open Go.Proofs.Ytaiihklfeoeoeaa.W
set_option linter.unusedVariables false
set_option linter.unusedSimpArgs false

/-! ### Plain -/
def g1 (i k : Nat) : Option (List UInt8) := if k < i then some (lab k) else none
def g2 (F : Nat → Bool) (k : Nat) : Option (List UInt8) := if F k then none else some (lab k)
def g3 (F : Nat → Bool) (i k : Nat) : Option (List UInt8) := if F k then (if k < i then some (121 :: lab k) else none) else some (lab k)
def updB (F : Nat → Bool) (k : Nat) (v : Bool) : Nat → Bool := fun j => if j = k then v else F j
abbrev S1 (d : Bool) (i : Nat) : PT := stL d (g1 i) 2 127
abbrev S2 (d : Bool) (F : Nat → Bool) : PT := stL d (g2 F) 2 127
abbrev S3 (d : Bool) (F : Nat → Bool) (i : Nat) : PT := stL d (g3 F i) 2 127
theorem start1 (d : Bool) : S1 d 2 = [] := by
  refine List.eq_nil_iff_forall_not_mem.2 fun x hx => ?_
  obtain ⟨h1, _, _, _, h5⟩ := mem_stL.1 hx
  unfold g1 at h5
  rw [if_neg (by omega)] at h5; cases h5
theorem step1 {d : Bool} {i : Nat} (hT : TOk (S1 d i)) (h2 : 2 ≤ i) (h8 : i ≤ 128) : tMake (S1 d i) (47 :: lab i) d = ((i, 0), S1 d (i + 1)) := by
  have hm := (lab_may (n := i) (by omega)).1
  have hg : g1 i i = none := by unfold g1; rw [if_neg (by omega)]
  have hk : tKidOf (S1 d i) 1 (lab i) = none := kidOf_stL_no (fun k a b h => by
    unfold g1 at h
    by_cases e : k < i
    · rw [if_pos e] at h
      have := lab_inj (by omega) (by omega) (Option.some.inj h)
      omega
    · rw [if_neg e] at h; cases h)
  have hlen : (S1 d i).length < 127 := len_stL_lt (d := d) (g := g1 i) (k := i) 127 2 h2 (by omega) hg
  have hle : tLeast 2 (S1 d i) = i := least_stL 127 2 h2 (by omega) hg (fun j a b => by unfold g1; rw [if_pos b]; simp)
  rw [make_one hT hm hk (by omega), hle, ins_stL 127 2 h2 (by omega) hg]
  refine congrArg _ (stL_congr fun j a b => ?_)
  unfold updG g1
  by_cases e : j = i
  · subst e; rw [if_pos rfl, if_pos (by omega)]
  · rw [if_neg e]
    by_cases e2 : j < i
    · rw [if_pos e2, if_pos (by omega)]
    · rw [if_neg e2, if_neg (by omega)]
theorem xmay : mayB [120] = true := by kernel_rfl
theorem full1 {d : Bool} (hT : TOk (S1 d 129)) : tMake (S1 d 129) [47, 120] d = ((0, 5), S1 d 129) := by
  refine make_full hT xmay (kidOf_stL_no (fun k a b h => ?_)) ?_
  · unfold g1 at h
    rw [if_pos (by omega)] at h
    have := congrArg List.length (Option.some.inj h)
    simp [lab] at this
  · rw [len_stL_all 127 2 (fun j a b => by unfold g1; rw [if_pos (by omega)]; simp)]; omega
theorem start2 (d : Bool) : S1 d 129 = S2 d (fun _ => false) := stL_congr fun j a b => by
  unfold g1 g2; rw [if_pos (by omega)]; rfl
theorem dirs2 {d : Bool} {F : Nat → Bool} : ∀ y ∈ S2 d F, y.dir = 1 := fun y hy => (mem_stL.1 hy).2.2.1
theorem step2a {d : Bool} {F : Nat → Bool} {k : Nat} (hT : TOk (S2 d F)) (h2 : 2 ≤ k) (h8 : k ≤ 128) (hF : F k = true) : tRemove (S2 d F) (47 :: lab k) d = ((0, 6), S2 d (updB F k true)) := by
  have e : S2 d (updB F k true) = S2 d F := stL_congr fun j a b => by
    unfold g2 updB
    by_cases e : j = k
    · subst e; rw [if_pos rfl, hF]
    · rw [if_neg e]
  rw [e]
  refine remove_no hT (lab_may (by omega)).1 (kidOf_stL_no (fun j a b h => ?_))
  unfold g2 at h
  by_cases h8' : F j = true
  · rw [if_pos h8'] at h; cases h
  · rw [if_neg h8'] at h
    have h7 := lab_inj (by omega) (by omega) (Option.some.inj h)
    subst h7; exact h8' hF
theorem step2b {d : Bool} {F : Nat → Bool} {k : Nat} (hT : TOk (S2 d F)) (h2 : 2 ≤ k) (h8 : k ≤ 128) (hF : F k = false) : tRemove (S2 d F) (47 :: lab k) d = ((k, 0), S2 d (updB F k true)) := by
  have hg : g2 F k = some (lab k) := by unfold g2; rw [hF]; rfl
  have := remove_one hT (lab_may (n := k) (by omega)).1 (kidOf_stL hT h2 (by omega) hg) dirs2
  rw [this, del_stL]
  refine congrArg _ (stL_congr fun j a b => ?_)
  unfold updG g2 updB
  by_cases e : j = k
  · subst e; simp
  · simp [e]
theorem start3 (d : Bool) (F : Nat → Bool) : S2 d F = S3 d F 2 := stL_congr fun j a b => by
  unfold g2 g3
  cases F j
  · rfl
  · rw [if_pos rfl, if_pos rfl, if_neg (by omega)]
theorem step3a {d : Bool} {F : Nat → Bool} {k : Nat} (hF : F k = false) : S3 d F k = S3 d F (k + 1) := stL_congr fun j a b => by
  unfold g3
  by_cases e : j = k
  · subst e; rw [hF]; rfl
  · cases F j
    · rfl
    · by_cases e2 : j < k
      · rw [if_pos rfl, if_pos rfl, if_pos e2, if_pos (by omega)]
      · rw [if_pos rfl, if_pos rfl, if_neg e2, if_neg (by omega)]
theorem step3b {d : Bool} {F : Nat → Bool} {k : Nat} (hT : TOk (S3 d F k)) (h2 : 2 ≤ k) (h8 : k ≤ 128) (hF : F k = true) : tMake (S3 d F k) (47 :: 121 :: lab k) d = ((k, 0), S3 d F (k + 1)) := by
  have hg : g3 F k k = none := by unfold g3; rw [if_pos hF, if_neg (by omega)]
  have hk : tKidOf (S3 d F k) 1 (121 :: lab k) = none := kidOf_stL_no (fun j a b h => by
    unfold g3 at h
    cases e : F j with
    | false =>
      rw [e] at h
      have := congrArg List.length (Option.some.inj h)
      simp [lab] at this
    | true =>
      rw [if_pos e] at h
      by_cases e2 : j < k
      · rw [if_pos e2] at h
        have := lab_inj (by omega) (by omega) (List.cons.inj (Option.some.inj h)).2
        omega
      · rw [if_neg e2] at h; cases h)
  have hlen : (S3 d F k).length < 127 := len_stL_lt (d := d) (g := g3 F k) (k := k) 127 2 h2 (by omega) hg
  have hle : tLeast 2 (S3 d F k) = k := least_stL 127 2 h2 (by omega) hg (fun j a b => by
    unfold g3
    cases F j
    · simp
    · rw [if_pos rfl, if_pos b]; simp)
  rw [make_one hT (lab_may (n := k) (by omega)).2 hk (by omega), hle, ins_stL 127 2 h2 (by omega) hg]
  refine congrArg _ (stL_congr fun j a b => ?_)
  unfold updG g3
  by_cases e : j = k
  · subst e; rw [if_pos rfl, if_pos hF, if_pos (by omega)]
  · rw [if_neg e]
    cases F j
    · rfl
    · by_cases e2 : j < k
      · rw [if_pos rfl, if_pos rfl, if_pos e2, if_pos (by omega)]
      · rw [if_pos rfl, if_pos rfl, if_neg e2, if_neg (by omega)]
theorem end3 (d : Bool) (F : Nat → Bool) : (inosL (S3 d F 129)).length = 128 := by
  rw [inosL_len, len_stL_all 127 2 (fun j a b => by
    unfold g3
    cases F j
    · simp
    · rw [if_pos rfl, if_pos (by omega)]; simp)]

/-! ### What lies in memory -/
def bA (F : Nat → Bool) : Array Value := ((List.range 129).map (fun i => Value.bool (F i))).toArray
theorem bA_at (F : Nat → Bool) {k : Nat} (hk : k < 129) : (bA F)[k]? = some (.bool (F k)) := by
  simp [bA, hk]
theorem bA_set (F : Nat → Bool) (k : Nat) (v : Bool) : (bA F).setIfInBounds k (.bool v) = bA (updB F k v) := by
  unfold bA
  rw [List.setIfInBounds_toArray]
  congr 1
  apply List.ext_getElem?
  intro i
  rw [List.getElem?_set]
  simp only [List.getElem?_map, List.length_map, List.length_range]
  unfold updB
  by_cases e : k = i
  · subst e
    by_cases h : k < 129
    · simp [h]
    · simp [h]
  · rw [if_neg e]
    have e' : ¬ i = k := fun h => e h.symm
    by_cases h : i < 129
    · simp [h, e']
    · simp [h]
theorem infoB : (Try.prog.info? 4).map (fun i => (i.zero, i.size, i.bytes)) = some (some (.bool false), 1, 1) := by kernel_rfl
theorem mkB (w : World) : (Instr.makeSlice 30 (.int .i64 129) (.int .i64 129)).run Try.prog w = .ok (.slice (some ⟨w.heap.size, 0, none⟩) 129 129) (w.alloc (.cells (bA (fun _ => false)) 4)) := by
  obtain ⟨i, hi, hz, h1, h2⟩ := info_parts infoB
  have h := run_make w 30 4 i _ Try.underlying30 hi hz .i64 .i64 129 129 (by omega) (by omega) (by rw [h2]; omega) (by omega)
  rw [h, h1]
  have e : madeCells (Value.bool false).cells (Int.toNat 129 * 1) = bA (fun _ => false) := by kernel_rfl
  rw [e]
  rfl
/-- A tree of our own, and what is free. -/
def OwnB (w0 w : World) (t : Nat) (T : PT) (kh : Nat) (F : Nat → Bool) : Prop := ∃ S, TreeAt w t S T ∧ (∀ x ∈ S, w0.heap.size ≤ x) ∧ Chg [] w0 w ∧ kh ∉ S ∧ w0.heap.size ≤ kh ∧ w.heap[kh]? = some (.cells (bA F) 4 (0, 0))
theorem OwnB.made {w0 w : World} {t : Nat} {T : PT} (h : Own w0 w t T) : OwnB w0 (w.alloc (.cells (bA (fun _ => false)) 4)) t T w.heap.size (fun _ => false) := by
  obtain ⟨S, h1, h2, h3⟩ := h
  have hl := h1.lim
  exact ⟨S, h1.keep0 ((Chg.refl [] w).alloc _), h2, h3.alloc _, fun hm => by have := hl _ hm; omega, h3.size, heap_alloc_new w _⟩
theorem OwnB.did {w0 w w1 : World} {t : Nat} {T' : PT} {kh : Nat} {F : Nat → Bool} {S : List Nat} (h2 : ∀ x ∈ S, w0.heap.size ≤ x) (h3 : Chg [] w0 w) (h4 : kh ∉ S) (h5 : w0.heap.size ≤ kh) (h6 : w.heap[kh]? = some (.cells (bA F) 4 (0, 0))) (hd : TDid w w1 t S T') : OwnB w0 w1 t T' kh F := by
  obtain ⟨S', d1, d2, d3⟩ := hd
  refine ⟨S', d1, fun x hx => ?_, h3.trans d3 (fun x hx => .inr (h2 x hx)), fun hm => ?_, h5, d3.keep h6 h4⟩
  · rcases d2 x hx with h | h
    · exact h2 x h
    · exact Nat.le_trans h3.size h
  · rcases d2 _ hm with h | h
    · exact h4 h
    · have := blk_lt h6; omega
theorem OwnB.keep {w0 w w1 : World} {t : Nat} {T : PT} {kh : Nat} {F : Nat → Bool} (h : OwnB w0 w t T kh F) (hc : Chg [] w w1) : OwnB w0 w1 t T kh F := by
  obtain ⟨S, h1, h2, h3, h4, h5, h6⟩ := h
  exact ⟨S, h1.keep0 hc, h2, chg_tr h3 hc, h4, h5, hc.keep h6 (by simp)⟩
theorem OwnB.set {w0 w : World} {t : Nat} {T : PT} {kh : Nat} {F : Nat → Bool} (h : OwnB w0 w t T kh F) (k : Nat) (v : Bool) : OwnB w0 (w.setCell ⟨kh, k, none⟩ (.bool v)) t T kh (updB F k v) := by
  obtain ⟨S, h1, h2, h3, h4, h5, h6⟩ := h
  refine ⟨S, h1.keep ((Chg.refl [kh] w).setCell (.inl (by simp)) _) (fun x hx hm => h4 (by simp at hm; subst hm; exact hx)), h2, h3.setCell (.inr h5) _, h4, h5, ?_⟩
  rw [set_blk h6, bA_set]
theorem OwnB.ok {w0 w : World} {t : Nat} {T : PT} {kh : Nat} {F : Nat → Bool} (h : OwnB w0 w t T kh F) : TOk T := by obtain ⟨S, h1, _⟩ := h; exact h1.ok
theorem OwnB.cell {w0 w : World} {t : Nat} {T : PT} {kh : Nat} {F : Nat → Bool} (h : OwnB w0 w t T kh F) {k : Nat} (hk : k < 129) : w.cell? ⟨kh, k, none⟩ = some (.bool (F k)) ∧ w.frozen? ⟨kh, k, none⟩ = false := by
  obtain ⟨S, h1, h2, h3, h4, h5, h6⟩ := h
  exact ⟨blk_cell h6 k _ (bA_at F hk), blk_frozen h6 k⟩
def BPost (w0 : World) (t kh : Nat) (F : Nat → Bool) (r : (Nat × Int) × PT) (e : Ending) (w' : World) : Prop := e = .returned (.tuple #[.int .i64 (r.1.1 : Int), .int .i64 r.1.2]) ∧ OwnB w0 w' t r.2 kh F
theorem bmake_any {w0 w : World} {t : Nat} {T : PT} {kh : Nat} {F : Nat → Bool} (h : OwnB w0 w t T kh F) (s : ByteArray) (l : List UInt8) (hs : s = mk l) (d : Bool) (r : (Nat × Int) × PT) (hr : tMake T l d = r) (hl : l.length ≤ 1000) : Calls Try.prog 9 #[.pointer (some ⟨t, 0, none⟩), .string s, .bool d] w (BPost w0 t kh F r) := by
  subst hs
  obtain ⟨S, h1, h2, h3, h4, h5, h6⟩ := h
  have := tmake_any t S T (mk l) d w h1 (mk_size l (by unfold maxLen; omega))
  rw [data_mk, hr] at this
  exact this.mono fun e w' ⟨he, hd⟩ => ⟨he, OwnB.did h2 h3 h4 h5 h6 hd⟩
theorem bremove_any {w0 w : World} {t : Nat} {T : PT} {kh : Nat} {F : Nat → Bool} (h : OwnB w0 w t T kh F) (s : ByteArray) (l : List UInt8) (hs : s = mk l) (d : Bool) (r : (Nat × Int) × PT) (hr : tRemove T l d = r) (hl : l.length ≤ 1000) : Calls Try.prog 11 #[.pointer (some ⟨t, 0, none⟩), .string s, .bool d] w (BPost w0 t kh F r) := by
  subst hs
  obtain ⟨S, h1, h2, h3, h4, h5, h6⟩ := h
  have := tremove_any t S T (mk l) d w h1 (mk_size l (by unfold maxLen; omega))
  rw [data_mk, hr] at this
  exact this.mono fun e w' ⟨he, hd⟩ => ⟨he, OwnB.did h2 h3 h4 h5 h6 hd⟩
theorem omakeS_any {w0 w : World} {t : Nat} {T : PT} (h : Own w0 w t T) (s : ByteArray) (l : List UInt8) (hs : s = mk l) (d : Bool) (r : (Nat × Int) × PT) (hr : tMake T l d = r) (hl : l.length ≤ 1000) : Calls Try.prog 9 #[.pointer (some ⟨t, 0, none⟩), .string s, .bool d] w (OMakePost w0 t r) := by
  subst hs
  exact omake_any h l d r hr (by unfold maxLen; omega)

set_option maxHeartbeats 8000000 in
set_option maxRecDepth 100000 in
theorem walk (a0 : Option Addr) (len0 cap0 : Nat) (z0 : List Int) (d : Bool) (W : World) (w0 : IsRow .u8 W a0 len0 cap0 z0) :
    Calls Try.prog 3 #[.slice a0 len0 cap0, .bool d] W fun e W' => e = .returned (.bool true) ∧ Below W.heap.size W W' := by
  obtain ⟨hrow, hlen, hlz, hwf⟩ := w0.rowAt
  have CA := Lib.hid (tawake_any W)
  have HW := Lib.hid hwf
  have HR := Lib.hid hrow
  clear w0 hwf hrow
  unfold maxLen at hlen
  by_cases h40 : 40 < len0
  · go_enter Try.func3, Try.ntmps3
    go_wp2_with fail
    refine CA.out.mono ?_
    rintro e w1 ⟨rfl, hc1⟩
    have H1 := Lib.hid (hc1.below (by simp))
    clear hc1
    go_wp2
    go_ret
    exact ⟨rfl, H1.out⟩
  · go_enter Try.func3, Try.ntmps3
    go_wp2_with fail
    refine CA.out.mono ?_
    rintro e w1 ⟨rfl, hc1⟩
    have CN := Lib.hid (onew_any hc1)
    clear hc1 CA
    go_wp2_with fail
    refine CN.out.mono ?_
    rintro e w2 ⟨t, rfl, ht⟩
    rw [← start1 d] at ht
    have HT := Lib.hid ht
    clear ht CN
    go_wp2
    go_loopg [6] 127 (fun gh v6 wr => ∃ i : Nat, v6 = .int .i64 i ∧ 2 ≤ i ∧ i ≤ 129 ∧ 129 ≤ i + gh ∧ Hid (Own W wr t (S1 d i)))
    case atStart => exact ⟨2, rfl, by omega, by omega, by omega, HT⟩
    case round =>
      obtain ⟨i, rfl, hi2, hi9, hig, HS⟩ := hrel
      by_cases hlt : i ≤ 128
      · have CL := Lib.hid (label_any i wr (by omega))
        obtain ⟨L, hL⟩ : ∃ L, L = lab i := ⟨_, rfl⟩
        have hll : L.length ≤ 3 := by rw [hL, lab_len]; omega
        have HM := Lib.hid (step1 HS.out.ok hi2 hlt)
        rw [← hL] at CL HM
        clear hL
        go_wp2_with fail
        refine CL.out.mono ?_
        rintro e w3 ⟨rfl, hc3⟩
        have HS3 := Lib.hid (HS.out.keep hc3)
        clear hc3 CL
        go_wp2_with fail
        refine (omakeS_any HS3.out _ (47 :: L) (mk_append [47] L) d _ HM.out (by simp; omega)).mono ?_
        rintro e w4 ⟨rfl, h4⟩
        have HS4 := Lib.hid h4
        clear h4 HM HS3
        go_wp2
        go_roundg (128 - i)
        case measure => omega
        case rel => exact ⟨i + 1, by go_num, by omega, by omega, by omega, HS4⟩
      · obtain rfl : i = 129 := by omega
        have HM := Lib.hid (full1 HS.out.ok)
        go_wp2_with fail
        refine (omake_any HS.out [47, 120] d _ HM.out (by decide)).mono ?_
        rintro e w3 ⟨rfl, h3⟩
        have HS3 := Lib.hid h3
        clear h3 HM HS
        have hmk := mkB w3
        have HB := Lib.hid (OwnB.made HS3.out)
        rw [start2] at HB
        generalize w3.heap.size = kh at *
        go_wp2
        go_loopg [12] len0 (fun gh v12 wr => ∃ (j : Nat) (F : Nat → Bool), v12 = .int .i64 j ∧ j ≤ len0 ∧ len0 ≤ j + gh ∧ Hid (OwnB W wr t (S2 d F) kh F))
        case atStart => exact ⟨0, _, rfl, by omega, by omega, HB⟩
        case round =>
          obtain ⟨j, F, rfl, hj, hjg, HS⟩ := hrel
          by_cases hlt : j < len0
          · have hz : 0 ≤ z0.getD j 0 ∧ z0.getD j 0 < 256 := by
              have := HW.out j
              simp [Lit.wf, IntKind.min, IntKind.max, IntKind.signed, IntKind.bits] at this
              simp; omega
            obtain ⟨z, hz0, hzz⟩ : ∃ z : Int, z0.getD j 0 = z ∧ 0 ≤ z ∧ z < 256 := ⟨_, rfl, hz⟩
            obtain ⟨g, off, rfl, hcz⟩ : ∃ g off, a0 = some ⟨g, off, none⟩ ∧ wr.cell? ⟨g, off + j, none⟩ = some (.int .u8 z) := by
              rcases HR.out with h0 | ⟨g, off, h1, h2, h3⟩
              · omega
              · obtain ⟨S, b1, b2, b3, b4, b5, b6⟩ := HS.out
                exact ⟨g, off, h1, b3.cell (p := ⟨g, off + j, none⟩) ((h3 j hlt).trans (by simp only [hz0])) (by simp)⟩
            obtain ⟨k, hk⟩ : ∃ k : Nat, 2 + z % 127 = k := ⟨(2 + z % 127).toNat, by omega⟩
            have hk2 : 2 ≤ k := by omega
            have hk8 : k ≤ 128 := by omega
            have hmod : z % 127 = (k : Int) - 2 := by omega
            clear hz hz0 hk
            have CL : Hid (∀ x : Int, x = k → Calls Try.prog 10 #[.int .i64 x] wr fun e w' => e = .returned (.string (mk (lab k))) ∧ Chg [] wr w') := Lib.hid (fun x hx => by subst hx; exact label_any k wr (by omega))
            obtain ⟨L, hL⟩ : ∃ L, L = lab k := ⟨_, rfl⟩
            have hll : L.length ≤ 3 := by rw [hL, lab_len]; omega
            have HR : Hid (∃ rr : Int, tRemove (S2 d F) (47 :: L) d = (((if F k then 0 else k), if F k then 6 else 0), S2 d (updB F k true))) := Lib.hid (by
              cases hF : F k with
              | true => exact ⟨0, by rw [hL]; exact step2a HS.out.ok hk2 hk8 hF⟩
              | false => exact ⟨0, by rw [hL]; exact step2b HS.out.ok hk2 hk8 hF⟩)
            obtain ⟨_, HM⟩ := HR.out
            have HM := Lib.hid HM
            rw [← hL] at CL
            clear hL HR
            generalize hb : F k = fk at HM
            have HFK := Lib.hid hb
            clear hb
            all_goals cases fk
            all_goals
              go_wp2_with fail
              refine (CL.out _ (by omega)).mono ?_
              rintro e w4 ⟨rfl, hc4⟩
              have HS4 := Lib.hid (HS.out.keep hc4)
              clear hc4 CL
              go_wp2_with fail
              refine (bremove_any HS4.out _ (47 :: L) (mk_append [47] L) d _ HM.out (by simp; omega)).mono ?_
              rintro e w5 ⟨rfl, h5⟩
              have HS5 := Lib.hid h5
              clear h5 HM HS4
              obtain ⟨c1, c2⟩ := HS5.out.cell (k := k) (by omega)
              rw [HFK.out] at c1
              have HS6 := Lib.hid (HS5.out.set k true)
              go_wp2
              go_roundg (len0 - j - 1)
              case measure => omega
              case rel => exact ⟨j + 1, _, by go_num, by omega, by omega, HS6⟩
          · obtain rfl : j = len0 := by omega
            have HS3 : Hid (OwnB W wr t (S3 d F 2) kh F) := Lib.hid (by rw [← start3]; exact HS.out)
            clear HS hmk
            go_wp2
            go_loopg [16] 127 (fun gh v16 wr => ∃ (k : Nat), v16 = .int .i64 k ∧ 2 ≤ k ∧ k ≤ 129 ∧ 129 ≤ k + gh ∧ Hid (OwnB W wr t (S3 d F k) kh F))
            case atStart => exact ⟨2, rfl, by omega, by omega, by omega, HS3⟩
            case round =>
              obtain ⟨k, rfl, hk2, hk9, hkg, HS⟩ := hrel
              by_cases hk8 : k ≤ 128
              · obtain ⟨c1, c2⟩ := HS.out.cell (k := k) (by omega)
                cases hF : F k with
                | false =>
                  rw [hF] at c1
                  have HS6 : Hid (OwnB W wr t (S3 d F (k + 1)) kh F) := Lib.hid (by rw [← step3a hF]; exact HS.out)
                  clear hF
                  go_wp2
                  go_roundg (128 - k)
                  case measure => omega
                  case rel => exact ⟨k + 1, by go_num, by omega, by omega, by omega, HS6⟩
                | true =>
                  rw [hF] at c1
                  have HM := Lib.hid (step3b HS.out.ok hk2 hk8 hF)
                  clear hF
                  have CL := Lib.hid (label_any k wr (by omega))
                  obtain ⟨L, hL⟩ : ∃ L, L = lab k := ⟨_, rfl⟩
                  have hll : L.length ≤ 3 := by rw [hL, lab_len]; omega
                  rw [← hL] at CL HM
                  clear hL
                  go_wp2_with fail
                  refine CL.out.mono ?_
                  rintro e w4 ⟨rfl, hc4⟩
                  have HS4 := Lib.hid (HS.out.keep hc4)
                  clear hc4 CL c1 c2
                  go_wp2_with fail
                  refine (bmake_any HS4.out _ (47 :: 121 :: L) (mk_append [47, 121] L) d _ HM.out (by simp; omega)).mono ?_
                  rintro e w5 ⟨rfl, h5⟩
                  have HS5 := Lib.hid h5
                  clear h5 HM HS4
                  go_wp2
                  go_roundg (128 - k)
                  case measure => omega
                  case rel => exact ⟨k + 1, by go_num, by omega, by omega, by omega, HS5⟩
              · obtain rfl : k = 129 := by omega
                have CI : Hid (Calls Try.prog 12 #[.pointer (some ⟨t, 0, none⟩)] wr fun e w' => (∃ a c, e = .returned (.slice a 128 c)) ∧ Chg [] W w') := Lib.hid (by
                  obtain ⟨S, h1, h2, h3, h4, h5, h6⟩ := HS.out
                  refine (tinos_any t S _ wr h1).mono ?_
                  rintro e w' ⟨v, rfl, hr, hc⟩
                  rw [end3] at hr
                  obtain ⟨a, c, rfl, _⟩ := rowAt_own hr
                  exact ⟨⟨_, _, rfl⟩, chg_tr h3 hc⟩)
                clear HS
                go_wp2_with fail
                refine CI.out.mono ?_
                rintro e w6 ⟨⟨a, c, rfl⟩, hc6⟩
                have HC6 := Lib.hid (hc6.below (by simp))
                clear hc6
                go_wp2
                go_ret
                exact ⟨rfl, HC6.out⟩
end Go.Proofs.Ytaiihklfeoeoeaa.treeFull
