/- Package slot: must, head. -/
import Derived.Test.YtipfgghdoicdhaaDoorTrim
import Derived.Test.YtipfgghdoicdhaaDoorERaw2
namespace Go.Proofs.YtipfgghdoicdhaaDoor.W
open Go.RowKit
set_option linter.unusedVariables false
set_option linter.unusedSimpArgs false

/-- What a slot's head says. -/
structure SRow where
  used : Bool
  n : Nat
  key : List UInt8
def noRow : SRow := ⟨false, 0, []⟩
/-- The head of a sector, if it is one. -/
def headOf (b : List UInt8) : Option SRow :=
  if allZ b then some noRow else
    if (eyeRaw (eyeNum (eyeNum b 0 1).2.1 (eyeNum b 0 1).2.2 2).2.1 (eyeNum (eyeNum b 0 1).2.1 (eyeNum b 0 1).2.2 2).2.2 40).2.2 ≠ 0 ∨ (eyeNum b 0 1).1 ≠ 1 ∨ 448 < (eyeNum (eyeNum b 0 1).2.1 (eyeNum b 0 1).2.2 2).1 ∨
      allZ (eyeRaw (eyeNum (eyeNum b 0 1).2.1 (eyeNum b 0 1).2.2 2).2.1 (eyeNum (eyeNum b 0 1).2.1 (eyeNum b 0 1).2.2 2).2.2 40).2.1 = false then none
    else some ⟨true, (eyeNum (eyeNum b 0 1).2.1 (eyeNum b 0 1).2.2 2).1.toNat, (eyeRaw (eyeNum (eyeNum b 0 1).2.1 (eyeNum b 0 1).2.2 2).2.1 (eyeNum (eyeNum b 0 1).2.1 (eyeNum b 0 1).2.2 2).2.2 40).1⟩

/-- Giving up. -/
def broke (x : Int) : Ending := .panicked [{ v := .iface 82 (.agg #[.int .i64 x]), recovered := false }]

theorem must_ok (w : World) : Calls Tryd.prog 43 #[.int .i64 0] w fun e w' => e = .returned (.tuple #[]) ∧ w = w' := by
  go_enter Tryd.func43, Tryd.ntmps43
  go_wp2
  go_end0
  exact ⟨rfl, rfl⟩
theorem must_bad (x : Int) (hx : x ≠ 0) (w : World) : Calls Tryd.prog 43 #[.int .i64 x] w fun e w' => e = broke x ∧ w = w' := by
  have q : (x != 0) = true := by simp [hx]
  unfold broke
  clear hx
  go_enter Tryd.func43, Tryd.ntmps43
  go_wp2
  exact ⟨rfl, rfl, rfl⟩

theorem suffix_eq {l m : List UInt8} (h : m <:+ l) : l.drop (l.length - m.length) = m := by
  obtain ⟨t, rfl⟩ := h
  simp
theorem eyeNum_suffix (l : List UInt8) (bad : Int) (n : Nat) : (eyeNum l bad n).2.1 <:+ l := by
  unfold eyeNum
  split
  · exact List.suffix_refl _
  · split
    · exact List.suffix_refl _
    · exact List.drop_suffix _ _
theorem eyeRaw_suffix (l : List UInt8) (bad : Int) (n : Nat) : (eyeRaw l bad n).2.1 <:+ l := by
  unfold eyeRaw
  split
  · exact List.suffix_refl _
  · split
    · exact List.suffix_refl _
    · split
      · exact List.suffix_refl _
      · split
        · exact List.suffix_refl _
        · exact (List.drop_suffix _ _).trans (List.drop_suffix _ _)
theorem eyeNum_nonneg (l : List UInt8) (bad : Int) (n : Nat) : 0 ≤ (eyeNum l bad n).1 := by
  unfold eyeNum
  split
  · exact Int.le_refl _
  · split
    · exact Int.le_refl _
    · exact Int.natCast_nonneg _
theorem eyeNum_err (l : List UInt8) (bad : Int) (n : Nat) : (eyeNum l bad n).2.2 = bad ∨ (eyeNum l bad n).2.2 = 2 ∨ (eyeNum l bad n).2.2 = 0 := by
  unfold eyeNum
  split
  · exact .inl rfl
  · split
    · exact .inr (.inl rfl)
    · exact .inr (.inr rfl)
theorem eyeRaw_err (l : List UInt8) (bad : Int) (n : Nat) : (eyeRaw l bad n).2.2 = bad ∨ (eyeRaw l bad n).2.2 = 2 ∨ (eyeRaw l bad n).2.2 = 3 ∨ (eyeRaw l bad n).2.2 = 0 := by
  unfold eyeRaw
  split
  · exact .inl rfl
  · split
    · exact .inr (.inl rfl)
    · split
      · exact .inr (.inr (.inl rfl))
      · split
        · exact .inr (.inl rfl)
        · exact .inr (.inr (.inr rfl))

/-- What head answers. -/
def HeadPost (b : List UInt8) (w : World) (e : Ending) (w' : World) : Prop :=
  Chg [] w w' ∧ match headOf b with
  | some r => ∃ kv, e = .returned (.agg #[.bool r.used, .int .i64 (r.n : Int), kv]) ∧ BRow w' kv r.key ∧ ∀ k, kv.ownBlock = some k → w.heap.size ≤ k
  | none => ∃ x : Int, e = broke x ∧ x ≠ 14

theorem BytesAt.slice {w : World} {v : Value} {l : List UInt8} (h : BytesAt w v l) : ∃ a cap, v = .slice a l.length cap := by
  obtain ⟨a, cap, h, _⟩ := h
  exact ⟨a, cap, h⟩
theorem BytesAt.chg {w w' : World} {v : Value} {l : List UInt8} {S : List Nat} (h : BytesAt w v l) (hc : Chg S w w') (hS : ∀ k, v.ownBlock = some k → k ∉ S) : BytesAt w' v l := by
  obtain ⟨a, cap, rfl, h1, h2, h3⟩ := h
  refine ⟨a, cap, rfl, h1, h2, ?_⟩
  rcases h3 with h3 | ⟨g, o, rfl, hcell⟩
  · exact .inl h3
  · exact .inr ⟨g, o, rfl, fun i hi => hc.cell (hcell i hi) (hS g rfl)⟩
theorem BytesAt.chgW {w w' : World} {v : Value} {l : List UInt8} {S : List Nat} (h : BytesAt w v l) (hc : Chg S w w') (hS : l ≠ [] → ∀ k, v.ownBlock = some k → k ∉ S) : BytesAt w' v l := by
  by_cases hl : l = []
  · subst hl
    obtain ⟨a, cap, rfl, h1, h2, h3⟩ := h
    refine ⟨a, cap, rfl, h1, h2, ?_⟩
    rcases h3 with h3 | ⟨g, o, rfl, _⟩
    · exact .inl h3
    · exact .inr ⟨g, o, rfl, fun i hi => by simp at hi⟩
  · exact h.chg hc (hS hl)
theorem BytesAt.lt {w : World} {v : Value} {l : List UInt8} (h : BytesAt w v l) (hl : l ≠ []) : ∀ k, v.ownBlock = some k → k < w.heap.size := by
  obtain ⟨a, cap, rfl, h1, h2, h3⟩ := h
  rcases h3 with ⟨rfl, _⟩ | ⟨g, o, rfl, hcell⟩
  · exact absurd rfl hl
  · intro k hk
    obtain rfl : g = k := by simpa [Value.ownBlock] using hk
    exact World.block_lt_of_cell? w _ (hcell 0 (List.length_pos_iff.2 hl))
theorem BytesAt.tail {w : World} {a : Addr} {cap : Nat} {l m : List UInt8} (h : BytesAt w (.slice (some a) l.length cap) l) (hm : m <:+ l) (o2 : Nat) (ho : m ≠ [] → o2 = a.off + (l.length - m.length)) :
    BytesAt w (.slice (some ⟨a.block, o2, none⟩) m.length (cap - (l.length - m.length))) m := by
  obtain ⟨aa, c2, he, h1, h2, h3⟩ := h
  obtain ⟨rfl, rfl⟩ : some a = aa ∧ cap = c2 := by simpa using he
  have hle : m.length ≤ l.length := hm.length_le
  refine ⟨_, _, rfl, by omega, by omega, ?_⟩
  by_cases hm0 : m = []
  · subst hm0
    exact .inr ⟨_, _, rfl, fun i hi => absurd hi (by simp)⟩
  · right
    have hpos := List.length_pos_iff.2 hm0
    rcases h3 with ⟨rfl, _⟩ | ⟨g, o, e, hcell⟩
    · simp at hle; exact absurd hle hm0
    · obtain rfl : a = ⟨g, o, none⟩ := by simpa using e
      refine ⟨g, o2, rfl, fun i hi => ?_⟩
      rw [ho hm0]
      have hg : m.getD i 0 = l.getD (l.length - m.length + i) 0 := by
        have h5 := suffix_eq hm
        conv => lhs; rw [← h5]
        rw [getD_drop]
      rw [hg, Nat.add_assoc]
      exact hcell _ (by omega)

theorem set3 {w : World} {b t : Nat} {u0 u1 u2 v0 v1 v2 : Value} (h : w.heap[b]? = some (.cells #[v0, v1, v2] t (0, 0))) : (((w.setCell ⟨b, 0, none⟩ u0).setCell ⟨b, 1, none⟩ u1).setCell ⟨b, 2, none⟩ u2).heap[b]? = some (.cells #[u0, u1, u2] t (0, 0)) := set_blk (set_blk (set_blk h))

set_option maxHeartbeats 8000000 in
set_option maxRecDepth 100000 in
theorem head_any (v : Value) (b : List UInt8) (w : World) (h : BytesAt w v b) (hl : b.length ≤ 1000000) :
    Calls Tryd.prog 44 #[v] w (HeadPost b w) := by
  obtain ⟨a, cap, rfl⟩ := h.slice
  obtain ⟨w0, hw0⟩ : ∃ w0, w0 = w.alloc (.cells #[.bool false, .int .i64 0, .slice none 0 0] 89) := ⟨_, rfl⟩
  have hc0 : Chg [] w w0 := by rw [hw0]; exact (Chg.refl _ _).alloc _
  have hr0 : w0.heap[w.heap.size]? = some (.cells #[.bool false, .int .i64 0, .slice none 0 0] 89 (0, 0)) := by rw [hw0]; exact heap_alloc_new w _
  have h0 : BytesAt w0 (.slice a b.length cap) b := h.chg hc0 (by simp)
  have CZ := Lib.hid (noughts_any _ b w0 h0 (by omega))
  have HW0 := Lib.hid hw0
  by_cases hz : allZ b = true
  · have hh : headOf b = some noRow := by unfold headOf; rw [if_pos hz]
    have hP : ∀ w', Chg [] w w' → HeadPost b w (.returned (.agg #[.bool false, .int .i64 0, .slice none 0 0])) w' := fun w' hc => by
      refine ⟨hc, ?_⟩
      rw [hh]
      exact ⟨.slice none 0 0, rfl, BRow.nil _, by simp [Value.ownBlock]⟩
    have HP := Lib.hid hP
    have HC0 := Lib.hid hc0
    have HR0 := Lib.hid hr0
    rw [hz] at CZ
    clear h h0 hz hh hP hc0 hr0 hw0
    go_enter Tryd.func44, Tryd.ntmps44
    go_wp2_with fail
    rw [← HW0.out]
    refine CZ.out.mono ?_
    rintro e w1 ⟨rfl, n, rfl⟩
    have c0 : (w0.drewN n).cell? ⟨w.heap.size, 0, none⟩ = some (.bool false) := blk_cell HR0.out 0 _ rfl
    have c1 : (w0.drewN n).cell? ⟨w.heap.size, 1, none⟩ = some (.int .i64 0) := blk_cell HR0.out 1 _ rfl
    have c2 : (w0.drewN n).cell? ⟨w.heap.size, 2, none⟩ = some (.slice none 0 0) := blk_cell HR0.out 2 _ rfl
    have HR1 : Hid ((w0.drewN n).heap[w.heap.size]? = some (.cells #[.bool false, .int .i64 0, .slice none 0 0] 89 (0, 0))) := Lib.hid HR0.out
    have f0 : (w0.drewN n).frozen? ⟨w.heap.size, 0, none⟩ = false := blk_frozen HR0.out 0
    have f1 : (w0.drewN n).frozen? ⟨w.heap.size, 1, none⟩ = false := blk_frozen HR0.out 1
    have f2 : (w0.drewN n).frozen? ⟨w.heap.size, 2, none⟩ = false := blk_frozen HR0.out 2
    have hl0 : w.heap.size < (w0.drewN n).heap.size := blk_lt HR0.out
    have HD : Hid (Chg [] w (w0.drewN n)) := Lib.hid (HC0.out.drewN n)
    generalize w0.drewN n = w1 at *
    clear CZ
    go_wp2
    have hb3 := set3 (u0 := .bool false) (u1 := .int .i64 0) (u2 := .slice none 0 0) HR1.out
    refine bodyPost_ret (v := .agg #[.bool false, .int .i64 0, .slice none 0 0]) (by simp [results, Tryd.results44, go_sem, blk_cell hb3 0 _ rfl, blk_cell hb3 1 _ rfl, blk_cell hb3 2 _ rfl]) rfl (HP.out _ ?_)
    exact Chg.mono (S := [w.heap.size]) (((HD.out.mono (by simp)).setCell (.inl (by simp)) _).setCell (.inl (by simp)) _ |>.setCell (.inl (by simp)) _) (fun x hx => .inr (by simp at hx; omega))
  · have hzf : allZ b = false := by simpa using hz
    have hhd : headOf b = if (eyeRaw (eyeNum (eyeNum b 0 1).2.1 (eyeNum b 0 1).2.2 2).2.1 (eyeNum (eyeNum b 0 1).2.1 (eyeNum b 0 1).2.2 2).2.2 40).2.2 ≠ 0 ∨ (eyeNum b 0 1).1 ≠ 1 ∨ 448 < (eyeNum (eyeNum b 0 1).2.1 (eyeNum b 0 1).2.2 2).1 ∨
      allZ (eyeRaw (eyeNum (eyeNum b 0 1).2.1 (eyeNum b 0 1).2.2 2).2.1 (eyeNum (eyeNum b 0 1).2.1 (eyeNum b 0 1).2.2 2).2.2 40).2.1 = false then none
    else some ⟨true, (eyeNum (eyeNum b 0 1).2.1 (eyeNum b 0 1).2.2 2).1.toNat, (eyeRaw (eyeNum (eyeNum b 0 1).2.1 (eyeNum b 0 1).2.2 2).2.1 (eyeNum (eyeNum b 0 1).2.1 (eyeNum b 0 1).2.2 2).2.2 40).1⟩ := by
      unfold headOf; rw [if_neg hz]
    rw [hzf] at CZ
    have hsuf : (eyeRaw (eyeNum (eyeNum b 0 1).2.1 (eyeNum b 0 1).2.2 2).2.1 (eyeNum (eyeNum b 0 1).2.1 (eyeNum b 0 1).2.2 2).2.2 40).2.1 <:+ b := (eyeRaw_suffix _ _ _).trans ((eyeNum_suffix _ _ _).trans (eyeNum_suffix _ _ _))
    have herr : (eyeRaw (eyeNum (eyeNum b 0 1).2.1 (eyeNum b 0 1).2.2 2).2.1 (eyeNum (eyeNum b 0 1).2.1 (eyeNum b 0 1).2.2 2).2.2 40).2.2 ≠ 14 := by
      have h1 := eyeRaw_err (eyeNum (eyeNum b 0 1).2.1 (eyeNum b 0 1).2.2 2).2.1 (eyeNum (eyeNum b 0 1).2.1 (eyeNum b 0 1).2.2 2).2.2 40
      have h2 := eyeNum_err (eyeNum b 0 1).2.1 (eyeNum b 0 1).2.2 2
      have h3 := eyeNum_err b 0 1
      omega
    have hn2 := eyeNum_nonneg (eyeNum b 0 1).2.1 (eyeNum b 0 1).2.2 2
    have CN1 := fun (b' g : Nat) (w' : World) (h : EyeAt w' b' g b 0) => enum_any b' g b 0 1 w' h (by omega) (by omega)
    rw [show (1 : Int).toNat = 1 from rfl] at CN1
    generalize hr1 : eyeNum b 0 1 = r1 at *
    have CN2 := fun (b' g : Nat) (w' : World) (h : EyeAt w' b' g r1.2.1 r1.2.2) => enum_any b' g r1.2.1 r1.2.2 2 w' h (by omega) (by omega)
    rw [show (2 : Int).toNat = 2 from rfl] at CN2
    generalize hr2 : eyeNum r1.2.1 r1.2.2 2 = r2 at *
    have CR3 := fun (b' g : Nat) (w' : World) (h : EyeAt w' b' g r2.2.1 r2.2.2) => eraw_any b' g r2.2.1 r2.2.2 40 w' h (by omega)
    generalize hr3 : eyeRaw r2.2.1 r2.2.2 40 = r3 at *
    obtain ⟨k1, l1, e1⟩ := r1
    obtain ⟨k2, l2, e2⟩ := r2
    obtain ⟨key, l3, e3⟩ := r3
    dsimp only at hhd hsuf herr hn2 CN1 CN2 CR3
    clear hr1 hr2 hr3
    have HHD := Lib.hid hhd
    have HSUF := Lib.hid hsuf
    have HERR := Lib.hid herr
    have HN1 := Lib.hid CN1
    have HN2 := Lib.hid CN2
    have HR3 := Lib.hid CR3
    have HC0 := Lib.hid hc0
    have HR0 := Lib.hid hr0
    have HB0 := Lib.hid h0
    have hbn : b ≠ [] := fun e => hz (by rw [e]; rfl)
    have HBV := Lib.hid (h.lt hbn)
    have hbpos : 0 < b.length := List.length_pos_iff.2 hbn
    clear hbn
    clear h h0 hz hzf hhd hsuf herr CN1 CN2 CR3 hc0 hr0 hw0
    go_enter Tryd.func44, Tryd.ntmps44
    go_wp2_with fail
    rw [← HW0.out]
    refine CZ.out.mono ?_
    rintro e w1 ⟨rfl, n, hw1⟩
    have hcd : Chg [] w0 w1 := by rw [hw1]; exact (Chg.refl _ _).drewN n
    have HB1 := Lib.hid (HB0.out.chg hcd (by simp))
    have HC1 := Lib.hid (HC0.out.trans hcd (by simp))
    have HRW1 := Lib.hid (hcd.keep HR0.out (by simp))
    clear hw1 hcd CZ HC0 HR0 HB0 HW0
    go_wp2_with fail
    refine (neweye_any _ b w1 HB1.out hl).mono ?_
    rintro e w2 ⟨eb, eg, rfl, hE2, heb, heg, hc2⟩
    have HB2 := Lib.hid (HB1.out.chg hc2 (by simp))
    have HC2 := Lib.hid (HC1.out.trans hc2 (by simp))
    have HRW2 := Lib.hid (hc2.keep HRW1.out (by simp))
    have HE2 := Lib.hid hE2
    have hebw : w.heap.size ≤ eb := Nat.le_trans HC1.out.size heb
    have hnl : w.heap.size < eb := by
      have := blk_lt HRW1.out
      omega
    clear hE2 hc2 HB1 HC1
    go_wp2_with fail
    refine (HN1.out eb eg w2 HE2.out).mono ?_
    rintro e w3 ⟨rfl, hE3, hc3⟩
    have hbe : ∀ k, (Value.slice a b.length cap).ownBlock = some k → k ∉ [eb] := fun k hk => by have := HBV.out k hk; simp; omega
    have HB3 := Lib.hid (HB2.out.chg hc3 hbe)
    have HC3 := Lib.hid (HC2.out.trans hc3 (fun x hx => .inr (by simp at hx; omega)))
    have HRW3 := Lib.hid (hc3.keep HRW2.out (by simp; omega))
    have HE3 := Lib.hid hE3
    have HBE := Lib.hid hbe
    clear hE3 hc3 HB2 HC2 HRW2 HE2 hbe
    go_wp2_with fail
    refine (HN2.out eb eg w3 HE3.out).mono ?_
    rintro e w4 ⟨rfl, hE4, hc4⟩
    have HB4 := Lib.hid (HB3.out.chg hc4 HBE.out)
    have HC4 := Lib.hid (HC3.out.trans hc4 (fun x hx => .inr (by simp at hx; omega)))
    have HRW4 := Lib.hid (hc4.keep HRW3.out (by simp; omega))
    have HE4 := Lib.hid hE4
    clear hE4 hc4 HB3 HC3 HRW3 HE3
    go_wp2_with fail
    refine (HR3.out eb eg w4 HE4.out).mono ?_
    rintro e w5 ⟨kv, rfl, hkr, hkn, hE5, hc5⟩
    have HB5 := Lib.hid (HB4.out.chg hc5 HBE.out)
    have HC5 := Lib.hid (HC4.out.trans hc5 (fun x hx => .inr (by simp at hx; omega)))
    have HRW5 := Lib.hid (hc5.keep HRW4.out (by simp; omega))
    have HE5 := Lib.hid hE5
    have HKR := Lib.hid hkr
    have HKN : Hid (∀ k, kv.ownBlock = some k → w.heap.size < k) := Lib.hid (fun k hk => by
      have h1 := hkn k hk
      have h2 := blk_lt HRW4.out
      omega)
    have HKL := Lib.hid hkr.lt
    have hkform : ∃ a5 c5, kv = .slice a5 key.length c5 := by
      obtain ⟨a5, c5, h5, _⟩ := hkr.bytes
      exact ⟨a5, c5, h5⟩
    obtain ⟨a5, c5, hkv⟩ := hkform
    have HKV := Lib.hid hkv
    clear hE5 hc5 HB4 HC4 HRW4 HE4 hkr hkn hkv
    have hPn : ∀ (x : Int) (w' : World), (e3 ≠ 0 ∨ k1 ≠ 1 ∨ 448 < k2 ∨ allZ l3 = false) → x ≠ 14 → Chg [] w w' → HeadPost b w (broke x) w' := fun x w' h1 h2 h3 => by
      refine ⟨h3, ?_⟩
      rw [HHD.out, if_pos h1]
      exact ⟨x, rfl, h2⟩
    have hPs : ∀ (kv : Value) (w' : World), ¬ (e3 ≠ 0 ∨ k1 ≠ 1 ∨ 448 < k2 ∨ allZ l3 = false) → Chg [] w w' → BRow w' kv key → (∀ k, kv.ownBlock = some k → w.heap.size ≤ k) → HeadPost b w (.returned (.agg #[.bool true, .int .i64 k2, kv])) w' := fun kv w' h1 h2 h3 h4 => by
      refine ⟨h2, ?_⟩
      rw [HHD.out, if_neg h1]
      exact ⟨kv, by rw [show ((k2.toNat : Nat) : Int) = k2 by omega], h3, h4⟩
    have HPN := Lib.hid hPn
    have HPS := Lib.hid hPs
    clear hPn hPs
    go_wp2_with fail
    refine (efail_any eb eg l3 e3 w5 HE5.out).mono ?_
    rintro e w' ⟨rfl, hq⟩
    subst hq
    go_wp2_with fail
    by_cases he3 : e3 = 0
    · subst he3
      refine (must_ok _).mono ?_
      rintro e w' ⟨rfl, hq⟩
      subst hq
      by_cases hk1 : k1 = 1
      · have q1 : (k1 != 1) = false := by simp [hk1]
        have HK1 := Lib.hid hk1
        clear hk1
        by_cases hk2 : 448 < k2
        · go_wp2
          exact ⟨rfl, HPN.out 4 _ (.inr (.inr (.inl hk2))) (by omega) HC5.out⟩
        · obtain ⟨aa, rfl⟩ : ∃ aa, a = some aa := by
            cases a with
            | some aa => exact ⟨aa, rfl⟩
            | none =>
              obtain ⟨_, _, he, _, _, h3⟩ := HB5.out
              rcases h3 with ⟨rfl, _⟩ | ⟨g, o, e, _⟩
              · simp at hbpos
              · subst e; cases he
          have hle := HSUF.out.length_le
          have hcapl : b.length ≤ cap ∧ cap ≤ 9223372036854775807 := by
            obtain ⟨_, c, he, h1, h2, _⟩ := HB5.out
            unfold maxLen at h2
            have : cap = c := by simpa using (Value.slice.inj he).2.2
            omega
          obtain ⟨g, o, spot⟩ := aa
          obtain rfl : spot = none := by
            obtain ⟨_, _, he, _, _, h3⟩ := HB5.out
            rcases h3 with ⟨rfl, _⟩ | ⟨g', o', e, _⟩
            · simp at hbpos
            · subst e; simp at he; exact he.1.2.2
          obtain ⟨d, hd⟩ : ∃ d, d = b.length - l3.length := ⟨_, rfl⟩
          have hdz : (b.length : Int) - (l3.length : Int) = (d : Int) := by omega
          have hdc : (d : Int).toNat = d := by omega
          have hdl : d ≤ b.length := by omega
          have hbd : b.length - d = l3.length := by omega
          have hT : Hid (∀ o2, (l3 ≠ [] → o2 = o + d) → BytesAt w5 (.slice (some ⟨g, o2, none⟩) l3.length (cap - d)) l3) := Lib.hid (fun o2 ho2 => by
            have := BytesAt.tail HB5.out HSUF.out o2 (by rw [← hd]; exact ho2)
            rwa [← hd] at this)
          have HD := Lib.hid hd
          clear hd
          go_wp2_with fail
          refine (eleft_any eb eg l3 0 w5 HE5.out).mono ?_
          rintro e w' ⟨rfl, hq⟩
          subst hq
          have hl3 : l3.length ≤ 1000000000 := by omega
          by_cases hcd : cap = d
          · obtain rfl : l3 = [] := List.eq_nil_of_length_eq_zero (by omega)
            have hB0 : BytesAt w5 (.slice (some ⟨g, o, none⟩) 0 0) [] := ⟨_, 0, rfl, by simp, by unfold maxLen; omega, .inr ⟨g, o, rfl, fun i hi => absurd hi (by simp)⟩⟩
            have CZ := Lib.hid (noughts_any _ [] w5 hB0 (by simp))
            obtain rfl := hcd
            clear hB0 hT
            go_wp2_with fail
            refine CZ.out.mono ?_
            rintro e w6 ⟨rfl, n6, hw6⟩
            have hc6 : Chg [] w5 w6 := by rw [hw6]; exact (Chg.refl _ _).drewN n6
            have HC6 := Lib.hid (HC5.out.trans hc6 (by simp))
            have HRW6 := Lib.hid (hc6.keep HRW5.out (by simp))
            have HK6 := Lib.hid (HKR.out.keep (fun k hk => hc6.block k (HKL.out k hk) (by simp)))
            have HL6 : Hid (∀ k, kv.ownBlock = some k → k < w6.heap.size) := Lib.hid HK6.out.lt
            clear hw6 hc6
            · have hz3 : allZ ([] : List UInt8) = true := rfl
              rw [hz3]
              have hne : ¬ ((0 : Int) ≠ 0 ∨ k1 ≠ 1 ∨ 448 < k2 ∨ allZ ([] : List UInt8) = false) := by simp [HK1.out, hz3, hk2]
              have HNE := Lib.hid hne
              clear hz3 hne
              have c0 := blk_cell HRW6.out 0 _ rfl
              have c1 := blk_cell HRW6.out 1 _ rfl
              have c2 := blk_cell HRW6.out 2 _ rfl
              have f0 := blk_frozen HRW6.out 0
              have f1 := blk_frozen HRW6.out 1
              have f2 := blk_frozen HRW6.out 2
              have hl6 := blk_lt HRW6.out
              obtain rfl := HKV.out
              go_wp2
              have hb3 := set3 (u0 := .bool true) (u1 := .int .i64 k2) (u2 := .slice a5 key.length c5) HRW6.out
              refine bodyPost_ret (v := .agg #[.bool true, .int .i64 k2, .slice a5 key.length c5]) (by simp [results, Tryd.results44, go_sem, blk_cell hb3 0 _ rfl, blk_cell hb3 1 _ rfl, blk_cell hb3 2 _ rfl]) rfl (HPS.out _ _ HNE.out ?_ ?_ ?_)
              · exact Chg.mono (S := [w.heap.size]) ((((HC6.out.mono (by simp)).setCell (.inl (by simp)) _).setCell (.inl (by simp)) _).setCell (.inl (by simp)) _) (fun x hx => .inr (by simp at hx; omega))
              · exact HK6.out.keep (fun k hk => by
                  have hne := HKN.out k hk
                  exact ((Below.heap_setCell _ ⟨w.heap.size, 2, none⟩ _ k (by show k ≠ w.heap.size; omega)).trans (Below.heap_setCell _ ⟨w.heap.size, 1, none⟩ _ k (by show k ≠ w.heap.size; omega))).trans (Below.heap_setCell _ ⟨w.heap.size, 0, none⟩ _ k (by show k ≠ w.heap.size; omega)))
              · exact fun k hk => Nat.le_of_lt (HKN.out k hk)
          · have CZ := Lib.hid (noughts_any _ l3 w5 (hT.out (o + d) (fun _ => rfl)) hl3)
            clear hT
            go_wp2_with fail
            refine CZ.out.mono ?_
            rintro e w6 ⟨rfl, n6, hw6⟩
            have hc6 : Chg [] w5 w6 := by rw [hw6]; exact (Chg.refl _ _).drewN n6
            have HC6 := Lib.hid (HC5.out.trans hc6 (by simp))
            have HRW6 := Lib.hid (hc6.keep HRW5.out (by simp))
            have HK6 := Lib.hid (HKR.out.keep (fun k hk => hc6.block k (HKL.out k hk) (by simp)))
            have HL6 : Hid (∀ k, kv.ownBlock = some k → k < w6.heap.size) := Lib.hid HK6.out.lt
            clear hw6 hc6
            by_cases hz3 : allZ l3 = true
            · rw [hz3]
              have hne : ¬ ((0 : Int) ≠ 0 ∨ k1 ≠ 1 ∨ 448 < k2 ∨ allZ l3 = false) := by simp [HK1.out, hz3, hk2]
              have HNE := Lib.hid hne
              clear hz3 hne
              have c0 := blk_cell HRW6.out 0 _ rfl
              have c1 := blk_cell HRW6.out 1 _ rfl
              have c2 := blk_cell HRW6.out 2 _ rfl
              have f0 := blk_frozen HRW6.out 0
              have f1 := blk_frozen HRW6.out 1
              have f2 := blk_frozen HRW6.out 2
              have hl6 := blk_lt HRW6.out
              obtain rfl := HKV.out
              go_wp2
              have hb3 := set3 (u0 := .bool true) (u1 := .int .i64 k2) (u2 := .slice a5 key.length c5) HRW6.out
              refine bodyPost_ret (v := .agg #[.bool true, .int .i64 k2, .slice a5 key.length c5]) (by simp [results, Tryd.results44, go_sem, blk_cell hb3 0 _ rfl, blk_cell hb3 1 _ rfl, blk_cell hb3 2 _ rfl]) rfl (HPS.out _ _ HNE.out ?_ ?_ ?_)
              · exact Chg.mono (S := [w.heap.size]) ((((HC6.out.mono (by simp)).setCell (.inl (by simp)) _).setCell (.inl (by simp)) _).setCell (.inl (by simp)) _) (fun x hx => .inr (by simp at hx; omega))
              · exact HK6.out.keep (fun k hk => by
                  have hne := HKN.out k hk
                  exact ((Below.heap_setCell _ ⟨w.heap.size, 2, none⟩ _ k (by show k ≠ w.heap.size; omega)).trans (Below.heap_setCell _ ⟨w.heap.size, 1, none⟩ _ k (by show k ≠ w.heap.size; omega))).trans (Below.heap_setCell _ ⟨w.heap.size, 0, none⟩ _ k (by show k ≠ w.heap.size; omega)))
              · exact fun k hk => Nat.le_of_lt (HKN.out k hk)
            · have hzf : allZ l3 = false := by simpa using hz3
              rw [hzf]
              have HZF := Lib.hid hzf
              clear hz3 hzf
              go_wp2
              exact ⟨rfl, HPN.out 4 _ (.inr (.inr (.inr HZF.out))) (by omega) HC6.out⟩
      · have q1 : (k1 != 1) = true := by simp [hk1]
        have HK1 := Lib.hid hk1
        clear hk1
        go_wp2
        exact ⟨rfl, HPN.out 4 _ (.inr (.inl HK1.out)) (by omega) HC5.out⟩
    · refine (must_bad e3 he3 _).mono ?_
      rintro e w' ⟨rfl, hq⟩
      subst hq
      exact ⟨rfl, HPN.out e3 _ (.inl he3) HERR.out HC5.out⟩
end Go.Proofs.YtipfgghdoicdhaaDoor.W
