/- Two trees side by side: ours and the reference's; do. -/
import Derived.Test.YtaiihklfeoeoeaaTDeeds
import Derived.Test.YtaiihklfeoeoeaaRT4
namespace Go.Proofs.Ytaiihklfeoeoeaa.W
open Go.RowKit
open Go.Proofs.Ytaiihklfeoeoeaa.NM
set_option linter.unusedVariables false
set_option linter.unusedSimpArgs false

structure Two (w0 w : World) (t b : Nat) (S : List Nat) (v : Value) (T U : PT) : Prop where
  ours : TreeAt w t S T
  refs : RTOk w b v w0.heap.size U
  newS : ∀ x ∈ S, w0.heap.size ≤ x
  newb : w0.heap.size ≤ b
  apart : b ∉ S
  apart2 : ∀ g, v.ownBlock = some g → g ∉ S
  chg : Chg [] w0 w
/-- Blocks that a tree, and the reference's, do not touch. -/
def Off (w : World) (S : List Nat) (b : Nat) (v : Value) (K : List Nat) : Prop := ∀ k ∈ K, k ∉ S ∧ k ≠ b ∧ v.ownBlock ≠ some k ∧ k < w.heap.size
def KeepK (K : List Nat) (w w' : World) : Prop := ∀ k ∈ K, w'.heap[k]? = w.heap[k]?
theorem KeepK.trans {K : List Nat} {a b c : World} (h : KeepK K a b) (k : KeepK K b c) : KeepK K a c := fun x hx => (k x hx).trans (h x hx)
theorem KeepK.of_chg {K S : List Nat} {a b : World} (h : Chg S a b) (hk : ∀ k ∈ K, k ∉ S ∧ k < a.heap.size) : KeepK K a b := fun x hx => h.block x (hk x hx).2 (hk x hx).1
/-- Two trees of our own, apart; the blocks of K are none of theirs. -/
def Both (K : List Nat) (w0 w : World) (t b : Nat) (T U : PT) : Prop := ∃ S v, Two w0 w t b S v T U ∧ Off w S b v K
theorem Two.our {K : List Nat} {w0 w w' : World} {t b : Nat} {S : List Nat} {v : Value} {T U T' : PT} (h : Two w0 w t b S v T U) (hK : Off w S b v K) (hd : TDid w w' t S T') : Both K w0 w' t b T' U ∧ KeepK K w w' := by
  obtain ⟨S', d1, d2, d3⟩ := hd
  have hl := h.ours.lim
  refine ⟨⟨S', v, ⟨d1, h.refs.keep d3 h.apart (fun g hg => h.apart2 g hg), fun x hx => ?_, h.newb, fun hm => ?_, fun g hg hm => ?_, h.chg.trans d3 (fun x hx => .inr (h.newS x hx))⟩, fun k hk => ?_⟩, .of_chg d3 (fun k hk => ⟨(hK k hk).1, (hK k hk).2.2.2⟩)⟩
  · rcases d2 x hx with h1 | h1
    · exact h.newS x h1
    · exact Nat.le_trans h.chg.size h1
  · rcases d2 _ hm with h1 | h1
    · exact h.apart h1
    · have := h.refs.lt; omega
  · rcases d2 _ hm with h1 | h1
    · exact h.apart2 g hg h1
    · have := (World.ownsRow.lt h.refs.rows g hg).2; omega
  · obtain ⟨k1, k2, k3, k4⟩ := hK k hk
    refine ⟨fun hm => ?_, k2, k3, Nat.lt_of_lt_of_le k4 d3.size⟩
    rcases d2 _ hm with h1 | h1
    · exact k1 h1
    · omega
theorem Two.ref {K : List Nat} {w0 w w' : World} {t b : Nat} {S : List Nat} {v : Value} {T U U' : PT} (h : Two w0 w t b S v T U) (hK : Off w S b v K) (hd : RDid w w' b v w0.heap.size U') : Both K w0 w' t b T U' ∧ KeepK K w w' := by
  obtain ⟨v', d1, d2, d3⟩ := hd
  refine ⟨⟨S, v', ⟨h.ours.keep d3 (fun x hx hm => h.apart (by simp at hm; subst hm; exact hx)), d1, h.newS, h.newb, h.apart, fun g hg hm => ?_, h.chg.trans d3 (fun x hx => .inr (by simp at hx; subst hx; exact h.newb))⟩, fun k hk => ?_⟩, .of_chg d3 (fun k hk => ⟨by simpa using (hK k hk).2.1, (hK k hk).2.2.2⟩)⟩
  · rcases d2 with rfl | d2
    · exact h.apart2 g hg hm
    · have := d2 g hg
      have := h.ours.lim g hm
      omega
  · obtain ⟨k1, k2, k3, k4⟩ := hK k hk
    refine ⟨k1, k2, fun e => ?_, Nat.lt_of_lt_of_le k4 d3.size⟩
    rcases d2 with rfl | d2
    · exact k3 e
    · have := d2 k e; omega
theorem Both.keep {K : List Nat} {w0 w w' : World} {t b : Nat} {T U : PT} (h : Both K w0 w t b T U) (hc : Chg [] w w') : Both K w0 w' t b T U := by
  obtain ⟨S, v, h, hK⟩ := h
  exact ⟨S, v, ⟨h.ours.keep0 hc, h.refs.keep0 hc, h.newS, h.newb, h.apart, h.apart2, chg_tr h.chg hc⟩, fun k hk => ⟨(hK k hk).1, (hK k hk).2.1, (hK k hk).2.2.1, Nat.lt_of_lt_of_le (hK k hk).2.2.2 hc.size⟩⟩
/-- A change of blocks that are none of theirs. -/
theorem Both.keepO {K O : List Nat} {w0 w w' : World} {t b : Nat} {T U : PT} (h : Both K w0 w t b T U) (hc : Chg O w w') (hO : ∀ k ∈ O, k ∈ K) (hn : ∀ k ∈ O, w0.heap.size ≤ k) : Both K w0 w' t b T U := by
  obtain ⟨S, v, h, hK⟩ := h
  exact ⟨S, v, ⟨h.ours.keep hc (fun x hx hm => (hK x (hO x hm)).1 hx), h.refs.keep hc (fun hm => (hK _ (hO _ hm)).2.1 rfl) (fun g hg hm => (hK g (hO g hm)).2.2.1 hg), h.newS, h.newb, h.apart, h.apart2, h.chg.trans hc (fun x hx => .inr (hn x hx))⟩, fun k hk => ⟨(hK k hk).1, (hK k hk).2.1, (hK k hk).2.2.1, Nat.lt_of_lt_of_le (hK k hk).2.2.2 hc.size⟩⟩
theorem Both.mono {K L : List Nat} {w0 w : World} {t b : Nat} {T U : PT} (h : Both K w0 w t b T U) (hL : ∀ k ∈ L, k ∈ K) : Both L w0 w t b T U := by
  obtain ⟨S, v, h, hK⟩ := h
  exact ⟨S, v, h, fun k hk => hK k (hL k hk)⟩
/-- A block that was made now is none of theirs. -/
theorem Both.add {K : List Nat} {w0 w w' : World} {t b : Nat} {T U : PT} (h : Both K w0 w t b T U) (hc : Chg [] w w') (k : Nat) (hk : w.heap.size ≤ k) (hk2 : k < w'.heap.size) : Both (k :: K) w0 w' t b T U := by
  obtain ⟨S, v, h2, hK2⟩ := h.keep hc
  obtain ⟨S, v, h, hK⟩ := h
  refine ⟨S, v, ⟨h.ours.keep0 hc, h.refs.keep0 hc, h.newS, h.newb, h.apart, h.apart2, chg_tr h.chg hc⟩, fun x hx => ?_⟩
  rcases List.mem_cons.1 hx with rfl | hx
  · refine ⟨fun hm => ?_, ?_, fun e => ?_, hk2⟩
    · have := h.ours.lim _ hm; omega
    · have := h.refs.lt; omega
    · have := (World.ownsRow.lt h.refs.rows _ e).2; omega
  · exact ⟨(hK x hx).1, (hK x hx).2.1, (hK x hx).2.2.1, Nat.lt_of_lt_of_le (hK x hx).2.2.2 hc.size⟩
theorem Both.chg {K : List Nat} {w0 w : World} {t b : Nat} {T U : PT} (h : Both K w0 w t b T U) : Chg [] w0 w := by obtain ⟨S, v, h, _⟩ := h; exact h.chg
theorem Both.own {K : List Nat} {w0 w : World} {t b : Nat} {T U : PT} (h : Both K w0 w t b T U) : Own w0 w t T := by obtain ⟨S, v, h, _⟩ := h; exact ⟨S, h.ours, h.newS, h.chg⟩
theorem Both.oks {K : List Nat} {w0 w : World} {t b : Nat} {T U : PT} (h : Both K w0 w t b T U) : TOk T ∧ TOk U := by obtain ⟨S, v, h, _⟩ := h; exact ⟨h.ours.ok, h.refs.ok⟩
/-- A new reference's tree beside ours. -/
theorem Own.both {w0 w : World} {t : Nat} {T : PT} (h : Own w0 w t T) : Both [] w0 (w.alloc (.cells #[.slice none 0 0] 46)) t w.heap.size T [] := by
  obtain ⟨S, h1, h2, h3⟩ := h
  have hl := h1.lim
  exact ⟨S, .slice none 0 0, ⟨h1.keep0 ((Chg.refl [] w).alloc _), ⟨heap_alloc_new w _, World.ownsRow_nil _ _ _ _, by simp [Value.ownBlock], TOk.nil⟩, h2, h3.size, fun hm => by have := hl _ hm; omega, by simp [Value.ownBlock], h3.alloc _⟩, by simp [Off]⟩

/-! ### do -/
def doT (T : PT) (x : Dd) : PT := if x.c ≤ 3 then (tMake T x.p x.d).2 else if x.c ≤ 5 then (tRemove T x.p x.d).2 else (tMove T x.p x.q).2
def sameR (r s : Nat × Int) : Bool := (r.1 : Int) == (s.1 : Int) && r.2 == s.2
theorem sameR_self (r : Nat × Int) : sameR r r = true := by simp [sameR]
def doB (T U : PT) (x : Dd) : Bool := if x.c ≤ 3 then sameR (tMake T x.p x.d).1 (tMake U x.p x.d).1 else if x.c ≤ 5 then sameR (tRemove T x.p x.d).1 (tRemove U x.p x.d).1 else (tMove T x.p x.q).1 == (tMove U x.p x.q).1
theorem doB_self (T : PT) (x : Dd) : doB T T x = true := by
  unfold doB
  split
  · exact sameR_self _
  · split
    · exact sameR_self _
    · simp
def DoPost (K : List Nat) (w0 w : World) (t b : Nat) (r : Bool) (T U : PT) (e : Ending) (w' : World) : Prop := e = .returned (.bool r) ∧ Both K w0 w' t b T U ∧ KeepK K w w'
def BothMk (K : List Nat) (w0 w : World) (t b : Nat) (T U : PT) (r : Nat × Int) (e : Ending) (w' : World) : Prop := e = .returned (.tuple #[.int .i64 (r.1 : Int), .int .i64 r.2]) ∧ Both K w0 w' t b T U ∧ KeepK K w w'
theorem bothMake {K : List Nat} {w0 w : World} {t b : Nat} {T U : PT} (h : Both K w0 w t b T U) (s : List UInt8) (d : Bool) (hs : s.length ≤ 1000) : Calls Try.prog 9 #[.pointer (some ⟨t, 0, none⟩), .string (mk s), .bool d] w (BothMk K w0 w t b (tMake T s d).2 U (tMake T s d).1) := by
  obtain ⟨S, v, h, hK⟩ := h
  have := tmake_any t S T (mk s) d w h.ours (mk_size s (by unfold maxLen; omega))
  rw [data_mk] at this
  exact this.mono fun e w' ⟨he, hd⟩ => ⟨he, h.our hK hd⟩
theorem bothRemove {K : List Nat} {w0 w : World} {t b : Nat} {T U : PT} (h : Both K w0 w t b T U) (s : List UInt8) (d : Bool) (hs : s.length ≤ 1000) : Calls Try.prog 11 #[.pointer (some ⟨t, 0, none⟩), .string (mk s), .bool d] w (BothMk K w0 w t b (tRemove T s d).2 U (tRemove T s d).1) := by
  obtain ⟨S, v, h, hK⟩ := h
  have := tremove_any t S T (mk s) d w h.ours (mk_size s (by unfold maxLen; omega))
  rw [data_mk] at this
  exact this.mono fun e w' ⟨he, hd⟩ => ⟨he, h.our hK hd⟩
def BothMv (K : List Nat) (w0 w : World) (t b : Nat) (T U : PT) (r : Int) (e : Ending) (w' : World) : Prop := e = .returned (.int .i64 r) ∧ Both K w0 w' t b T U ∧ KeepK K w w'
theorem bothMove {K : List Nat} {w0 w : World} {t b : Nat} {T U : PT} (h : Both K w0 w t b T U) (s s2 : List UInt8) (hs : s.length ≤ 1000) (hs2 : s2.length ≤ 1000) : Calls Try.prog 13 #[.pointer (some ⟨t, 0, none⟩), .string (mk s), .string (mk s2)] w (BothMv K w0 w t b (tMove T s s2).2 U (tMove T s s2).1) := by
  obtain ⟨S, v, h, hK⟩ := h
  have hl := tok_len h.ours.ok
  have := tmove_any t S T (mk s) (mk s2) w h.ours (mk_size s (by unfold maxLen; omega)) (mk_size s2 (by unfold maxLen; omega)) (by omega)
  rw [data_mk, data_mk] at this
  exact this.mono fun e w' ⟨he, hd⟩ => ⟨he, h.our hK hd⟩
theorem bothRMake {K : List Nat} {w0 w : World} {t b : Nat} {T U : PT} (h : Both K w0 w t b T U) (s : List UInt8) (d : Bool) (hs : s.length ≤ 1000) : Calls Try.prog 34 #[.pointer (some ⟨b, 0, none⟩), .string (mk s), .bool d] w (BothMk K w0 w t b T (tMake U s d).2 (tMake U s d).1) := by
  obtain ⟨S, v, h, hK⟩ := h
  have := rmake_any b _ v U (mk s) d w h.refs (by rw [size_len, data_mk]; exact hs) h.chg.size
  rw [data_mk] at this
  exact this.mono fun e w' ⟨he, hd⟩ => ⟨he, h.ref hK hd⟩
theorem bothRRemove {K : List Nat} {w0 w : World} {t b : Nat} {T U : PT} (h : Both K w0 w t b T U) (s : List UInt8) (d : Bool) (hs : s.length ≤ 1000) : Calls Try.prog 35 #[.pointer (some ⟨b, 0, none⟩), .string (mk s), .bool d] w (BothMk K w0 w t b T (tRemove U s d).2 (tRemove U s d).1) := by
  obtain ⟨S, v, h, hK⟩ := h
  have := rremove_any b _ v U (mk s) d w h.refs (by rw [size_len, data_mk]; exact hs) h.chg.size
  rw [data_mk] at this
  exact this.mono fun e w' ⟨he, hd⟩ => ⟨he, h.ref hK hd⟩
theorem bothRMove {K : List Nat} {w0 w : World} {t b : Nat} {T U : PT} (h : Both K w0 w t b T U) (s s2 : List UInt8) (hs : s.length ≤ 1000) (hs2 : s2.length ≤ 1000) : Calls Try.prog 36 #[.pointer (some ⟨b, 0, none⟩), .string (mk s), .string (mk s2)] w (BothMv K w0 w t b T (tMove U s s2).2 (tMove U s s2).1) := by
  obtain ⟨S, v, h, hK⟩ := h
  have := rmove_any b _ v U (mk s) (mk s2) w h.refs (by rw [size_len, data_mk]; exact hs) (by rw [size_len, data_mk]; exact hs2) h.chg.size
  rw [data_mk, data_mk] at this
  exact this.mono fun e w' ⟨he, hd⟩ => ⟨he, h.ref hK hd⟩
theorem deed_cells {W : World} {g : Nat} {c : Int} {p q : List UInt8} {d : Bool} (hh : W.heap[g]? = some (.cells #[.int .i64 c, .string (mk p), .string (mk q), .bool d] 48 (0, 0))) :
    W.cell? ⟨g, 0, none⟩ = some (.int .i64 c) ∧ W.cell? ⟨g, 1, none⟩ = some (.string (mk p)) ∧ W.cell? ⟨g, 2, none⟩ = some (.string (mk q)) ∧ W.cell? ⟨g, 3, none⟩ = some (.bool d) :=
  ⟨blk_cell hh 0 _ rfl, blk_cell hh 1 _ rfl, blk_cell hh 2 _ rfl, blk_cell hh 3 _ rfl⟩
theorem same_cases {n k : Nat} {e f : Int} {R : Bool} (h : R = sameR (n, e) (k, f)) : (((n : Int) == (k : Int)) = false ∧ Hid (R = false)) ∨ (((n : Int) == (k : Int)) = true ∧ (e == f) = false ∧ Hid (R = false)) ∨ (((n : Int) == (k : Int)) = true ∧ (e == f) = true ∧ Hid (R = true)) := by
  unfold Hid
  unfold sameR at h
  simp only at h
  cases h1 : ((n : Int) == (k : Int))
  · rw [h1] at h; exact .inl ⟨rfl, by rw [h]; rfl⟩
  · rw [h1] at h
    right
    cases h2 : (e == f)
    · rw [h2] at h; exact .inl ⟨rfl, rfl, by rw [h]; rfl⟩
    · rw [h2] at h; exact .inr ⟨rfl, rfl, by rw [h]; rfl⟩

set_option maxHeartbeats 4000000 in
set_option maxRecDepth 100000 in
theorem do_any {K : List Nat} {w0 w : World} {t b : Nat} {T U : PT} (h : Both K w0 w t b T U) (x : Dd) (hp : x.p.length ≤ 1000) (hq : x.q.length ≤ 1000) :
    Calls Try.prog 16 #[.pointer (some ⟨t, 0, none⟩), .pointer (some ⟨b, 0, none⟩), .agg #[.int .i64 x.c, .string (mk x.p), .string (mk x.q), .bool x.d]] w (DoPost K w0 w t b (doB T U x) (doT T x) (doT U x)) := by
  obtain ⟨R, hR⟩ : ∃ R, R = doB T U x := ⟨_, rfl⟩
  obtain ⟨T', hT⟩ : ∃ T', T' = doT T x := ⟨_, rfl⟩
  obtain ⟨U', hU⟩ : ∃ U', U' = doT U x := ⟨_, rfl⟩
  rw [← hR, ← hT, ← hU]
  obtain ⟨xc, xp, xq, xd⟩ := x
  simp only at hp hq hR hT hU ⊢
  have HR := Lib.hid hR
  have HT := Lib.hid hT
  have HU := Lib.hid hU
  have hal : Chg [] w (w.alloc (.cells #[.int .i64 xc, .string (mk xp), .string (mk xq), .bool xd] 48)) := (Chg.refl [] w).alloc _
  have H := Lib.hid (h.add hal w.heap.size (Nat.le_refl _) (by simp))
  have HK0 : Hid (KeepK K w (w.alloc (.cells #[.int .i64 xc, .string (mk xp), .string (mk xq), .bool xd] 48))) := Lib.hid (by
    obtain ⟨S, v, h, hK⟩ := h
    exact .of_chg hal (fun k hk => ⟨by simp, (hK k hk).2.2.2⟩))
  have hh0 : (w.alloc (.cells #[.int .i64 xc, .string (mk xp), .string (mk xq), .bool xd] 48)).heap[w.heap.size]? = some (.cells #[.int .i64 xc, .string (mk xp), .string (mk xq), .bool xd] 48 (0, 0)) := heap_alloc_new w _
  have HH0 := Lib.hid hh0
  obtain ⟨c0, c1, c2, c3⟩ := deed_cells HH0.out
  have hg0 : w.heap.size < w.heap.size + 1 := by omega
  clear h hR hT hU hal hh0
  by_cases h3 : xc ≤ 3
  · have HT2 : Hid (T' = (tMake T xp xd).2 ∧ U' = (tMake U xp xd).2 ∧ R = sameR (tMake T xp xd).1 (tMake U xp xd).1) := Lib.hid (by
      refine ⟨?_, ?_, ?_⟩
      · rw [HT.out]; unfold doT; rw [if_pos h3]
      · rw [HU.out]; unfold doT; rw [if_pos h3]
      · rw [HR.out]; unfold doB; rw [if_pos h3])
    clear HT HU HR
    go_enter Try.func16, Try.ntmps16
    go_wp2_with fail
    refine (bothMake H.out xp xd hp).mono ?_
    rintro e w2 ⟨rfl, h2, k2⟩
    have H2 := Lib.hid h2
    have K2 := Lib.hid k2
    have HH2 := Lib.hid ((k2 _ (List.mem_cons_self ..)).trans HH0.out)
    clear h2 k2 c0 c1 c2 c3
    obtain ⟨c0, c1, c2, c3⟩ := deed_cells HH2.out
    go_wp2_with fail
    refine (bothRMake H2.out xp xd hp).mono ?_
    rintro e w3 ⟨rfl, h3, k3⟩
    have HF : Hid (Both K w0 w3 t b T' U' ∧ KeepK K w w3) := Lib.hid ⟨by rw [HT2.out.1, HT2.out.2.1]; exact h3.mono (fun k hk => List.mem_cons_of_mem _ hk), HK0.out.trans (KeepK.trans (fun k hk => K2.out k (List.mem_cons_of_mem _ hk)) (fun k hk => k3 k (List.mem_cons_of_mem _ hk)))⟩
    have HRR := Lib.hid HT2.out.2.2
    clear h3 k3 c0 c1 c2 c3 HT2 H H2 K2 HH2
    generalize (tMake T xp xd).1 = r1 at *
    generalize (tMake U xp xd).1 = r2 at *
    obtain ⟨n1, e1⟩ := r1
    obtain ⟨n2, e2⟩ := r2
    rcases same_cases HRR.out with ⟨q1, HE⟩ | ⟨q1, q2, HE⟩ | ⟨q1, q2, HE⟩
    all_goals
      clear HRR
      go_wp2
      go_ret
      rw [HE.out]
      exact ⟨rfl, HF.out⟩
  · by_cases h5 : xc ≤ 5
    · have HT2 : Hid (T' = (tRemove T xp xd).2 ∧ U' = (tRemove U xp xd).2 ∧ R = sameR (tRemove T xp xd).1 (tRemove U xp xd).1) := Lib.hid (by
        refine ⟨?_, ?_, ?_⟩
        · rw [HT.out]; unfold doT; rw [if_neg h3, if_pos h5]
        · rw [HU.out]; unfold doT; rw [if_neg h3, if_pos h5]
        · rw [HR.out]; unfold doB; rw [if_neg h3, if_pos h5])
      clear HT HU HR
      go_enter Try.func16, Try.ntmps16
      go_wp2_with fail
      refine (bothRemove H.out xp xd hp).mono ?_
      rintro e w2 ⟨rfl, h2, k2⟩
      have H2 := Lib.hid h2
      have K2 := Lib.hid k2
      have HH2 := Lib.hid ((k2 _ (List.mem_cons_self ..)).trans HH0.out)
      clear h2 k2 c0 c1 c2 c3
      obtain ⟨c0, c1, c2, c3⟩ := deed_cells HH2.out
      go_wp2_with fail
      refine (bothRRemove H2.out xp xd hp).mono ?_
      rintro e w3 ⟨rfl, h3, k3⟩
      have HF : Hid (Both K w0 w3 t b T' U' ∧ KeepK K w w3) := Lib.hid ⟨by rw [HT2.out.1, HT2.out.2.1]; exact h3.mono (fun k hk => List.mem_cons_of_mem _ hk), HK0.out.trans (KeepK.trans (fun k hk => K2.out k (List.mem_cons_of_mem _ hk)) (fun k hk => k3 k (List.mem_cons_of_mem _ hk)))⟩
      have HRR := Lib.hid HT2.out.2.2
      clear h3 k3 c0 c1 c2 c3 HT2 H H2 K2 HH2
      generalize (tRemove T xp xd).1 = r1 at *
      generalize (tRemove U xp xd).1 = r2 at *
      obtain ⟨n1, e1⟩ := r1
      obtain ⟨n2, e2⟩ := r2
      rcases same_cases HRR.out with ⟨q1, HE⟩ | ⟨q1, q2, HE⟩ | ⟨q1, q2, HE⟩
      all_goals
        clear HRR
        go_wp2
        go_ret
        rw [HE.out]
        exact ⟨rfl, HF.out⟩
    · have HT2 : Hid (T' = (tMove T xp xq).2 ∧ U' = (tMove U xp xq).2 ∧ R = ((tMove T xp xq).1 == (tMove U xp xq).1)) := Lib.hid (by
        refine ⟨?_, ?_, ?_⟩
        · rw [HT.out]; unfold doT; rw [if_neg h3, if_neg h5]
        · rw [HU.out]; unfold doT; rw [if_neg h3, if_neg h5]
        · rw [HR.out]; unfold doB; rw [if_neg h3, if_neg h5])
      clear HT HU HR
      go_enter Try.func16, Try.ntmps16
      go_wp2_with fail
      refine (bothMove H.out xp xq hp hq).mono ?_
      rintro e w2 ⟨rfl, h2, k2⟩
      have H2 := Lib.hid h2
      have K2 := Lib.hid k2
      have HH2 := Lib.hid ((k2 _ (List.mem_cons_self ..)).trans HH0.out)
      clear h2 k2 c0 c1 c2 c3
      obtain ⟨c0, c1, c2, c3⟩ := deed_cells HH2.out
      go_wp2_with fail
      refine (bothRMove H2.out xp xq hp hq).mono ?_
      rintro e w3 ⟨rfl, h3, k3⟩
      have HF : Hid (Both K w0 w3 t b T' U' ∧ KeepK K w w3) := Lib.hid ⟨by rw [HT2.out.1, HT2.out.2.1]; exact h3.mono (fun k hk => List.mem_cons_of_mem _ hk), HK0.out.trans (KeepK.trans (fun k hk => K2.out k (List.mem_cons_of_mem _ hk)) (fun k hk => k3 k (List.mem_cons_of_mem _ hk)))⟩
      have HRR := Lib.hid HT2.out.2.2
      clear h3 k3 c0 c1 c2 c3 HT2 H H2 K2 HH2
      generalize (tMove T xp xq).1 = r1 at *
      generalize (tMove U xp xq).1 = r2 at *
      go_wp2
      go_ret
      rw [HRR.out]
      exact ⟨rfl, HF.out⟩
end Go.Proofs.Ytaiihklfeoeoeaa.W
