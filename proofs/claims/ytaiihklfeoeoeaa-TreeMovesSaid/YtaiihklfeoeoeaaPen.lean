/- The pens of package wire and of the reference. -/
import Derived.Test.YtaiihklfeoeoeaaNum
import Derived.Test.YtaiihklfeoeoeaaEMore
namespace Go.Proofs.Ytaiihklfeoeoeaa.W
open Go.RowKit
set_option linter.unusedVariables false
set_option linter.unusedSimpArgs false

def penAdd (l : List UInt8) (bad : Int) (m : List UInt8) : List UInt8 × Int :=
  if bad ≠ 0 then (l, bad) else if 65536 < l.length + m.length then (l, 3) else (l ++ m, 0)
def beBytes : Nat → Nat → List UInt8
  | 0, _ => []
  | n + 1, x => UInt8.ofNat (x / 256 ^ n) :: beBytes n x
theorem beBytes_len (n x : Nat) : (beBytes n x).length = n := by
  induction n with
  | zero => rfl
  | succ n ih => simp [beBytes, ih]
def penNum (l : List UInt8) (bad : Int) (x : Int) (n : Nat) : List UInt8 × Int :=
  if bad ≠ 0 then (l, bad) else if x < 0 ∨ ((256 ^ n : Nat) : Int) ≤ x then (l, 1) else penAdd l bad (beBytes n x.toNat)
def penBool (l : List UInt8) (bad : Int) (q : Bool) : List UInt8 × Int := penAdd l bad [if q then 1 else 0]

/-- A pen in block b: of type t, its bytes a row of our own in another block. -/
def PenAt (t : TypeId) (w : World) (b : Nat) (g : Option Nat) (l : List UInt8) (bad : Int) : Prop :=
  ∃ v, w.heap[b]? = some (.cells #[v, .int .i64 bad] t (0, 0)) ∧ BRow w v l ∧ v.ownBlock = g ∧ g ≠ some b ∧ l.length ≤ 65536
theorem PenAt.keep {t : TypeId} {w w' : World} {b : Nat} {g : Option Nat} {l : List UInt8} {bad : Int} {S : List Nat} (h : PenAt t w b g l bad) (hc : Chg S w w') (hb : b ∉ S) (hg : ∀ k, g = some k → k ∉ S) : PenAt t w' b g l bad := by
  obtain ⟨v, h1, h2, h3, h4, h5⟩ := h
  exact ⟨v, hc.keep h1 hb, h2.keep (fun k hk => hc.block k (h2.lt k hk) (hg k (h3.symm.trans hk))), h3, h4, h5⟩
theorem PenAt.lt {t : TypeId} {w : World} {b : Nat} {g : Option Nat} {l : List UInt8} {bad : Int} (h : PenAt t w b g l bad) : b < w.heap.size ∧ ∀ k, g = some k → k < w.heap.size := by
  obtain ⟨v, h1, h2, h3, h4, h5⟩ := h
  exact ⟨blk_lt h1, fun k hk => h2.lt k (h3.trans hk)⟩
/-- What writing with a pen leaves. -/
def Wrote (t : TypeId) (w w' : World) (b : Nat) (g : Option Nat) (r : List UInt8 × Int) : Prop :=
  ∃ g', PenAt t w' b g' r.1 r.2 ∧ (g' = g ∨ ∃ k, g' = some k ∧ w.heap.size ≤ k) ∧ Chg (b :: g.toList) w w'
theorem Wrote.same {t : TypeId} {w : World} {b : Nat} {g : Option Nat} {l : List UInt8} {bad : Int} (h : PenAt t w b g l bad) : Wrote t w w b g (l, bad) := ⟨g, h, .inl rfl, Chg.refl _ _⟩
theorem Wrote.trans {t : TypeId} {w w1 w2 : World} {b : Nat} {g : Option Nat} {r1 r2 : List UInt8 × Int} (h1 : Wrote t w w1 b g r1) (h2 : ∀ g1, PenAt t w1 b g1 r1.1 r1.2 → Wrote t w1 w2 b g1 r2) : Wrote t w w2 b g r2 := by
  obtain ⟨g1, hp, hg, hc⟩ := h1
  obtain ⟨g2, hp2, hg2, hc2⟩ := h2 g1 hp
  refine ⟨g2, hp2, ?_, hc.trans hc2 ?_⟩
  · rcases hg2 with rfl | ⟨k, rfl, hk⟩
    · exact hg
    · exact .inr ⟨k, rfl, Nat.le_trans hc.size hk⟩
  · intro x hx
    rcases List.mem_cons.1 hx with rfl | hx
    · exact .inl (List.mem_cons_self ..)
    · rcases hg with rfl | ⟨k, rfl, hk⟩
      · exact .inl (List.mem_cons_of_mem _ hx)
      · obtain rfl : x = k := by simpa using hx
        exact .inr hk
theorem PenAt.stored {t : TypeId} {w w1 : World} {b : Nat} {g : Option Nat} {l' : List UInt8} {bad : Int} {v v' : Value} (hb : w.heap[b]? = some (.cells #[v, .int .i64 bad] t (0, 0))) (hg : v.ownBlock = g) (hne : g ≠ some b)
    (hr : BRow w1 v' l') (hgr : w.grownBy w1 v.ownBlock) (hat : v'.ownBlock = v.ownBlock ∨ v'.ownBlock = some w.heap.size) (hl : l'.length ≤ 65536) : Wrote t w (w1.setCell ⟨b, 0, none⟩ v') b g (l', bad) := by
  have hbl := blk_lt hb
  have hb1 : w1.heap[b]? = some (.cells #[v, .int .i64 bad] t (0, 0)) := (hgr.block b hbl (fun e => hne (by rw [← hg]; exact e.symm))).trans hb
  have hne' : v'.ownBlock ≠ some b := by
    rcases hat with h | h
    · rw [h, hg]; exact hne
    · rw [h]; intro e; simp at e; omega
  refine ⟨v'.ownBlock, ⟨v', set_blk hb1, hr.keep (fun k hk => Below.heap_setCell w1 _ _ k (fun e => hne' (by rw [hk, e]))), rfl, hne', hl⟩, ?_, ?_⟩
  · rcases hat with h | h
    · exact .inl (h.trans hg)
    · exact .inr ⟨_, h, Nat.le_refl _⟩
  · refine ((Chg.refl _ w).grown hgr (fun k hk => .inl ?_)).setCell (p := ⟨b, 0, none⟩) (.inl (List.mem_cons_self ..)) _
    rw [hg] at hk; rw [hk]; simp
theorem BRow.slice {w : World} {v : Value} {l : List UInt8} (h : BRow w v l) : ∃ a cap, v = .slice a l.length cap := by
  obtain ⟨a, cap, h, _⟩ := h.bytes
  exact ⟨a, cap, h⟩

theorem PenAt.app {t : TypeId} {w w1 : World} {b : Nat} {g : Option Nat} {l m : List UInt8} {bad : Int} {v v' : Value} (hb : w.heap[b]? = some (.cells #[v, .int .i64 bad] t (0, 0))) (hg : v.ownBlock = g) (hne : g ≠ some b) (hlong : ¬ 65536 < l.length + m.length)
    (hr : BRow w1 v' (l ++ m)) (hgr : w.grownBy w1 v.ownBlock) (hat : v'.ownBlock = v.ownBlock ∨ v'.ownBlock = some w.heap.size) :
    Hid (Wrote t w (w1.setCell ⟨b, 0, none⟩ v') b g (l ++ m, bad)) ∧ w1.cell? ⟨b, 0, none⟩ = some v ∧ w1.frozen? ⟨b, 0, none⟩ = false ∧ ∃ a c, v' = .slice a (l.length + m.length) c := by
  have hb1 : w1.heap[b]? = some (.cells #[v, .int .i64 bad] t (0, 0)) := (hgr.block b (blk_lt hb) (fun e => hne (by rw [← hg]; exact e.symm))).trans hb
  refine ⟨PenAt.stored hb hg hne hr hgr hat (by rw [List.length_append]; omega), blk_cell hb1 0 _ rfl, blk_frozen hb1 0, ?_⟩
  obtain ⟨a, c, h⟩ := hr.slice
  exact ⟨a, c, by rw [h, List.length_append]⟩

set_option maxHeartbeats 2000000 in
set_option maxRecDepth 100000 in
theorem put_any (b : Nat) (g : Option Nat) (l : List UInt8) (bad : Int) (a : Option Addr) (cap : Nat) (m : List UInt8) (w : World) (h : PenAt 82 w b g l bad) (hm : BytesAt w (.slice a m.length cap) m) (hml : m.length ≤ 1000000) :
    Calls Try.prog 81 #[.pointer (some ⟨b, 0, none⟩), .int .i64 0, .slice a m.length cap] w fun e w' => e = .returned (.tuple #[]) ∧ Wrote 82 w w' b g (penAdd l bad m) := by
  have hP := Lib.hid h
  obtain ⟨v, hb, hr, hg, hne, hl⟩ := h
  have b0 := blk_cell hb 0 _ rfl
  have b1 := blk_cell hb 1 _ rfl
  have f0 := blk_frozen hb 0
  have f1 := blk_frozen hb 1
  have hbl := blk_lt hb
  by_cases hbad : bad = 0
  · subst hbad
    obtain ⟨av, cv, rfl⟩ := hr.slice
    by_cases hlong : 65536 < l.length + m.length
    · have HR : Hid (penAdd l 0 m = (l, 3)) := Lib.hid (by unfold penAdd; rw [if_neg (by simp), if_pos hlong])
      have HF : Hid (Wrote 82 w (w.setCell ⟨b, 1, none⟩ (.int .i64 3)) b g (l, 3)) := by
        have hc := (Chg.refl (b :: g.toList) w).setCell (p := ⟨b, 1, none⟩) (.inl (by simp)) (.int .i64 3)
        exact ⟨g, ⟨_, set_blk hb, hr.keep (fun k hk => Below.heap_setCell w _ _ k (fun e => hne (by rw [← hg, hk, e]))), hg, hne, hl⟩, .inl rfl, hc⟩
      have q1 : decide ((65536 : Int) - (l.length : Int) < (m.length : Int)) = true := by simp; omega
      have h3 : (65536 : Int) - (l.length : Int) < (m.length : Int) := by omega
      rw [HR.out]
      clear hb hr hm hg
      go_enter Try.func81, Try.ntmps81
      go_wp2
      go_end0
      exact ⟨rfl, HF.out⟩
    · have HR : Hid (penAdd l 0 m = (l ++ m, 0)) := Lib.hid (by unfold penAdd; rw [if_neg (by simp), if_neg hlong])
      have h3 : ¬ ((65536 : Int) - (l.length : Int) < (m.length : Int)) := by omega
      have HRow := Lib.hid hr
      have HB := Lib.hid hb
      have HG := Lib.hid hg
      have HM := Lib.hid hm
      rw [HR.out]
      clear hb hr hm hg
      go_enter Try.func81, Try.ntmps81
      go_wp2_with (at_builtin; refine wpList_appB rfl _ _ rfl _ l rfl HRow.out _ m rfl HM.out (by omega) ?_; intro v1 w1 ho1 hg1 hat1
                   obtain ⟨HF, d0, e0, a1, c1, rfl⟩ := PenAt.app HB.out HG.out hne hlong ho1 hg1 hat1
                   clear ho1 hg1 hat1)
      go_end0
      exact ⟨rfl, HF.out⟩
  · have HR : Hid (penAdd l bad m = (l, bad)) := Lib.hid (by unfold penAdd; rw [if_pos hbad])
    have q2 : (bad != 0) = true := by simp [hbad]
    rw [HR.out]
    clear hb hr hbad hm hg
    go_enter Try.func81, Try.ntmps81
    go_wp2
    go_end0
    exact ⟨rfl, Wrote.same hP.out⟩

set_option maxHeartbeats 2000000 in
set_option maxRecDepth 100000 in
theorem put_err (b : Nat) (g : Option Nat) (l : List UInt8) (bad x : Int) (v3 : Value) (w : World) (h : PenAt 82 w b g l bad) (hx : x ≠ 0) :
    Calls Try.prog 81 #[.pointer (some ⟨b, 0, none⟩), .int .i64 x, v3] w fun e w' => e = .returned (.tuple #[]) ∧ Wrote 82 w w' b g (l, if bad ≠ 0 then bad else x) := by
  have hP := Lib.hid h
  obtain ⟨v, hb, hr, hg, hne, hl⟩ := h
  have b1 := blk_cell hb 1 _ rfl
  have f1 := blk_frozen hb 1
  have hbl := blk_lt hb
  have q3 : (x != 0) = true := by simp [hx]
  by_cases hbad : bad = 0
  · subst hbad
    have HF : Hid (Wrote 82 w (w.setCell ⟨b, 1, none⟩ (.int .i64 x)) b g (l, x)) := by
      have hc := (Chg.refl (b :: g.toList) w).setCell (p := ⟨b, 1, none⟩) (.inl (by simp)) (.int .i64 x)
      exact ⟨g, ⟨_, set_blk hb, hr.keep (fun k hk => Below.heap_setCell w _ _ k (fun e => hne (by rw [← hg, hk, e]))), hg, hne, hl⟩, .inl rfl, hc⟩
    rw [if_neg (by simp)]
    clear hb hr hg hx
    go_enter Try.func81, Try.ntmps81
    go_wp2
    go_end0
    exact ⟨rfl, HF.out⟩
  · rw [if_pos hbad]
    have q2 : (bad != 0) = true := by simp [hbad]
    clear hb hr hbad hg hx
    go_enter Try.func81, Try.ntmps81
    go_wp2
    go_end0
    exact ⟨rfl, Wrote.same hP.out⟩

end Go.Proofs.Ytaiihklfeoeoeaa.W
