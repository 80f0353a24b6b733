/- Package tree: Look, place. -/
import Derived.Test.YtaiihklfeoeoeaaT0
import Derived.Deep.QuietTactic
import Derived.BigQuiet
namespace Go.Proofs.Ytaiihklfeoeoeaa.W
open Go.RowKit
open Go.Proofs.Ytaiihklfeoeoeaa.NM
set_option linter.unusedVariables false
set_option linter.unusedSimpArgs false

def LookPost (w : World) (r : Nat × Bool × Int) (e : Ending) (w' : World) : Prop := e = .returned (.tuple #[.int .i64 (r.1 : Int), .bool r.2.1, .int .i64 r.2.2]) ∧ Chg [] w w'
theorem chg_below {w w' : World} (h : Below w.heap.size w w') : Chg [] w w' := Chg.of_below h
theorem chg_tr {a b c : World} (h : Chg [] a b) (k : Chg [] b c) : Chg [] a c := h.trans k (by simp)
theorem split_names {s : List UInt8} {l : List (List UInt8)} (h : splitB s = some l) : l.length ≤ 8 ∧ ∀ p ∈ l, p.length ≤ 12 := by
  obtain ⟨h1, h2, _⟩ := split_some h
  exact ⟨h2, fun p hp => (may_len (h1 p hp)).2⟩

set_option maxHeartbeats 4000000 in
set_option maxRecDepth 100000 in
theorem tlook_any (t : Nat) (S : List Nat) (T : PT) (s : ByteArray) (w : World) (h : TreeAt w t S T) (hs : s.size ≤ maxLen) :
    Calls Try.prog 17 #[.pointer (some ⟨t, 0, none⟩), .string s] w (LookPost w (tLook T s.data.toList)) := by
  have H := Lib.hid h
  have HS := Lib.hid hs
  cases hsp : splitB s.data.toList with
  | none =>
    have HR : Hid (tLook T s.data.toList = (0, false, 12)) := Lib.hid (by unfold tLook; rw [hsp])
    have HSP := Lib.hid hsp
    rw [HR.out]
    clear hsp h hs
    go_enter Try.func17, Try.ntmps17
    go_wp2_with fail
    refine (tmade_any t S T w H.out).mono ?_
    rintro e w' ⟨rfl, rfl⟩
    go_wp2_with fail
    refine (split_any s w HS.out).mono ?_
    rintro e w1 ⟨hb, h2⟩
    rw [HSP.out] at h2
    subst h2
    have HB := Lib.hid hb
    clear hb
    go_wp2
    go_ret3
    exact ⟨rfl, chg_below HB.out⟩
  | some l =>
    have HR : Hid (tLook T s.data.toList = if (tWalk T l 1).2 ≠ 0 then (0, false, (tWalk T l 1).2) else ((tWalk T l 1).1, tIsDir T (tWalk T l 1).1, 0)) := Lib.hid (by unfold tLook; rw [hsp])
    have HSP := Lib.hid hsp
    obtain ⟨hl1, hl2⟩ := split_names hsp
    have HL := Lib.hid hl2
    clear hsp h hs hl2
    generalize hZ : tLook T s.data.toList = Z at HR ⊢
    have HZ := Lib.hid hZ
    clear hZ
    go_enter Try.func17, Try.ntmps17
    go_wp2_with fail
    refine (tmade_any t S T w H.out).mono ?_
    rintro e w' ⟨rfl, rfl⟩
    go_wp2_with fail
    refine (split_any s w HS.out).mono ?_
    rintro e w1 ⟨hb, h2⟩
    rw [HSP.out] at h2
    obtain ⟨v, rfl, hv⟩ := h2
    have HB := Lib.hid (chg_below hb)
    have H1 := Lib.hid (H.out.keep0 HB.out)
    have HV := Lib.hid hv
    clear hb hv
    go_wp2_with fail
    refine (twalk_any t S T v l w1 H1.out HV.out (by omega) (fun p hp => by have := HL.out p hp; omega)).mono ?_
    rintro e w2 ⟨rfl, rfl⟩
    by_cases h0 : (tWalk T l 1).2 = 0
    · have HR' : Hid (Z = ((tWalk T l 1).1, tIsDir T (tWalk T l 1).1, 0)) := Lib.hid (by rw [HR.out, if_neg (by simp [h0])])
      have HA : Hid (tHas T (tWalk T l 1).1 = true) := Lib.hid (walk_has l 1 rfl h0)
      have hsm := walk_small H.out.ok l 1 rfl
      rw [h0]
      clear h0
      generalize (tWalk T l 1).1 = a at *
      obtain ⟨bm, f, g, HT⟩ := H1.out
      have c0 := blk_cell HT.head 0 _ rfl
      have hlk : ∀ n, (Instr.lookup 61 (.map (some bm)) (.int .i64 (a : Int)) false).run Try.prog (w1.drewN n) = .ok (.pointer (some ⟨f a, 0, none⟩)) (w1.drewN n) := fun n => (HT.keep ((Chg.refl [] w1).drewN n) (by simp)).at HA.out
      obtain ⟨d0, d1, d2, d3⟩ := HT.cells HA.out
      clear d0 d1 d3 HT
      generalize tIsDir T a = dd at *
      go_wp2_with fail
      go_quiet (fail)
      go_wp2
      go_ret3
      rw [HR'.out]
      exact ⟨rfl, HB.out.drewN _⟩
    · have HR' : Hid (Z = (0, false, (tWalk T l 1).2)) := Lib.hid (by rw [HR.out, if_pos h0])
      have he := walk_err (T := T) l 1
      have hb0 : ((tWalk T l 1).2 != 0) = true := by simpa using h0
      clear h0
      generalize (tWalk T l 1).2 = er at *
      have HE := Lib.hid he
      clear he
      go_wp2
      go_ret3
      rw [HR'.out]
      exact ⟨rfl, HB.out⟩
end Go.Proofs.Ytaiihklfeoeoeaa.W
