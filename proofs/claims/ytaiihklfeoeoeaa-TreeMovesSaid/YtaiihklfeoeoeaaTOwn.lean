/- A tree of one's own; awake. -/
import Derived.Test.YtaiihklfeoeoeaaT7
import Derived.Test.YtaiihklfeoeoeaaT9
namespace Go.Proofs.Ytaiihklfeoeoeaa.W
open Go.RowKit
open Go.Proofs.Ytaiihklfeoeoeaa.NM
set_option linter.unusedVariables false
set_option linter.unusedSimpArgs false

/-- What was done to a tree of our own, from the outside. -/
def Own (w w' : World) (t : Nat) (T : PT) : Prop := ∃ S, TreeAt w' t S T ∧ (∀ x ∈ S, w.heap.size ≤ x) ∧ Chg [] w w'
theorem own_did {w w1 w2 : World} {t : Nat} {S : List Nat} {T' : PT} (h2 : ∀ x ∈ S, w.heap.size ≤ x) (h3 : Chg [] w w1) (hd : TDid w1 w2 t S T') : Own w w2 t T' := by
  obtain ⟨S', d1, d2, d3⟩ := hd
  refine ⟨S', d1, fun x hx => ?_, h3.trans d3 (fun x hx => .inr (h2 x hx))⟩
  rcases d2 x hx with h | h
  · exact h2 x h
  · exact Nat.le_trans h3.size h
theorem Own.keep {w w1 w2 : World} {t : Nat} {T : PT} (h : Own w w1 t T) (hc : Chg [] w1 w2) : Own w w2 t T := by
  obtain ⟨S, h1, h2, h3⟩ := h
  exact ⟨S, h1.keep0 hc, h2, chg_tr h3 hc⟩
theorem Own.chg {w w' : World} {t : Nat} {T : PT} (h : Own w w' t T) : Chg [] w w' := by obtain ⟨S, h1, h2, h3⟩ := h; exact h3
theorem Own.ok {w w' : World} {t : Nat} {T : PT} (h : Own w w' t T) : TOk T := by obtain ⟨S, h1, h2, h3⟩ := h; exact h1.ok
theorem tok_len {T : PT} (h : TOk T) : T.length ≤ 127 := by
  have h2 := h.nums
  have h3 := h.rise
  have : ∀ (U : PT) (n : Nat), U.Pairwise (fun x y => x.ino < y.ino) → (∀ x ∈ U, n ≤ x.ino ∧ x.ino ≤ 128) → U = [] ∨ n + U.length ≤ 129 := by
    intro U
    induction U with
    | nil => intro n _ _; exact .inl rfl
    | cons y r ih =>
      intro n hp hm
      right
      have hp' := List.pairwise_cons.1 hp
      have hy := hm y (List.mem_cons_self ..)
      rcases ih (n + 1) hp'.2 (fun x hx => ⟨by have := hp'.1 x hx; omega, (hm x (List.mem_cons_of_mem _ hx)).2⟩) with h4 | h4
      · subst h4; simp; omega
      · simp; omega
  rcases this T 2 h3 h2 with h4 | h4
  · rw [h4]; simp
  · omega
theorem mk_size (s : List UInt8) (h : s.length ≤ maxLen) : (mk s).size ≤ maxLen := by rw [size_len, data_mk]; exact h

def ONewPost (w0 : World) (e : Ending) (w' : World) : Prop := ∃ t, e = .returned (.pointer (some ⟨t, 0, none⟩)) ∧ Own w0 w' t []
theorem onew_any {w0 w : World} (hc : Chg [] w0 w) : Calls Try.prog 8 #[] w (ONewPost w0) :=
  (tnew_any w).mono fun e w' ⟨t, S, h1, h2, h3, h4⟩ => ⟨t, h1, S, h2, fun x hx => Nat.le_trans hc.size (h3 x hx), chg_tr hc h4⟩
def OMakePost (w0 : World) (t : Nat) (r : (Nat × Int) × PT) (e : Ending) (w' : World) : Prop := e = .returned (.tuple #[.int .i64 (r.1.1 : Int), .int .i64 r.1.2]) ∧ Own w0 w' t r.2
theorem omake_any {w0 w : World} {t : Nat} {T : PT} (h : Own w0 w t T) (s : List UInt8) (d : Bool) (r : (Nat × Int) × PT) (hr : tMake T s d = r) (hs : s.length ≤ maxLen) : Calls Try.prog 9 #[.pointer (some ⟨t, 0, none⟩), .string (mk s), .bool d] w (OMakePost w0 t r) := by
  obtain ⟨S, h1, h2, h3⟩ := h
  have := tmake_any t S T (mk s) d w h1 (mk_size s hs)
  rw [data_mk, hr] at this
  exact this.mono fun e w' ⟨he, hd⟩ => ⟨he, own_did h2 h3 hd⟩
theorem oremove_any {w0 w : World} {t : Nat} {T : PT} (h : Own w0 w t T) (s : List UInt8) (d : Bool) (r : (Nat × Int) × PT) (hr : tRemove T s d = r) (hs : s.length ≤ maxLen) : Calls Try.prog 11 #[.pointer (some ⟨t, 0, none⟩), .string (mk s), .bool d] w (OMakePost w0 t r) := by
  obtain ⟨S, h1, h2, h3⟩ := h
  have := tremove_any t S T (mk s) d w h1 (mk_size s hs)
  rw [data_mk, hr] at this
  exact this.mono fun e w' ⟨he, hd⟩ => ⟨he, own_did h2 h3 hd⟩
def OMovePost (w0 : World) (t : Nat) (r : Int × PT) (e : Ending) (w' : World) : Prop := e = .returned (.int .i64 r.1) ∧ Own w0 w' t r.2
theorem omove_any {w0 w : World} {t : Nat} {T : PT} (h : Own w0 w t T) (s s2 : List UInt8) (r : Int × PT) (hr : tMove T s s2 = r) (hs : s.length ≤ maxLen) (hs2 : s2.length ≤ maxLen) : Calls Try.prog 13 #[.pointer (some ⟨t, 0, none⟩), .string (mk s), .string (mk s2)] w (OMovePost w0 t r) := by
  have hl := tok_len h.ok
  obtain ⟨S, h1, h2, h3⟩ := h
  have := tmove_any t S T (mk s) (mk s2) w h1 (mk_size s hs) (mk_size s2 hs2) (by omega)
  rw [data_mk, data_mk, hr] at this
  exact this.mono fun e w' ⟨he, hd⟩ => ⟨he, own_did h2 h3 hd⟩
def OLookPost (w0 : World) (t : Nat) (T : PT) (r : Nat × Bool × Int) (e : Ending) (w' : World) : Prop := e = .returned (.tuple #[.int .i64 (r.1 : Int), .bool r.2.1, .int .i64 r.2.2]) ∧ Own w0 w' t T
theorem olook_any {w0 w : World} {t : Nat} {T : PT} (h : Own w0 w t T) (s : List UInt8) (r : Nat × Bool × Int) (hr : tLook T s = r) (hs : s.length ≤ maxLen) : Calls Try.prog 17 #[.pointer (some ⟨t, 0, none⟩), .string (mk s)] w (OLookPost w0 t T r) := by
  have h' := h
  obtain ⟨S, h1, h2, h3⟩ := h
  have := tlook_any t S T (mk s) w h1 (mk_size s hs)
  rw [data_mk, hr] at this
  exact this.mono fun e w' ⟨he, hd⟩ => ⟨he, h'.keep hd⟩
def OListPost (w0 w : World) (t : Nat) (T : PT) (r : List Ent × Int) (e : Ending) (w' : World) : Prop := ∃ v, e = .returned (.tuple #[v, .int .i64 r.2]) ∧ w'.ownsRow w.heap.size 39 3 v r.1.length (r.1.flatMap entC) ∧ Chg [] w w' ∧ Own w0 w' t T
theorem olist_any {w0 w : World} {t : Nat} {T : PT} (h : Own w0 w t T) (s : List UInt8) (r : List Ent × Int) (hr : tList T s = r) (hs : s.length ≤ maxLen) : Calls Try.prog 14 #[.pointer (some ⟨t, 0, none⟩), .string (mk s)] w (OListPost w0 w t T r) := by
  have hl := tok_len h.ok
  have h' := h
  obtain ⟨S, h1, h2, h3⟩ := h
  have := tlist_any t S T (mk s) w h1 (mk_size s hs) (by omega)
  rw [data_mk, hr] at this
  exact this.mono fun e w' ⟨v, he, hr, hc⟩ => ⟨v, he, hr, hc, h'.keep hc⟩

def kT0 : PT := [⟨2, 1, [97], true⟩]
theorem k01 : tMake [] [47, 97] true = ((2, 0), kT0) := by kernel_rfl
theorem k02 : tLook kT0 [47, 97] = (2, true, 0) := by kernel_rfl

set_option maxHeartbeats 4000000 in
set_option maxRecDepth 100000 in
theorem tawake_any (w : World) : Calls Try.prog 7 #[] w fun e w' => e = .returned (.bool true) ∧ Chg [] w w' := by
  have H0 := Lib.hid (Chg.refl [] w)
  go_enter Try.func7, Try.ntmps7
  go_wp2_with fail
  refine (onew_any H0.out).mono ?_
  rintro e w1 ⟨t, rfl, h1⟩
  have H1 := Lib.hid h1
  clear h1
  go_wp2_with fail
  refine (omake_any H1.out [47, 97] true _ k01 (by decide)).mono ?_
  rintro e w2 ⟨rfl, h2⟩
  have H2 := Lib.hid h2
  clear h2
  go_wp2_with fail
  refine (olook_any H2.out [47, 97] _ k02 (by decide)).mono ?_
  rintro e w3 ⟨rfl, h3⟩
  have H3 := Lib.hid h3.chg
  clear h3
  go_wp2
  go_ret
  exact ⟨rfl, H3.out⟩
end Go.Proofs.Ytaiihklfeoeoeaa.W
