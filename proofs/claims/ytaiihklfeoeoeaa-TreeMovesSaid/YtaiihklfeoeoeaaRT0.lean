/- The reference's tree in memory; find, kid, isDir, walk, Look, place. -/
import Derived.Test.YtaiihklfeoeoeaaT9
import Derived.Test.YtaiihklfeoeoeaaNMRef
import Derived.Deep.QuietTactic
import Derived.BigQuiet
namespace Go.Proofs.Ytaiihklfeoeoeaa.W
open Go.RowKit
open Go.Proofs.Ytaiihklfeoeoeaa.NM
set_option linter.unusedVariables false
set_option linter.unusedSimpArgs false

instance : Inhabited Th := ⟨rootTh⟩
def thE (x : Th) : List Value := [.int .i64 (x.ino : Int), .int .i64 (x.dir : Int), .string ⟨x.name.toArray⟩, .bool x.isDir]
def thEs (T : PT) : List Value := T.flatMap thE
theorem thE_len (x : Th) : (thE x).length = 4 := rfl
theorem thE_one (x : Th) : ∀ v ∈ thE x, v.oneCell' = true := by
  intro v hv
  simp [thE] at hv
  rcases hv with rfl | rfl | rfl | rfl <;> rfl
theorem thEs_app (T U : PT) : thEs (T ++ U) = thEs T ++ thEs U := List.flatMap_append
theorem thEs_one (x : Th) : thEs [x] = thE x := by simp [thEs]
theorem thEs_len (T : PT) : (thEs T).length = T.length * 4 := flatMap_len thE thE_len T
theorem thEs_at {T : PT} {i j : Nat} {x : Th} (h : T[i]? = some x) (hj : j < 4) : (thEs T)[i * 4 + j]? = (thE x)[j]? := by
  have hi := (List.getElem?_eq_some_iff.1 h).1
  have := flatMap_at thE thE_len T i j hi hj
  rw [show T[i]! = x by simp [List.getElem!_eq_getElem?_getD, h]] at this
  exact this
/-- A row of things of the reference's: how it reads. -/
def ThRow (w : World) (a : Option Addr) (T : PT) : Prop :=
  T = [] ∨ ∃ g, a = some ⟨g, 0, none⟩ ∧ g < w.heap.size ∧ ∀ i x, T[i]? = some x → w.cell? ⟨g, i * 4, none⟩ = some (.int .i64 (x.ino : Int)) ∧ w.cell? ⟨g, i * 4 + 1, none⟩ = some (.int .i64 (x.dir : Int)) ∧
    w.cell? ⟨g, i * 4 + 2, none⟩ = some (.string ⟨x.name.toArray⟩) ∧ w.cell? ⟨g, i * 4 + 3, none⟩ = some (.bool x.isDir)
theorem throw_own {w : World} {base : Nat} {v : Value} {T : PT} (h : w.ownsRow base 99 4 v T.length (thEs T)) : ∃ a c, v = .slice a T.length c ∧ T.length ≤ c ∧ ThRow w a T := by
  rcases h.2 with ⟨rfl, h0⟩ | ⟨g, cap, cur, rfl, hbg, hg, hnc, hcm, hcs, htake⟩
  · rw [h0]; exact ⟨none, 0, rfl, Nat.le_refl _, .inl (List.eq_nil_of_length_eq_zero h0)⟩
  · refine ⟨_, _, rfl, hnc, .inr ⟨g, rfl, (Array.getElem?_eq_some_iff.1 hg).1, fun i x hx => ?_⟩⟩
    have key : ∀ j, j < 4 → ∀ u, (thE x)[j]? = some u → w.cell? ⟨g, i * 4 + j, none⟩ = some u := by
      intro j hj u hu
      have := h.cells (g := g) rfl (i * 4 + j) u (by rw [thEs_at hx hj]; exact hu)
      rw [add_none] at this
      simpa using this
    exact ⟨by simpa using key 0 (by omega) _ rfl, key 1 (by omega) _ rfl, key 2 (by omega) _ rfl, key 3 (by omega) _ rfl⟩
/-- The reference's tree: the struct in block b. -/
structure RTOk (w : World) (b : Nat) (v : Value) (base : Nat) (T : PT) : Prop where
  head : w.heap[b]? = some (.cells #[v] 46 (0, 0))
  rows : w.ownsRow base 99 4 v T.length (thEs T)
  apart : v.ownBlock ≠ some b
  ok : TOk T
theorem RTOk.lt {w : World} {b base : Nat} {v : Value} {T : PT} (h : RTOk w b v base T) : b < w.heap.size := blk_lt h.head
theorem RTOk.keep {S : List Nat} {w w' : World} {b base : Nat} {v : Value} {T : PT} (h : RTOk w b v base T) (hc : Chg S w w') (hb : b ∉ S) (hv : ∀ g, v.ownBlock = some g → g ∉ S) : RTOk w' b v base T :=
  ⟨hc.keep h.head hb, row_keep h.rows (fun g hg => hc.block g (World.ownsRow.lt h.rows g hg).2 (hv g hg)), h.apart, h.ok⟩
theorem RTOk.keep0 {w w' : World} {b base : Nat} {v : Value} {T : PT} (h : RTOk w b v base T) (hc : Chg [] w w') : RTOk w' b v base T := h.keep hc (by simp) (by simp)
theorem tok_len' {T : PT} (h : TOk T) : T.length ≤ 127 := by
  have h2 := h.nums
  have h3 := h.rise
  have : ∀ (U : PT) (n : Nat), U.Pairwise (fun x y => x.ino < y.ino) → (∀ x ∈ U, n ≤ x.ino ∧ x.ino ≤ 128) → U = [] ∨ n + U.length ≤ 129 := by
    intro U
    induction U with
    | nil => intro n _ _; exact .inl rfl
    | cons y r ih =>
      intro n hp hm
      right
      have hp' := List.pairwise_cons.1 hp
      have hy := hm y (List.mem_cons_self ..)
      rcases ih (n + 1) hp'.2 (fun x hx => ⟨by have := hp'.1 x hx; omega, (hm x (List.mem_cons_of_mem _ hx)).2⟩) with h4 | h4
      · subst h4; simp; omega
      · simp; omega
  rcases this T 2 h3 h2 with h4 | h4
  · rw [h4]; simp
  · omega

/-! ### find -/
def fiI (T : PT) (z : Int) : Int := match T.findIdx? (fun x => (x.ino : Int) == z) with | some i => (i : Int) | none => -1
def fiAt (T : PT) (z : Int) (k : Nat) : Prop := T.findIdx? (fun x => (x.ino : Int) == z) = ((T.drop k).findIdx? (fun x => (x.ino : Int) == z)).map (· + k)
theorem fi_zero (T : PT) (z : Int) : fiAt T z 0 := by unfold fiAt; simp
theorem drop_at {T : PT} {k : Nat} {x : Th} (h : T[k]? = some x) : T.drop k = x :: T.drop (k + 1) := by
  obtain ⟨h1, h2⟩ := List.getElem?_eq_some_iff.1 h
  rw [List.drop_eq_getElem_cons h1, h2]
theorem fi_hit {T : PT} {z : Int} {k : Nat} {x : Th} (h : fiAt T z k) (hx : T[k]? = some x) (he : ((x.ino : Int) == z) = true) : fiI T z = k := by
  unfold fiAt at h
  rw [drop_at hx, List.findIdx?_cons, he] at h
  unfold fiI
  rw [h]
  simp
theorem fi_miss {T : PT} {z : Int} {k : Nat} {x : Th} (h : fiAt T z k) (hx : T[k]? = some x) (he : ((x.ino : Int) == z) = false) : fiAt T z (k + 1) := by
  unfold fiAt at h ⊢
  rw [drop_at hx, List.findIdx?_cons, he] at h
  rw [h]
  cases (T.drop (k + 1)).findIdx? (fun x => (x.ino : Int) == z) with
  | none => rfl
  | some i => simp; omega
theorem fi_end {T : PT} {z : Int} (h : fiAt T z T.length) : fiI T z = -1 := by
  unfold fiAt at h
  unfold fiI
  rw [h]
  simp
theorem fi_get (a : Nat) : ∀ T : PT, (T.findIdx? (fun x => (x.ino : Int) == (a : Int)) = none ∧ tGet T a = none) ∨ ∃ i x, T.findIdx? (fun x => (x.ino : Int) == (a : Int)) = some i ∧ T[i]? = some x ∧ tGet T a = some x
  | [] => .inl ⟨rfl, rfl⟩
  | y :: r => by
    rw [List.findIdx?_cons]
    unfold tGet
    by_cases h : y.ino = a
    · right
      exact ⟨0, y, by simp [h], rfl, by simp [h]⟩
    · have h1 : ((y.ino : Int) == (a : Int)) = false := by simp; omega
      have h2 : (y.ino == a) = false := by simpa using h
      rw [h1, List.find?_cons, h2]
      rcases fi_get a r with ⟨h3, h4⟩ | ⟨i, x, h3, h4, h5⟩
      · left
        rw [h3]; exact ⟨rfl, h4⟩
      · right
        rw [h3]
        exact ⟨i + 1, x, rfl, by simpa using h4, h5⟩
theorem fiI_cases (T : PT) (a : Nat) : (fiI T a = -1 ∧ tGet T a = none) ∨ ∃ (i : Nat) (x : Th), fiI T a = i ∧ T[i]? = some x ∧ tGet T a = some x := by
  unfold fiI
  rcases fi_get a T with ⟨h3, h4⟩ | ⟨i, x, h3, h4, h5⟩
  · left; rw [h3]; exact ⟨rfl, h4⟩
  · right; exact ⟨i, x, by rw [h3], h4, h5⟩

set_option maxHeartbeats 2000000 in
set_option maxRecDepth 100000 in
theorem rfind_any (b base : Nat) (v : Value) (T : PT) (z : Int) (w : World) (h : RTOk w b v base T) : Calls Try.prog 50 #[.pointer (some ⟨b, 0, none⟩), .int .i64 z] w fun e w' => e = .returned (.int .i64 (fiI T z)) ∧ w = w' := by
  have hl := tok_len' h.ok
  obtain ⟨a, cap, rfl, hcap, hr⟩ := throw_own h.rows
  have t0 : w.cell? ⟨b, 0, none⟩ = some (.slice a T.length cap) := blk_cell h.head 0 _ rfl
  have HR := Lib.hid hr
  clear hr h
  go_enter Try.func50, Try.ntmps50
  go_wp2
  go_loop [5] (fun v5 => ∃ k : Nat, v5 = .int .i64 k ∧ k ≤ T.length ∧ Hid (fiAt T z k)) (fun v5 => T.length - (intOf v5).toNat)
  case atStart => exact ⟨0, rfl, by omega, Lib.hid (fi_zero T z)⟩
  case round =>
    obtain ⟨k, rfl, hk, HQ⟩ := hrel
    by_cases hlt : k < T.length
    · obtain ⟨x, hx⟩ : ∃ x, T[k]? = some x := ⟨_, List.getElem?_eq_getElem hlt⟩
      obtain ⟨g, rfl, hg, hc⟩ : ∃ g, a = some ⟨g, 0, none⟩ ∧ g < w.heap.size ∧ w.cell? ⟨g, k * 4, none⟩ = some (.int .i64 (x.ino : Int)) := by
        rcases HR.out with h0 | ⟨g, h1, h2, h3⟩
        · rw [h0] at hlt; simp at hlt
        · exact ⟨g, h1, h2, (h3 k x hx).1⟩
      have HX := Lib.hid hx
      clear hx
      obtain ⟨y, hy⟩ : ∃ y : Int, y = x.ino := ⟨_, rfl⟩
      rw [← hy] at hc
      have HY := Lib.hid hy
      clear hy
      have hkz : (k : Int) < (T.length : Int) := by omega
      cases hq : (y == z) with
      | true =>
        have HA : Hid (fiI T z = k) := Lib.hid (fi_hit HQ.out HX.out (by rw [← HY.out]; exact hq))
        go_wp2
        go_ret
        rw [HA.out]
        exact ⟨rfl, rfl⟩
      | false =>
        have HN := Lib.hid (fi_miss HQ.out HX.out (by rw [← HY.out]; exact hq))
        go_wp2
        go_round
        case rel => exact ⟨k + 1, by go_num, by omega, HN⟩
        case measure => simp [intOf]; omega
    · have HA : Hid (fiI T z = -1) := Lib.hid (by
        obtain rfl : k = T.length := by omega
        exact fi_end HQ.out)
      go_wp2
      go_ret
      rw [HA.out]
      exact ⟨rfl, rfl⟩

/-! ### kid -/
def kdP (z : Int) (s : List UInt8) (x : Th) : Bool := (x.dir : Int) == z && x.name == s
def kdI (T : PT) (z : Int) (s : List UInt8) : Nat := match T.find? (kdP z s) with | some x => x.ino | none => 0
def kdAt (T : PT) (z : Int) (s : List UInt8) (k : Nat) : Prop := T.find? (kdP z s) = (T.drop k).find? (kdP z s)
theorem kd_zero (T : PT) (z : Int) (s : List UInt8) : kdAt T z s 0 := by unfold kdAt; simp
theorem kd_hit {T : PT} {z : Int} {s : List UInt8} {k : Nat} {x : Th} (h : kdAt T z s k) (hx : T[k]? = some x) (he : kdP z s x = true) : kdI T z s = x.ino := by
  unfold kdAt at h
  rw [drop_at hx, List.find?_cons, he] at h
  unfold kdI
  rw [h]
theorem kd_miss {T : PT} {z : Int} {s : List UInt8} {k : Nat} {x : Th} (h : kdAt T z s k) (hx : T[k]? = some x) (he : kdP z s x = false) : kdAt T z s (k + 1) := by
  unfold kdAt at h ⊢
  rw [drop_at hx, List.find?_cons, he] at h
  exact h
theorem kd_end {T : PT} {z : Int} {s : List UInt8} (h : kdAt T z s T.length) : kdI T z s = 0 := by
  unfold kdAt at h
  unfold kdI
  rw [h]
  simp
theorem kdI_nat (T : PT) (a : Nat) (s : List UInt8) : kdI T a s = tKid T a s := by
  unfold kdI tKid tKidOf
  have : kdP (a : Int) s = fun x => x.dir == a && x.name == s := by
    funext x
    unfold kdP
    congr 1
    by_cases h : x.dir = a
    · simp [h]
    · have h1 : ((x.dir : Int) == (a : Int)) = false := by simp; omega
      have h2 : (x.dir == a) = false := by simpa using h
      rw [h1, h2]
  rw [this]
  cases T.find? (fun x => x.dir == a && x.name == s) <;> rfl

set_option maxHeartbeats 2000000 in
set_option maxRecDepth 100000 in
theorem rkid_any (b base : Nat) (v : Value) (T : PT) (z : Int) (s : List UInt8) (w : World) (h : RTOk w b v base T) : Calls Try.prog 48 #[.pointer (some ⟨b, 0, none⟩), .int .i64 z, .string (mk s)] w fun e w' => e = .returned (.int .i64 (kdI T z s : Int)) ∧ w = w' := by
  have hl := tok_len' h.ok
  obtain ⟨a, cap, rfl, hcap, hr⟩ := throw_own h.rows
  have t0 : w.cell? ⟨b, 0, none⟩ = some (.slice a T.length cap) := blk_cell h.head 0 _ rfl
  have HR := Lib.hid hr
  obtain ⟨sb, hsb⟩ : ∃ sb, sb = mk s := ⟨_, rfl⟩
  rw [← hsb]
  have HSB := Lib.hid hsb
  clear hr h hsb
  go_enter Try.func48, Try.ntmps48
  go_wp2
  go_loop [7] (fun v7 => ∃ k : Nat, v7 = .int .i64 k ∧ k ≤ T.length ∧ Hid (kdAt T z s k)) (fun v7 => T.length - (intOf v7).toNat)
  case atStart => exact ⟨0, rfl, by omega, Lib.hid (kd_zero T z s)⟩
  case round =>
    obtain ⟨k, rfl, hk, HQ⟩ := hrel
    by_cases hlt : k < T.length
    · obtain ⟨x, hx⟩ : ∃ x, T[k]? = some x := ⟨_, List.getElem?_eq_getElem hlt⟩
      obtain ⟨g, rfl, hg, hc0, hc1, hc2⟩ : ∃ g, a = some ⟨g, 0, none⟩ ∧ g < w.heap.size ∧ w.cell? ⟨g, k * 4, none⟩ = some (.int .i64 (x.ino : Int)) ∧ w.cell? ⟨g, k * 4 + 1, none⟩ = some (.int .i64 (x.dir : Int)) ∧ w.cell? ⟨g, k * 4 + 2, none⟩ = some (.string (mk x.name)) := by
        rcases HR.out with h0 | ⟨g, h1, h2, h3⟩
        · rw [h0] at hlt; simp at hlt
        · exact ⟨g, h1, h2, (h3 k x hx).1, (h3 k x hx).2.1, (h3 k x hx).2.2.1⟩
      have HX := Lib.hid hx
      clear hx
      obtain ⟨y, hy⟩ : ∃ y : Int, y = x.dir := ⟨_, rfl⟩
      rw [← hy] at hc1
      obtain ⟨nb, hnb⟩ : ∃ nb, nb = mk x.name := ⟨_, rfl⟩
      rw [← hnb] at hc2
      have HE : Hid ((nb.toList == sb.toList) = (x.name == s)) := Lib.hid (by
        have h1 := str_ne (x := x.name) (y := s)
        rw [hnb, HSB.out, h1, Bool.eq_iff_iff]; simp)
      have HY := Lib.hid hy
      clear hy hnb
      have hkz : (k : Int) < (T.length : Int) := by omega
      cases hq : (y == z) with
      | false =>
        have HN := Lib.hid (kd_miss HQ.out HX.out (by unfold kdP; rw [← HY.out, hq]; rfl))
        go_wp2
        go_round
        case rel => exact ⟨k + 1, by go_num, by omega, HN⟩
        case measure => simp [intOf]; omega
      | true =>
        cases hq2 : (nb.toList == sb.toList) with
        | false =>
          have HN := Lib.hid (kd_miss HQ.out HX.out (by unfold kdP; rw [← HY.out, hq, ← HE.out, hq2]; rfl))
          go_wp2
          go_round
          case rel => exact ⟨k + 1, by go_num, by omega, HN⟩
          case measure => simp [intOf]; omega
        | true =>
          have HA : Hid (kdI T z s = x.ino) := Lib.hid (kd_hit HQ.out HX.out (by unfold kdP; rw [← HY.out, hq, ← HE.out, hq2]; rfl))
          go_wp2
          go_ret
          rw [HA.out]
          exact ⟨rfl, rfl⟩
    · have HA : Hid (kdI T z s = 0) := Lib.hid (by
        obtain rfl : k = T.length := by omega
        exact kd_end HQ.out)
      go_wp2
      go_ret
      rw [HA.out]
      exact ⟨rfl, rfl⟩

/-! ### isDir -/
set_option maxHeartbeats 2000000 in
set_option maxRecDepth 100000 in
theorem risdir_any (b base : Nat) (v : Value) (T : PT) (n : Nat) (w : World) (h : RTOk w b v base T) : Calls Try.prog 79 #[.pointer (some ⟨b, 0, none⟩), .int .i64 (n : Int)] w fun e w' => e = .returned (.bool (tIsDir T n)) ∧ w = w' := by
  have hl := tok_len' h.ok
  have HF := Lib.hid (rfind_any b base v T n w h)
  obtain ⟨a, cap, rfl, hcap, hr⟩ := throw_own h.rows
  have t0 : w.cell? ⟨b, 0, none⟩ = some (.slice a T.length cap) := blk_cell h.head 0 _ rfl
  have HR := Lib.hid hr
  have HC := Lib.hid (fiI_cases T n)
  clear hr h
  by_cases h1 : n = 1
  · subst h1
    clear t0
    go_enter Try.func79, Try.ntmps79
    go_wp2
    go_ret
    exact ⟨rfl, rfl⟩
  · have e1 : (n == 1) = false := by simpa using h1
    have hn : ((n : Int) == 1) = false := by simp; omega
    rcases HC.out with ⟨h2, h3⟩ | ⟨i, x, h2, h3, h4⟩
    · have HA : Hid (tIsDir T n = false) := Lib.hid (by unfold tIsDir; rw [e1, h3]; rfl)
      rw [h2] at HF
      clear h2 h3 e1 h1
      go_enter Try.func79, Try.ntmps79
      go_wp2_with fail
      refine HF.out.mono ?_
      rintro e w' ⟨rfl, rfl⟩
      go_wp2
      go_ret
      rw [HA.out]
      exact ⟨rfl, rfl⟩
    · have HA : Hid (tIsDir T n = x.isDir) := Lib.hid (by unfold tIsDir; rw [e1, h4]; rfl)
      have hlt := (List.getElem?_eq_some_iff.1 h3).1
      obtain ⟨g, rfl, hg, hc⟩ : ∃ g, a = some ⟨g, 0, none⟩ ∧ g < w.heap.size ∧ w.cell? ⟨g, i * 4 + 3, none⟩ = some (.bool x.isDir) := by
        rcases HR.out with h0 | ⟨g, h5, h6, h7⟩
        · rw [h0] at hlt; simp at hlt
        · exact ⟨g, h5, h6, (h7 i x h3).2.2.2⟩
      rw [h2] at HF
      have hkz : (i : Int) < (T.length : Int) := by omega
      clear h2 h3 h4 e1 h1
      go_enter Try.func79, Try.ntmps79
      go_wp2_with fail
      refine HF.out.mono ?_
      rintro e w' ⟨rfl, rfl⟩
      go_wp2
      go_ret
      rw [HA.out]
      exact ⟨rfl, rfl⟩

/-! ### walk -/
set_option maxHeartbeats 4000000 in
set_option maxRecDepth 100000 in
theorem rwalk_any (b base : Nat) (v : Value) (T : PT) (u : Value) (l : List (List UInt8)) (w : World) (h : RTOk w b v base T) (hv : IsStrs w u l) (hl : l.length ≤ 1000) :
    Calls Try.prog 78 #[.pointer (some ⟨b, 0, none⟩), u] w (WalkPost w (tWalk T l 1)) := by
  have HH := Lib.hid h
  obtain ⟨va, vc, rfl, hlc, hrow⟩ := hv
  have HR := Lib.hid hrow
  clear h hrow
  go_enter Try.func78, Try.ntmps78
  go_wp2
  go_loop [6, 7] (fun v6 v7 => ∃ (k a : Nat), v7 = .int .i64 k ∧ v6 = .int .i64 a ∧ k ≤ l.length ∧ a ≤ 128 ∧ Hid (tHas T a = true) ∧ Hid (tWalk T l 1 = tWalk T (l.drop k) a)) (fun _ v7 => l.length - (intOf v7).toNat)
  case atStart => exact ⟨0, 1, rfl, rfl, by omega, by omega, Lib.hid rfl, Lib.hid rfl⟩
  case round =>
    obtain ⟨k, a, rfl, rfl, hk, ha, HA, HW⟩ := hrel
    by_cases hlt : k < l.length
    · obtain ⟨gb, off, rfl, hb, hcs⟩ : ∃ b off, va = some ⟨b, off, none⟩ ∧ b < w.heap.size ∧ ∀ i, i < l.length → w.cell? ⟨b, off + i, none⟩ = some (.string (mk (l.getD i []))) := by
        rcases HR.out with h0 | h0
        · omega
        · exact h0
      have ck := hcs k hlt
      have HD : Hid (l.drop k = l.getD k [] :: l.drop (k + 1)) := Lib.hid (by
        rw [List.drop_eq_getElem_cons hlt]
        simp [List.getD_eq_getElem?_getD, List.getElem?_eq_getElem hlt])
      generalize hs : l.getD k [] = s at ck HD
      clear hs hcs
      have HX : Hid (tWalk T l 1 = if tIsDir T a = false then (0, 10) else if tKid T a s = 0 then (0, 6) else tWalk T (l.drop (k + 1)) (tKid T a s)) := Lib.hid (by rw [HW.out, HD.out, walk_cons])
      have CD := Lib.hid (risdir_any b base v T a w HH.out)
      have CK := rkid_any b base v T a s w HH.out
      rw [kdI_nat] at CK
      have HCK := Lib.hid CK
      clear CK
      cases hd : tIsDir T a with
      | false =>
        have HE : Hid (tWalk T l 1 = (0, 10)) := Lib.hid (by rw [HX.out, if_pos hd])
        rw [hd] at CD
        clear hd
        go_wp2_with fail
        refine CD.out.mono ?_
        rintro e w' ⟨rfl, rfl⟩
        go_wp2
        go_ret2
        rw [HE.out]
        exact ⟨rfl, rfl⟩
      | true =>
        have HX' : Hid (tWalk T l 1 = if tKid T a s = 0 then (0, 6) else tWalk T (l.drop (k + 1)) (tKid T a s)) := Lib.hid (by rw [HX.out, if_neg (by rw [hd]; simp)])
        rw [hd] at CD
        clear hd
        go_wp2_with fail
        refine CD.out.mono ?_
        rintro e w' ⟨rfl, rfl⟩
        go_wp2_with fail
        refine HCK.out.mono ?_
        rintro e w' ⟨rfl, rfl⟩
        by_cases hk0 : tKid T a s = 0
        · have HE : Hid (tWalk T l 1 = (0, 6)) := Lib.hid (by rw [HX'.out, if_pos hk0])
          rw [hk0]
          clear hk0
          go_wp2
          go_ret2
          rw [HE.out]
          exact ⟨rfl, rfl⟩
        · have HE : Hid (tWalk T l 1 = tWalk T (l.drop (k + 1)) (tKid T a s)) := Lib.hid (by rw [HX'.out, if_neg hk0])
          have HA2 := Lib.hid (kid_has hk0)
          have hks := has_small HH.out.ok HA2.out
          generalize tKid T a s = c at *
          have hc0 : ((c : Int) == 0) = false := by simp; omega
          clear hk0
          go_wp2
          go_round
          case rel => exact ⟨k + 1, c, by go_num, rfl, by omega, by omega, HA2, HE⟩
          case measure => simp [intOf]; omega
    · have HE : Hid (tWalk T l 1 = (a, 0)) := Lib.hid (by
        rw [HW.out, List.drop_of_length_le (by omega)]; rfl)
      go_wp2
      go_ret2
      rw [HE.out]
      exact ⟨rfl, rfl⟩
end Go.Proofs.Ytaiihklfeoeoeaa.W
