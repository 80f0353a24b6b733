/- The walk of NameBack: names that may be, joined, are split as they are; a path is its parent and its name; it is within itself, its parent, and the root. -/
import Derived.Test.YtpknkdjgopjlkaaKnownWalk
namespace Go.Proofs.Ytpknkdjgopjlkaa.nameBack
open Go.RowKit namePaths nameKnown
set_option linter.unusedVariables false

/-- A slice of texts that came in. -/
def IsTexts (w : World) (a : Option Addr) (len cap : Nat) (ss : List ByteArray) : Prop :=
  (a = none ∧ len = 0 ∧ cap = 0) ∨ ∃ x, a = some x ∧ len ≤ cap ∧ cap ≤ maxLen ∧ len ≤ ss.length ∧ (∀ i, i < ss.length → w.cell? (x.add i) = some (.string (ss.getD i ByteArray.empty))) ∧ ∀ s ∈ ss, s.size ≤ maxLen

theorem IsTexts.rowAt {w : World} {a : Option Addr} {len cap : Nat} {ss : List ByteArray} (h : IsTexts w a len cap ss) :
    ∃ l : List Bs, l.length = len ∧ len ≤ cap ∧ RowAt w w.heap.size a l.length (fun i => .string (mk (l.getD i []))) ∧ ∀ p ∈ l, p.length ≤ maxLen := by
  rcases h with ⟨rfl, rfl, rfl⟩ | ⟨x, rfl, h1, h2, h3, h4, h5⟩
  · exact ⟨[], rfl, Nat.le_refl _, .inl rfl, by simp⟩
  · have hlen : ((ss.take len).map (·.data.toList)).length = len := by simp; omega
    refine ⟨(ss.take len).map (·.data.toList), hlen, h1, ?_, ?_⟩
    · rw [hlen]
      refine rowAt_of_cells fun i hi => ?_
      rw [h4 i (by omega)]
      simp only [List.getD_eq_getElem?_getD, List.getElem?_map, List.getElem?_take, hi, if_true]
      rw [List.getElem?_eq_getElem (by omega : i < ss.length)]
      rfl
    · intro p hp
      obtain ⟨s, hs, rfl⟩ := List.mem_map.1 hp
      have := h5 s (List.mem_of_mem_take hs)
      rwa [size_len] at this

set_option maxHeartbeats 4000000 in
set_option maxRecDepth 100000 in
theorem walk_big (a : Option Addr) (len c : Nat) (w : World) (h : 8 < len) : Calls Try.prog 7 #[.slice a len c] w fun e w' => e = .returned (.bool true) ∧ Below w.heap.size w w' := by
  go_enter Try.func7, Try.ntmps7
  go_wp2_with fail
  refine (awake_any _).mono ?_
  rintro e w1 ⟨rfl, b1⟩
  go_wp2
  go_ret
  exact ⟨rfl, b1⟩

set_option maxHeartbeats 4000000 in
set_option maxRecDepth 100000 in
theorem walk_nil (a : Option Addr) (c : Nat) (w : World) : Calls Try.prog 7 #[.slice a 0 c] w fun e w' => e = .returned (.bool true) ∧ Below w.heap.size w w' := by
  go_enter Try.func7, Try.ntmps7
  go_wp2_with fail
  refine (awake_any _).mono ?_
  rintro e w1 ⟨rfl, b1⟩
  go_wp2_with fail
  refine wp_loop_rounds 1 ?_
  rw [rounds_succ]
  go_wp2_with fail
  refine (join_any a [] c 0 _ (.inl rfl) (Nat.zero_le _) (by decide) (by simp)).mono ?_
  rintro e w2 ⟨rfl, b2⟩
  go_wp2_with fail
  refine (split_k [47] 0 0 (by decide) (by decide) (by decide) _).mono ?_
  rintro e w3 ⟨a3, d3, rfl, b3⟩
  go_wp2_with fail
  refine (texts_any a a3 [] [] c d3 0 0 _ (by decide) (.inl rfl) (.inl rfl)).mono ?_
  rintro e w4 ⟨rfl, nd, rfl⟩
  have hll : decide (([] : List Bs) = []) = true := by simp
  rw [hll]
  have hbel := below_drewN (bt0 (bt0 b1 b2) b3) nd
  go_wp2_with fail
  refine (within_k [47] [47] true (by decide) (by decide) (by decide) _).mono ?_
  rintro e w5 ⟨rfl, b5⟩
  go_wp2_with fail
  refine (within_k [47] [47] true (by decide) (by decide) (by decide) _).mono ?_
  rintro e w6 ⟨rfl, b6⟩
  go_wp2
  go_ret
  exact ⟨rfl, bt0 (bt0 hbel b5) b6⟩

theorem pre_drop (l : List Bs) : l.dropLast.isPrefixOf l = true := by
  rw [List.isPrefixOf_iff_prefix]; exact List.dropLast_prefix l
theorem not_pre (l : List Bs) (h : l ≠ []) : l.isPrefixOf l.dropLast = false := by
  rw [← Bool.not_eq_true, List.isPrefixOf_iff_prefix]
  intro hp
  have := hp.length_le
  rw [List.length_dropLast] at this
  have : 0 < l.length := List.length_pos_iff.2 h
  omega

set_option maxHeartbeats 8000000 in
set_option maxRecDepth 100000 in
theorem walk_row (b off n c : Nat) (l : List Bs) (w : World) (hl : l.length = n) (hn : 1 ≤ n) (hn8 : n ≤ 8) (hc : n ≤ c) (hb : b < w.heap.size)
    (hcells : ∀ i, i < n → w.cell? ⟨b, off + i, none⟩ = some (.string (mk (l.getD i [])))) (hsz : ∀ p ∈ l, p.length ≤ maxLen) :
    Calls Try.prog 7 #[.slice (some ⟨b, off, none⟩) n c] w fun e w' => e = .returned (.bool true) ∧ Below w.heap.size w w' := by
  have HL := Lib.hid hl
  have HC := Lib.hid hcells
  have HS := Lib.hid hsz
  clear hl hcells hsz
  go_enter Try.func7, Try.ntmps7
  go_wp2_with fail
  refine (awake_any _).mono ?_
  rintro e w1 ⟨rfl, b1⟩
  go_wp2_with fail
  go_loopg [3] n (fun g i wx => ∃ j : Nat, i = .int .i64 j ∧ j ≤ n ∧ n ≤ j + g ∧ Hid (∀ q, q < j → mayB (l.getD q []) = true) ∧ wx = w1)
  case atStart => exact ⟨0, rfl, by omega, by omega, fun q hq => absurd hq (by omega), rfl⟩
  case round =>
    obtain ⟨j, rfl, hj, hjg, HA, rfl⟩ := hrel
    by_cases hlt : j < n
    · obtain ⟨p, hp, hcp⟩ : ∃ p, l.getD j [] = p ∧ wr.cell? ⟨b, off + j, none⟩ = some (.string (mk p)) := ⟨_, rfl, (b1.cell (p := ⟨b, off + j, none⟩) hb).trans (HC.out j hlt)⟩
      have hpl : (mk p).size ≤ maxLen := by
        rw [size_len, data_mk, ← hp, List.getD_eq_getElem?_getD, List.getElem?_eq_getElem (by rw [HL.out]; exact hlt)]
        exact HS.out _ (List.getElem_mem _)
      have HP := Lib.hid hp
      clear hp
      cases hm : mayB p with
      | false =>
        have cm := rmay_any (mk p) wr hpl
        rw [data_mk, hm] at cm
        have CM := Lib.hid cm
        clear cm hm hpl
        generalize mk p = X at *
        go_wp2_with fail
        refine CM.out.mono ?_
        rintro e w' ⟨rfl, rfl⟩
        go_wp2
        go_ret
        exact ⟨rfl, b1⟩
      | true =>
        have cm := rmay_any (mk p) wr hpl
        rw [data_mk, hm] at cm
        have CM := Lib.hid cm
        have HM : Hid (∀ q, q < j + 1 → mayB (l.getD q []) = true) := by
          intro q hq
          by_cases e : q = j
          · subst e; rw [HP.out]; exact hm
          · exact HA.out q (by omega)
        clear cm hm hpl
        generalize mk p = X at *
        go_wp2_with fail
        refine CM.out.mono ?_
        rintro e w' ⟨rfl, rfl⟩
        go_wp2
        go_roundg (gk - 1)
        case measure => omega
        case rel => exact ⟨j + 1, by go_num, by omega, by omega, HM, rfl⟩
    · have hne : l ≠ [] := by
        intro e
        have := HL.out
        rw [e] at this
        simp at this; omega
      have HM : Hid (∀ p ∈ l, mayB p = true) := by
        intro p hp
        obtain ⟨q, hq, rfl⟩ := List.getElem_of_mem hp
        have := HA.out q (by have := HL.out; omega)
        rwa [List.getD_eq_getElem?_getD, List.getElem?_eq_getElem hq] at this
      have hrow : ∀ W, Below w.heap.size w W → RowAt W w.heap.size (some ⟨b, off, none⟩) l.length (fun i => .string (mk (l.getD i []))) := fun W hW =>
        .inr ⟨b, off, rfl, hb, fun i hi => (hW.cell (p := ⟨b, off + i, none⟩) hb).trans (HC.out i (by rw [← HL.out]; exact hi))⟩
      have hsj := split_join l HM.out (by rw [HL.out]; exact hn8)
      have hsd := split_join l.dropLast (fun p hp => HM.out p (List.dropLast_subset l hp)) (by rw [List.length_dropLast, HL.out]; omega)
      have hlen : ∀ p ∈ l, p.length ≤ 100 := fun p hp => by have := (may_len (HM.out p hp)).2; omega
      have hJl := joinB_len l hlen
      have hPl := joinB_len l.dropLast (fun p hp => hlen p (List.dropLast_subset l hp))
      rw [List.length_dropLast] at hPl
      rw [HL.out] at hJl hPl
      obtain ⟨J, hJ⟩ : ∃ J, joinB l = J := ⟨_, rfl⟩
      obtain ⟨P, hP⟩ : ∃ P, joinB l.dropLast = P := ⟨_, rfl⟩
      rw [hJ] at hsj hJl
      rw [hP] at hsd hPl
      have hmJ : (mk J).size ≤ maxLen := by rw [size_len, data_mk]; unfold maxLen; omega
      have c1 : Hid (∀ W, Below w.heap.size w W → Calls Try.prog 11 #[.slice (some ⟨b, off, none⟩) n c] W fun e w' => e = .returned (.string (mk J)) ∧ Below W.heap.size W w') := by
        intro W hW
        have h := hrow W hW
        have h' : RowAt W W.heap.size (some ⟨b, off, none⟩) l.length (fun i => .string (mk (l.getD i []))) := by
          rcases h with h | ⟨b', o', e1, e2, e3⟩
          · exact .inl h
          · exact .inr ⟨b', o', e1, Nat.lt_of_lt_of_le e2 hW.size, e3⟩
        have := join_any (some ⟨b, off, none⟩) l c 0 W h' (by rw [HL.out]; exact hc) (by rw [HL.out]; omega) hlen
        rw [HL.out, hJ] at this
        exact this
      have c2 : Hid (∀ W, Below w.heap.size w W → Calls Try.prog 11 #[.slice (some ⟨b, off, none⟩) (n - 1) c] W fun e w' => e = .returned (.string (mk P)) ∧ Below W.heap.size W w') := by
        intro W hW
        have hd : l.dropLast.length = n - 1 := by rw [List.length_dropLast, HL.out]
        have h' : RowAt W W.heap.size (some ⟨b, off, none⟩) l.dropLast.length (fun i => .string (mk (l.dropLast.getD i []))) := by
          refine .inr ⟨b, off, rfl, Nat.lt_of_lt_of_le hb hW.size, fun i hi => ?_⟩
          show _ = some (Value.string (mk (l.dropLast.getD i [])))
          rw [dropLast_getD (m := n - 1) (by have := HL.out; omega) i (by omega)]
          exact (hW.cell (p := ⟨b, off + i, none⟩) hb).trans (HC.out i (by omega))
        have := join_any (some ⟨b, off, none⟩) l.dropLast c 0 W h' (by omega) (by omega) (fun p hp => hlen p (List.dropLast_subset l hp))
        rw [hd, hP] at this
        exact this
      have c3 : Hid (∀ W, Calls Try.prog 10 #[.string (mk J)] W fun e w' => ∃ a d, e = .returned (.tuple #[.slice a n d, .int .i64 0]) ∧ RowAt w' w'.heap.size a l.length (fun i => .string (mk (l.getD i []))) ∧ Below W.heap.size W w') := by
        intro W
        refine (split_any (mk J) W hmJ).mono ?_
        intro e w' h
        obtain ⟨a, d, k, rfl, e1, r1, b1⟩ := split_parts h
        simp only [hsj, Option.getD_some] at e1 r1 ⊢
        subst e1
        exact ⟨a, d, by rw [HL.out], r1, b1⟩
      have c4 : Hid (∀ W, Calls Try.prog 9 #[.string (mk J), .string (mk J)] W fun e w' => e = .returned (.bool true) ∧ Below W.heap.size W w') := fun W =>
        within_k J J true (by omega) (by omega) (by rw [within_self, hsj]; rfl) W
      have c5 : Hid (∀ W, Calls Try.prog 9 #[.string (mk J), .string (mk [47])] W fun e w' => e = .returned (.bool true) ∧ Below W.heap.size W w') := fun W =>
        within_k J [47] true (by omega) (by decide) (by unfold withinB; rw [hsj]; rfl) W
      have c6 : Hid (∀ W, Calls Try.prog 12 #[.string (mk J)] W fun e w' => e = .returned (.tuple #[.string (mk P), .string (mk (l.getLastD [])), .int .i64 0]) ∧ Below W.heap.size W w') := fun W =>
        parent_k J P (l.getLastD []) 0 (by omega) (by rw [hsj]; simp only [hne, if_false, hP]) W
      have c7 : Hid (∀ W, Calls Try.prog 9 #[.string (mk J), .string (mk P)] W fun e w' => e = .returned (.bool true) ∧ Below W.heap.size W w') := fun W =>
        within_k J P true (by omega) (by omega) (by unfold withinB; rw [hsj, hsd]; exact pre_drop l) W
      have c8 : Hid (∀ W, Calls Try.prog 9 #[.string (mk P), .string (mk J)] W fun e w' => e = .returned (.bool false) ∧ Below W.heap.size W w') := fun W =>
        within_k P J false (by omega) (by omega) (by unfold withinB; rw [hsj, hsd]; exact not_pre l hne) W
      have HRow := Lib.hid hrow
      have hlast : l.getD (n - 1) [] = l.getLastD [] := last_getD (by have := HL.out; omega)
      obtain ⟨q, hq⟩ : ∃ q, l.getLastD [] = q := ⟨_, rfl⟩
      rw [hq] at hlast c6
      have HQ := Lib.hid hlast
      have hnz : ((n : Int) == 0) = false := by rw [beq_eq_false_iff_ne]; omega
      have hn8' : l.length ≤ 8 := by rw [HL.out]; exact hn8
      have HN8 := Lib.hid hn8'
      clear hrow hsj hsd hlen hJl hPl hJ hP hmJ hne hlast hq hn8'
      go_wp2_with fail
      refine (c1.out _ b1).mono ?_
      rintro e w2 ⟨rfl, b2⟩
      go_wp2_with fail
      refine (c3.out _).mono ?_
      rintro e w3 ⟨a3, d3, rfl, r3, b3⟩
      have B3 : Below w.heap.size w w3 := bt0 (bt0 b1 b2) b3
      have ct := texts_any (some ⟨b, off, none⟩) a3 l l c d3 _ _ w3 (Nat.le_trans HN8.out (by decide)) (HRow.out w3 B3) r3
      have hll : decide (l = l) = true := decide_eq_true rfl
      rw [HL.out, hll] at ct
      clear hll
      have CT := Lib.hid ct
      clear ct r3
      go_wp2_with fail
      refine CT.out.mono ?_
      rintro e w4 ⟨rfl, nd, rfl⟩
      have B4 : Below w.heap.size w (w3.drewN nd) := below_drewN B3 nd
      go_wp2_with fail
      refine (c4.out _).mono ?_
      rintro e w5 ⟨rfl, b5⟩
      go_wp2_with fail
      refine (c5.out _).mono ?_
      rintro e w6 ⟨rfl, b6⟩
      go_wp2_with fail
      refine (c6.out _).mono ?_
      rintro e w7 ⟨rfl, b7⟩
      have B7 : Below w.heap.size w w7 := bt0 (bt0 (bt0 B4 b5) b6) b7
      have hcl : w7.cell? ⟨b, off + (n - 1), none⟩ = some (.string (mk q)) := by
        rw [B7.cell (p := ⟨b, off + (n - 1), none⟩) hb, HC.out (n - 1) (by omega), HQ.out]
      clear CT
      go_wp2_with fail
      refine (c2.out _ B7).mono ?_
      rintro e w8 ⟨rfl, b8⟩
      go_wp2_with fail
      refine (c7.out _).mono ?_
      rintro e w9 ⟨rfl, b9⟩
      go_wp2_with fail
      refine (c8.out _).mono ?_
      rintro e w10 ⟨rfl, b10⟩
      go_wp2
      go_ret
      exact ⟨rfl, bt0 (bt0 (bt0 B7 b8) b9) b10⟩

theorem walk (a0 : Option Addr) (len0 cap0 : Nat) (s0 : List ByteArray) (w : World) (w0 : IsTexts w a0 len0 cap0 s0) :
    Calls Try.prog 7 #[.slice a0 len0 cap0] w fun e w' => e = .returned (.bool true) ∧ Below w.heap.size w w' := by
  obtain ⟨l, h1, h2, h3, h4⟩ := w0.rowAt
  by_cases h8 : 8 < len0
  · exact walk_big _ _ _ _ h8
  · by_cases h0 : len0 = 0
    · subst h0; exact walk_nil _ _ _
    · rcases h3 with h | ⟨b, off, rfl, hb, hc⟩
      · exact absurd h (by omega)
      · exact walk_row b off len0 cap0 l w h1 (by omega) (by omega) h2 hb (fun i hi => hc i (by omega)) h4
end Go.Proofs.Ytpknkdjgopjlkaa.nameBack
