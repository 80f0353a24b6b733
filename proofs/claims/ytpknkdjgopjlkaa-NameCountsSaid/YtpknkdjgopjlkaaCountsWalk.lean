/- The walk of NameCounts: a path has as many names as it has strokes, none of them empty; one name too many, too long, or none that may be, and it is none. -/
import Derived.Test.YtpknkdjgopjlkaaBackWalk
import Derived.OpenShut
namespace Go.Proofs.Ytpknkdjgopjlkaa.nameCounts
open Go.RowKit namePaths nameKnown
set_option linter.unusedVariables false

def kk (L i : Nat) : Nat := 1 + (L + i) % 14
def nm (L i : Nat) : Bs := List.replicate (kk L i) 110
def names (L n : Nat) : List Bs := (List.range n).map (nm L)
def badTo (L n : Nat) : Bool := (List.range n).any fun i => decide (12 < kk L i)

theorem names_len (L n : Nat) : (names L n).length = n := by simp [names]
theorem names_succ (L n : Nat) : names L (n + 1) = names L n ++ [nm L n] := by simp [names, List.range_succ]
theorem bad_succ (L n : Nat) : badTo L (n + 1) = (badTo L n || decide (12 < kk L n)) := by simp [badTo, List.range_succ]
theorem may_rep (k : Nat) (h : 1 ≤ k) : mayB (List.replicate k 110) = decide (k ≤ 12) := by
  have h1 : okB (List.replicate k 110) = true := by
    rw [okB_iff]; intro c hc
    rw [List.mem_replicate] at hc
    obtain ⟨_, rfl⟩ := hc
    decide
  have h2 : (List.replicate k (110 : UInt8) != [46]) = true := by
    rw [bne_iff_ne]; intro e
    have : (46 : UInt8) ∈ List.replicate k (110 : UInt8) := by rw [e]; simp
    rw [List.mem_replicate] at this
    exact absurd this.2 (by decide)
  have h3 : (List.replicate k (110 : UInt8) != [46, 46]) = true := by
    rw [bne_iff_ne]; intro e
    have : (46 : UInt8) ∈ List.replicate k (110 : UInt8) := by rw [e]; simp
    rw [List.mem_replicate] at this
    exact absurd this.2 (by decide)
  unfold mayB
  rw [h1, h2, h3, List.length_replicate]
  simp [h]
theorem may_nm (L i : Nat) : mayB (nm L i) = decide (kk L i ≤ 12) := may_rep _ (by unfold kk; omega)
theorem stroke_nm (L i : Nat) : (47 : UInt8) ∉ nm L i := by
  unfold nm; rw [List.mem_replicate]; intro h; exact absurd h.2 (by decide)
theorem len_nm (L i : Nat) : (nm L i).length ≤ 14 := by unfold nm kk; rw [List.length_replicate]; omega
theorem all_names (L n : Nat) : (names L n).all mayB = !badTo L n := by
  induction n with
  | zero => rfl
  | succ n ih =>
    rw [names_succ, bad_succ, List.all_append, ih]
    have h := may_nm L n
    by_cases c : kk L n ≤ 12
    · have c2 : ¬ 12 < kk L n := by omega
      simp [h, c, c2]
    · have c2 : 12 < kk L n := by omega
      simp [h, c, c2]

/-- A path of whatever texts without a stroke. -/
theorem split_tail (l : List Bs) (hl : l ≠ []) (h : ∀ p ∈ l, (47 : UInt8) ∉ p) (h1 : tailB l ≠ [47]) : splitB (tailB l) = if l.all mayB && decide (l.length ≤ 8) then some l else none := by
  obtain ⟨r, e1, e2⟩ := cuts_tail l hl h
  rw [e1] at h1 ⊢
  unfold splitB
  rw [if_neg h1]
  simp [e2]
theorem names_mem {L n : Nat} {p : Bs} (h : p ∈ names L n) : ∃ i, p = nm L i := by
  unfold names at h
  obtain ⟨i, _, rfl⟩ := List.mem_map.1 h
  exact ⟨i, rfl⟩
theorem tail_ne (L n : Nat) (t : List Bs) : tailB (names L (n + 1) ++ t) ≠ [47] := by
  have e : names L (n + 1) = nm L 0 :: (names L (n + 1)).tail := by
    unfold names; rw [List.range_succ_eq_map]; rfl
  rw [e, List.cons_append, tailB]
  intro h
  injection h with _ h
  have := congrArg List.length h
  simp [nm, kk] at this
theorem split_names (L n : Nat) : splitB (joinB (names L n)) = if badTo L n || decide (8 < n) then none else some (names L n) := by
  cases n with
  | zero => rfl
  | succ n =>
    have hne : names L (n + 1) ≠ [] := by intro e; have := names_len L (n + 1); rw [e] at this; simp at this
    have ht := tail_ne L n []
    rw [List.append_nil] at ht
    unfold joinB
    rw [if_neg hne, split_tail _ hne (fun p hp => by obtain ⟨i, rfl⟩ := names_mem hp; exact stroke_nm L i) ht, all_names, names_len]
    by_cases c : n + 1 ≤ 8
    · have c2 : ¬ 8 < n + 1 := by omega
      cases badTo L (n + 1) <;> simp [c, c2]
    · have c2 : 8 < n + 1 := by omega
      simp [c, c2]
theorem tail_app (l : List Bs) (p : Bs) : tailB (l ++ [p]) = tailB l ++ 47 :: p := tail_snoc l p
theorem split_more (L n : Nat) (hn : 0 < n) : splitB (joinB (names L n) ++ [47]) = none := by
  cases n with
  | zero => omega
  | succ n =>
    have hne : names L (n + 1) ≠ [] := by intro e; have := names_len L (n + 1); rw [e] at this; simp at this
    unfold joinB
    rw [if_neg hne]
    have e := tail_snoc (names L (n + 1)) []
    rw [← e, split_tail _ (by simp) (fun p hp => by
      rcases List.mem_append.1 hp with hp | hp
      · obtain ⟨i, rfl⟩ := names_mem hp; exact stroke_nm L i
      · simp at hp; subst hp; simp) (tail_ne L n [[]])]
    have h0 : mayB [] = false := by decide
    have : (names L (n + 1) ++ [[]]).all mayB = false := by rw [List.all_append]; simp [h0]
    simp [this]
theorem split_x (s : Bs) : splitB (120 :: s) = none := by
  unfold splitB
  simp

theorem names_joinlen (L n : Nat) (hn : n ≤ 11) : (joinB (names L n)).length ≤ 1112 := by
  have := joinB_len (names L n) (fun p hp => by obtain ⟨i, rfl⟩ := names_mem hp; have := len_nm L i; omega)
  rw [names_len] at this; omega

set_option maxHeartbeats 8000000 in
set_option maxRecDepth 100000 in
theorem walk (a0 a1 : Int) (w : World) (w0 : (Lit.int .u8 a0).wf = true) (w1 : (Lit.int .u8 a1).wf = true) :
    Calls Try.prog 4 #[.int .u8 a0, .int .u8 a1] w fun e w' => e = .returned (.bool true) ∧ Below w.heap.size w w' := by
  obtain ⟨h00, h01⟩ := bounds_u8 w0
  obtain ⟨h10, h11⟩ := bounds_u8 w1
  clear w0 w1
  obtain ⟨D, rfl⟩ := Int.eq_ofNat_of_zero_le h00
  obtain ⟨L, rfl⟩ := Int.eq_ofNat_of_zero_le h10
  obtain ⟨n, hn, hn11⟩ : ∃ n : Nat, ((D : Int) % 12) = (n : Int) ∧ n ≤ 11 := ⟨D % 12, by omega, by omega⟩
  go_enter Try.func4, Try.ntmps4
  go_wp2_with fail
  refine (awake_any _).mono ?_
  rintro e w2 ⟨rfl, b2⟩
  go_wp2_with fail
  rw [hn]
  go_loopg [6, 7, 8] n (fun g v bd i wr => ∃ j : Nat, i = .int .i64 j ∧ j ≤ n ∧ n ≤ j + g ∧ bd = .bool (badTo L j) ∧ wr.ownsRow w.heap.size 9 1 v j ((names L j).map (fun l => Value.string (mk l))) ∧ Below w.heap.size w wr)
  case atStart => exact ⟨0, rfl, by omega, by omega, rfl, World.ownsRow_nil _ _ _ _, b2⟩
  case round =>
    obtain ⟨j, rfl, hj, hjg, rfl, hown, hbel⟩ := hrel
    by_cases hlt : j < n
    · go_wp2_with fail
      have hk : (1 + ((L : Int) + (j : Int)) % 14) = (kk L j : Int) := by unfold kk; omega
      rw [hk]
      have hkk : 1 ≤ kk L j ∧ kk L j ≤ 14 := by unfold kk; omega
      obtain ⟨K, hK⟩ : ∃ K, kk L j = K := ⟨_, rfl⟩
      rw [hK] at hkk ⊢
      obtain ⟨hk1, hk14⟩ := hkk
      have HK := Lib.hid hK
      clear hk hK
      obtain ⟨wo, rfl⟩ : ∃ wo : World, wo = wr := ⟨_, rfl⟩
      obtain ⟨go, rfl⟩ : ∃ go : Nat, go = gk := ⟨_, rfl⟩
      go_loopg [10, 11] K (fun g s t wx => ∃ q : Nat, t = .int .i64 q ∧ q ≤ K ∧ K ≤ q + g ∧ s = .string (mk (List.replicate q 110)) ∧ wx = wo)
      case atStart => exact ⟨0, rfl, by omega, by omega, rfl, rfl⟩
      case round =>
        obtain ⟨q, rfl, hq, hqg, rfl, rfl⟩ := hrel
        by_cases hqk : q < K
        · have a1 : ∀ W, (Op.stringOp .add (mk (List.replicate q 110)) ⟨#[110]⟩).run Try.prog W = .ok (.string (mk (List.replicate (q + 1) 110))) W := fun W => by
            rw [run_string_add_sum W _ _ (by
              have h1 : (mk (List.replicate q (110 : UInt8))).size = q := by rw [size_len, data_mk, List.length_replicate]
              have h2 : (ByteArray.mk #[110]).size = 1 := rfl
              rw [h1, h2]; omega)]
            have e : List.replicate (q + 1) (110 : UInt8) = List.replicate q 110 ++ [110] := by rw [List.replicate_succ']
            rw [e]
            exact congrArg (fun b => Result.ok (Value.string b) W) (mk_append (List.replicate q 110) [110])
          generalize hM1 : mk (List.replicate (q + 1) (110 : UInt8)) = M1 at *
          generalize mk (List.replicate q (110 : UInt8)) = M0 at *
          have HM1 := Lib.hid hM1
          clear hM1
          go_wp2
          go_roundg (gk - 1)
          case measure => omega
          case rel => exact ⟨q + 1, by go_num, by omega, by omega, by rw [HM1.out], rfl⟩
        · obtain rfl : q = K := by omega
          have hs0 := hbel.size
          have hnm : mk (List.replicate q 110) = mk (nm L j) := by unfold nm; rw [HK.out]
          rw [hnm]
          have hdk : ∃ t : Bool, decide (12 < (q : Int)) = t := ⟨_, rfl⟩
          cases hbt : badTo L j with
          | false =>
            have HBT := Lib.hid hbt
            clear hbt hnm
            by_cases h12 : 12 < q
            · have hd : decide ((12 : Int) < (q : Int)) = true := by simp; omega
              have HB : Hid (badTo L (j + 1) = true) := by
                show _ = _
                rw [bad_succ, HBT.out, HK.out]; simp [h12]
              go_wp2_with (first
                | (at_builtin; refine wpList_app1 rfl (.tmp 47) (.tmp 49) _ rfl w.heap.size el24 _ _ _ rfl hown _ _ rfl rfl (one1 rfl) (by unfold maxLen; omega) (by omega) hs0 ?_
                   intro v1 w1 hown1 hg1
                   have hbel1 := Below.of_grown hown hg1 (Nat.le_refl _) hs0 hbel))
              go_roundg (go - 1)
              case measure => omega
              case rel => exact ⟨j + 1, by go_num, by omega, by omega, by rw [HB.out], by rw [names_succ]; simpa using hown1, hbel1⟩
            · have hd : decide ((12 : Int) < (q : Int)) = false := by simp; omega
              have HB : Hid (badTo L (j + 1) = false) := by
                show _ = _
                rw [bad_succ, HBT.out, HK.out]; simp [h12]
              go_wp2_with (first
                | (at_builtin; refine wpList_app1 rfl (.tmp 47) (.tmp 49) _ rfl w.heap.size el24 _ _ _ rfl hown _ _ rfl rfl (one1 rfl) (by unfold maxLen; omega) (by omega) hs0 ?_
                   intro v1 w1 hown1 hg1
                   have hbel1 := Below.of_grown hown hg1 (Nat.le_refl _) hs0 hbel))
              go_roundg (go - 1)
              case measure => omega
              case rel => exact ⟨j + 1, by go_num, by omega, by omega, by rw [HB.out], by rw [names_succ]; simpa using hown1, hbel1⟩
          | true =>
            have HB : Hid (badTo L (j + 1) = true) := by
              show _ = _
              rw [bad_succ, hbt]; rfl
            clear hbt hnm
            go_wp2_with (first
              | (at_builtin; refine wpList_app1 rfl (.tmp 47) (.tmp 49) _ rfl w.heap.size el24 _ _ _ rfl hown _ _ rfl rfl (one1 rfl) (by unfold maxLen; omega) (by omega) hs0 ?_
                 intro v1 w1 hown1 hg1
                 have hbel1 := Below.of_grown hown hg1 (Nat.le_refl _) hs0 hbel))
            go_roundg (go - 1)
            case measure => omega
            case rel => exact ⟨j + 1, by go_num, by omega, by omega, by rw [HB.out], by rw [names_succ]; simpa using hown1, hbel1⟩
    · obtain rfl : j = n := by omega
      obtain ⟨va, vc, rfl, hcap, hrow⟩ := (isStrs_own (ls := names L j) (by rw [names_len]; exact hown))
      have cj := join_any va (names L j) vc 0 wr hrow hcap (by rw [names_len]; omega) (fun p hp => by obtain ⟨i, rfl⟩ := names_mem hp; have := len_nm L i; omega)
      have hsp := split_names L j
      have hJl := names_joinlen L j hn11
      have hmore := split_more L j
      obtain ⟨J, hJ⟩ : ∃ J, joinB (names L j) = J := ⟨_, rfl⟩
      rw [hJ] at cj hsp hJl hmore
      rw [names_len] at cj ⊢
      have CJ := Lib.hid cj
      have HM := Lib.hid hmore
      clear cj hJ hmore hrow hown hcap
      cases hbt : badTo L j with
      | true =>
        have c3 : Hid (∀ W, Calls Try.prog 10 #[.string (mk J)] W fun e w' => ∃ a d, e = .returned (.tuple #[.slice a 0 d, .int .i64 12]) ∧ Below W.heap.size W w') := fun W =>
          split_k J 0 12 (by omega) (by rw [hsp, hbt]; rfl) (by rw [hsp, hbt]; rfl) W
        clear hsp hbt
        go_wp2_with fail
        refine CJ.out.mono ?_
        rintro e w3 ⟨rfl, b3⟩
        go_wp2_with fail
        refine (c3.out _).mono ?_
        rintro e w4 ⟨a4, d4, rfl, b4⟩
        go_wp2
        go_ret
        exact ⟨rfl, bt0 (bt0 hbel b3) b4⟩
      | false =>
        by_cases h8 : 8 < j
        · have c3 : Hid (∀ W, Calls Try.prog 10 #[.string (mk J)] W fun e w' => ∃ a d, e = .returned (.tuple #[.slice a 0 d, .int .i64 12]) ∧ Below W.heap.size W w') := fun W =>
            split_k J 0 12 (by omega) (by rw [hsp, hbt]; simp [h8]) (by rw [hsp, hbt]; simp [h8]) W
          clear hsp hbt
          go_wp2_with fail
          refine CJ.out.mono ?_
          rintro e w3 ⟨rfl, b3⟩
          go_wp2_with fail
          refine (c3.out _).mono ?_
          rintro e w4 ⟨a4, d4, rfl, b4⟩
          go_wp2
          go_ret
          exact ⟨rfl, bt0 (bt0 hbel b3) b4⟩
        · have c3 : Hid (∀ W, Calls Try.prog 10 #[.string (mk J)] W fun e w' => ∃ a d, e = .returned (.tuple #[.slice a j d, .int .i64 0]) ∧ Below W.heap.size W w') := fun W =>
            split_k J j 0 (by omega) (by rw [hsp, hbt]; simp [h8, names_len]) (by rw [hsp, hbt]; simp [h8]) W
          have c5 : Hid (∀ W, Calls Try.prog 10 #[.string (mk (120 :: J))] W fun e w' => ∃ a d, e = .returned (.tuple #[.slice a 0 d, .int .i64 12]) ∧ Below W.heap.size W w') := fun W =>
            split_k (120 :: J) 0 12 (by simp; omega) (by rw [split_x]; rfl) (by rw [split_x]) W
          have a1 : ∀ W, (Op.stringOp .add (mk J) ⟨#[47]⟩).run Try.prog W = .ok (.string (mk (J ++ [47]))) W := fun W => by
            rw [run_string_add_sum W _ _ (by
              have h1 : (mk J).size = J.length := by rw [size_len, data_mk]
              have h2 : (ByteArray.mk #[47]).size = 1 := rfl
              rw [h1, h2]; omega)]
            exact congrArg (fun b => Result.ok (Value.string b) W) (mk_append J [47])
          have a2 : ∀ W, (Op.stringOp .add ⟨#[120]⟩ (mk J)).run Try.prog W = .ok (.string (mk (120 :: J))) W := fun W => by
            rw [run_string_add_sum W _ _ (by
              have h1 : (mk J).size = J.length := by rw [size_len, data_mk]
              have h2 : (ByteArray.mk #[120]).size = 1 := rfl
              rw [h1, h2]; omega)]
            exact congrArg (fun b => Result.ok (Value.string b) W) (mk_append [120] J)
          have c4 : Hid (∀ W, Calls Try.prog 10 #[.string (mk (J ++ [47]))] W fun e w' => ∃ a m d k, e = .returned (.tuple #[.slice a m d, .int .i64 k]) ∧ (j = 0 ∨ k = 12) ∧ Below W.heap.size W w') := by
            intro W
            refine (split_any (mk (J ++ [47])) W (by unfold maxLen; rw [size_len, data_mk]; simp; omega)).mono ?_
            intro e w' h
            obtain ⟨a, c, k', rfl, e1, _, hb⟩ := split_parts h
            refine ⟨a, _, c, k', rfl, ?_, hb⟩
            by_cases hj0 : j = 0
            · exact .inl hj0
            · right
              rw [e1]
              show (match splitB (J ++ [47]) with | none => (12 : Int) | some _ => 0) = 12
              rw [HM.out (by omega)]
          clear hsp hbt
          generalize mk (J ++ [47]) = M1 at *
          generalize mk (120 :: J) = M2 at *
          generalize mk J = M0 at *
          go_wp2_with fail
          refine CJ.out.mono ?_
          rintro e w3 ⟨rfl, b3⟩
          go_wp2_with fail
          refine (c3.out _).mono ?_
          rintro e w4 ⟨a4, d4, rfl, b4⟩
          go_wp2_with fail
          refine (c4.out _).mono ?_
          rintro e w5 ⟨a5, m5, d5, k5, rfl, hk5, b5⟩
          have HK5 := Lib.hid hk5
          clear hk5
          go_wp2_with fail
          refine (c5.out _).mono ?_
          rintro e w6 ⟨a6, d6, rfl, b6⟩
          by_cases hj0 : j = 0
          · have hz : ((j : Int) == 0) = true := by rw [hj0]; rfl
            clear hj0
            go_wp2
            go_ret
            exact ⟨ret_bool (by simp), bt0 (bt0 (bt0 (bt0 hbel b3) b4) b5) b6⟩
          · have hz : ((j : Int) == 0) = false := by rw [beq_eq_false_iff_ne]; omega
            obtain rfl : k5 = 12 := by
              rcases HK5.out with h | h
              · exact absurd h hj0
              · exact h
            clear hj0
            go_wp2
            go_ret
            exact ⟨ret_bool (by simp), bt0 (bt0 (bt0 (bt0 hbel b3) b4) b5) b6⟩
end Go.Proofs.Ytpknkdjgopjlkaa.nameCounts
