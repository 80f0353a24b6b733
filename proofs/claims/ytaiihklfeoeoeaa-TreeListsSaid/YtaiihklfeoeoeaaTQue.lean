/- depth; a queue of paths. -/
import Derived.Test.YtaiihklfeoeoeaaTListP
import Derived.Test.YtaiihklfeoeoeaaTDo
import Derived.ArgAppend
namespace Go.Proofs.Ytaiihklfeoeoeaa.W
open Go.RowKit
open Go.Proofs.Ytaiihklfeoeoeaa.NM
set_option linter.unusedVariables false
set_option linter.unusedSimpArgs false

theorem dep_snoc (s : ByteArray) (k : Nat) (h : k < s.size) : depB (s.data.toList.take (k + 1)) = depB (s.data.toList.take k) + if s[k] = 47 then 1 else 0 := by
  rw [take_snoc s k h]
  unfold depB
  rw [List.countP_append]
  by_cases e : s[k] = 47
  · rw [if_pos e, e]; rfl
  · rw [if_neg e]
    have : (s[k] == 47) = false := by simpa using e
    simp [this]
theorem dep_le (l : List UInt8) : depB l ≤ l.length := List.countP_le_length

set_option maxHeartbeats 2000000 in
set_option maxRecDepth 100000 in
theorem depth_any (s : ByteArray) (w : World) (hs : s.size ≤ maxLen) : Calls Try.prog 18 #[.string s] w fun e w' => e = .returned (.int .i64 (depB s.data.toList : Int)) ∧ w = w' := by
  unfold maxLen at hs
  go_enter Try.func18, Try.ntmps18
  go_wp2
  go_loop [3, 4] (fun v3 v4 => ∃ k n : Nat, v4 = .int .i64 k ∧ v3 = .int .i64 n ∧ k ≤ s.size ∧ n ≤ k ∧ Hid (n = depB (s.data.toList.take k))) (fun _ v4 => s.size - (intOf v4).toNat)
  case atStart => exact ⟨0, 0, rfl, rfl, by omega, by omega, Lib.hid (by simp [depB])⟩
  case round =>
    obtain ⟨k, n, rfl, rfl, hk, hn, HN⟩ := hrel
    by_cases hlt : k < s.size
    · have HS := Lib.hid (dep_snoc s k hlt)
      obtain ⟨c, hc⟩ : ∃ c, c = s[k] := ⟨_, rfl⟩
      have HC := Lib.hid hc
      by_cases e : c = 47
      · have hb : ((s[k].toNat : Int) == 47) = true := by rw [← hc, e]; rfl
        have HX : Hid (n + 1 = depB (s.data.toList.take (k + 1))) := Lib.hid (by rw [HS.out, ← HC.out, if_pos e, HN.out])
        clear hc e HS
        go_wp2
        go_round
        case rel => exact ⟨k + 1, n + 1, by go_num, by go_num, by omega, by omega, HX⟩
        case measure => simp [intOf]; omega
      · have hb : ((s[k].toNat : Int) == 47) = false := by
          rw [← hc]
          cases hh : ((c.toNat : Int) == 47) with
          | false => rfl
          | true =>
            exfalso
            refine e (UInt8.toNat_inj.1 ?_)
            have := eq_of_beq hh
            show c.toNat = 47
            omega
        have HX : Hid (n = depB (s.data.toList.take (k + 1))) := Lib.hid (by rw [HS.out, ← HC.out, if_neg e, HN.out]; rfl)
        clear hc e HS
        go_wp2
        go_round
        case rel => exact ⟨k + 1, n, by go_num, rfl, by omega, by omega, HX⟩
        case measure => simp [intOf]; omega
    · have HX : Hid (n = depB s.data.toList) := Lib.hid (by
        obtain rfl : k = s.size := by omega
        rw [HN.out, size_len, List.take_length])
      go_wp2
      go_ret
      rw [HX.out]
      exact ⟨rfl, rfl⟩

/-! ### The queue -/
structure QueOk (w : World) (g o c : Nat) (Q : List (List (List UInt8))) (base : Nat) : Prop where
  le : Q.length ≤ c
  bg : base ≤ g
  cm : c ≤ maxLen
  blk : ∃ cs, w.heap[g]? = some (.cells cs 9 (0, 0)) ∧ o + c ≤ cs.size ∧ ∀ i l, Q[i]? = some l → cs[o + i]? = some (.string (mk (joinB l)))
theorem QueOk.lt {w : World} {g o c base : Nat} {Q : List (List (List UInt8))} (h : QueOk w g o c Q base) : g < w.heap.size := by obtain ⟨cs, h1, _⟩ := h.blk; exact blk_lt h1
theorem QueOk.keep {S : List Nat} {w w' : World} {g o c base : Nat} {Q : List (List (List UInt8))} (h : QueOk w g o c Q base) (hc : Chg S w w') (hg : g ∉ S) : QueOk w' g o c Q base := by
  obtain ⟨cs, h1, h2, h3⟩ := h.blk
  exact ⟨h.le, h.bg, h.cm, cs, hc.keep h1 hg, h2, h3⟩
theorem QueOk.head {w : World} {g o c base : Nat} {l : List (List UInt8)} {R : List (List (List UInt8))} (h : QueOk w g o c (l :: R) base) : w.cell? ⟨g, o, none⟩ = some (.string (NM.mk (joinB l))) := by
  obtain ⟨cs, h1, h2, h3⟩ := h.blk
  exact blk_cell h1 o _ (h3 0 l rfl)
theorem QueOk.tail {w : World} {g o c base : Nat} {l : List (List UInt8)} {R : List (List (List UInt8))} (h : QueOk w g o c (l :: R) base) : QueOk w g (if c = 1 then o else o + 1) (c - 1) R base := by
  obtain ⟨cs, h1, h2, h3⟩ := h.blk
  have hle := h.le
  have hcm := h.cm
  simp at hle
  refine ⟨by omega, h.bg, by unfold maxLen at *; omega, cs, h1, by split <;> omega, fun i l' hl => ?_⟩
  by_cases hc : c = 1
  · obtain rfl : R = [] := List.eq_nil_of_length_eq_zero (by omega)
    simp at hl
  · rw [if_neg hc]
    have := h3 (i + 1) l' (by simpa using hl)
    rw [← this]; congr 1; omega
theorem QueOk.start (w : World) (base : Nat) (hb : base ≤ w.heap.size) : QueOk (w.alloc (.cells #[.string (NM.mk [47])] 9)) w.heap.size 0 1 [[]] base := by
  refine ⟨by simp, hb, by unfold maxLen; omega, _, heap_alloc_new w _, by simp, fun i l hl => ?_⟩
  match i with
  | 0 =>
    obtain rfl : [] = l := by simpa using hl
    rfl
  | i + 1 => simp at hl
theorem elStr : El Try.prog 49 9 (.string ByteArray.empty) 1 16 := el24
theorem wpList_que {w : World} {ops : Array Oper} {rest : List Oper} {oo : Oper} {a : Act} {F : Exit → Act → World → Prop} (hgd : oo.guard = none) (s x : Operand)
    (ho : oo.op = .call { callee := .builtin .append, args := #[s, x], argTypes := #[49, 49] }) (g o c base : Nat) (Q : List (List (List UInt8))) (hq : QueOk w g o c Q base) (n : Nat) (hn : n = Q.length) (hs : a.eval s = .slice (some ⟨g, o, none⟩) n c) (l : List (List UInt8)) (p : List UInt8) (hp : p = joinB l) (cx : Nat)
    (hx : a.eval x = .slice (some ⟨w.heap.size, 0, none⟩) 1 cx) (hlen : Q.length ≤ 1000)
    (h : ∀ g' o' c' w', QueOk w' g' o' c' (Q ++ [l]) base → (g' = g ∨ w.heap.size ≤ g') → Chg [g] w w' → wpList Try.prog ops F rest (a.put oo.dst (.slice (some ⟨g', o', none⟩) (n + 1) c')) w') :
    wpList Try.prog ops F (oo :: rest) a (w.alloc (.cells #[.string (mk p)] 9)) := by
  subst hn
  subst hp
  obtain ⟨ht, ⟨i, hi, hz, hsize, hby⟩, hzs, hsp⟩ := elStr
  obtain ⟨cs, h1, h2, h3⟩ := hq.blk
  have hlt := hq.lt
  have hle := hq.le
  have hal : Chg [] w (w.alloc (.cells #[Value.string (mk (joinB l))] 9)) := (Chg.refl [] w).alloc _
  have h1' := hal.keep h1 (by simp)
  have hxn := heap_alloc_new w (.cells #[Value.string (mk (joinB l))] 9)
  have hmap : ∀ (i : Nat) (u : Value), (Q.map (fun l => Value.string (mk (joinB l))))[i]? = some u → ∃ l, Q[i]? = some l ∧ u = Value.string (mk (joinB l)) := by
    intro i u hu
    rw [List.getElem?_map] at hu
    cases hq : Q[i]? with
    | none => rw [hq] at hu; cases hu
    | some l => rw [hq] at hu; exact ⟨l, rfl, (Option.some.inj hu).symm⟩
  refine wpList_append_arg _ hgd s x 49 ho 9 i _ 1 16 ht hi hz hsize hby hzs hsp g o Q.length c (Q.map (fun l => Value.string (mk (joinB l)))) hs (by simp) (fun j u hu => ?_) ⟨w.heap.size, 0, none⟩ 1 cx [Value.string (mk (joinB l))] hx rfl (fun j u hu => ?_) (by intro u hu; simp at hu; subst hu; rfl) (fun hr j hj => ?_) (by unfold maxLen; omega) (by omega) (fun hr => ?_) (fun hr v' w' ho' hg' => ?_)
  · obtain ⟨l', hl', rfl⟩ := hmap j u hu
    exact blk_cell h1' _ _ (h3 j l' hl')
  · match j with
    | 0 =>
      obtain rfl : Value.string (mk (joinB l)) = u := by simpa using hu
      rw [add_none]
      exact blk_cell hxn 0 _ rfl
    | j + 1 => simp at hu
  · obtain rfl : j = 0 := by simpa using hj
    refine ⟨?_, blk_frozen h1' _⟩
    have hlt' : o + Q.length * 1 + 0 < cs.size := by omega
    rw [blk_cell h1' (o + Q.length * 1 + 0) cs[o + Q.length * 1 + 0] (Array.getElem?_eq_getElem hlt')]
    rfl
  · refine h g o c _ ⟨by simp; omega, hq.bg, hq.cm, cs.setIfInBounds (o + Q.length * 1) (.string (mk (joinB l))), ?_, by simpa using h2, fun i l' hl => ?_⟩ (.inl rfl) ?_
    · exact set_blk (j := o + Q.length * 1) h1'
    · rw [Nat.mul_one]
      rcases Nat.lt_or_ge i Q.length with hil | hil
      · rw [List.getElem?_append_left hil] at hl
        rw [Array.getElem?_setIfInBounds_ne (by omega)]
        exact h3 i l' hl
      · rw [List.getElem?_append_right hil] at hl
        have hi0 : i - Q.length = 0 := by
          rcases Nat.eq_zero_or_pos (i - Q.length) with h0 | h0
          · exact h0
          · rw [List.getElem?_eq_none (by simp; omega)] at hl; cases hl
        rw [hi0] at hl
        obtain rfl : l = l' := by simpa using hl
        obtain rfl : i = Q.length := by omega
        rw [Array.getElem?_setIfInBounds_self_of_lt (by omega)]
    · exact (hal.mono (by simp)).setCell (p := ⟨g, o + Q.length * 1, none⟩) (.inl (by simp)) _
  · rcases ho'.2 with ⟨hv, h0⟩ | ⟨g', cap, cur, rfl, hbg, hg2, hnc, hcm, hcs, htake⟩
    · omega
    · refine h g' 0 cap w' ⟨by simpa using hnc, ?_, hcm, cur, hg2, by simp at hcs; omega, fun i l' hl => ?_⟩ (.inr ?_) ?_
      · have := hq.bg; simp at hbg; omega
      · rw [Nat.zero_add]
        have e : Q.map (fun l => Value.string (mk (joinB l))) ++ [Value.string (mk (joinB l))] = (Q ++ [l]).map (fun l => Value.string (mk (joinB l))) := by simp
        rw [e] at htake
        have hil := (List.getElem?_eq_some_iff.1 hl).1
        have : ((Q ++ [l]).map (fun l => Value.string (mk (joinB l))))[i]? = some (Value.string (mk (joinB l'))) := by rw [List.getElem?_map, hl]; rfl
        rw [← htake, List.getElem?_take] at this
        simp at hil
        rw [if_pos (by omega)] at this
        simpa using this
      · simp at hbg; omega
      · exact (hal.mono (by simp)).grown hg' (fun k hk => by cases hk)
end Go.Proofs.Ytaiihklfeoeoeaa.W
