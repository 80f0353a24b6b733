/- The reference's Remove. -/
import Derived.Test.YtaiihklfeoeoeaaRT2
import Derived.Test.YtaiihklfeoeoeaaRegL
namespace Go.Proofs.Ytaiihklfeoeoeaa.W
open Go.RowKit
open Go.Proofs.Ytaiihklfeoeoeaa.NM
set_option linter.unusedVariables false
set_option linter.unusedSimpArgs false

/-- A slice that reads as things. -/
def SrcTh (w : World) (u : Value) (U : PT) : Prop := ∃ a c, u = .slice a U.length c ∧ ((a = none ∧ c = 0 ∧ U = []) ∨ ∃ ad, a = some ad ∧ ∀ j x, (thEs U)[j]? = some x → w.cell? (ad.add j) = some x)
theorem thEs_one_cell (U : PT) : ∀ u ∈ thEs U, u.oneCell' = true := by
  intro u hu
  obtain ⟨x, _, hx⟩ := List.mem_flatMap.1 hu
  exact thE_one x u hx
theorem run_appTh {w : World} (ty : TypeId) (base : Nat) (v : Value) (acc : PT) (hown : w.ownsRow base 99 4 v acc.length (thEs acc)) (u : Value) (U : PT) (hu : SrcTh w u U) (hsz : acc.length + U.length ≤ 1000) (hbase : base ≤ w.heap.size) :
    ∃ v' w', (Builtin.append_ #[44, 44] ty #[v, u]).run Try.prog w = .ok v' w' ∧ w'.ownsRow base 99 4 v' (acc ++ U).length (thEs (acc ++ U)) ∧ w.grownBy w' v.ownBlock ∧ (v'.ownBlock = v.ownBlock ∨ v'.ownBlock = some w.heap.size) := by
  obtain ⟨ht, ⟨i, hi, hz, hsize, hby⟩, hzs, hsp⟩ := elTh
  obtain ⟨a, c, rfl, hu⟩ := hu
  rcases hu with ⟨rfl, rfl, rfl⟩ | ⟨ad, rfl, hc⟩
  · have hr := run_append_owned_none (P := Try.prog) (w := w) base 44 ty 99 i 4 ht hi v acc.length (thEs acc) hown
    exact ⟨v, w, hr, by rw [List.append_nil]; exact hown, ⟨rfl, rfl, rfl, Nat.le_refl _, fun _ _ _ => rfl⟩, .inl rfl⟩
  · obtain ⟨v', w', hr, ho, hg, _, hat⟩ := run_append_own_at (P := Try.prog) w base 44 ty 99 i _ 4 40 ht hi hz hsize hby hzs hsp v acc.length (thEs acc) hown ad U.length c (thEs U) (thEs_len U) hc (thEs_one_cell U) (by unfold maxLen; omega) (by omega) hbase
    exact ⟨v', w', hr, by rw [List.length_append, thEs_app]; exact ho, hg, hat⟩
theorem wp_appTh {w : World} {o : Oper} {a : Act} {K : Act → World → Prop} {Q : Exit → Act → World → Prop} (s x : Operand)
    (ho : o.op = .call { callee := .builtin .append, args := #[s, x], argTypes := #[44, 44] }) (base : Nat) (v : Value) (acc : PT) (hs : a.eval s = v) (hown : w.ownsRow base 99 4 v acc.length (thEs acc)) (u : Value) (U : PT) (hx : a.eval x = u) (hu : SrcTh w u U) (hsz : acc.length + U.length ≤ 1000) (hbase : base ≤ w.heap.size)
    (h : ∀ v' w', w'.ownsRow base 99 4 v' (acc ++ U).length (thEs (acc ++ U)) → w.grownBy w' v.ownBlock → (v'.ownBlock = v.ownBlock ∨ v'.ownBlock = some w.heap.size) → K (a.put o.dst v') w') : o.wp Try.prog a w K Q := by
  obtain ⟨v', w', hr, h2, h3, h4⟩ := run_appTh o.type base v acc hown u U hu hsz hbase
  unfold Oper.wp execOp
  simp only [ho, resolve, invoke, builtin, Sem.run_bind, Sem.run_pure, Result.andThen_ok, List.map_toArray, List.map_cons, List.map_nil, hs, hx, hr]
  exact h v' w' h2 h3 h4
theorem wpList_appTh {w : World} {ops : Array Oper} {rest : List Oper} {o : Oper} {a : Act} {Q : Exit → Act → World → Prop} (hgd : o.guard = none) (s x : Operand)
    (ho : o.op = .call { callee := .builtin .append, args := #[s, x], argTypes := #[44, 44] }) (base : Nat) (v : Value) (acc : PT) (hs : a.eval s = v) (hown : w.ownsRow base 99 4 v acc.length (thEs acc)) (u : Value) (U : PT) (hx : a.eval x = u) (hu : SrcTh w u U) (hsz : acc.length + U.length ≤ 1000) (hbase : base ≤ w.heap.size)
    (h : ∀ v' w', w'.ownsRow base 99 4 v' (acc ++ U).length (thEs (acc ++ U)) → w.grownBy w' v.ownBlock → (v'.ownBlock = v.ownBlock ∨ v'.ownBlock = some w.heap.size) → wpList Try.prog ops Q rest (a.put o.dst v') w') : wpList Try.prog ops Q (o :: rest) a w :=
  wpList_plain hgd fun _ hK => wp_appTh s x ho base v acc hs hown u U hx hu hsz hbase fun v' w' h2 h3 h4 => hK _ _ (h v' w' h2 h3 h4)
theorem SrcTh.keep {w w' : World} {u : Value} {U : PT} (h : SrcTh w u U) (hc : Chg [] w w') : SrcTh w' u U := by
  obtain ⟨a, c, h1, h2⟩ := h
  refine ⟨a, c, h1, ?_⟩
  rcases h2 with h2 | ⟨ad, h2, h3⟩
  · exact .inl h2
  · exact .inr ⟨ad, h2, fun j x hx => hc.cell (h3 j x hx) (by simp)⟩
/-- An empty slice that was made. -/
theorem empty_row (w : World) (base : Nat) (hb : base ≤ w.heap.size) : (w.alloc (.cells #[] 99)).ownsRow base 99 4 (.slice (some ⟨w.heap.size, 0, none⟩) 0 0) 0 (thEs []) := by
  refine ⟨rfl, .inr ⟨w.heap.size, 0, #[], rfl, hb, heap_alloc_new w _, ?_, ?_, ?_, ?_⟩⟩
  · omega
  · unfold maxLen; omega
  · rfl
  · rfl
theorem del_at {T : PT} (h : T.Pairwise (fun x y => x.ino < y.ino)) {i : Nat} {x : Th} (hx : T[i]? = some x) : T.filter (fun y => y.ino != x.ino) = T.take i ++ T.drop (i + 1) := by
  induction T generalizing i with
  | nil => simp at hx
  | cons y r ih =>
    have h' := List.pairwise_cons.1 h
    match i with
    | 0 =>
      obtain rfl : y = x := by simpa using hx
      rw [List.filter_cons_of_neg (by simp)]
      simp only [List.take_zero, List.nil_append, Nat.zero_add, List.drop_succ_cons, List.drop_zero]
      rw [List.filter_eq_self]
      intro z hz
      have := h'.1 z hz
      simp; omega
    | i + 1 =>
      have hx' : r[i]? = some x := by simpa using hx
      have := h'.1 x (List.mem_of_getElem? hx')
      rw [List.filter_cons_of_pos (by simp; omega), ih h'.2 hx']
      simp
theorem row_take {w : World} {base g cap : Nat} {T : PT} (h : w.ownsRow base 99 4 (.slice (some ⟨g, 0, none⟩) T.length cap) T.length (thEs T)) (i : Nat) (hi : i ≤ T.length) (c : Nat) : SrcTh w (.slice (some ⟨g, 0, none⟩) i c) (T.take i) := by
  refine ⟨_, c, by rw [List.length_take, Nat.min_eq_left hi], .inr ⟨_, rfl, fun j x hx => ?_⟩⟩
  refine World.ownsRow.cells h (g := g) rfl j x ?_
  have : T = T.take i ++ T.drop i := (List.take_append_drop i T).symm
  rw [this, thEs_app, List.getElem?_append_left (List.getElem?_eq_some_iff.1 hx).1]
  exact hx
theorem row_drop {w : World} {base g cap : Nat} {T : PT} (h : w.ownsRow base 99 4 (.slice (some ⟨g, 0, none⟩) T.length cap) T.length (thEs T)) (i : Nat) (hi : i ≤ T.length) (c : Nat) : SrcTh w (.slice (some ⟨g, i * 4, none⟩) (T.length - i) c) (T.drop i) := by
  refine ⟨_, c, by rw [List.length_drop], .inr ⟨_, rfl, fun j x hx => ?_⟩⟩
  have := World.ownsRow.cells h (g := g) rfl (i * 4 + j) x (by
    have e : T = T.take i ++ T.drop i := (List.take_append_drop i T).symm
    rw [e, thEs_app, List.getElem?_append_right (by rw [thEs_len, List.length_take, Nat.min_eq_left hi]; omega), thEs_len, List.length_take, Nat.min_eq_left hi, Nat.add_sub_cancel_left]
    exact hx)
  rw [add_none] at this ⊢
  simpa using this
theorem row_rest {w : World} {base g cap : Nat} {T : PT} (h : w.ownsRow base 99 4 (.slice (some ⟨g, 0, none⟩) T.length cap) T.length (thEs T)) (i : Nat) (hi : i ≤ T.length) : SrcTh w (.slice (if cap = i then some ⟨g, 0, none⟩ else some ⟨g, i * 4, none⟩) (T.length - i) (cap - i)) (T.drop i) := by
  by_cases hc : cap = i
  · rw [if_pos hc]
    have hl : T.length ≤ cap := by
      obtain ⟨a, c, he, hc, _⟩ := throw_own h
      injection he with _ _ h3
      omega
    obtain rfl : i = T.length := by omega
    rw [List.drop_length, Nat.sub_self]
    exact ⟨_, _, rfl, .inr ⟨_, rfl, fun j x hx => by simp [thEs] at hx⟩⟩
  · rw [if_neg hc]
    exact row_drop h i hi _
theorem src_nil (w : World) (ad : Addr) (c : Nat) : SrcTh w (.slice (some ad) 0 c) [] := ⟨_, c, rfl, .inr ⟨ad, rfl, fun j x hx => by simp [thEs] at hx⟩⟩

set_option maxHeartbeats 8000000 in
set_option maxRecDepth 100000 in
theorem rremove_any (b base : Nat) (v : Value) (T : PT) (s : ByteArray) (d : Bool) (w : World) (h : RTOk w b v base T) (hs : s.size ≤ 1000) (hb0 : base ≤ w.heap.size) :
    Calls Try.prog 35 #[.pointer (some ⟨b, 0, none⟩), .string s, .bool d] w (RMakePost w b v base (tRemove T s.data.toList d)) := by
  have H := Lib.hid h
  have hok := Lib.hid h.ok
  have hTl := tok_len' h.ok
  have hbl := h.lt
  obtain ⟨Z, hZ⟩ : ∃ Z, tRemove T s.data.toList d = Z := ⟨_, rfl⟩
  have HX : Hid (Z = if (tLook T s.data.toList).2.2 ≠ 0 then ((0, (tLook T s.data.toList).2.2), T) else if (tLook T s.data.toList).1 = 1 then ((0, 8), T) else
    if (d && !(tLook T s.data.toList).2.1) = true then ((0, 10), T) else if (!d && (tLook T s.data.toList).2.1) = true then ((0, 9), T) else
    if T.any (fun x => x.dir == (tLook T s.data.toList).1) = true then ((0, 11), T) else
    (((tLook T s.data.toList).1, 0), T.filter (fun x => x.ino != (tLook T s.data.toList).1))) := Lib.hid (by rw [← hZ]; rfl)
  rw [hZ]
  clear hZ
  have HP := Lib.hid (rlook_any b base v T s w h hs)
  have HO : Hid ((tLook T s.data.toList).2.2 = 0 → tHas T (tLook T s.data.toList).1 = true ∧ (tLook T s.data.toList).2.1 = tIsDir T (tLook T s.data.toList).1) := Lib.hid (fun h => look_okL h)
  clear h hs
  generalize tLook T s.data.toList = r at *
  obtain ⟨n, isd, er⟩ := r
  simp only at HX HO
  go_enter Try.func35, Try.ntmps35
  go_wp2_with fail
  refine HP.out.mono ?_
  rintro e w1 ⟨rfl, hb1⟩
  have HB := Lib.hid hb1
  have H1 := Lib.hid (H.out.keep0 hb1)
  have hbl1 := Nat.lt_of_lt_of_le hbl hb1.size
  have hbase1 := Nat.le_trans hb0 hb1.size
  clear hb1 HP
  by_cases h0 : er = 0
  · subst h0
    obtain ⟨o1, o2⟩ := HO.out rfl
    have HA := Lib.hid o1
    have hns := has_small hok.out o1
    have HX1 : Hid (Z = if n = 1 then ((0, 8), T) else if (d && !isd) = true then ((0, 10), T) else if (!d && isd) = true then ((0, 9), T) else
      if T.any (fun x => x.dir == n) = true then ((0, 11), T) else ((n, 0), T.filter (fun x => x.ino != n))) := Lib.hid (by rw [HX.out, if_neg (by simp)])
    clear o1 o2 HX HO
    by_cases hn1 : n = 1
    · have HE : Hid (Z = ((0, 8), T)) := Lib.hid (by rw [HX1.out, if_pos hn1])
      subst hn1
      go_wp2
      go_ret2
      rw [HE.out]
      exact ⟨rfl, RDid.same H.out HB.out⟩
    · have hz1 : ((n : Int) == 1) = false := by simp; omega
      have HX2 : Hid (Z = if (d && !isd) = true then ((0, 10), T) else if (!d && isd) = true then ((0, 9), T) else
        if T.any (fun x => x.dir == n) = true then ((0, 11), T) else ((n, 0), T.filter (fun x => x.ino != n))) := Lib.hid (by rw [HX1.out, if_neg hn1])
      have HN1 := Lib.hid hn1
      clear HX1 hn1
      by_cases hdd : d = isd
      · have HX3 : Hid (Z = if T.any (fun x => x.dir == n) = true then ((0, 11), T) else ((n, 0), T.filter (fun x => x.ino != n))) := Lib.hid (by
          rw [HX2.out, if_neg (by rw [hdd]; simp), if_neg (by rw [hdd]; simp)])
        subst hdd
        clear HX2
        obtain ⟨A, cap, hv, hcap, hrow⟩ := throw_own H1.out.rows
        subst hv
        have t0 : w1.cell? ⟨b, 0, none⟩ = some (.slice A T.length cap) := blk_cell H1.out.head 0 _ rfl
        have HR := Lib.hid hrow
        clear hrow
        cases d
        all_goals
          go_wp2_with fail
          go_loopg [11] T.length (fun gh v11 wr => ∃ k : Nat, v11 = .int .i64 k ∧ k ≤ T.length ∧ T.length ≤ k + gh ∧ Hid (∀ x ∈ T.take k, x.dir ≠ n) ∧ wr = w1)
          case atStart => exact ⟨0, rfl, by omega, by omega, Lib.hid (by simp), rfl⟩
          case round =>
            obtain ⟨k, rfl, hk, hkg, HQ, rfl⟩ := hrel
            by_cases hlt : k < T.length
            · obtain ⟨x, hx⟩ : ∃ x, T[k]? = some x := ⟨_, List.getElem?_eq_getElem hlt⟩
              obtain ⟨g, rfl, hg, hc⟩ : ∃ g, A = some ⟨g, 0, none⟩ ∧ g < wr.heap.size ∧ wr.cell? ⟨g, k * 4 + 1, none⟩ = some (.int .i64 (x.dir : Int)) := by
                rcases HR.out with h0 | ⟨g, h1, h2, h3⟩
                · rw [h0] at hlt; simp at hlt
                · exact ⟨g, h1, h2, (h3 k x hx).2.1⟩
              have HXk := Lib.hid hx
              clear hx
              have hkz : (k : Int) < (T.length : Int) := by omega
              obtain ⟨y, hy⟩ : ∃ y : Int, y = x.dir := ⟨_, rfl⟩
              rw [← hy] at hc
              have HY := Lib.hid hy
              clear hy
              cases hq : (y == (n : Int)) with
              | true =>
                have HE : Hid (Z = ((0, 11), T)) := Lib.hid (by
                  rw [HX3.out, if_pos]
                  rw [List.any_eq_true]
                  refine ⟨x, List.mem_of_getElem? HXk.out, ?_⟩
                  rw [HY.out] at hq
                  simp at hq ⊢; omega)
                go_wp2
                go_ret2
                rw [HE.out]
                exact ⟨rfl, RDid.same H.out HB.out⟩
              | false =>
                have HN : Hid (∀ x ∈ T.take (k + 1), x.dir ≠ n) := Lib.hid (by
                  intro z hz
                  have e : T.take (k + 1) = T.take k ++ [x] := by
                    rw [List.take_add_one, HXk.out]; rfl
                  rw [e] at hz
                  rcases List.mem_append.1 hz with hz | hz
                  · exact HQ.out z hz
                  · obtain rfl := List.mem_singleton.1 hz
                    rw [HY.out] at hq
                    simp at hq; omega)
                go_wp2
                go_roundg (T.length - k - 1)
                case measure => omega
                case rel => exact ⟨k + 1, by go_num, by omega, by omega, HN, rfl⟩
            · have HNO : Hid (∀ x ∈ T, x.dir ≠ n) := Lib.hid (by
                obtain rfl : k = T.length := by omega
                have := HQ.out
                rwa [List.take_length] at this)
              have HE : Hid (Z = ((n, 0), T.filter (fun x => x.ino != n))) := Lib.hid (by
                rw [HX3.out, if_neg]
                rw [List.any_eq_true]
                rintro ⟨x, hx, he⟩
                exact HNO.out x hx (by simpa using he))
              have HF := Lib.hid (rfind_any b base _ T n wr H1.out)
              obtain ⟨i, x, hi, hix, hig⟩ : ∃ (i : Nat) (x : Th), fiI T n = i ∧ T[i]? = some x ∧ tGet T n = some x := by
                rcases fiI_cases T n with ⟨h2, h3⟩ | h2
                · have := HA.out
                  unfold tHas at this
                  rw [h3] at this
                  simp at this
                  exact absurd this HN1.out
                · exact h2
              rw [hi] at HF
              have hil := (List.getElem?_eq_some_iff.1 hix).1
              have HFL : Hid (T.filter (fun y => y.ino != n) = T.take i ++ T.drop (i + 1)) := Lib.hid (by
                rw [← del_at hok.out.rise hix, (get_some hig).2])
              have HTK : Hid (TOk (T.filter (fun y => y.ino != n))) := Lib.hid (hok.out.del HN1.out HNO.out)
              obtain ⟨g, rfl, hg⟩ : ∃ g, A = some ⟨g, 0, none⟩ ∧ g < wr.heap.size := by
                rcases HR.out with h0 | ⟨g, h1, h2, h3⟩
                · rw [h0] at hil; simp at hil
                · exact ⟨g, h1, h2⟩
              clear hi hix hig HX3 HQ
              go_wp2_with fail
              refine HF.out.mono ?_
              rintro e w2 ⟨rfl, rfl⟩
              have HROW := Lib.hid H1.out.rows
              have hie : (i : Int) ≤ (cap : Int) := by omega
              have hie1 : (i : Int) + 1 ≤ (T.length : Int) := by omega
              have hie2 : (i : Int) + 1 ≤ (cap : Int) := by omega
              have hi0 : (0 : Int) ≤ (i : Int) + 1 := by omega
              have hit : ((i : Int) + 1).toNat = i + 1 := by omega
              have hwi : IntKind.i64.wrap ((i : Int) + 1) = (i : Int) + 1 := IntWalk.i64_in _ (by omega)
              go_wp2_with fail
              refine wp_region_L [(19, fun w' => w'.cell? ⟨b, 0, none⟩ = some (.slice (some ⟨g, 0, none⟩) T.length cap))] (by kernel_rfl) ?_ (fun hHeld => ?_)
              · exact (HoldC.cons (t0) HoldC.nil)
              refine wpAnyL_take (i := 0) (oi := _) (v := ?_) rfl (by kernel_rfl) (by kernel_rfl) (by kernel_rfl) (by kernel_rfl) (by kernel_rfl) (fun _ _ _ h => h) (Or.inl ⟨by rfl, ?_⟩) (by assumption) (fun hNew => ?_)
              rotate_left
              · intro w _
                go_simp
                try with_reducible rfl
              clear hHeld
              have hHeld := hNew
              clear hNew
              try simp only [List.getElem_toArray, List.getElem_cons_succ, List.getElem_cons_zero, Act.put, List.setIfInBounds_toArray, List.set_cons_zero, List.set_cons_succ]
              refine wpAnyL_take (i := 2) (oi := _) (v := ?_) rfl (by kernel_rfl) (by kernel_rfl) (by kernel_rfl) (by kernel_rfl) (by kernel_rfl) (fun _ _ _ h => h) (Or.inl ⟨by rfl, ?_⟩) (by assumption) (fun hNew => ?_)
              rotate_left
              · intro w _
                go_simp
                try with_reducible rfl
              clear hHeld
              have hHeld := hNew
              clear hNew
              try simp only [List.getElem_toArray, List.getElem_cons_succ, List.getElem_cons_zero, Act.put, List.setIfInBounds_toArray, List.set_cons_zero, List.set_cons_succ]
              refine wpAnyL_take (i := 3) (oi := _) (v := ?_) rfl (by kernel_rfl) (by kernel_rfl) (by kernel_rfl) (by kernel_rfl) (by kernel_rfl) (fun _ _ _ h => h) (Or.inl ⟨by rfl, ?_⟩) (by assumption) (fun hNew => ?_)
              rotate_left
              · intro w _
                go_simp
                try with_reducible rfl
              clear hHeld
              have hHeld := hNew
              clear hNew
              try simp only [List.getElem_toArray, List.getElem_cons_succ, List.getElem_cons_zero, Act.put, List.setIfInBounds_toArray, List.set_cons_zero, List.set_cons_succ]
              refine wpAnyL_take (i := 4) (oi := _) (v := ?_) rfl (by kernel_rfl) (by kernel_rfl) (by kernel_rfl) (by kernel_rfl) (by kernel_rfl) (fun _ _ _ h => h) (Or.inl ⟨by rfl, ?_⟩) (by assumption) (fun hNew => ?_)
              rotate_left
              · intro w _
                go_simp
                try with_reducible rfl
              clear hHeld
              have hHeld := hNew
              clear hNew
              try simp only [List.getElem_toArray, List.getElem_cons_succ, List.getElem_cons_zero, Act.put, List.setIfInBounds_toArray, List.set_cons_zero, List.set_cons_succ]
              refine wpAnyL_take (i := 6) (oi := _) (v := ?_) rfl (by kernel_rfl) (by kernel_rfl) (by kernel_rfl) (by kernel_rfl) (by kernel_rfl) (fun _ _ _ h => h) (Or.inl ⟨by rfl, ?_⟩) (by assumption) (fun hNew => ?_)
              rotate_left
              · intro w _
                go_simp
                try with_reducible rfl
              clear hHeld
              have hHeld := hNew
              clear hNew
              try simp only [List.getElem_toArray, List.getElem_cons_succ, List.getElem_cons_zero, Act.put, List.setIfInBounds_toArray, List.set_cons_zero, List.set_cons_succ]
              refine wpAnyL_take (i := 9) (oi := _) (v := ?_) rfl (by kernel_rfl) (by kernel_rfl) (by kernel_rfl) (by kernel_rfl) (by kernel_rfl) (fun _ _ _ h => h) (Or.inl ⟨by rfl, ?_⟩) (by assumption) (fun hNew => ?_)
              rotate_left
              · intro w _
                go_simp
                try with_reducible rfl
              clear hHeld
              have hHeld := hNew
              clear hNew
              try simp only [List.getElem_toArray, List.getElem_cons_succ, List.getElem_cons_zero, Act.put, List.setIfInBounds_toArray, List.set_cons_zero, List.set_cons_succ]
              refine wpAnyL_take (i := 10) (oi := _) (v := ?_) rfl (by kernel_rfl) (by kernel_rfl) (by kernel_rfl) (by kernel_rfl) (by kernel_rfl) (fun _ _ _ h => h) (Or.inl ⟨by rfl, ?_⟩) (by assumption) (fun hNew => ?_)
              rotate_left
              · intro w _
                go_simp
                try with_reducible rfl
              clear hHeld
              have hHeld := hNew
              clear hNew
              try simp only [List.getElem_toArray, List.getElem_cons_succ, List.getElem_cons_zero, Act.put, List.setIfInBounds_toArray, List.set_cons_zero, List.set_cons_succ]
              refine wpAnyL_take (i := 11) (oi := _) (v := ?_) rfl (by kernel_rfl) (by kernel_rfl) (by kernel_rfl) (by kernel_rfl) (by kernel_rfl) (fun _ _ _ h => h) (Or.inl ⟨by rfl, ?_⟩) (by assumption) (fun hNew => ?_)
              rotate_left
              · intro w _
                go_simp
                try with_reducible rfl
              clear hHeld
              have hHeld := hNew
              clear hNew
              try simp only [List.getElem_toArray, List.getElem_cons_succ, List.getElem_cons_zero, Act.put, List.setIfInBounds_toArray, List.set_cons_zero, List.set_cons_succ]
              refine wpAnyL_take (i := 13) (oi := _) (v := ?_) rfl (by kernel_rfl) (by kernel_rfl) (by kernel_rfl) (by kernel_rfl) (by kernel_rfl) (fun _ _ _ h => h) (Or.inl ⟨by rfl, ?_⟩) (by assumption) (fun hNew => ?_)
              rotate_left
              · intro w _
                go_simp
                try with_reducible rfl
              clear hHeld
              have hHeld := hNew
              clear hNew
              try simp only [List.getElem_toArray, List.getElem_cons_succ, List.getElem_cons_zero, Act.put, List.setIfInBounds_toArray, List.set_cons_zero, List.set_cons_succ]
              refine wpAnyL_take (i := 14) (oi := _) (v := ?_) rfl (by kernel_rfl) (by kernel_rfl) (by kernel_rfl) (by kernel_rfl) (by kernel_rfl) (fun _ _ _ h => h) (Or.inl ⟨by rfl, ?_⟩) (by assumption) (fun hNew => ?_)
              rotate_left
              · intro w _
                go_simp
                try with_reducible rfl
              clear hHeld
              have hHeld := hNew
              clear hNew
              try simp only [List.getElem_toArray, List.getElem_cons_succ, List.getElem_cons_zero, Act.put, List.setIfInBounds_toArray, List.set_cons_zero, List.set_cons_succ]
              refine wpAnyL_load 0 (i := 5) (oi := _) (v := ?_) rfl rfl (by kernel_rfl) (by kernel_rfl) (by kernel_rfl) (by kernel_rfl) (by kernel_rfl) (by kernel_rfl) (fun _ _ _ h => h) (Or.inl ⟨by rfl, ?_⟩) (by assumption) (fun hNew => ?_)
              rotate_left
              · intro w hSw
                (try dsimp only at hSw)
                go_simp
                try with_reducible rfl
              clear hHeld
              have hHeld := hNew
              clear hNew
              try simp only [List.getElem_toArray, List.getElem_cons_succ, List.getElem_cons_zero, Act.put, List.setIfInBounds_toArray, List.set_cons_zero, List.set_cons_succ]
              refine wpAnyL_take (i := 7) (oi := _) (v := ?_) rfl (by kernel_rfl) (by kernel_rfl) (by kernel_rfl) (by kernel_rfl) (by kernel_rfl) (fun _ _ _ h => h) (Or.inl ⟨by rfl, ?_⟩) (by assumption) (fun hNew => ?_)
              rotate_left
              · intro w _
                go_simp
                try with_reducible rfl
              clear hHeld
              have hHeld := hNew
              clear hNew
              try simp only [List.getElem_toArray, List.getElem_cons_succ, List.getElem_cons_zero, Act.put, List.setIfInBounds_toArray, List.set_cons_zero, List.set_cons_succ]
              refine wpAnyL_load 0 (i := 12) (oi := _) (v := ?_) rfl rfl (by kernel_rfl) (by kernel_rfl) (by kernel_rfl) (by kernel_rfl) (by kernel_rfl) (by kernel_rfl) (fun _ _ _ h => h) (Or.inl ⟨by rfl, ?_⟩) (by assumption) (fun hNew => ?_)
              rotate_left
              · intro w hSw
                (try dsimp only at hSw)
                go_simp
                try with_reducible rfl
              clear hHeld
              have hHeld := hNew
              clear hNew
              try simp only [List.getElem_toArray, List.getElem_cons_succ, List.getElem_cons_zero, Act.put, List.setIfInBounds_toArray, List.set_cons_zero, List.set_cons_succ]
              refine wpAnyL_take (i := 15) (oi := _) (v := ?_) rfl (by kernel_rfl) (by kernel_rfl) (by kernel_rfl) (by kernel_rfl) (by kernel_rfl) (fun _ _ _ h => h) (Or.inl ⟨by rfl, ?_⟩) (by assumption) (fun hNew => ?_)
              rotate_left
              · intro w _
                go_simp
                try with_reducible rfl
              clear hHeld
              have hHeld := hNew
              clear hNew
              try simp only [List.getElem_toArray, List.getElem_cons_succ, List.getElem_cons_zero, Act.put, List.setIfInBounds_toArray, List.set_cons_zero, List.set_cons_succ]
              refine wpAnyL_ready (rs := [1]) (by kernel_rfl) (by simp) ?_
              refine AllReadyL.cons (o := _) rfl (fun K hK => ?_) AllReadyL.nil
              try simp only [List.getElem_toArray, List.getElem_cons_succ, List.getElem_cons_zero]
              go_simp
              obtain ⟨W1, hW1⟩ : ∃ W1, W1 = (wr.alloc (.cells #[] 99)).drew := ⟨_, rfl⟩
              obtain ⟨z, hz⟩ : ∃ z, z = wr.heap.size := ⟨_, rfl⟩
              rw [← hW1, ← hz]
              have hc1 : Chg [] wr W1 := by rw [hW1]; exact ((Chg.refl [] wr).alloc _).drew
              have HC1 := Lib.hid hc1
              have HO1 : Hid (W1.ownsRow wr.heap.size 99 4 (.slice (some ⟨z, 0, none⟩) 0 0) 0 (thEs [])) := Lib.hid (by rw [hW1, hz]; exact World.ownsRow.drew (empty_row wr wr.heap.size (Nat.le_refl _)))
              have HS1 := Lib.hid ((row_take HROW.out i (by omega) cap).keep hc1)
              have HS2 := Lib.hid (row_rest HROW.out (i + 1) hil)
              have HZ := Lib.hid hz
              have e1 := hc1.cell t0 (by simp)
              clear hW1 hc1 hz
              clear hHeld
              refine hK.out _ _ ?_ (fun hHeld => ?_)
              · exact (HoldC.cons (e1) HoldC.nil)
              clear hK K
              try simp only [List.getElem_toArray, List.getElem_cons_succ, List.getElem_cons_zero, Act.put, List.setIfInBounds_toArray, List.set_cons_zero, List.set_cons_succ]
              refine wpAnyL_ready (rs := [8]) (by kernel_rfl) (by simp) ?_
              refine AllReadyL.cons (o := _) rfl (fun K hK => ?_) AllReadyL.nil
              try simp only [List.getElem_toArray, List.getElem_cons_succ, List.getElem_cons_zero]
              refine wp_appTh (.tmp 62) (.tmp 68) (by rfl) wr.heap.size _ [] (by rfl) HO1.out _ (T.take i) (by rfl) HS1.out (by simp; omega) HC1.out.size ?_
              intro v7 w7 ho7 hg7 hat7
              have HC7 : Hid (Chg [] wr w7) := Lib.hid (HC1.out.grown hg7 (fun k hk => .inr (by
                obtain rfl : z = k := by simpa [Value.ownBlock] using hk
                rw [HZ.out]; exact Nat.le_refl _)))
              have HS3 := Lib.hid (HS2.out.keep HC7.out)
              have HO7 := Lib.hid ho7
              have e7 := HC7.out.cell t0 (by simp)
              clear ho7 hg7 hat7 e1
              clear hHeld
              refine hK.out _ _ ?_ (fun hHeld => ?_)
              · exact (HoldC.cons (e7) HoldC.nil)
              clear hK K
              try simp only [List.getElem_toArray, List.getElem_cons_succ, List.getElem_cons_zero, Act.put, List.setIfInBounds_toArray, List.set_cons_zero, List.set_cons_succ]
              refine wpAnyL_ready (rs := [16]) (by kernel_rfl) (by simp) ?_
              refine AllReadyL.cons (o := _) rfl (fun K hK => ?_) AllReadyL.nil
              try simp only [List.getElem_toArray, List.getElem_cons_succ, List.getElem_cons_zero]
              refine wp_appTh (.tmp 69) (.tmp 76) (by rfl) wr.heap.size _ _ (by rfl) HO7.out _ (T.drop (i + 1)) (by rfl) HS3.out (by simp; omega) HC7.out.size ?_
              intro v8 w8 ho8 hg8 hat8
              have HC8 : Hid (Chg [] wr w8) := Lib.hid (HC7.out.grown hg8 (fun k hk => .inr (World.ownsRow.lt HO7.out k hk).1))
              obtain ⟨a8, c8, hv8, _⟩ := throw_own ho8
              subst hv8
              have HP : Hid (RDid wr (w8.setCell ⟨b, 0, none⟩ (.slice a8 ([] ++ T.take i ++ T.drop (i + 1)).length c8)) b (.slice (some ⟨g, 0, none⟩) T.length cap) base (T.filter (fun y => y.ino != n))) := Lib.hid (by
                refine RDid.put H1.out HC8.out ?_ hbase1 HTK.out
                rw [HFL.out]
                exact ho8)
              have hb8 := HC8.out.keep H1.out.head (by simp)
              have e8 := blk_cell hb8 0 _ rfl
              have f8 := blk_frozen hb8 0
              have l8 := blk_lt hb8
              generalize ([] ++ T.take i ++ T.drop (i + 1)).length = n8 at *
              clear ho8 hg8 hat8 e7 hb8
              clear hHeld
              refine hK.out _ _ ?_ (fun hHeld => ?_)
              · exact (HoldC.cons (e8) HoldC.nil)
              clear hK K
              try simp only [List.getElem_toArray, List.getElem_cons_succ, List.getElem_cons_zero, Act.put, List.setIfInBounds_toArray, List.set_cons_zero, List.set_cons_succ]
              refine wpAnyL_take (i := 17) (oi := _) (v := ?_) rfl (by kernel_rfl) (by kernel_rfl) (by kernel_rfl) (by kernel_rfl) (by kernel_rfl) (fun _ _ _ h => h) (Or.inl ⟨by rfl, ?_⟩) (by assumption) (fun hNew => ?_)
              rotate_left
              · intro w _
                go_simp
                try with_reducible rfl
              clear hHeld
              have hHeld := hNew
              clear hNew
              try simp only [List.getElem_toArray, List.getElem_cons_succ, List.getElem_cons_zero, Act.put, List.setIfInBounds_toArray, List.set_cons_zero, List.set_cons_succ]
              refine wpAnyL_take (i := 18) (oi := _) (v := ?_) rfl (by kernel_rfl) (by kernel_rfl) (by kernel_rfl) (by kernel_rfl) (by kernel_rfl) (fun _ _ _ h => h) (Or.inl ⟨by rfl, ?_⟩) (by assumption) (fun hNew => ?_)
              rotate_left
              · intro w _
                go_simp
                try with_reducible rfl
              clear hHeld
              have hHeld := hNew
              clear hNew
              try simp only [List.getElem_toArray, List.getElem_cons_succ, List.getElem_cons_zero, Act.put, List.setIfInBounds_toArray, List.set_cons_zero, List.set_cons_succ]
              refine wpAnyL_ready (rs := [19]) (by kernel_rfl) (by simp) ?_
              refine AllReadyL.cons (o := _) rfl (fun K hK => ?_) AllReadyL.nil
              try simp only [List.getElem_toArray, List.getElem_cons_succ, List.getElem_cons_zero]
              go_simp
              clear hHeld
              refine hK.out _ _ ?_ (fun hHeld => ?_)
              · exact (HoldC.past (by kernel_rfl) HoldC.nil)
              clear hK K
              try simp only [List.getElem_toArray, List.getElem_cons_succ, List.getElem_cons_zero, Act.put, List.setIfInBounds_toArray, List.set_cons_zero, List.set_cons_succ]
              refine wpAnyL_done (by kernel_rfl) ?_ _
              clear hHeld
              generalize w8.setCell ⟨b, 0, none⟩ (.slice a8 n8 c8) = w9 at *
              clear e8 f8 l8 t0 HS2 HS3
              generalize hq : (if cap = i + 1 then (some ⟨g, 0, none⟩ : Option Addr) else some ⟨g, (i + 1) * 4, none⟩) = ad
              clear hq
              go_wp2
              go_ret2
              rw [HE.out]
              obtain ⟨v', r1, r2, r3⟩ := HP.out
              refine ⟨rfl, v', r1, ?_, (HB.out.mono (by simp)).trans r3 (by simp)⟩
              rcases r2 with r2 | r2
              · exact .inl r2
              · exact .inr (fun g hg => Nat.le_trans HB.out.size (r2 g hg))
      · have hx : (d = true ∧ isd = false) ∨ (d = false ∧ isd = true) := by
          cases d <;> cases isd <;> simp_all
        clear hdd
        rcases hx with ⟨rfl, rfl⟩ | ⟨rfl, rfl⟩
        · have HE : Hid (Z = ((0, 10), T)) := Lib.hid (by rw [HX2.out]; rfl)
          go_wp2
          go_ret2
          rw [HE.out]
          exact ⟨rfl, RDid.same H.out HB.out⟩
        · have HE : Hid (Z = ((0, 9), T)) := Lib.hid (by rw [HX2.out]; rfl)
          go_wp2
          go_ret2
          rw [HE.out]
          exact ⟨rfl, RDid.same H.out HB.out⟩
  · have HE : Hid (Z = ((0, er), T)) := Lib.hid (by rw [HX.out, if_pos h0])
    have he0 : (er != 0) = true := by simpa using h0
    clear h0 HX HO
    go_wp2
    go_ret2
    rw [HE.out]
    exact ⟨rfl, RDid.same H.out HB.out⟩
end Go.Proofs.Ytaiihklfeoeoeaa.W
