/- Texts laid together. -/
import Derived.Test.YtipfgghdoicdhaaDoorTB4
import Derived.Deep.DeepCutAuto
import Derived.Deep.CutBlock
import Derived.Test.YtipfgghdoicdhaaDoorTB3
/- SlotTwice: the walk. -/
namespace Go.Proofs.YtipfgghdoicdhaaDoor.W
open Go.RowKit
set_option linter.unusedVariables false
set_option linter.unusedSimpArgs false

theorem i64_low5 (n : Nat) (h : n ≤ 255) : bits .and .i64 (n : Int) 31 = ((n % 32 : Nat) : Int) := by
  show IntKind.i64.wrap ((BitVec.ofInt 64 (n : Int) &&& BitVec.ofInt 64 ((31 : Nat) : Int)).toNat : Int) = _
  rw [BitVec.toNat_and, ofInt_i64 n (by omega), ofInt_i64 31 (by omega), show (31 : Nat) = 2 ^ 5 - 1 from rfl, Nat.and_two_pow_sub_one_eq_mod, IntKind.wrap_i64]
  omega
theorem slot3i (x : Int) : ∃ j : Nat, j < 3 ∧ (IntKind.i64.wrap (x.tmod 3 + 3)).tmod 3 = (j : Int) := by
  have h1 : x.tmod 3 < 3 := Int.tmod_lt_of_pos x (by omega)
  have h2 : -3 < x.tmod 3 := Int.lt_tmod_of_pos x (by omega)
  rw [IntWalk.i64_in _ ⟨by omega, by omega⟩]
  have h3 : (x.tmod 3 + 3).tmod 3 = (x.tmod 3 + 3) % 3 := Int.tmod_eq_emod_of_nonneg (by omega)
  rw [h3]
  exact ⟨((x.tmod 3 + 3) % 3).toNat, by omega, by omega⟩
theorem wpList_append_to {P : Program} {w : World} {ops : Array Oper} {rest : List Oper} {o : Oper} {a : Act} {Q : Exit → Act → World → Prop} (hgd : o.guard = none) (x y : Operand) {t1 t2 : TypeId} (ho : o.op = .call { callee := .builtin .append, args := #[x, y], argTypes := #[t1, t2] }) {v1 v2 : Value} (hx : a.eval x = v1) (hy : a.eval y = v2)
    {r : Value} {w' : World} (hr : (Builtin.append_ #[t1, t2] o.type #[v1, v2]).run P w = .ok r w') (h : wpList P ops Q rest (a.put o.dst r) w') : wpList P ops Q (o :: rest) a w := by
  refine wpList_plain hgd fun K hK => ?_
  unfold Oper.wp execOp
  simp only [ho, resolve, invoke, builtin, Sem.run_bind, Sem.run_pure, Result.andThen_ok, List.map_toArray, List.map_cons, List.map_nil, hx, hy, hr]
  exact hK _ _ h

/-- Where the walk is to stand still. -/
def Stop (p : Prop) : Prop := p
theorem stop_of {p : Prop} (h : Stop p) : p := h
theorem chg_app {w5 w6 : World} {x : UInt8} {v : Value} (hv : v = .slice (some ⟨w5.heap.size, 0, none⟩) 1 1) (hg : (w5.alloc (.cells #[bv x] 5)).grownBy w6 v.ownBlock) : Chg [] w5 w6 := by
  subst hv
  exact ((Chg.refl [] w5).alloc (.cells #[bv x] 5)).grown hg (fun k hk => .inr (by
    have h : w5.heap.size = k := by simpa [Value.ownBlock] using hk
    omega))
/-- Was it met among the first? -/
def okb (b : List UInt8) (l : List (List UInt8)) (j : Nat) : Bool := decide (b ∈ l.take j)
theorem okb_zero (b : List UInt8) (l : List (List UInt8)) : okb b l 0 = false := by unfold okb; simp
theorem okb_succ (b : List UInt8) (l : List (List UInt8)) (j : Nat) (x : List UInt8) (h : l[j]? = some x) : okb b l (j + 1) = (okb b l j || decide (b = x)) := by
  unfold okb
  rw [List.take_add_one, h]
  rw [Bool.eq_iff_iff]
  simp
theorem okb_all (b : List UInt8) (l : List (List UInt8)) (h : b ∈ l) : okb b l l.length = true := by unfold okb; simp [h]
/-- Between the two rounds: all is told. -/
def Calm (s : SS) (C : Nat → List (Value × List UInt8)) : Prop := (s.first = 1 ∧ s.rows.length = 3 ∧ s.d.n = 25) ∧ s.d.ops = 0 ∧ ∃ u v, ToldR s u v ∧ Full u v ∧ ∀ k, k < 3 → (C k).map (·.2) = [cont u v k]

set_option maxHeartbeats 16000000 in
set_option maxRecDepth 100000 in
theorem twice_any (a : Option Addr) (n cap : Nat) (f : Nat → Dd) (z0 z1 : Nat) (hz0 : z0 ≤ 255) (hz1 : z1 ≤ 255) (ca : Option Addr) (cc : Nat) (ch : List UInt8) (w : World) (h : DeedsAt w a n f) (hch : Came w (.slice ca ch.length cc) ch) (hcl : ch.length ≤ maxLen) :
    Calls Tryd.prog 7 #[.slice a n cap, .agg #[.int .u8 (z0 : Int), .int .u8 (z1 : Int)], .slice ca ch.length cc] w fun e w' => e = .returned (.bool true) ∧ Chg [] w w' := by
  obtain ⟨wb, hwb⟩ : ∃ wb, wb = w.alloc (.cells #[.int .u8 (z0 : Int), .int .u8 (z1 : Int)] 58) := ⟨_, rfl⟩
  have hcb : Chg [] w wb := by rw [hwb]; exact (Chg.refl _ _).alloc _
  have hbx : wb.heap[w.heap.size]? = some (.cells #[.int .u8 (z0 : Int), .int .u8 (z1 : Int)] 58 (0, 0)) := by rw [hwb]; exact heap_alloc_new w _
  have hfz : ∀ r, r < 2 → ∃ z : Nat, z ≤ 255 ∧ wb.cell? ⟨w.heap.size, r, none⟩ = some (.int .u8 (z : Int)) := fun r hr => by
    match r, hr with
    | 0, _ => exact ⟨z0, hz0, blk_cell hbx 0 _ rfl⟩
    | 1, _ => exact ⟨z1, hz1, blk_cell hbx 1 _ rfl⟩
  have HFZ := Lib.hid hfz
  have HCB := Lib.hid hcb
  have CA := Lib.hid (awake_any wb)
  have HD := Lib.hid (h.keep hcb)
  have HCH := Lib.hid (hch.chg hcb)
  have HWB := Lib.hid hwb
  unfold maxLen at hcl
  obtain ⟨b4, hb4⟩ : ∃ b4, b4 = w.heap.size := ⟨_, rfl⟩
  rw [← hb4] at HFZ
  have HB4 := Lib.hid hb4
  clear h hch hwb hcb hbx hfz hb4
  go_enter Tryd.func7, Tryd.ntmps7
  go_wp2_with fail
  rw [← HWB.out, ← HB4.out]
  refine CA.out.mono ?_
  rintro e w0 ⟨rfl, hc0⟩
  have HC0 := Lib.hid hc0
  have CR := Lib.hid (room_any a n cap 40 f w0 (HD.out.keep hc0) (by omega))
  clear hc0 CA
  go_wp2_with fail
  refine CR.out.mono ?_
  rintro e w0' ⟨hroom, hq⟩
  subst hq
  rcases hroom with ⟨rfl, hfew⟩ | rfl
  rotate_left
  · go_wp2
    go_ret
    exact ⟨rfl, HCB.out.trans HC0.out (by simp)⟩
  by_cases hc100 : ch.length ≤ 100
  rotate_left
  · have hz : (100 : Int) < (ch.length : Int) := by omega
    go_wp2
    go_ret
    exact ⟨rfl, HCB.out.trans HC0.out (by simp)⟩
  have hz100 : ¬ (100 : Int) < (ch.length : Int) := by omega
  have HF := Lib.hid hfew
  have CN := Lib.hid (dnew_any 25 w0 (by omega) (by omega))
  clear hfew CR
  go_wp2_with fail
  refine CN.out.mono ?_
  rintro e w1 ⟨p, S, rfl, hd1, hS1, hc1⟩
  have CO := Lib.hid (sopen_any p S _ 1 w1 hd1)
  rw [at0_open] at CO
  have HC1 := Lib.hid hc1
  have HS1 := Lib.hid hS1
  clear hd1 hS1 hc1 CN
  go_wp2_with fail
  refine CO.out.mono ?_
  rintro e w2 ⟨hc2, q, U, rfl, hs2, hU2⟩
  have H2 : Hid (Since wb w2 q p U at0) := Lib.hid ⟨hs2, fun x hx => by
    have a0 := HC0.out.size
    rcases hU2 x hx with h | h
    · have := HS1.out x h; omega
    · have := HC1.out.size; omega, (HC0.out.trans HC1.out (by simp)).trans hc2 (by simp)⟩
  have CC := Lib.hid (fun w' (hc : Chg [] w2 w') => (scount_any q p U at0 w' (hs2.keep0 hc)).mono (R' := fun e w'' => e = .returned (.int .i64 3) ∧ w' = w'') fun e w'' h => ⟨by rw [h.1]; rfl, h.2⟩)
  have hm3 := make_3
  clear hs2 hU2 hc2 CO HS1
  go_wp2_with (go_at_call 22; refine (CC.out _ (Chg.refl _ _)).mono ?_; rintro e w' ⟨rfl, hq⟩; subst hq)
  have HP0 : Hid (TwPre wb (w2.alloc (.cells (three fun _ => .slice none 0 0) 22)) q p w2.heap.size U at0 (fun _ => .slice none 0 0) 0) := Lib.hid (by
    have hfr := H2.out.fresh (Nat.le_refl w2.heap.size)
    exact ⟨H2.out.keep ((Chg.refl [] w2).alloc _), heap_alloc_new w2 _, ⟨hfr, H2.out.2.2.size⟩, fun k hk z => by simp, fun k hk hm => by omega⟩)
  generalize w2.alloc (.cells (three fun _ => .slice none 0 0) 22) = w3 at *
  generalize w2.heap.size = gm at *
  clear CC H2 HC1 hm3
  go_loopg [12] 3 (fun g' s12 wr => ∃ (m : Nat) (vals : Nat → Value), s12 = .int .i64 (m : Int) ∧ m ≤ 3 ∧ 3 ≤ m + g' ∧ Hid (TwPre wb wr q p gm U at0 vals m))
  case atStart => exact ⟨0, _, rfl, by omega, by omega, HP0⟩
  case round =>
    obtain ⟨m, vals, rfl, hm, hmg, HP⟩ := hrel
    clear HP0
    have CC := Lib.hid ((scount_any q p U at0 wr HP.out.since.1).mono (R' := fun e w'' => e = .returned (.int .i64 3) ∧ wr = w'') fun e w'' h => ⟨by rw [h.1]; rfl, h.2⟩)
    by_cases hm3 : m < 3
    · have hmz : (m : Int) < 3 := by omega
      have hmz0 : (0 : Int) ≤ (m : Int) := by omega
      have hmz1 : (m : Int).toNat = m := by omega
      have gl := blk_lt HP.out.cm
      have hp1 := HP.out.step hm3
      rw [World.setCell_alloc_past _ _ _ _ gl] at hp1
      have HP1 := Lib.hid hp1
      clear hp1
      have g0 := blk_cell HP.out.cm m _ (three_at _ m hm3)
      have g1 := blk_frozen HP.out.cm m
      have gne : ¬ gm = wr.heap.size := by omega
      go_wp2_with fail
      refine CC.out.mono ?_
      rintro e w' ⟨rfl, hq⟩
      subst hq
      go_wp2
      go_roundg (gk - 1)
      case measure => omega
      case rel => exact ⟨m + 1, _, by go_num, by omega, by omega, HP1⟩
    · have hmz : ¬ (m : Int) < 3 := by omega
      have HT : Hid (TwAt wb wr q p gm U at0 vals (fun _ => [(.slice none 0 0, [])])) := Lib.hid (by
        obtain rfl : m = 3 := by omega
        exact HP.out.done)
      clear HP
      go_wp2_with fail
      refine CC.out.mono ?_
      rintro e w' ⟨rfl, hq⟩
      subst hq
      go_wp2_with fail
      clear CC hm hmg
      obtain ⟨wo, hwo⟩ : ∃ wo : World, wo = wr := ⟨_, rfl⟩
      rw [← hwo] at HT ⊢
      clear hwo
      obtain ⟨p0, hp0⟩ : ∃ x, x = p := ⟨_, rfl⟩
      obtain ⟨q0, hq0⟩ : ∃ x, x = q := ⟨_, rfl⟩
      rw [← hp0, ← hq0] at HT ⊢
      clear hp0 hq0
      go_loopg [7, 9, 10, 13] 2 (fun g' s7 s9 s10 s13 wr => ∃ (r p q : Nat) (U : List Nat) (s : SS) (vals : Nat → Value) (C : Nat → List (Value × List UInt8)) (v10 : Value), s7 = .pointer (some ⟨p, 0, none⟩) ∧ s9 = .pointer (some ⟨q, 0, none⟩) ∧ s10 = v10 ∧ s13 = .int .i64 (r : Int) ∧ r ≤ 2 ∧ 2 ≤ r + g' ∧ Hid (TwAt wb wr q p gm U s vals C ∧ Calm s C))
      case atStart => exact ⟨0, p0, q0, U, at0, vals, _, _, rfl, rfl, rfl, rfl, by omega, by omega, Lib.hid ⟨HT.out, ⟨rfl, rfl, rfl⟩, rfl, _, _, at0_toldR, fun k _ h => (by cases h), fun k _ => rfl⟩⟩
      case round =>
        obtain ⟨r, p, q, U, s, vals, C, v10, rfl, rfl, rfl, rfl, hr, hrg, HR⟩ := hrel
        clear HT
        obtain ⟨gO, hgO⟩ : ∃ gO, gO = gk := ⟨_, rfl⟩
        rw [← hgO] at hrg
        by_cases hr2 : r < 2
        · have hrz : (r : Int) < 2 := by omega
          have hrz0 : (0 : Int) ≤ (r : Int) := by omega
          have hrz1 : (r : Int).toNat = r := by omega
          obtain ⟨z, hz, hzc⟩ := HFZ.out r hr2
          have c4 := HR.out.1.since.2.2.cell hzc (by simp)
          have hband := i64_low5 z hz
          have CF := Lib.hid (HR.out.1.since.1.fuse ((z % 32 : Nat) : Int) (by omega))
          have HRR := HR
          clear hzc
          go_wp2_with fail
          refine CF.out.mono ?_
          rintro e w5 ⟨rfl, hs5⟩
          obtain ⟨U5, T5, _⟩ := HRR.out.1.sid hs5
          obtain ⟨hsh, hops, u, v, ht, hfu, hC⟩ := HRR.out.2
          have W5 := Lib.hid (Way3.fuse (C := fun k => (C k).map (·.2)) ht hsh hfu hC hops ((z % 32 : Nat) : Int))
          have HT5 := Lib.hid T5
          clear CF hs5 T5 hband hz c4 hsh hops ht hfu hC HRR HR
          generalize ({ s with d := s.d.setFuse ((z % 32 : Nat) : Int) } : SS) = s5 at *
          go_wp2_with fail
          obtain ⟨w6, hw6⟩ : ∃ w6 : World, w6 = w5 := ⟨_, rfl⟩
          rw [← hw6] at HT5 ⊢
          clear hw6
          go_loopg [14] n (fun g' s14 wr => ∃ (k : Nat) (U : List Nat) (s : SS) (vals : Nat → Value) (C : Nat → List (Value × List UInt8)), s14 = .int .i64 (k : Int) ∧ k ≤ n ∧ n ≤ k + g' ∧ Hid (TwAt wb wr q p gm U s vals C ∧ Way3 s (fun k => (C k).map (·.2)) k))
          case atStart => exact ⟨0, U5, s5, vals, C, rfl, by omega, by omega, Lib.hid ⟨HT5.out, W5.out⟩⟩
          case round =>
            obtain ⟨k, U, s, vals, C, rfl, hk, hkg, HR⟩ := hrel
            clear HT5 W5
            have CD := Lib.hid HR.out.1.since.1.dead
            obtain ⟨gg, hgg⟩ : ∃ gg : Bool, gg = (decide (k < n) && !s.d.dead) := ⟨_, rfl⟩
            have HGG := Lib.hid hgg
            clear hgg
            go_upto_region 19 with (fail)
            go_cut [79] (fun s79 wx => s79 = .bool gg ∧ wx = wr)
            case first =>
              by_cases hlt : k < n
              · have hkz : (k : Int) < (n : Int) := by omega
                cases hd : s.d.dead
                all_goals
                  rw [hd] at CD
                  have HG1 := Lib.hid HGG.out
                  rw [hd] at HG1
                  clear hd HGG
                  go_wp2_with fail
                  refine CD.out.mono ?_
                  rintro e w' ⟨rfl, hq⟩
                  subst hq
                  go_wp2_with fail
                  go_meet
                  exact ⟨by rw [HG1.out]; simp [hlt], rfl⟩
              · have hkz : ¬ (k : Int) < (n : Int) := by omega
                go_wp2_with fail
                go_meet
                exact ⟨by rw [HGG.out]; simp [hlt], rfl⟩
            case rest =>
            obtain ⟨rfl, hwc⟩ := hcut
            rw [hwc]
            clear hwc CD
            by_cases hgo : k < n ∧ s.d.dead = false
            · as_aux_lemma =>
                obtain ⟨hlt, hdead⟩ := hgo
                obtain rfl : gg = true := by rw [HGG.out, hdead]; simp [hlt]
                obtain ⟨u, v, hT, hfu, hC, hops⟩ := HR.out.2.lives hdead
                have hsh := HR.out.2.shape
                have hkz : (k : Int) < (n : Int) := by omega
                have hkz1 : (k : Int).toNat = k := by omega
                obtain ⟨g, o, rfl, hdeed⟩ : ∃ g o, a = some ⟨g, o, none⟩ ∧ ∀ i, i < n → _ := HD.out.resolve_left (by omega)
                obtain ⟨d0, d1, d2, d3, d4, m3, m4, wf0, wf1, wf2⟩ := hdeed k hlt
                have hcr := HR.out.1.since.2.2
                have e0 := hcr.cell d0 (by simp)
                have e1 := hcr.cell d1 (by simp)
                have e3 := hcr.cell d3 (by simp)
                have e4 := hcr.cell d4 (by simp)
                have CC := Lib.hid (fun w' (hc : Chg [] wr w') => (scount_any q p U s w' (HR.out.1.since.1.keep0 hc)).mono (R' := fun e w'' => e = .returned (.int .i64 3) ∧ w' = w'') fun e w'' h => ⟨by rw [h.1, hsh.2.1]; rfl, h.2⟩)
                go_wp2_with fail
                refine wp_region_L [(14, fun w' => w'.cell? ⟨g, o + k * 5 + 1, none⟩ = some (.int .i64 (f k).i))] (by kernel_rfl) ?_ (fun hHeld => ?_)
                · exact (HoldC.cons (e1) HoldC.nil)
                refine wpAnyL_take (i := 0) (oi := _) (v := ?_) rfl (by kernel_rfl) (by kernel_rfl) (by kernel_rfl) (by kernel_rfl) (by kernel_rfl) (fun _ _ _ h => h) (Or.inl ⟨by rfl, ?_⟩) (by assumption) (fun hNew => ?_)
                rotate_left
                · intro w _
                  go_simp
                  try with_reducible rfl
                clear hHeld
                have hHeld := hNew
                clear hNew
                try simp only [List.getElem_toArray, List.getElem_cons_succ, List.getElem_cons_zero, Act.put, List.setIfInBounds_toArray, List.set_cons_zero, List.set_cons_succ]
                refine wpAnyL_take (i := 1) (oi := _) (v := ?_) rfl (by kernel_rfl) (by kernel_rfl) (by kernel_rfl) (by kernel_rfl) (by kernel_rfl) (fun _ _ _ h => h) (Or.inl ⟨by rfl, ?_⟩) (by assumption) (fun hNew => ?_)
                rotate_left
                · intro w _
                  go_simp
                  try with_reducible rfl
                clear hHeld
                have hHeld := hNew
                clear hNew
                try simp only [List.getElem_toArray, List.getElem_cons_succ, List.getElem_cons_zero, Act.put, List.setIfInBounds_toArray, List.set_cons_zero, List.set_cons_succ]
                refine wpAnyL_take (i := 2) (oi := _) (v := ?_) rfl (by kernel_rfl) (by kernel_rfl) (by kernel_rfl) (by kernel_rfl) (by kernel_rfl) (fun _ _ _ h => h) (Or.inl ⟨by rfl, ?_⟩) (by assumption) (fun hNew => ?_)
                rotate_left
                · intro w _
                  go_simp
                  try with_reducible rfl
                clear hHeld
                have hHeld := hNew
                clear hNew
                try simp only [List.getElem_toArray, List.getElem_cons_succ, List.getElem_cons_zero, Act.put, List.setIfInBounds_toArray, List.set_cons_zero, List.set_cons_succ]
                refine wpAnyL_take (i := 3) (oi := _) (v := ?_) rfl (by kernel_rfl) (by kernel_rfl) (by kernel_rfl) (by kernel_rfl) (by kernel_rfl) (fun _ _ _ h => h) (Or.inl ⟨by rfl, ?_⟩) (by assumption) (fun hNew => ?_)
                rotate_left
                · intro w _
                  go_simp
                  try with_reducible rfl
                clear hHeld
                have hHeld := hNew
                clear hNew
                try simp only [List.getElem_toArray, List.getElem_cons_succ, List.getElem_cons_zero, Act.put, List.setIfInBounds_toArray, List.set_cons_zero, List.set_cons_succ]
                refine wpAnyL_take (i := 5) (oi := _) (v := ?_) rfl (by kernel_rfl) (by kernel_rfl) (by kernel_rfl) (by kernel_rfl) (by kernel_rfl) (fun _ _ _ h => h) (Or.inl ⟨by rfl, ?_⟩) (by assumption) (fun hNew => ?_)
                rotate_left
                · intro w _
                  go_simp
                  try with_reducible rfl
                clear hHeld
                have hHeld := hNew
                clear hNew
                try simp only [List.getElem_toArray, List.getElem_cons_succ, List.getElem_cons_zero, Act.put, List.setIfInBounds_toArray, List.set_cons_zero, List.set_cons_succ]
                refine wpAnyL_take (i := 8) (oi := _) (v := ?_) rfl (by kernel_rfl) (by kernel_rfl) (by kernel_rfl) (by kernel_rfl) (by kernel_rfl) (fun _ _ _ h => h) (Or.inl ⟨by rfl, ?_⟩) (by assumption) (fun hNew => ?_)
                rotate_left
                · intro w _
                  go_simp
                  try with_reducible rfl
                clear hHeld
                have hHeld := hNew
                clear hNew
                try simp only [List.getElem_toArray, List.getElem_cons_succ, List.getElem_cons_zero, Act.put, List.setIfInBounds_toArray, List.set_cons_zero, List.set_cons_succ]
                refine wpAnyL_take (i := 11) (oi := _) (v := ?_) rfl (by kernel_rfl) (by kernel_rfl) (by kernel_rfl) (by kernel_rfl) (by kernel_rfl) (fun _ _ _ h => h) (Or.inl ⟨by rfl, ?_⟩) (by assumption) (fun hNew => ?_)
                rotate_left
                · intro w _
                  go_simp
                  try with_reducible rfl
                clear hHeld
                have hHeld := hNew
                clear hNew
                try simp only [List.getElem_toArray, List.getElem_cons_succ, List.getElem_cons_zero, Act.put, List.setIfInBounds_toArray, List.set_cons_zero, List.set_cons_succ]
                refine wpAnyL_load 0 (i := 4) (oi := _) (v := ?_) rfl rfl (by kernel_rfl) (by kernel_rfl) (by kernel_rfl) (by kernel_rfl) (by kernel_rfl) (by kernel_rfl) (fun _ _ _ h => h) (Or.inl ⟨by rfl, ?_⟩) (by assumption) (fun hNew => ?_)
                rotate_left
                · intro w hSw
                  (try dsimp only at hSw)
                  go_simp
                  try with_reducible rfl
                clear hHeld
                have hHeld := hNew
                clear hNew
                try simp only [List.getElem_toArray, List.getElem_cons_succ, List.getElem_cons_zero, Act.put, List.setIfInBounds_toArray, List.set_cons_zero, List.set_cons_succ]
                refine wpAnyL_ready (rs := [6]) (by kernel_rfl) (by simp) ?_
                refine AllReadyL.cons (o := _) rfl (fun K hK => ?_) AllReadyL.nil
                try simp only [List.getElem_toArray, List.getElem_cons_succ, List.getElem_cons_zero]
                go_simp
                refine (CC.out _ (by exact (Chg.refl [] wr).drew)).mono ?_
                rintro e w' ⟨rfl, hq⟩
                subst hq
                try go_wp2_with fail
                clear hHeld
                refine hK.out _ _ ?_ (fun hHeld => ?_)
                · exact (HoldC.cons (e1) HoldC.nil)
                clear hK K
                try simp only [List.getElem_toArray, List.getElem_cons_succ, List.getElem_cons_zero, Act.put, List.setIfInBounds_toArray, List.set_cons_zero, List.set_cons_succ]
                refine wpAnyL_take (i := 7) (oi := _) (v := ?_) rfl (by kernel_rfl) (by kernel_rfl) (by kernel_rfl) (by kernel_rfl) (by kernel_rfl) (fun _ _ _ h => h) (Or.inl ⟨by rfl, ?_⟩) (by assumption) (fun hNew => ?_)
                rotate_left
                · intro w _
                  go_simp
                  try with_reducible rfl
                clear hHeld
                have hHeld := hNew
                clear hNew
                try simp only [List.getElem_toArray, List.getElem_cons_succ, List.getElem_cons_zero, Act.put, List.setIfInBounds_toArray, List.set_cons_zero, List.set_cons_succ]
                refine wpAnyL_ready (rs := [9]) (by kernel_rfl) (by simp) ?_
                refine AllReadyL.cons (o := _) rfl (fun K hK => ?_) AllReadyL.nil
                try simp only [List.getElem_toArray, List.getElem_cons_succ, List.getElem_cons_zero]
                go_simp
                refine (CC.out _ (by exact (Chg.refl [] wr).drew)).mono ?_
                rintro e w' ⟨rfl, hq⟩
                subst hq
                try go_wp2_with fail
                clear hHeld
                refine hK.out _ _ ?_ (fun hHeld => ?_)
                · exact (HoldC.cons (e1) HoldC.nil)
                clear hK K
                try simp only [List.getElem_toArray, List.getElem_cons_succ, List.getElem_cons_zero, Act.put, List.setIfInBounds_toArray, List.set_cons_zero, List.set_cons_succ]
                refine wpAnyL_take (i := 10) (oi := _) (v := ?_) rfl (by kernel_rfl) (by kernel_rfl) (by kernel_rfl) (by kernel_rfl) (by kernel_rfl) (fun _ _ _ h => h) (Or.inl ⟨by rfl, ?_⟩) (by assumption) (fun hNew => ?_)
                rotate_left
                · intro w _
                  go_simp
                  try with_reducible rfl
                clear hHeld
                have hHeld := hNew
                clear hNew
                try simp only [List.getElem_toArray, List.getElem_cons_succ, List.getElem_cons_zero, Act.put, List.setIfInBounds_toArray, List.set_cons_zero, List.set_cons_succ]
                refine wpAnyL_ready (rs := [12]) (by kernel_rfl) (by simp) ?_
                refine AllReadyL.cons (o := _) rfl (fun K hK => ?_) AllReadyL.nil
                try simp only [List.getElem_toArray, List.getElem_cons_succ, List.getElem_cons_zero]
                go_simp
                refine (CC.out _ (by exact (Chg.refl [] wr).drew)).mono ?_
                rintro e w' ⟨rfl, hq⟩
                subst hq
                try go_wp2_with fail
                clear hHeld
                refine hK.out _ _ ?_ (fun hHeld => ?_)
                · exact (HoldC.cons (e1) HoldC.nil)
                clear hK K
                try simp only [List.getElem_toArray, List.getElem_cons_succ, List.getElem_cons_zero, Act.put, List.setIfInBounds_toArray, List.set_cons_zero, List.set_cons_succ]
                refine wpAnyL_take (i := 13) (oi := _) (v := ?_) rfl (by kernel_rfl) (by kernel_rfl) (by kernel_rfl) (by kernel_rfl) (by kernel_rfl) (fun _ _ _ h => h) (Or.inl ⟨by rfl, ?_⟩) (by assumption) (fun hNew => ?_)
                rotate_left
                · intro w _
                  go_simp
                  try with_reducible rfl
                clear hHeld
                have hHeld := hNew
                clear hNew
                try simp only [List.getElem_toArray, List.getElem_cons_succ, List.getElem_cons_zero, Act.put, List.setIfInBounds_toArray, List.set_cons_zero, List.set_cons_succ]
                refine wpAnyL_ready (rs := [14]) (by kernel_rfl) (by simp) ?_
                refine AllReadyL.cons (o := _) rfl (fun K hK => ?_) AllReadyL.nil
                try simp only [List.getElem_toArray, List.getElem_cons_succ, List.getElem_cons_zero]
                go_simp
                clear hHeld
                refine hK.out _ _ ?_ (fun hHeld => ?_)
                · exact (HoldC.past (by kernel_rfl) HoldC.nil)
                clear hK K
                try simp only [List.getElem_toArray, List.getElem_cons_succ, List.getElem_cons_zero, Act.put, List.setIfInBounds_toArray, List.set_cons_zero, List.set_cons_succ]
                refine wpAnyL_done (by kernel_rfl) ?_ _
                clear hHeld
                obtain ⟨j, hj, ej⟩ := slot3i (f k).i
                rw [show (IntKind.i64.wrap ((f k).i.tmod 3 + 3)).tmod 3 = (j : Int) from ej]
                have A4 := Lib.hid (HR.out.1.keep (by exact (Chg.refl [] wr).drew : Chg [] wr wr.drew))
                have WY := Lib.hid HR.out.2
                have HT := Lib.hid hT
                have HFU := Lib.hid hfu
                have HC := Lib.hid hC
                have hsm := HF.out.2 k hlt
                have hn60 := HF.out.1
                have hsi : s.d.since.length = 0 := by rw [hT.rest.none]; rfl
                have hgw : g < wb.heap.size := World.block_lt_of_cell? wb _ d0
                have hjz : (j : Int) < 3 := by omega
                have hjz0 : (0 : Int) ≤ (j : Int) := by omega
                have hjz1 : (j : Int).toNat = j := by omega
                have x0 : wr.drew.cell? ⟨g, o + k * 5, none⟩ = some (.int .i64 (f k).c) := e0
                have x3 : wr.drew.cell? ⟨g, o + k * 5 + 3, none⟩ = some (f k).kv := e3
                have x4 : wr.drew.cell? ⟨g, o + k * 5 + 4, none⟩ = some (f k).bv := e4
                obtain ⟨w5, hw5⟩ : ∃ w5, w5 = wr.drew := ⟨_, rfl⟩
                rw [← hw5] at A4 x0 x3 x4 ⊢
                have hgl : g < w5.heap.size := World.block_lt_of_cell? w5 _ x0
                have hgm := A4.out.out
                have hgml := blk_lt A4.out.cm
                have hnu : s.used (j : Int) = u j := by
                  have hh : s.has (j : Int) := ⟨by omega, by rw [hsh.2.1]; omega⟩
                  have h1 := HT.out.used j (by rw [hsh.2.1]; exact hj)
                  unfold SS.used
                  rw [decide_eq_true hh, Bool.true_and]
                  exact h1
                have CU := Lib.hid (fun w' (hc : Chg [] w5 w') => sused_any q p U s (j : Int) w' (A4.out.since.1.keep0 hc))
                rw [hnu] at CU
                -- the row: 1, then the bytes
                have HB1 := Lib.hid (row_of_block (w := w5.alloc (.cells #[bv 1] 5)) (l := [1]) (heap_alloc_new w5 _) (by unfold maxLen; simp))
                have HBV := Lib.hid ((m4.chg A4.out.since.2.2).chg (by exact (Chg.refl [] w5).alloc (.cells #[bv 1] 5)))
                obtain ⟨a3, q3, v3⟩ := m3.1.slice
                obtain ⟨a4, q4, v4⟩ := m4.1.slice
                have V4 := Lib.hid v4
                have V3 := Lib.hid v3
                rw [v3] at x3
                rw [v4] at x4 HBV
                have M3 := Lib.hid m3
                have D0 := Lib.hid d0
                have D3 := Lib.hid d3
                have SH := Lib.hid hsh
                clear hcr hdeed m3 m4 d0 d1 d2 d3 d4 wf0 wf1 wf2 v3 v4 HR ej e0 e1 e3 e4 hT hw5 CC hdead hfu hC hnu hsh
                obtain ⟨fc, hfc⟩ : ∃ fc, fc = (f k).c := ⟨_, rfl⟩
                rw [← hfc] at x0 D0
                obtain ⟨kl, hkl⟩ : ∃ kl, kl = (f k).key.length := ⟨_, rfl⟩
                rw [← hkl] at x3
                have HKL := Lib.hid hkl
                have hsm1 : kl ≤ 100 := by rw [hkl]; exact hsm.1
                have hsm2 := hsm.2
                clear hfc hkl hsm
                have hgne : ¬ g = w5.heap.size := by omega
                go_wp2_with (at_builtin; refine wpList_appB rfl (.tmp 96) (.tmp 101) rfl (.slice (some ⟨w5.heap.size, 0, none⟩) 1 1) [1] rfl HB1.out _ (f k).b rfl HBV.out.1 (by simp; omega) ?_; intro v6 w6 ho6 hg6 hat6; refine stop_of ?_)
                have hc6 := chg_app (x := 1) rfl hg6
                have H6 := Lib.hid (A4.out.keep hc6)
                have y0 := hc6.cell x0 (by simp)
                have y3 := hc6.cell x3 (by simp)
                have hnew : ∀ k, v6.ownBlock = some k → w5.heap.size ≤ k := fun k hk => by
                  rcases hat6 with h | h
                  · rw [hk] at h
                    have : w5.heap.size = k := by simpa [Value.ownBlock] using h.symm
                    omega
                  · rw [hk] at h
                    have : k = w5.heap.size + 1 := by simpa using h
                    omega
                have HRW : Hid (BytesAt w6 v6 (1 :: (f k).b) ∧ ∀ g, v6.ownBlock = some g → g ∉ U ∧ g < w6.heap.size) := Lib.hid ⟨ho6.bytes, fun g hg => ⟨fun hm => by
                  have h1 := hnew g hg
                  have h2 := A4.out.since.1.own g hm
                  omega, ho6.lt g hg⟩⟩
                obtain ⟨a6, q6, hv6⟩ := HRW.out.1.slice
                have C6 := Lib.hid hc6
                subst hv6
                obtain ⟨rl, hrl⟩ : ∃ rl, rl = (1 :: (f k).b).length := ⟨_, rfl⟩
                rw [← hrl] at HRW ⊢
                have HRL := Lib.hid hrl
                unfold Stop
                clear ho6 hg6 hat6 hnew hc6 x0 x3 x4 HB1 HBV hrl
                have CP := Lib.hid (sput_any q p U s (j : Int) (f k).kv (.slice a6 rl q6) (f k).key (1 :: (f k).b) w6 H6.out.since.1 (M3.out.chg H6.out.since.2.2).1 (fun hl x hx hm => by
                  have a1 := M3.out.2 hl x hx
                  have a2 := H6.out.since.2.1 x hm
                  omega) HRW.out.1 (fun _ x hx => (HRW.out.2 x hx).1) (by rw [← HKL.out]; omega) (by rw [← HRL.out]; have := HRL.out; simp at this; omega) (by omega) (by omega))
                have CL := Lib.hid (sclear_any q p U s (j : Int) w6 H6.out.since.1 (by omega) (by omega))
                rw [V3.out, ← HKL.out] at CP
                have hcj : (C j).length = 1 := by
                  have h := congrArg List.length (HC.out j hj)
                  simpa using h
                have HCJ := Lib.hid hcj
                clear hcj
                by_cases h4 : fc ≤ 4
                · have h6 : (fc == 6) = false := by simp; omega
                  by_cases hA : rl ≤ 448 ∧ kl ≤ 40 ∧ u j = false
                  · obtain ⟨hA1, hA2, hA3⟩ := hA
                    have q1 : (rl : Int) ≤ 448 := by omega
                    have q2 : (kl : Int) ≤ 40 := by omega
                    have WP := Lib.hid (way3_put HT.out SH.out HFU.out HC.out j hj (f k).key (1 :: (f k).b) hA3 (by rw [← HKL.out]; exact hA2) (by rw [← HRL.out]; exact hA1) (by simp) k hops)
                    rw [hA3] at CU
                    clear hA3 CL
                    go_wp2_with fail
                    refine (CU.out w6 C6.out).mono ?_
                    rintro e w' ⟨rfl, hq⟩
                    subst hq
                    go_wp2_with fail
                    refine CP.out.mono ?_
                    rintro e w7 ⟨rfl, hs7⟩
                    have hch7 : Chg U w6 w7 := by obtain ⟨_, _, _, h3⟩ := hs7; exact h3
                    obtain ⟨U7, T7, hU7⟩ := H6.out.sid hs7
                    have HR7 : Hid (BytesAt w7 (.slice a6 rl q6) (1 :: (f k).b) ∧ ((1 :: (f k).b) ≠ [] → ∀ g, (Value.slice a6 rl q6).ownBlock = some g → g ∉ U7 ∧ g < w7.heap.size) ∧ (1 :: (f k).b).length ≤ 1000) := Lib.hid ⟨HRW.out.1.chg hch7 (fun g hg => (HRW.out.2 g hg).1), fun _ g hg => ⟨fun hm => by
                      rcases hU7 g hm with h | h
                      · exact (HRW.out.2 g hg).1 h
                      · have := (HRW.out.2 g hg).2; omega, Nat.lt_of_lt_of_le (HRW.out.2 g hg).2 hch7.size⟩, by rw [← HRL.out]; omega⟩
                    have H7 := Lib.hid T7
                    clear hs7 hch7 T7 hU7 y0 y3 CP CU
                    rcases WP.out with ⟨p1, p2⟩ | ⟨p1, p2⟩
                    · rw [p1]
                      have W7 := Lib.hid p2
                      clear p1 p2 WP
                      have H8 := Lib.hid (H7.out.one j hj _ _ HR7.out)
                      have gl := blk_lt H7.out.cm
                      have t0 := blk_cell H7.out.cm j _ (three_at _ j hj)
                      have t1 := blk_frozen H7.out.cm j
                      have gne : ¬ gm = w7.heap.size := by omega
                      go_wp2
                      go_roundg (gk - 1)
                      case measure => omega
                      case rel => exact ⟨k + 1, U7, _, _, _, by go_num, by omega, by omega, Lib.hid ⟨H8.out, by rw [map_set]; exact W7.out⟩⟩
                    · rw [p1]
                      have W7 := Lib.hid p2
                      clear p1 p2 WP
                      obtain ⟨g9, cap9, wB, t0, hap, tb0, tb1, tb2, hT8⟩ := H7.out.two j hj HCJ.out _ _ HR7.out
                      have t2 : w7.cell? ⟨gm, j, none⟩ = some (.slice (some ⟨g9, 0, none⟩) 1 1) := by
                        rw [← t0]; exact blk_cell H7.out.cm j _ (three_at _ j hj)
                      have H8 := Lib.hid hT8
                      have HAP := Lib.hid hap
                      have gl := blk_lt H7.out.cm
                      have gne : ¬ gm = w7.heap.size := by omega
                      clear hT8 hap t0
                      go_wp2_with (at_builtin; refine wpList_append_to rfl (.tmp 149) (.tmp 151) rfl rfl rfl (HAP.out _) ?_)
                      go_roundg (gk - 1)
                      case measure => omega
                      case rel => exact ⟨k + 1, U7, _, _, _, by go_num, by omega, by omega, Lib.hid ⟨H8.out, by rw [map_set, List.map_append]; exact W7.out⟩⟩
                  · have hA' : 448 < rl ∨ (rl ≤ 448 ∧ 40 < kl) ∨ (rl ≤ 448 ∧ kl ≤ 40 ∧ u j = true) := by
                      cases hu : u j
                      · by_cases q1 : rl ≤ 448
                        · by_cases q2 : kl ≤ 40
                          · exact absurd ⟨q1, q2, hu⟩ hA
                          · exact .inr (.inl ⟨q1, by omega⟩)
                        · exact .inl (by omega)
                      · by_cases q1 : rl ≤ 448
                        · by_cases q2 : kl ≤ 40
                          · exact .inr (.inr ⟨q1, q2, rfl⟩)
                          · exact .inr (.inl ⟨q1, by omega⟩)
                        · exact .inl (by omega)
                    clear hA CP CL
                    rcases hA' with h | ⟨h, h'⟩ | ⟨h, h', h''⟩
                    · have q1 : ¬ (rl : Int) ≤ 448 := by omega
                      go_wp2
                      go_roundg (gk - 1)
                      case measure => omega
                      case rel => exact ⟨k + 1, U, s, vals, C, by go_num, by omega, by omega, Lib.hid ⟨H6.out, WY.out.more (by omega)⟩⟩
                    · have q1 : (rl : Int) ≤ 448 := by omega
                      have q2 : ¬ (kl : Int) ≤ 40 := by omega
                      go_wp2
                      go_roundg (gk - 1)
                      case measure => omega
                      case rel => exact ⟨k + 1, U, s, vals, C, by go_num, by omega, by omega, Lib.hid ⟨H6.out, WY.out.more (by omega)⟩⟩
                    · have q1 : (rl : Int) ≤ 448 := by omega
                      have q2 : (kl : Int) ≤ 40 := by omega
                      rw [h''] at CU
                      clear h''
                      go_wp2_with fail
                      refine (CU.out w6 C6.out).mono ?_
                      rintro e w' ⟨rfl, hq⟩
                      subst hq
                      go_wp2
                      go_roundg (gk - 1)
                      case measure => omega
                      case rel => exact ⟨k + 1, U, s, vals, C, by go_num, by omega, by omega, Lib.hid ⟨H6.out, WY.out.more (by omega)⟩⟩
                · have q4 : decide (fc ≤ 4) = false := decide_eq_false h4
                  by_cases h6 : fc = 6
                  · have q6' : (fc == 6) = true := by simp [h6]
                    clear h6 CP
                    cases hu : u j
                    · rw [hu] at CU
                      clear hu CL
                      go_wp2_with fail
                      refine (CU.out w6 C6.out).mono ?_
                      rintro e w' ⟨rfl, hq⟩
                      subst hq
                      go_wp2
                      go_roundg (gk - 1)
                      case measure => omega
                      case rel => exact ⟨k + 1, U, s, vals, C, by go_num, by omega, by omega, Lib.hid ⟨H6.out, WY.out.more (by omega)⟩⟩
                    · rw [hu] at CU
                      have WC := Lib.hid (way3_clear HT.out SH.out HFU.out HC.out j hj hu k hops)
                      clear hu
                      go_wp2_with fail
                      refine (CU.out w6 C6.out).mono ?_
                      rintro e w' ⟨rfl, hq⟩
                      subst hq
                      go_wp2_with fail
                      refine CL.out.mono ?_
                      rintro e w7 ⟨rfl, hs7⟩
                      obtain ⟨U7, T7, hU7⟩ := H6.out.sid hs7
                      have H7 := Lib.hid T7
                      have HR7 : Hid (BytesAt w7 (.slice none 0 0) [] ∧ (([] : List UInt8) ≠ [] → ∀ g, (Value.slice none 0 0).ownBlock = some g → g ∉ U7 ∧ g < w7.heap.size) ∧ ([] : List UInt8).length ≤ 1000) := Lib.hid ⟨BytesAt.nil _, fun h => absurd rfl h, by simp⟩
                      clear hs7 T7 hU7 y0 y3 CL CU
                      rcases WC.out with ⟨p1, p2⟩ | ⟨p1, p2⟩
                      · rw [p1]
                        have W7 := Lib.hid p2
                        clear p1 p2 WC
                        have H8 := Lib.hid (H7.out.one j hj _ _ HR7.out)
                        have gl := blk_lt H7.out.cm
                        have t0 := blk_cell H7.out.cm j _ (three_at _ j hj)
                        have t1 := blk_frozen H7.out.cm j
                        have gne : ¬ gm = w7.heap.size := by omega
                        go_wp2
                        go_roundg (gk - 1)
                        case measure => omega
                        case rel => exact ⟨k + 1, U7, _, _, _, by go_num, by omega, by omega, Lib.hid ⟨H8.out, by rw [map_set]; exact W7.out⟩⟩
                      · rw [p1]
                        have W7 := Lib.hid p2
                        clear p1 p2 WC
                        obtain ⟨g9, cap9, wB, t0, hap, tb0, tb1, tb2, hT8⟩ := H7.out.two j hj HCJ.out _ _ HR7.out
                        have t2 : w7.cell? ⟨gm, j, none⟩ = some (.slice (some ⟨g9, 0, none⟩) 1 1) := by
                          rw [← t0]; exact blk_cell H7.out.cm j _ (three_at _ j hj)
                        have H8 := Lib.hid hT8
                        have HAP := Lib.hid hap
                        have gl := blk_lt H7.out.cm
                        have gne : ¬ gm = w7.heap.size := by omega
                        clear hT8 hap t0
                        go_wp2_with (at_builtin; refine wpList_append_to rfl (.tmp 178) (.tmp 179) rfl rfl rfl (HAP.out _) ?_)
                        go_roundg (gk - 1)
                        case measure => omega
                        case rel => exact ⟨k + 1, U7, _, _, _, by go_num, by omega, by omega, Lib.hid ⟨H8.out, by rw [map_set, List.map_append]; exact W7.out⟩⟩
                  · have q6' : (fc == 6) = false := by simp [h6]
                    clear h6 CP CL
                    go_wp2
                    go_roundg (gk - 1)
                    case measure => omega
                    case rel => exact ⟨k + 1, U, s, vals, C, by go_num, by omega, by omega, Lib.hid ⟨H6.out, WY.out.more (by omega)⟩⟩
            · as_aux_lemma =>
                obtain rfl : gg = false := by
                  rw [HGG.out]
                  cases hd : s.d.dead
                  · by_cases hlt : k < n
                    · exact absurd ⟨hlt, hd⟩ hgo
                    · simp [hlt]
                  · simp
                clear HGG
                obtain ⟨rows, u2, v2, hr5, hT2, hfull, hall⟩ := HR.out.2.ends ch
                have hsh := HR.out.2.shape
                have han := hT2.anew (by show (s.d.n - s.first) / 8 = rows.length; rw [hsh.1, hsh.2.2, hr5]) (by show s.d.n ≠ 0; rw [hsh.2.2]; decide)
                rw [show (({ s with d := s.d.crash ch, rows := rows } : SS).first : Int) = 1 by show (s.first : Int) = 1; rw [hsh.1]; rfl] at han
                have han : (s.d.crash ch).slots 1 = (0, some { s with d := s.d.crash ch, rows := rows }) := han
                have CK := Lib.hid (HR.out.1.since.1.crash _ ch (by rw [hsh.2.2]; decide) (by have := HR.out.2.few; omega) (HCH.out.1.chg HR.out.1.since.2.2 (by simp)) (by omega))
                have HAN := Lib.hid han
                have HT2 := Lib.hid hT2
                have HFL := Lib.hid hfull
                have HALL := Lib.hid hall
                have SHL := Lib.hid (And.intro hsh hr5)
                clear hgo han hT2 hall hr5 hsh hfull
                go_wp2_with fail
                refine CK.out.mono ?_
                rintro e w5 ⟨p2, S2, rfl, hd2, hS2, hc5⟩
                have CO2 := Lib.hid (sopen_any p2 S2 (s.d.crash ch) 1 w5 hd2)
                rw [HAN.out] at CO2
                have HS2 := Lib.hid hS2
                have HC5 := Lib.hid hc5
                clear hd2 hS2 hc5 CK
                go_wp2_with fail
                refine CO2.out.mono ?_
                rintro e w6 ⟨hc6, q2, U2, rfl, hs6, hU6⟩
                obtain ⟨s2, hs2⟩ : ∃ s2, s2 = ({ s with d := s.d.crash ch, rows := rows } : SS) := ⟨_, rfl⟩
                rw [← hs2] at hs6 HT2
                have SH2 : Hid (s2.first = 1 ∧ s2.rows.length = 3 ∧ s2.d.n = 25) := Lib.hid (by rw [hs2]; exact ⟨SHL.out.1.1, SHL.out.2, SHL.out.1.2.2⟩)
                have OP2 : Hid (s2.d.ops = 0) := Lib.hid (by rw [hs2]; rfl)
                have T6 := Lib.hid (HR.out.1.renew (HC5.out.trans hc6 (by simp)) hs6 (fun x hx => by
                  rcases hU6 x hx with h | h
                  · exact HS2.out x h
                  · exact Nat.le_trans HC5.out.size h))
                clear hc6 hs6 hU6 CO2 HAN hs2 HR HC5 HS2 SHL
                have CC2 := Lib.hid (fun w' (hc : Chg [] w6 w') => (scount_any q2 p2 U2 s2 w' (T6.out.since.1.keep0 hc)).mono (R' := fun e w'' => e = .returned (.int .i64 3) ∧ w' = w'') fun e w'' h => ⟨by rw [h.1, SH2.out.2.1]; rfl, h.2⟩)
                clear hkg hk
                go_wp2_with fail
                obtain ⟨w7, hw7⟩ : ∃ w7 : World, w7 = w6 := ⟨_, rfl⟩
                rw [← hw7] at T6 CC2 ⊢
                clear hw7
                go_loopg [17] 3 (fun g' s17 wr => ∃ (m : Nat) (vals : Nat → Value) (C : Nat → List (Value × List UInt8)), s17 = .int .i64 (m : Int) ∧ m ≤ 3 ∧ 3 ≤ m + g' ∧ Hid (TwAt wb wr q2 p2 gm U2 s2 vals C ∧ (∀ k, k < 3 → cont u2 v2 k ∈ (C k).map (·.2)) ∧ ∀ k, k < m → (C k).map (·.2) = [cont u2 v2 k]))
                case atStart => exact ⟨0, vals, C, rfl, by omega, by omega, Lib.hid ⟨T6.out, HALL.out, fun k hk => by omega⟩⟩
                case round =>
                  obtain ⟨m, vals, C, rfl, hm, hmg, HM⟩ := hrel
                  clear T6 HALL CC2
                  have CC := Lib.hid ((scount_any q2 p2 U2 s2 wr HM.out.1.since.1).mono (R' := fun e w'' => e = .returned (.int .i64 3) ∧ wr = w'') fun e w'' h => ⟨by rw [h.1, SH2.out.2.1]; rfl, h.2⟩)
                  by_cases hm3 : m < 3
                  · have hmz : (m : Int) < 3 := by omega
                    have hmz0 : (0 : Int) ≤ (m : Int) := by omega
                    have hmz1 : (m : Int).toNat = m := by omega
                    have CG := Lib.hid (sget_any q2 p2 U2 s2 (m : Int) wr HM.out.1.since.1)
                    have hget : s2.get (m : Int) = (cont u2 v2 m, if u2 m then 0 else 6) := by
                      rw [HT2.out.get m (by rw [SH2.out.2.1]; exact hm3)]
                      unfold cont
                      split <;> rfl
                    rw [hget] at CG
                    have hus : s2.used (m : Int) = u2 m := by
                      have hh : s2.has (m : Int) := ⟨by omega, by rw [SH2.out.2.1]; omega⟩
                      have h1 := HT2.out.used m (by rw [SH2.out.2.1]; exact hm3)
                      unfold SS.used
                      rw [decide_eq_true hh, Bool.true_and]
                      exact h1
                    have hcl : (cont u2 v2 m).length ≤ 448 := by
                      unfold cont
                      split
                      · rename_i hu
                        rw [← HT2.out.data m (by rw [SH2.out.2.1]; exact hm3) hu]
                        have h1 := HT2.out.small m (by rw [SH2.out.2.1]; exact hm3)
                        have h2 : s2.row (m : Int) = s2.rows.getD m noRow := rfl
                        unfold SS.data
                        rw [List.length_take, h2]
                        omega
                      · simp
                    have hcu : decide (((cont u2 v2 m).length : Int) > 0) = u2 m := by
                      cases hu : u2 m
                      · unfold cont; rw [hu]; rfl
                      · have h1 := HFL.out m hm3 hu
                        unfold cont
                        rw [hu, if_pos rfl]
                        cases hv : v2 m with
                        | nil => exact absurd hv h1
                        | cons x l => simp
                    obtain ⟨b, hb⟩ : ∃ b, b = cont u2 v2 m := ⟨_, rfl⟩
                    rw [← hb] at CG hcl hcu
                    have HBB := Lib.hid hb
                    have HCU := Lib.hid hcu
                    have HUS := Lib.hid hus
                    obtain ⟨cd, hcd⟩ : ∃ cd : Int, cd = if u2 m then 0 else 6 := ⟨_, rfl⟩
                    rw [← hcd] at CG
                    clear hget hus hcu hb hcd
                    obtain ⟨gM, hgM⟩ : ∃ gM, gM = gk := ⟨_, rfl⟩
                    rw [← hgM] at hmg
                    go_wp2_with fail
                    refine CC.out.mono ?_
                    rintro e w' ⟨rfl, hq⟩
                    subst hq
                    go_wp2_with fail
                    refine CG.out.mono ?_
                    rintro e w8 ⟨⟨v8, rfl, hb8, ho8⟩, hc8⟩
                    have M8 := Lib.hid (And.intro (HM.out.1.keep hc8) HM.out.2)
                    have HB8 : Hid (BytesAt w8 v8 b ∧ (b ≠ [] → ∀ g, v8.ownBlock = some g → g ∉ U2 ∧ g < w8.heap.size) ∧ b.length ≤ 1000) := Lib.hid ⟨hb8, fun hl g hg => ⟨fun hmm => by
                      have h1 := ho8 g hg
                      have h2 := HM.out.1.since.1.own g hmm
                      omega, hb8.lt hl g hg⟩, by omega⟩
                    obtain ⟨a8, q8, rfl⟩ := hb8.slice
                    clear hb8 ho8 hc8 CG CC HM
                    go_wp2_with fail
                    obtain ⟨L, hL⟩ : ∃ L, L = (C m).map (·.2) := ⟨_, rfl⟩
                    obtain ⟨g9, cap9, e1, e2, e3, e4, e5, e6, e7, e8⟩ := M8.out.1.rows m hm3
                    obtain ⟨ln, hln⟩ : ∃ ln, ln = (C m).length := ⟨_, rfl⟩
                    rw [← hln] at e1 e2
                    have hLl : L.length = ln := by rw [hL, hln, List.length_map]
                    have hlm : ln ≤ 9223372036854775807 := by unfold maxLen at e3; omega
                    have E1 := Lib.hid e1
                    have HL := Lib.hid hL
                    have HLL := Lib.hid hLl
                    have HLN := Lib.hid hln
                    have hz0 := okb_zero b L
                    obtain ⟨w9, hw9⟩ : ∃ w9 : World, w9 = w8 := ⟨_, rfl⟩
                    rw [← hw9] at M8 HB8 ⊢
                    clear hw9 e1 e2 e3 e4 e5 e6 e7 e8 hL hLl hln
                    go_loopg [20, 21] ln (fun g' s20 s21 wr => ∃ (j : Nat), s20 = .bool (okb b L j) ∧ s21 = .int .i64 (j : Int) ∧ j ≤ ln ∧ ln ≤ j + g' ∧ Hid (TwAt wb wr q2 p2 gm U2 s2 vals C ∧ (BytesAt wr (.slice a8 b.length q8) b ∧ (b ≠ [] → ∀ g, (Value.slice a8 b.length q8).ownBlock = some g → g ∉ U2 ∧ g < wr.heap.size) ∧ b.length ≤ 1000)))
                    case atStart => exact ⟨0, by rw [hz0], rfl, by omega, by omega, Lib.hid ⟨M8.out.1, HB8.out⟩⟩
                    case round =>
                      obtain ⟨j, rfl, rfl, hj, hjg, HJ⟩ := hrel
                      clear HB8
                      have t0 : wr.cell? ⟨gm, m, none⟩ = some (.slice (some ⟨g9, 0, none⟩) ln cap9) := by
                        rw [← E1.out]; exact blk_cell HJ.out.1.cm m _ (three_at _ m hm3)
                      by_cases hjl : j < ln
                      · have hjz : (j : Int) < (ln : Int) := by omega
                        have hjz0 : (0 : Int) ≤ (j : Int) := by omega
                        have hjz1 : (j : Int).toNat = j := by omega
                        obtain ⟨x, hx⟩ : ∃ x, (C m)[j]? = some x := ⟨(C m)[j]'(by rw [← HLN.out]; exact hjl), List.getElem?_eq_getElem _⟩
                        have hLx : L[j]? = some x.2 := by rw [HL.out, List.getElem?_map, hx]; rfl
                        have t1 : wr.cell? ⟨g9, j, none⟩ = some x.1 := by
                          obtain ⟨g', cap', e1, _, _, _, _, _, _, e8⟩ := HJ.out.1.rows m hm3
                          rw [E1.out] at e1
                          obtain ⟨rfl, -⟩ : g9 = g' ∧ True := ⟨by simp at e1; exact e1.1, trivial⟩
                          exact e8 j x hx
                        have hxb := (HJ.out.1.cand m hm3 x (List.mem_of_getElem? hx)).1
                        obtain ⟨ax, qx, ex⟩ := hxb.slice
                        rw [ex] at t1 hxb
                        have hxl := (HJ.out.1.cand m hm3 x (List.mem_of_getElem? hx)).2.2
                        have HSU := Lib.hid (okb_succ b L j x.2 hLx)
                        have HXB := Lib.hid hxb
                        have CS := Lib.hid (same_any (.slice a8 b.length q8) (.slice ax x.2.length qx) b x.2 wr.drew (HJ.out.2.1.chg (by exact (Chg.refl [] wr).drew) (by simp)) (hxb.chg (by exact (Chg.refl [] wr).drew) (by simp)) (by omega) (by omega))
                        have CU := Lib.hid (fun w' (hc : Chg [] wr w') => sused_any q2 p2 U2 s2 (m : Int) w' (HJ.out.1.since.1.keep0 hc))
                        rw [HUS.out] at CU
                        have HXE : Hid (b = x.2 → u2 m = decide (0 < x.2.length)) := Lib.hid (fun e => by rw [← e, ← HCU.out]; simp)
                        obtain ⟨xb, hxb2⟩ : ∃ xb, xb = x.2 := ⟨_, rfl⟩
                        rw [← hxb2] at t1 CS HSU HXE hxl
                        have HJJ := HJ
                        clear hx hLx hxb ex HXB hxb2 HJ
                        cases hok : okb b L j
                        · rw [hok] at HSU
                          by_cases hbx : b = xb
                          · rw [decide_eq_true hbx] at CS HSU
                            have hxq := HXE.out hbx
                            clear hbx hok
                            go_wp2_with fail
                            refine wp_region_L [(27, fun w' => w'.cell? ⟨gm, m, none⟩ = some (.slice (some ⟨g9, 0, none⟩) ln cap9)), (27, fun w' => w'.cell? ⟨g9, j, none⟩ = some (.slice ax xb.length qx))] (by kernel_rfl) ?_ (fun hHeld => ?_)
                            · exact (HoldC.cons (t0) (HoldC.cons (t1) HoldC.nil))
                            refine wpAnyL_take (i := 0) (oi := _) (v := ?_) rfl (by kernel_rfl) (by kernel_rfl) (by kernel_rfl) (by kernel_rfl) (by kernel_rfl) (fun _ _ _ h => h) (Or.inl ⟨by rfl, ?_⟩) (by assumption) (fun hNew => ?_)
                            rotate_left
                            · intro w _
                              go_simp
                              try with_reducible rfl
                            clear hHeld
                            have hHeld := hNew
                            clear hNew
                            try simp only [List.getElem_toArray, List.getElem_cons_succ, List.getElem_cons_zero, Act.put, List.setIfInBounds_toArray, List.set_cons_zero, List.set_cons_succ]
                            refine wpAnyL_take (i := 1) (oi := _) (v := ?_) rfl (by kernel_rfl) (by kernel_rfl) (by kernel_rfl) (by kernel_rfl) (by kernel_rfl) (fun _ _ _ h => h) (Or.inl ⟨by rfl, ?_⟩) (by assumption) (fun hNew => ?_)
                            rotate_left
                            · intro w _
                              go_simp
                              try with_reducible rfl
                            clear hHeld
                            have hHeld := hNew
                            clear hNew
                            try simp only [List.getElem_toArray, List.getElem_cons_succ, List.getElem_cons_zero, Act.put, List.setIfInBounds_toArray, List.set_cons_zero, List.set_cons_succ]
                            refine wpAnyL_take (i := 2) (oi := _) (v := ?_) rfl (by kernel_rfl) (by kernel_rfl) (by kernel_rfl) (by kernel_rfl) (by kernel_rfl) (fun _ _ _ h => h) (Or.inl ⟨by rfl, ?_⟩) (by assumption) (fun hNew => ?_)
                            rotate_left
                            · intro w _
                              go_simp
                              try with_reducible rfl
                            clear hHeld
                            have hHeld := hNew
                            clear hNew
                            try simp only [List.getElem_toArray, List.getElem_cons_succ, List.getElem_cons_zero, Act.put, List.setIfInBounds_toArray, List.set_cons_zero, List.set_cons_succ]
                            refine wpAnyL_take (i := 3) (oi := _) (v := ?_) rfl (by kernel_rfl) (by kernel_rfl) (by kernel_rfl) (by kernel_rfl) (by kernel_rfl) (fun _ _ _ h => h) (Or.inl ⟨by rfl, ?_⟩) (by assumption) (fun hNew => ?_)
                            rotate_left
                            · intro w _
                              go_simp
                              try with_reducible rfl
                            clear hHeld
                            have hHeld := hNew
                            clear hNew
                            try simp only [List.getElem_toArray, List.getElem_cons_succ, List.getElem_cons_zero, Act.put, List.setIfInBounds_toArray, List.set_cons_zero, List.set_cons_succ]
                            refine wpAnyL_take (i := 4) (oi := _) (v := ?_) rfl (by kernel_rfl) (by kernel_rfl) (by kernel_rfl) (by kernel_rfl) (by kernel_rfl) (fun _ _ _ h => h) (Or.inl ⟨by rfl, ?_⟩) (by assumption) (fun hNew => ?_)
                            rotate_left
                            · intro w _
                              go_simp
                              try with_reducible rfl
                            clear hHeld
                            have hHeld := hNew
                            clear hNew
                            try simp only [List.getElem_toArray, List.getElem_cons_succ, List.getElem_cons_zero, Act.put, List.setIfInBounds_toArray, List.set_cons_zero, List.set_cons_succ]
                            refine wpAnyL_take (i := 5) (oi := _) (v := ?_) rfl (by kernel_rfl) (by kernel_rfl) (by kernel_rfl) (by kernel_rfl) (by kernel_rfl) (fun _ _ _ h => h) (Or.inl ⟨by rfl, ?_⟩) (by assumption) (fun hNew => ?_)
                            rotate_left
                            · intro w _
                              go_simp
                              try with_reducible rfl
                            clear hHeld
                            have hHeld := hNew
                            clear hNew
                            try simp only [List.getElem_toArray, List.getElem_cons_succ, List.getElem_cons_zero, Act.put, List.setIfInBounds_toArray, List.set_cons_zero, List.set_cons_succ]
                            refine wpAnyL_take (i := 7) (oi := _) (v := ?_) rfl (by kernel_rfl) (by kernel_rfl) (by kernel_rfl) (by kernel_rfl) (by kernel_rfl) (fun _ _ _ h => h) (Or.inl ⟨by rfl, ?_⟩) (by assumption) (fun hNew => ?_)
                            rotate_left
                            · intro w _
                              go_simp
                              try with_reducible rfl
                            clear hHeld
                            have hHeld := hNew
                            clear hNew
                            try simp only [List.getElem_toArray, List.getElem_cons_succ, List.getElem_cons_zero, Act.put, List.setIfInBounds_toArray, List.set_cons_zero, List.set_cons_succ]
                            refine wpAnyL_loadP 0 [] (i := 6) (oi := _) (v := ?_) rfl rfl (by kernel_rfl) (by kernel_rfl) (by kernel_rfl) (by kernel_rfl) (by kernel_rfl) (by kernel_rfl) (fun _ _ _ h => h) (Or.inl ⟨by rfl, ?_⟩) (by assumption) (fun hNew => ?_)
                            rotate_left
                            · intro w hSw
                              (try dsimp only at hSw)
                              go_simp
                              try with_reducible rfl
                            clear hHeld
                            have hHeld := hNew
                            clear hNew
                            try simp only [List.getElem_toArray, List.getElem_cons_succ, List.getElem_cons_zero, Act.put, List.setIfInBounds_toArray, List.set_cons_zero, List.set_cons_succ]
                            refine wpAnyL_take (i := 8) (oi := _) (v := ?_) rfl (by kernel_rfl) (by kernel_rfl) (by kernel_rfl) (by kernel_rfl) (by kernel_rfl) (fun _ _ _ h => h) (Or.inl ⟨by rfl, ?_⟩) (by assumption) (fun hNew => ?_)
                            rotate_left
                            · intro w _
                              go_simp
                              try with_reducible rfl
                            clear hHeld
                            have hHeld := hNew
                            clear hNew
                            try simp only [List.getElem_toArray, List.getElem_cons_succ, List.getElem_cons_zero, Act.put, List.setIfInBounds_toArray, List.set_cons_zero, List.set_cons_succ]
                            refine wpAnyL_loadP 1 [] (i := 9) (oi := _) (v := ?_) rfl rfl (by kernel_rfl) (by kernel_rfl) (by kernel_rfl) (by kernel_rfl) (by kernel_rfl) (by kernel_rfl) (fun _ _ _ h => h) (Or.inl ⟨by rfl, ?_⟩) (by assumption) (fun hNew => ?_)
                            rotate_left
                            · intro w hSw
                              (try dsimp only at hSw)
                              go_simp
                              try with_reducible rfl
                            clear hHeld
                            have hHeld := hNew
                            clear hNew
                            try simp only [List.getElem_toArray, List.getElem_cons_succ, List.getElem_cons_zero, Act.put, List.setIfInBounds_toArray, List.set_cons_zero, List.set_cons_succ]
                            refine wpAnyL_ready (rs := [10]) (by kernel_rfl) (by simp) ?_
                            refine AllReadyL.cons (o := _) rfl (fun K hK => ?_) AllReadyL.nil
                            try simp only [List.getElem_toArray, List.getElem_cons_succ, List.getElem_cons_zero]
                            go_simp
                            refine CS.out.mono ?_
                            rintro e w11 ⟨rfl, n11, hw11⟩
                            have hc11 : Chg [] wr w11 := by rw [hw11]; exact (by exact (Chg.refl [] wr).drew : Chg [] wr wr.drew).drewN n11
                            have HC11 := Lib.hid hc11
                            have z0' := hc11.cell t0 (by simp)
                            have z1' := hc11.cell t1 (by simp)
                            have HJ9 := Lib.hid (show TwAt wb w11 q2 p2 gm U2 s2 vals C ∧ (BytesAt w11 (.slice a8 b.length q8) b ∧ (b ≠ [] → ∀ g, (Value.slice a8 b.length q8).ownBlock = some g → g ∉ U2 ∧ g < w11.heap.size) ∧ b.length ≤ 1000) from ⟨HJJ.out.1.keep hc11, HJJ.out.2.1.chg hc11 (by simp), fun hl g hg => ⟨(HJJ.out.2.2.1 hl g hg).1, Nat.lt_of_lt_of_le (HJJ.out.2.2.1 hl g hg).2 hc11.size⟩, HJJ.out.2.2.2⟩)
                            clear hw11 hc11 t0 t1
                            try go_wp2_with fail
                            clear hHeld
                            refine hK.out _ _ ?_ (fun hHeld => ?_)
                            · exact (HoldC.cons (z0') (HoldC.cons (z1') HoldC.nil))
                            clear hK K
                            try simp only [List.getElem_toArray, List.getElem_cons_succ, List.getElem_cons_zero, Act.put, List.setIfInBounds_toArray, List.set_cons_zero, List.set_cons_succ]
                            refine wpAnyL_take (i := 11) (oi := _) (v := ?_) rfl (by kernel_rfl) (by kernel_rfl) (by kernel_rfl) (by kernel_rfl) (by kernel_rfl) (fun _ _ _ h => h) (Or.inl ⟨by rfl, ?_⟩) (by assumption) (fun hNew => ?_)
                            rotate_left
                            · intro w _
                              go_simp
                              try with_reducible rfl
                            clear hHeld
                            have hHeld := hNew
                            clear hNew
                            try simp only [List.getElem_toArray, List.getElem_cons_succ, List.getElem_cons_zero, Act.put, List.setIfInBounds_toArray, List.set_cons_zero, List.set_cons_succ]
                            refine wpAnyL_take (i := 12) (oi := _) (v := ?_) rfl (by kernel_rfl) (by kernel_rfl) (by kernel_rfl) (by kernel_rfl) (by kernel_rfl) (fun _ _ _ h => h) (Or.inl ⟨by rfl, ?_⟩) (by assumption) (fun hNew => ?_)
                            rotate_left
                            · intro w _
                              go_simp
                              try with_reducible rfl
                            clear hHeld
                            have hHeld := hNew
                            clear hNew
                            try simp only [List.getElem_toArray, List.getElem_cons_succ, List.getElem_cons_zero, Act.put, List.setIfInBounds_toArray, List.set_cons_zero, List.set_cons_succ]
                            refine wpAnyL_take (i := 13) (oi := _) (v := ?_) rfl (by kernel_rfl) (by kernel_rfl) (by kernel_rfl) (by kernel_rfl) (by kernel_rfl) (fun _ _ _ h => h) (Or.inl ⟨by rfl, ?_⟩) (by assumption) (fun hNew => ?_)
                            rotate_left
                            · intro w _
                              go_simp
                              try with_reducible rfl
                            clear hHeld
                            have hHeld := hNew
                            clear hNew
                            try simp only [List.getElem_toArray, List.getElem_cons_succ, List.getElem_cons_zero, Act.put, List.setIfInBounds_toArray, List.set_cons_zero, List.set_cons_succ]
                            refine wpAnyL_take (i := 15) (oi := _) (v := ?_) rfl (by kernel_rfl) (by kernel_rfl) (by kernel_rfl) (by kernel_rfl) (by kernel_rfl) (fun _ _ _ h => h) (Or.inl ⟨by rfl, ?_⟩) (by assumption) (fun hNew => ?_)
                            rotate_left
                            · intro w _
                              go_simp
                              try with_reducible rfl
                            clear hHeld
                            have hHeld := hNew
                            clear hNew
                            try simp only [List.getElem_toArray, List.getElem_cons_succ, List.getElem_cons_zero, Act.put, List.setIfInBounds_toArray, List.set_cons_zero, List.set_cons_succ]
                            refine wpAnyL_take (i := 16) (oi := _) (v := ?_) rfl (by kernel_rfl) (by kernel_rfl) (by kernel_rfl) (by kernel_rfl) (by kernel_rfl) (fun _ _ _ h => h) (Or.inl ⟨by rfl, ?_⟩) (by assumption) (fun hNew => ?_)
                            rotate_left
                            · intro w _
                              go_simp
                              try with_reducible rfl
                            clear hHeld
                            have hHeld := hNew
                            clear hNew
                            try simp only [List.getElem_toArray, List.getElem_cons_succ, List.getElem_cons_zero, Act.put, List.setIfInBounds_toArray, List.set_cons_zero, List.set_cons_succ]
                            refine wpAnyL_take (i := 17) (oi := _) (v := ?_) rfl (by kernel_rfl) (by kernel_rfl) (by kernel_rfl) (by kernel_rfl) (by kernel_rfl) (fun _ _ _ h => h) (Or.inl ⟨by rfl, ?_⟩) (by assumption) (fun hNew => ?_)
                            rotate_left
                            · intro w _
                              go_simp
                              try with_reducible rfl
                            clear hHeld
                            have hHeld := hNew
                            clear hNew
                            try simp only [List.getElem_toArray, List.getElem_cons_succ, List.getElem_cons_zero, Act.put, List.setIfInBounds_toArray, List.set_cons_zero, List.set_cons_succ]
                            refine wpAnyL_take (i := 19) (oi := _) (v := ?_) rfl (by kernel_rfl) (by kernel_rfl) (by kernel_rfl) (by kernel_rfl) (by kernel_rfl) (fun _ _ _ h => h) (Or.inl ⟨by rfl, ?_⟩) (by assumption) (fun hNew => ?_)
                            rotate_left
                            · intro w _
                              go_simp
                              try with_reducible rfl
                            clear hHeld
                            have hHeld := hNew
                            clear hNew
                            try simp only [List.getElem_toArray, List.getElem_cons_succ, List.getElem_cons_zero, Act.put, List.setIfInBounds_toArray, List.set_cons_zero, List.set_cons_succ]
                            refine wpAnyL_loadP 0 [] (i := 18) (oi := _) (v := ?_) rfl rfl (by kernel_rfl) (by kernel_rfl) (by kernel_rfl) (by kernel_rfl) (by kernel_rfl) (by kernel_rfl) (fun _ _ _ h => h) (Or.inl ⟨by rfl, ?_⟩) (by assumption) (fun hNew => ?_)
                            rotate_left
                            · intro w hSw
                              (try dsimp only at hSw)
                              go_simp
                              try with_reducible rfl
                            clear hHeld
                            have hHeld := hNew
                            clear hNew
                            try simp only [List.getElem_toArray, List.getElem_cons_succ, List.getElem_cons_zero, Act.put, List.setIfInBounds_toArray, List.set_cons_zero, List.set_cons_succ]
                            refine wpAnyL_take (i := 20) (oi := _) (v := ?_) rfl (by kernel_rfl) (by kernel_rfl) (by kernel_rfl) (by kernel_rfl) (by kernel_rfl) (fun _ _ _ h => h) (Or.inl ⟨by rfl, ?_⟩) (by assumption) (fun hNew => ?_)
                            rotate_left
                            · intro w _
                              go_simp
                              try with_reducible rfl
                            clear hHeld
                            have hHeld := hNew
                            clear hNew
                            try simp only [List.getElem_toArray, List.getElem_cons_succ, List.getElem_cons_zero, Act.put, List.setIfInBounds_toArray, List.set_cons_zero, List.set_cons_succ]
                            refine wpAnyL_loadP 1 [] (i := 21) (oi := _) (v := ?_) rfl rfl (by kernel_rfl) (by kernel_rfl) (by kernel_rfl) (by kernel_rfl) (by kernel_rfl) (by kernel_rfl) (fun _ _ _ h => h) (Or.inl ⟨by rfl, ?_⟩) (by assumption) (fun hNew => ?_)
                            rotate_left
                            · intro w hSw
                              (try dsimp only at hSw)
                              go_simp
                              try with_reducible rfl
                            clear hHeld
                            have hHeld := hNew
                            clear hNew
                            try simp only [List.getElem_toArray, List.getElem_cons_succ, List.getElem_cons_zero, Act.put, List.setIfInBounds_toArray, List.set_cons_zero, List.set_cons_succ]
                            refine wpAnyL_take (i := 22) (oi := _) (v := ?_) rfl (by kernel_rfl) (by kernel_rfl) (by kernel_rfl) (by kernel_rfl) (by kernel_rfl) (fun _ _ _ h => h) (Or.inl ⟨by rfl, ?_⟩) (by assumption) (fun hNew => ?_)
                            rotate_left
                            · intro w _
                              go_simp
                              try with_reducible rfl
                            clear hHeld
                            have hHeld := hNew
                            clear hNew
                            try simp only [List.getElem_toArray, List.getElem_cons_succ, List.getElem_cons_zero, Act.put, List.setIfInBounds_toArray, List.set_cons_zero, List.set_cons_succ]
                            refine wpAnyL_take (i := 23) (oi := _) (v := ?_) rfl (by kernel_rfl) (by kernel_rfl) (by kernel_rfl) (by kernel_rfl) (by kernel_rfl) (fun _ _ _ h => h) (Or.inl ⟨by rfl, ?_⟩) (by assumption) (fun hNew => ?_)
                            rotate_left
                            · intro w _
                              go_simp
                              try with_reducible rfl
                            clear hHeld
                            have hHeld := hNew
                            clear hNew
                            try simp only [List.getElem_toArray, List.getElem_cons_succ, List.getElem_cons_zero, Act.put, List.setIfInBounds_toArray, List.set_cons_zero, List.set_cons_succ]
                            refine wpAnyL_ready (rs := [14]) (by kernel_rfl) (by simp) ?_
                            refine AllReadyL.cons (o := _) rfl (fun K hK => ?_) AllReadyL.nil
                            try simp only [List.getElem_toArray, List.getElem_cons_succ, List.getElem_cons_zero]
                            go_simp
                            refine (CU.out w11 HC11.out).mono ?_
                            rintro e w' ⟨rfl, hq⟩
                            subst hq
                            try go_wp2_with fail
                            clear hHeld
                            refine hK.out _ _ ?_ (fun hHeld => ?_)
                            · exact (HoldC.cons (z0') (HoldC.cons (z1') HoldC.nil))
                            clear hK K
                            try simp only [List.getElem_toArray, List.getElem_cons_succ, List.getElem_cons_zero, Act.put, List.setIfInBounds_toArray, List.set_cons_zero, List.set_cons_succ]
                            refine wpAnyL_take (i := 24) (oi := _) (v := ?_) rfl (by kernel_rfl) (by kernel_rfl) (by kernel_rfl) (by kernel_rfl) (by kernel_rfl) (fun _ _ _ h => h) (Or.inl ⟨by rfl, ?_⟩) (by assumption) (fun hNew => ?_)
                            rotate_left
                            · intro w _
                              go_simp
                              try with_reducible rfl
                            clear hHeld
                            have hHeld := hNew
                            clear hNew
                            try simp only [List.getElem_toArray, List.getElem_cons_succ, List.getElem_cons_zero, Act.put, List.setIfInBounds_toArray, List.set_cons_zero, List.set_cons_succ]
                            refine wpAnyL_take (i := 25) (oi := _) (v := ?_) rfl (by kernel_rfl) (by kernel_rfl) (by kernel_rfl) (by kernel_rfl) (by kernel_rfl) (fun _ _ _ h => h) (Or.inl ⟨by rfl, ?_⟩) (by assumption) (fun hNew => ?_)
                            rotate_left
                            · intro w _
                              go_simp
                              try with_reducible rfl
                            clear hHeld
                            have hHeld := hNew
                            clear hNew
                            try simp only [List.getElem_toArray, List.getElem_cons_succ, List.getElem_cons_zero, Act.put, List.setIfInBounds_toArray, List.set_cons_zero, List.set_cons_succ]
                            refine wpAnyL_take (i := 26) (oi := _) (v := ?_) rfl (by kernel_rfl) (by kernel_rfl) (by kernel_rfl) (by kernel_rfl) (by kernel_rfl) (fun _ _ _ h => h) (Or.inl ⟨by rfl, ?_⟩) (by assumption) (fun hNew => ?_)
                            rotate_left
                            · intro w _
                              go_simp
                              try with_reducible rfl
                            clear hHeld
                            have hHeld := hNew
                            clear hNew
                            try simp only [List.getElem_toArray, List.getElem_cons_succ, List.getElem_cons_zero, Act.put, List.setIfInBounds_toArray, List.set_cons_zero, List.set_cons_succ]
                            refine wpAnyL_ready (rs := [27]) (by kernel_rfl) (by simp) ?_
                            refine AllReadyL.cons (o := _) rfl (fun K hK => ?_) AllReadyL.nil
                            try simp only [List.getElem_toArray, List.getElem_cons_succ, List.getElem_cons_zero]
                            go_simp
                            clear hHeld
                            refine hK.out _ _ ?_ (fun hHeld => ?_)
                            · exact (HoldC.past (by kernel_rfl) (HoldC.past (by kernel_rfl) HoldC.nil))
                            clear hK K
                            try simp only [List.getElem_toArray, List.getElem_cons_succ, List.getElem_cons_zero, Act.put, List.setIfInBounds_toArray, List.set_cons_zero, List.set_cons_succ]
                            refine wpAnyL_done (by kernel_rfl) ?_ _
                            clear hHeld
                            clear z0' z1'
                            go_wp2
                            go_roundg (gk - 1)
                            case measure => omega
                            case rel => exact ⟨j + 1, by rw [HSU.out]; simp; try exact hxq, by go_num, by omega, by omega, HJ9⟩
                          · rw [decide_eq_false hbx] at CS HSU
                            clear hbx hok HXE
                            go_wp2_with fail
                            refine wp_region_L [(27, fun w' => w'.cell? ⟨gm, m, none⟩ = some (.slice (some ⟨g9, 0, none⟩) ln cap9)), (27, fun w' => w'.cell? ⟨g9, j, none⟩ = some (.slice ax xb.length qx))] (by kernel_rfl) ?_ (fun hHeld => ?_)
                            · exact (HoldC.cons (t0) (HoldC.cons (t1) HoldC.nil))
                            refine wpAnyL_take (i := 0) (oi := _) (v := ?_) rfl (by kernel_rfl) (by kernel_rfl) (by kernel_rfl) (by kernel_rfl) (by kernel_rfl) (fun _ _ _ h => h) (Or.inl ⟨by rfl, ?_⟩) (by assumption) (fun hNew => ?_)
                            rotate_left
                            · intro w _
                              go_simp
                              try with_reducible rfl
                            clear hHeld
                            have hHeld := hNew
                            clear hNew
                            try simp only [List.getElem_toArray, List.getElem_cons_succ, List.getElem_cons_zero, Act.put, List.setIfInBounds_toArray, List.set_cons_zero, List.set_cons_succ]
                            refine wpAnyL_take (i := 1) (oi := _) (v := ?_) rfl (by kernel_rfl) (by kernel_rfl) (by kernel_rfl) (by kernel_rfl) (by kernel_rfl) (fun _ _ _ h => h) (Or.inl ⟨by rfl, ?_⟩) (by assumption) (fun hNew => ?_)
                            rotate_left
                            · intro w _
                              go_simp
                              try with_reducible rfl
                            clear hHeld
                            have hHeld := hNew
                            clear hNew
                            try simp only [List.getElem_toArray, List.getElem_cons_succ, List.getElem_cons_zero, Act.put, List.setIfInBounds_toArray, List.set_cons_zero, List.set_cons_succ]
                            refine wpAnyL_take (i := 2) (oi := _) (v := ?_) rfl (by kernel_rfl) (by kernel_rfl) (by kernel_rfl) (by kernel_rfl) (by kernel_rfl) (fun _ _ _ h => h) (Or.inl ⟨by rfl, ?_⟩) (by assumption) (fun hNew => ?_)
                            rotate_left
                            · intro w _
                              go_simp
                              try with_reducible rfl
                            clear hHeld
                            have hHeld := hNew
                            clear hNew
                            try simp only [List.getElem_toArray, List.getElem_cons_succ, List.getElem_cons_zero, Act.put, List.setIfInBounds_toArray, List.set_cons_zero, List.set_cons_succ]
                            refine wpAnyL_take (i := 3) (oi := _) (v := ?_) rfl (by kernel_rfl) (by kernel_rfl) (by kernel_rfl) (by kernel_rfl) (by kernel_rfl) (fun _ _ _ h => h) (Or.inl ⟨by rfl, ?_⟩) (by assumption) (fun hNew => ?_)
                            rotate_left
                            · intro w _
                              go_simp
                              try with_reducible rfl
                            clear hHeld
                            have hHeld := hNew
                            clear hNew
                            try simp only [List.getElem_toArray, List.getElem_cons_succ, List.getElem_cons_zero, Act.put, List.setIfInBounds_toArray, List.set_cons_zero, List.set_cons_succ]
                            refine wpAnyL_take (i := 4) (oi := _) (v := ?_) rfl (by kernel_rfl) (by kernel_rfl) (by kernel_rfl) (by kernel_rfl) (by kernel_rfl) (fun _ _ _ h => h) (Or.inl ⟨by rfl, ?_⟩) (by assumption) (fun hNew => ?_)
                            rotate_left
                            · intro w _
                              go_simp
                              try with_reducible rfl
                            clear hHeld
                            have hHeld := hNew
                            clear hNew
                            try simp only [List.getElem_toArray, List.getElem_cons_succ, List.getElem_cons_zero, Act.put, List.setIfInBounds_toArray, List.set_cons_zero, List.set_cons_succ]
                            refine wpAnyL_take (i := 5) (oi := _) (v := ?_) rfl (by kernel_rfl) (by kernel_rfl) (by kernel_rfl) (by kernel_rfl) (by kernel_rfl) (fun _ _ _ h => h) (Or.inl ⟨by rfl, ?_⟩) (by assumption) (fun hNew => ?_)
                            rotate_left
                            · intro w _
                              go_simp
                              try with_reducible rfl
                            clear hHeld
                            have hHeld := hNew
                            clear hNew
                            try simp only [List.getElem_toArray, List.getElem_cons_succ, List.getElem_cons_zero, Act.put, List.setIfInBounds_toArray, List.set_cons_zero, List.set_cons_succ]
                            refine wpAnyL_take (i := 7) (oi := _) (v := ?_) rfl (by kernel_rfl) (by kernel_rfl) (by kernel_rfl) (by kernel_rfl) (by kernel_rfl) (fun _ _ _ h => h) (Or.inl ⟨by rfl, ?_⟩) (by assumption) (fun hNew => ?_)
                            rotate_left
                            · intro w _
                              go_simp
                              try with_reducible rfl
                            clear hHeld
                            have hHeld := hNew
                            clear hNew
                            try simp only [List.getElem_toArray, List.getElem_cons_succ, List.getElem_cons_zero, Act.put, List.setIfInBounds_toArray, List.set_cons_zero, List.set_cons_succ]
                            refine wpAnyL_loadP 0 [] (i := 6) (oi := _) (v := ?_) rfl rfl (by kernel_rfl) (by kernel_rfl) (by kernel_rfl) (by kernel_rfl) (by kernel_rfl) (by kernel_rfl) (fun _ _ _ h => h) (Or.inl ⟨by rfl, ?_⟩) (by assumption) (fun hNew => ?_)
                            rotate_left
                            · intro w hSw
                              (try dsimp only at hSw)
                              go_simp
                              try with_reducible rfl
                            clear hHeld
                            have hHeld := hNew
                            clear hNew
                            try simp only [List.getElem_toArray, List.getElem_cons_succ, List.getElem_cons_zero, Act.put, List.setIfInBounds_toArray, List.set_cons_zero, List.set_cons_succ]
                            refine wpAnyL_take (i := 8) (oi := _) (v := ?_) rfl (by kernel_rfl) (by kernel_rfl) (by kernel_rfl) (by kernel_rfl) (by kernel_rfl) (fun _ _ _ h => h) (Or.inl ⟨by rfl, ?_⟩) (by assumption) (fun hNew => ?_)
                            rotate_left
                            · intro w _
                              go_simp
                              try with_reducible rfl
                            clear hHeld
                            have hHeld := hNew
                            clear hNew
                            try simp only [List.getElem_toArray, List.getElem_cons_succ, List.getElem_cons_zero, Act.put, List.setIfInBounds_toArray, List.set_cons_zero, List.set_cons_succ]
                            refine wpAnyL_loadP 1 [] (i := 9) (oi := _) (v := ?_) rfl rfl (by kernel_rfl) (by kernel_rfl) (by kernel_rfl) (by kernel_rfl) (by kernel_rfl) (by kernel_rfl) (fun _ _ _ h => h) (Or.inl ⟨by rfl, ?_⟩) (by assumption) (fun hNew => ?_)
                            rotate_left
                            · intro w hSw
                              (try dsimp only at hSw)
                              go_simp
                              try with_reducible rfl
                            clear hHeld
                            have hHeld := hNew
                            clear hNew
                            try simp only [List.getElem_toArray, List.getElem_cons_succ, List.getElem_cons_zero, Act.put, List.setIfInBounds_toArray, List.set_cons_zero, List.set_cons_succ]
                            refine wpAnyL_ready (rs := [10]) (by kernel_rfl) (by simp) ?_
                            refine AllReadyL.cons (o := _) rfl (fun K hK => ?_) AllReadyL.nil
                            try simp only [List.getElem_toArray, List.getElem_cons_succ, List.getElem_cons_zero]
                            go_simp
                            refine CS.out.mono ?_
                            rintro e w11 ⟨rfl, n11, hw11⟩
                            have hc11 : Chg [] wr w11 := by rw [hw11]; exact (by exact (Chg.refl [] wr).drew : Chg [] wr wr.drew).drewN n11
                            have z0' := hc11.cell t0 (by simp)
                            have z1' := hc11.cell t1 (by simp)
                            have HJ9 := Lib.hid (show TwAt wb w11 q2 p2 gm U2 s2 vals C ∧ (BytesAt w11 (.slice a8 b.length q8) b ∧ (b ≠ [] → ∀ g, (Value.slice a8 b.length q8).ownBlock = some g → g ∉ U2 ∧ g < w11.heap.size) ∧ b.length ≤ 1000) from ⟨HJJ.out.1.keep hc11, HJJ.out.2.1.chg hc11 (by simp), fun hl g hg => ⟨(HJJ.out.2.2.1 hl g hg).1, Nat.lt_of_lt_of_le (HJJ.out.2.2.1 hl g hg).2 hc11.size⟩, HJJ.out.2.2.2⟩)
                            clear hw11 hc11 t0 t1
                            try go_wp2_with fail
                            clear hHeld
                            refine hK.out _ _ ?_ (fun hHeld => ?_)
                            · exact (HoldC.cons (z0') (HoldC.cons (z1') HoldC.nil))
                            clear hK K
                            try simp only [List.getElem_toArray, List.getElem_cons_succ, List.getElem_cons_zero, Act.put, List.setIfInBounds_toArray, List.set_cons_zero, List.set_cons_succ]
                            refine wpAnyL_take (i := 11) (oi := _) (v := ?_) rfl (by kernel_rfl) (by kernel_rfl) (by kernel_rfl) (by kernel_rfl) (by kernel_rfl) (fun _ _ _ h => h) (Or.inl ⟨by rfl, ?_⟩) (by assumption) (fun hNew => ?_)
                            rotate_left
                            · intro w _
                              go_simp
                              try with_reducible rfl
                            clear hHeld
                            have hHeld := hNew
                            clear hNew
                            try simp only [List.getElem_toArray, List.getElem_cons_succ, List.getElem_cons_zero, Act.put, List.setIfInBounds_toArray, List.set_cons_zero, List.set_cons_succ]
                            refine wpAnyL_take (i := 12) (oi := _) (v := _) rfl (by kernel_rfl) (by kernel_rfl) (by kernel_rfl) (by kernel_rfl) (by kernel_rfl) (fun _ _ _ h => h) (Or.inr ⟨by rfl, rfl⟩) (by assumption) (fun hNew => ?_)
                            clear hHeld
                            have hHeld := hNew
                            clear hNew
                            try simp only [List.getElem_toArray, List.getElem_cons_succ, List.getElem_cons_zero, Act.put, List.setIfInBounds_toArray, List.set_cons_zero, List.set_cons_succ]
                            refine wpAnyL_take (i := 13) (oi := _) (v := _) rfl (by kernel_rfl) (by kernel_rfl) (by kernel_rfl) (by kernel_rfl) (by kernel_rfl) (fun _ _ _ h => h) (Or.inr ⟨by rfl, rfl⟩) (by assumption) (fun hNew => ?_)
                            clear hHeld
                            have hHeld := hNew
                            clear hNew
                            try simp only [List.getElem_toArray, List.getElem_cons_succ, List.getElem_cons_zero, Act.put, List.setIfInBounds_toArray, List.set_cons_zero, List.set_cons_succ]
                            refine wpAnyL_take (i := 14) (oi := _) (v := _) rfl (by kernel_rfl) (by kernel_rfl) (by kernel_rfl) (by kernel_rfl) (by kernel_rfl) (fun _ _ _ h => h) (Or.inr ⟨by rfl, rfl⟩) (by assumption) (fun hNew => ?_)
                            clear hHeld
                            have hHeld := hNew
                            clear hNew
                            try simp only [List.getElem_toArray, List.getElem_cons_succ, List.getElem_cons_zero, Act.put, List.setIfInBounds_toArray, List.set_cons_zero, List.set_cons_succ]
                            refine wpAnyL_take (i := 15) (oi := _) (v := _) rfl (by kernel_rfl) (by kernel_rfl) (by kernel_rfl) (by kernel_rfl) (by kernel_rfl) (fun _ _ _ h => h) (Or.inr ⟨by rfl, rfl⟩) (by assumption) (fun hNew => ?_)
                            clear hHeld
                            have hHeld := hNew
                            clear hNew
                            try simp only [List.getElem_toArray, List.getElem_cons_succ, List.getElem_cons_zero, Act.put, List.setIfInBounds_toArray, List.set_cons_zero, List.set_cons_succ]
                            refine wpAnyL_take (i := 16) (oi := _) (v := _) rfl (by kernel_rfl) (by kernel_rfl) (by kernel_rfl) (by kernel_rfl) (by kernel_rfl) (fun _ _ _ h => h) (Or.inr ⟨by rfl, rfl⟩) (by assumption) (fun hNew => ?_)
                            clear hHeld
                            have hHeld := hNew
                            clear hNew
                            try simp only [List.getElem_toArray, List.getElem_cons_succ, List.getElem_cons_zero, Act.put, List.setIfInBounds_toArray, List.set_cons_zero, List.set_cons_succ]
                            refine wpAnyL_take (i := 17) (oi := _) (v := _) rfl (by kernel_rfl) (by kernel_rfl) (by kernel_rfl) (by kernel_rfl) (by kernel_rfl) (fun _ _ _ h => h) (Or.inr ⟨by rfl, rfl⟩) (by assumption) (fun hNew => ?_)
                            clear hHeld
                            have hHeld := hNew
                            clear hNew
                            try simp only [List.getElem_toArray, List.getElem_cons_succ, List.getElem_cons_zero, Act.put, List.setIfInBounds_toArray, List.set_cons_zero, List.set_cons_succ]
                            refine wpAnyL_take (i := 18) (oi := _) (v := _) rfl (by kernel_rfl) (by kernel_rfl) (by kernel_rfl) (by kernel_rfl) (by kernel_rfl) (fun _ _ _ h => h) (Or.inr ⟨by rfl, rfl⟩) (by assumption) (fun hNew => ?_)
                            clear hHeld
                            have hHeld := hNew
                            clear hNew
                            try simp only [List.getElem_toArray, List.getElem_cons_succ, List.getElem_cons_zero, Act.put, List.setIfInBounds_toArray, List.set_cons_zero, List.set_cons_succ]
                            refine wpAnyL_take (i := 19) (oi := _) (v := _) rfl (by kernel_rfl) (by kernel_rfl) (by kernel_rfl) (by kernel_rfl) (by kernel_rfl) (fun _ _ _ h => h) (Or.inr ⟨by rfl, rfl⟩) (by assumption) (fun hNew => ?_)
                            clear hHeld
                            have hHeld := hNew
                            clear hNew
                            try simp only [List.getElem_toArray, List.getElem_cons_succ, List.getElem_cons_zero, Act.put, List.setIfInBounds_toArray, List.set_cons_zero, List.set_cons_succ]
                            refine wpAnyL_take (i := 20) (oi := _) (v := _) rfl (by kernel_rfl) (by kernel_rfl) (by kernel_rfl) (by kernel_rfl) (by kernel_rfl) (fun _ _ _ h => h) (Or.inr ⟨by rfl, rfl⟩) (by assumption) (fun hNew => ?_)
                            clear hHeld
                            have hHeld := hNew
                            clear hNew
                            try simp only [List.getElem_toArray, List.getElem_cons_succ, List.getElem_cons_zero, Act.put, List.setIfInBounds_toArray, List.set_cons_zero, List.set_cons_succ]
                            refine wpAnyL_take (i := 21) (oi := _) (v := _) rfl (by kernel_rfl) (by kernel_rfl) (by kernel_rfl) (by kernel_rfl) (by kernel_rfl) (fun _ _ _ h => h) (Or.inr ⟨by rfl, rfl⟩) (by assumption) (fun hNew => ?_)
                            clear hHeld
                            have hHeld := hNew
                            clear hNew
                            try simp only [List.getElem_toArray, List.getElem_cons_succ, List.getElem_cons_zero, Act.put, List.setIfInBounds_toArray, List.set_cons_zero, List.set_cons_succ]
                            refine wpAnyL_take (i := 22) (oi := _) (v := _) rfl (by kernel_rfl) (by kernel_rfl) (by kernel_rfl) (by kernel_rfl) (by kernel_rfl) (fun _ _ _ h => h) (Or.inr ⟨by rfl, rfl⟩) (by assumption) (fun hNew => ?_)
                            clear hHeld
                            have hHeld := hNew
                            clear hNew
                            try simp only [List.getElem_toArray, List.getElem_cons_succ, List.getElem_cons_zero, Act.put, List.setIfInBounds_toArray, List.set_cons_zero, List.set_cons_succ]
                            refine wpAnyL_take (i := 23) (oi := _) (v := _) rfl (by kernel_rfl) (by kernel_rfl) (by kernel_rfl) (by kernel_rfl) (by kernel_rfl) (fun _ _ _ h => h) (Or.inr ⟨by rfl, rfl⟩) (by assumption) (fun hNew => ?_)
                            clear hHeld
                            have hHeld := hNew
                            clear hNew
                            try simp only [List.getElem_toArray, List.getElem_cons_succ, List.getElem_cons_zero, Act.put, List.setIfInBounds_toArray, List.set_cons_zero, List.set_cons_succ]
                            refine wpAnyL_take (i := 24) (oi := _) (v := _) rfl (by kernel_rfl) (by kernel_rfl) (by kernel_rfl) (by kernel_rfl) (by kernel_rfl) (fun _ _ _ h => h) (Or.inr ⟨by rfl, rfl⟩) (by assumption) (fun hNew => ?_)
                            clear hHeld
                            have hHeld := hNew
                            clear hNew
                            try simp only [List.getElem_toArray, List.getElem_cons_succ, List.getElem_cons_zero, Act.put, List.setIfInBounds_toArray, List.set_cons_zero, List.set_cons_succ]
                            refine wpAnyL_take (i := 25) (oi := _) (v := ?_) rfl (by kernel_rfl) (by kernel_rfl) (by kernel_rfl) (by kernel_rfl) (by kernel_rfl) (fun _ _ _ h => h) (Or.inl ⟨by rfl, ?_⟩) (by assumption) (fun hNew => ?_)
                            rotate_left
                            · intro w _
                              go_simp
                              try with_reducible rfl
                            clear hHeld
                            have hHeld := hNew
                            clear hNew
                            try simp only [List.getElem_toArray, List.getElem_cons_succ, List.getElem_cons_zero, Act.put, List.setIfInBounds_toArray, List.set_cons_zero, List.set_cons_succ]
                            refine wpAnyL_take (i := 26) (oi := _) (v := ?_) rfl (by kernel_rfl) (by kernel_rfl) (by kernel_rfl) (by kernel_rfl) (by kernel_rfl) (fun _ _ _ h => h) (Or.inl ⟨by rfl, ?_⟩) (by assumption) (fun hNew => ?_)
                            rotate_left
                            · intro w _
                              go_simp
                              try with_reducible rfl
                            clear hHeld
                            have hHeld := hNew
                            clear hNew
                            try simp only [List.getElem_toArray, List.getElem_cons_succ, List.getElem_cons_zero, Act.put, List.setIfInBounds_toArray, List.set_cons_zero, List.set_cons_succ]
                            refine wpAnyL_ready (rs := [27]) (by kernel_rfl) (by simp) ?_
                            refine AllReadyL.cons (o := _) rfl (fun K hK => ?_) AllReadyL.nil
                            try simp only [List.getElem_toArray, List.getElem_cons_succ, List.getElem_cons_zero]
                            go_simp
                            clear hHeld
                            refine hK.out _ _ ?_ (fun hHeld => ?_)
                            · exact (HoldC.past (by kernel_rfl) (HoldC.past (by kernel_rfl) HoldC.nil))
                            clear hK K
                            try simp only [List.getElem_toArray, List.getElem_cons_succ, List.getElem_cons_zero, Act.put, List.setIfInBounds_toArray, List.set_cons_zero, List.set_cons_succ]
                            refine wpAnyL_done (by kernel_rfl) ?_ _
                            clear hHeld
                            clear z0' z1'
                            go_wp2
                            go_roundg (gk - 1)
                            case measure => omega
                            case rel => exact ⟨j + 1, by rw [HSU.out]; simp; try exact hxq, by go_num, by omega, by omega, HJ9⟩
                        · rw [hok] at HSU
                          have hc11 : Chg [] wr wr.drew := by exact (Chg.refl [] wr).drew
                          have HJ9 := Lib.hid (show TwAt wb wr.drew q2 p2 gm U2 s2 vals C ∧ (BytesAt wr.drew (.slice a8 b.length q8) b ∧ (b ≠ [] → ∀ g, (Value.slice a8 b.length q8).ownBlock = some g → g ∉ U2 ∧ g < wr.drew.heap.size) ∧ b.length ≤ 1000) from ⟨HJJ.out.1.keep hc11, HJJ.out.2.1.chg hc11 (by simp), fun hl g hg => ⟨(HJJ.out.2.2.1 hl g hg).1, Nat.lt_of_lt_of_le (HJJ.out.2.2.1 hl g hg).2 hc11.size⟩, HJJ.out.2.2.2⟩)
                          clear hok hc11
                          go_wp2_with fail
                          refine wp_region_L [] (by kernel_rfl) ?_ (fun hHeld => ?_)
                          · exact HoldC.nil
                          refine wpAnyL_take (i := 0) (oi := _) (v := ?_) rfl (by kernel_rfl) (by kernel_rfl) (by kernel_rfl) (by kernel_rfl) (by kernel_rfl) (fun _ _ _ h => h) (Or.inl ⟨by rfl, ?_⟩) (by assumption) (fun hNew => ?_)
                          rotate_left
                          · intro w _
                            go_simp
                            try with_reducible rfl
                          clear hHeld
                          have hHeld := hNew
                          clear hNew
                          try simp only [List.getElem_toArray, List.getElem_cons_succ, List.getElem_cons_zero, Act.put, List.setIfInBounds_toArray, List.set_cons_zero, List.set_cons_succ]
                          refine wpAnyL_take (i := 1) (oi := _) (v := ?_) rfl (by kernel_rfl) (by kernel_rfl) (by kernel_rfl) (by kernel_rfl) (by kernel_rfl) (fun _ _ _ h => h) (Or.inl ⟨by rfl, ?_⟩) (by assumption) (fun hNew => ?_)
                          rotate_left
                          · intro w _
                            go_simp
                            try with_reducible rfl
                          clear hHeld
                          have hHeld := hNew
                          clear hNew
                          try simp only [List.getElem_toArray, List.getElem_cons_succ, List.getElem_cons_zero, Act.put, List.setIfInBounds_toArray, List.set_cons_zero, List.set_cons_succ]
                          refine wpAnyL_take (i := 2) (oi := _) (v := _) rfl (by kernel_rfl) (by kernel_rfl) (by kernel_rfl) (by kernel_rfl) (by kernel_rfl) (fun _ _ _ h => h) (Or.inr ⟨by rfl, rfl⟩) (by assumption) (fun hNew => ?_)
                          clear hHeld
                          have hHeld := hNew
                          clear hNew
                          try simp only [List.getElem_toArray, List.getElem_cons_succ, List.getElem_cons_zero, Act.put, List.setIfInBounds_toArray, List.set_cons_zero, List.set_cons_succ]
                          refine wpAnyL_take (i := 3) (oi := _) (v := _) rfl (by kernel_rfl) (by kernel_rfl) (by kernel_rfl) (by kernel_rfl) (by kernel_rfl) (fun _ _ _ h => h) (Or.inr ⟨by rfl, rfl⟩) (by assumption) (fun hNew => ?_)
                          clear hHeld
                          have hHeld := hNew
                          clear hNew
                          try simp only [List.getElem_toArray, List.getElem_cons_succ, List.getElem_cons_zero, Act.put, List.setIfInBounds_toArray, List.set_cons_zero, List.set_cons_succ]
                          refine wpAnyL_take (i := 4) (oi := _) (v := _) rfl (by kernel_rfl) (by kernel_rfl) (by kernel_rfl) (by kernel_rfl) (by kernel_rfl) (fun _ _ _ h => h) (Or.inr ⟨by rfl, rfl⟩) (by assumption) (fun hNew => ?_)
                          clear hHeld
                          have hHeld := hNew
                          clear hNew
                          try simp only [List.getElem_toArray, List.getElem_cons_succ, List.getElem_cons_zero, Act.put, List.setIfInBounds_toArray, List.set_cons_zero, List.set_cons_succ]
                          refine wpAnyL_take (i := 5) (oi := _) (v := _) rfl (by kernel_rfl) (by kernel_rfl) (by kernel_rfl) (by kernel_rfl) (by kernel_rfl) (fun _ _ _ h => h) (Or.inr ⟨by rfl, rfl⟩) (by assumption) (fun hNew => ?_)
                          clear hHeld
                          have hHeld := hNew
                          clear hNew
                          try simp only [List.getElem_toArray, List.getElem_cons_succ, List.getElem_cons_zero, Act.put, List.setIfInBounds_toArray, List.set_cons_zero, List.set_cons_succ]
                          refine wpAnyL_take (i := 6) (oi := _) (v := _) rfl (by kernel_rfl) (by kernel_rfl) (by kernel_rfl) (by kernel_rfl) (by kernel_rfl) (fun _ _ _ h => h) (Or.inr ⟨by rfl, rfl⟩) (by assumption) (fun hNew => ?_)
                          clear hHeld
                          have hHeld := hNew
                          clear hNew
                          try simp only [List.getElem_toArray, List.getElem_cons_succ, List.getElem_cons_zero, Act.put, List.setIfInBounds_toArray, List.set_cons_zero, List.set_cons_succ]
                          refine wpAnyL_take (i := 7) (oi := _) (v := _) rfl (by kernel_rfl) (by kernel_rfl) (by kernel_rfl) (by kernel_rfl) (by kernel_rfl) (fun _ _ _ h => h) (Or.inr ⟨by rfl, rfl⟩) (by assumption) (fun hNew => ?_)
                          clear hHeld
                          have hHeld := hNew
                          clear hNew
                          try simp only [List.getElem_toArray, List.getElem_cons_succ, List.getElem_cons_zero, Act.put, List.setIfInBounds_toArray, List.set_cons_zero, List.set_cons_succ]
                          refine wpAnyL_take (i := 8) (oi := _) (v := _) rfl (by kernel_rfl) (by kernel_rfl) (by kernel_rfl) (by kernel_rfl) (by kernel_rfl) (fun _ _ _ h => h) (Or.inr ⟨by rfl, rfl⟩) (by assumption) (fun hNew => ?_)
                          clear hHeld
                          have hHeld := hNew
                          clear hNew
                          try simp only [List.getElem_toArray, List.getElem_cons_succ, List.getElem_cons_zero, Act.put, List.setIfInBounds_toArray, List.set_cons_zero, List.set_cons_succ]
                          refine wpAnyL_take (i := 9) (oi := _) (v := _) rfl (by kernel_rfl) (by kernel_rfl) (by kernel_rfl) (by kernel_rfl) (by kernel_rfl) (fun _ _ _ h => h) (Or.inr ⟨by rfl, rfl⟩) (by assumption) (fun hNew => ?_)
                          clear hHeld
                          have hHeld := hNew
                          clear hNew
                          try simp only [List.getElem_toArray, List.getElem_cons_succ, List.getElem_cons_zero, Act.put, List.setIfInBounds_toArray, List.set_cons_zero, List.set_cons_succ]
                          refine wpAnyL_take (i := 10) (oi := _) (v := _) rfl (by kernel_rfl) (by kernel_rfl) (by kernel_rfl) (by kernel_rfl) (by kernel_rfl) (fun _ _ _ h => h) (Or.inr ⟨by rfl, rfl⟩) (by assumption) (fun hNew => ?_)
                          clear hHeld
                          have hHeld := hNew
                          clear hNew
                          try simp only [List.getElem_toArray, List.getElem_cons_succ, List.getElem_cons_zero, Act.put, List.setIfInBounds_toArray, List.set_cons_zero, List.set_cons_succ]
                          refine wpAnyL_take (i := 11) (oi := _) (v := _) rfl (by kernel_rfl) (by kernel_rfl) (by kernel_rfl) (by kernel_rfl) (by kernel_rfl) (fun _ _ _ h => h) (Or.inr ⟨by rfl, rfl⟩) (by assumption) (fun hNew => ?_)
                          clear hHeld
                          have hHeld := hNew
                          clear hNew
                          try simp only [List.getElem_toArray, List.getElem_cons_succ, List.getElem_cons_zero, Act.put, List.setIfInBounds_toArray, List.set_cons_zero, List.set_cons_succ]
                          refine wpAnyL_take (i := 12) (oi := _) (v := _) rfl (by kernel_rfl) (by kernel_rfl) (by kernel_rfl) (by kernel_rfl) (by kernel_rfl) (fun _ _ _ h => h) (Or.inr ⟨by rfl, rfl⟩) (by assumption) (fun hNew => ?_)
                          clear hHeld
                          have hHeld := hNew
                          clear hNew
                          try simp only [List.getElem_toArray, List.getElem_cons_succ, List.getElem_cons_zero, Act.put, List.setIfInBounds_toArray, List.set_cons_zero, List.set_cons_succ]
                          refine wpAnyL_take (i := 13) (oi := _) (v := _) rfl (by kernel_rfl) (by kernel_rfl) (by kernel_rfl) (by kernel_rfl) (by kernel_rfl) (fun _ _ _ h => h) (Or.inr ⟨by rfl, rfl⟩) (by assumption) (fun hNew => ?_)
                          clear hHeld
                          have hHeld := hNew
                          clear hNew
                          try simp only [List.getElem_toArray, List.getElem_cons_succ, List.getElem_cons_zero, Act.put, List.setIfInBounds_toArray, List.set_cons_zero, List.set_cons_succ]
                          refine wpAnyL_take (i := 14) (oi := _) (v := _) rfl (by kernel_rfl) (by kernel_rfl) (by kernel_rfl) (by kernel_rfl) (by kernel_rfl) (fun _ _ _ h => h) (Or.inr ⟨by rfl, rfl⟩) (by assumption) (fun hNew => ?_)
                          clear hHeld
                          have hHeld := hNew
                          clear hNew
                          try simp only [List.getElem_toArray, List.getElem_cons_succ, List.getElem_cons_zero, Act.put, List.setIfInBounds_toArray, List.set_cons_zero, List.set_cons_succ]
                          refine wpAnyL_take (i := 15) (oi := _) (v := _) rfl (by kernel_rfl) (by kernel_rfl) (by kernel_rfl) (by kernel_rfl) (by kernel_rfl) (fun _ _ _ h => h) (Or.inr ⟨by rfl, rfl⟩) (by assumption) (fun hNew => ?_)
                          clear hHeld
                          have hHeld := hNew
                          clear hNew
                          try simp only [List.getElem_toArray, List.getElem_cons_succ, List.getElem_cons_zero, Act.put, List.setIfInBounds_toArray, List.set_cons_zero, List.set_cons_succ]
                          refine wpAnyL_take (i := 16) (oi := _) (v := _) rfl (by kernel_rfl) (by kernel_rfl) (by kernel_rfl) (by kernel_rfl) (by kernel_rfl) (fun _ _ _ h => h) (Or.inr ⟨by rfl, rfl⟩) (by assumption) (fun hNew => ?_)
                          clear hHeld
                          have hHeld := hNew
                          clear hNew
                          try simp only [List.getElem_toArray, List.getElem_cons_succ, List.getElem_cons_zero, Act.put, List.setIfInBounds_toArray, List.set_cons_zero, List.set_cons_succ]
                          refine wpAnyL_take (i := 17) (oi := _) (v := _) rfl (by kernel_rfl) (by kernel_rfl) (by kernel_rfl) (by kernel_rfl) (by kernel_rfl) (fun _ _ _ h => h) (Or.inr ⟨by rfl, rfl⟩) (by assumption) (fun hNew => ?_)
                          clear hHeld
                          have hHeld := hNew
                          clear hNew
                          try simp only [List.getElem_toArray, List.getElem_cons_succ, List.getElem_cons_zero, Act.put, List.setIfInBounds_toArray, List.set_cons_zero, List.set_cons_succ]
                          refine wpAnyL_take (i := 18) (oi := _) (v := _) rfl (by kernel_rfl) (by kernel_rfl) (by kernel_rfl) (by kernel_rfl) (by kernel_rfl) (fun _ _ _ h => h) (Or.inr ⟨by rfl, rfl⟩) (by assumption) (fun hNew => ?_)
                          clear hHeld
                          have hHeld := hNew
                          clear hNew
                          try simp only [List.getElem_toArray, List.getElem_cons_succ, List.getElem_cons_zero, Act.put, List.setIfInBounds_toArray, List.set_cons_zero, List.set_cons_succ]
                          refine wpAnyL_take (i := 19) (oi := _) (v := _) rfl (by kernel_rfl) (by kernel_rfl) (by kernel_rfl) (by kernel_rfl) (by kernel_rfl) (fun _ _ _ h => h) (Or.inr ⟨by rfl, rfl⟩) (by assumption) (fun hNew => ?_)
                          clear hHeld
                          have hHeld := hNew
                          clear hNew
                          try simp only [List.getElem_toArray, List.getElem_cons_succ, List.getElem_cons_zero, Act.put, List.setIfInBounds_toArray, List.set_cons_zero, List.set_cons_succ]
                          refine wpAnyL_take (i := 20) (oi := _) (v := _) rfl (by kernel_rfl) (by kernel_rfl) (by kernel_rfl) (by kernel_rfl) (by kernel_rfl) (fun _ _ _ h => h) (Or.inr ⟨by rfl, rfl⟩) (by assumption) (fun hNew => ?_)
                          clear hHeld
                          have hHeld := hNew
                          clear hNew
                          try simp only [List.getElem_toArray, List.getElem_cons_succ, List.getElem_cons_zero, Act.put, List.setIfInBounds_toArray, List.set_cons_zero, List.set_cons_succ]
                          refine wpAnyL_take (i := 21) (oi := _) (v := _) rfl (by kernel_rfl) (by kernel_rfl) (by kernel_rfl) (by kernel_rfl) (by kernel_rfl) (fun _ _ _ h => h) (Or.inr ⟨by rfl, rfl⟩) (by assumption) (fun hNew => ?_)
                          clear hHeld
                          have hHeld := hNew
                          clear hNew
                          try simp only [List.getElem_toArray, List.getElem_cons_succ, List.getElem_cons_zero, Act.put, List.setIfInBounds_toArray, List.set_cons_zero, List.set_cons_succ]
                          refine wpAnyL_take (i := 22) (oi := _) (v := _) rfl (by kernel_rfl) (by kernel_rfl) (by kernel_rfl) (by kernel_rfl) (by kernel_rfl) (fun _ _ _ h => h) (Or.inr ⟨by rfl, rfl⟩) (by assumption) (fun hNew => ?_)
                          clear hHeld
                          have hHeld := hNew
                          clear hNew
                          try simp only [List.getElem_toArray, List.getElem_cons_succ, List.getElem_cons_zero, Act.put, List.setIfInBounds_toArray, List.set_cons_zero, List.set_cons_succ]
                          refine wpAnyL_take (i := 23) (oi := _) (v := _) rfl (by kernel_rfl) (by kernel_rfl) (by kernel_rfl) (by kernel_rfl) (by kernel_rfl) (fun _ _ _ h => h) (Or.inr ⟨by rfl, rfl⟩) (by assumption) (fun hNew => ?_)
                          clear hHeld
                          have hHeld := hNew
                          clear hNew
                          try simp only [List.getElem_toArray, List.getElem_cons_succ, List.getElem_cons_zero, Act.put, List.setIfInBounds_toArray, List.set_cons_zero, List.set_cons_succ]
                          refine wpAnyL_take (i := 24) (oi := _) (v := _) rfl (by kernel_rfl) (by kernel_rfl) (by kernel_rfl) (by kernel_rfl) (by kernel_rfl) (fun _ _ _ h => h) (Or.inr ⟨by rfl, rfl⟩) (by assumption) (fun hNew => ?_)
                          clear hHeld
                          have hHeld := hNew
                          clear hNew
                          try simp only [List.getElem_toArray, List.getElem_cons_succ, List.getElem_cons_zero, Act.put, List.setIfInBounds_toArray, List.set_cons_zero, List.set_cons_succ]
                          refine wpAnyL_take (i := 25) (oi := _) (v := _) rfl (by kernel_rfl) (by kernel_rfl) (by kernel_rfl) (by kernel_rfl) (by kernel_rfl) (fun _ _ _ h => h) (Or.inr ⟨by rfl, rfl⟩) (by assumption) (fun hNew => ?_)
                          clear hHeld
                          have hHeld := hNew
                          clear hNew
                          try simp only [List.getElem_toArray, List.getElem_cons_succ, List.getElem_cons_zero, Act.put, List.setIfInBounds_toArray, List.set_cons_zero, List.set_cons_succ]
                          refine wpAnyL_take (i := 26) (oi := _) (v := ?_) rfl (by kernel_rfl) (by kernel_rfl) (by kernel_rfl) (by kernel_rfl) (by kernel_rfl) (fun _ _ _ h => h) (Or.inl ⟨by rfl, ?_⟩) (by assumption) (fun hNew => ?_)
                          rotate_left
                          · intro w _
                            go_simp
                            try with_reducible rfl
                          clear hHeld
                          have hHeld := hNew
                          clear hNew
                          try simp only [List.getElem_toArray, List.getElem_cons_succ, List.getElem_cons_zero, Act.put, List.setIfInBounds_toArray, List.set_cons_zero, List.set_cons_succ]
                          refine wpAnyL_ready (rs := [27]) (by kernel_rfl) (by simp) ?_
                          refine AllReadyL.cons (o := _) rfl (fun K hK => ?_) AllReadyL.nil
                          try simp only [List.getElem_toArray, List.getElem_cons_succ, List.getElem_cons_zero]
                          go_simp
                          clear hHeld
                          refine hK.out _ _ ?_ (fun hHeld => ?_)
                          · exact HoldC.nil
                          clear hK K
                          try simp only [List.getElem_toArray, List.getElem_cons_succ, List.getElem_cons_zero, Act.put, List.setIfInBounds_toArray, List.set_cons_zero, List.set_cons_succ]
                          refine wpAnyL_done (by kernel_rfl) ?_ _
                          clear hHeld
                          clear t0 t1
                          go_wp2
                          go_roundg (gk - 1)
                          case measure => omega
                          case rel => exact ⟨j + 1, by rw [HSU.out]; simp; try exact hxq, by go_num, by omega, by omega, HJ9⟩
                      · have hjz : ¬ (j : Int) < (ln : Int) := by omega
                        have hok : okb b L j = true := by
                          have h1 : j = L.length := by rw [HLL.out]; omega
                          rw [h1]
                          exact okb_all b L (by rw [HL.out, HBB.out]; exact M8.out.2.1 m hm3)
                        rw [hok]
                        have T9 := Lib.hid (HJ.out.1.one m hm3 _ _ HJ.out.2)
                        have hmem : ∀ k, k < 3 → cont u2 v2 k ∈ (set5 C m [(Value.slice a8 b.length q8, b)] k).map (·.2) := fun k hk => by
                          unfold set5
                          by_cases hkm : k = m
                          · rw [if_pos hkm, hkm, ← HBB.out]; simp
                          · rw [if_neg hkm]; exact M8.out.2.1 k hk
                        have hpre : ∀ k, k < m + 1 → (set5 C m [(Value.slice a8 b.length q8, b)] k).map (·.2) = [cont u2 v2 k] := fun k hk => by
                          unfold set5
                          by_cases hkm : k = m
                          · rw [if_pos hkm, hkm, ← HBB.out]; rfl
                          · rw [if_neg hkm]; exact M8.out.2.2 k (by omega)
                        have HMM := Lib.hid (And.intro hmem hpre)
                        have gl := blk_lt HJ.out.1.cm
                        have t1 := blk_frozen HJ.out.1.cm m
                        have gne : ¬ gm = wr.heap.size := by omega
                        clear hmem hpre hok hj hjg
                        go_wp2
                        go_roundg (gM - 1)
                        case measure => omega
                        case rel => exact ⟨m + 1, _, _, by go_num, by omega, by omega, Lib.hid ⟨T9.out, HMM.out⟩⟩
                  · have hmz : ¬ (m : Int) < 3 := by omega
                    have HF3 : Hid (TwAt wb wr q2 p2 gm U2 s2 vals C ∧ Calm s2 C) := Lib.hid ⟨HM.out.1, SH2.out, OP2.out, u2, v2, HT2.out, HFL.out, fun k hk => HM.out.2.2 k (by omega)⟩
                    clear hm hmg
                    go_wp2_with fail
                    refine CC.out.mono ?_
                    rintro e w' ⟨rfl, hq⟩
                    subst hq
                    go_wp2
                    go_roundg (gO - 1)
                    case measure => omega
                    case rel => exact ⟨r + 1, p2, q2, U2, s2, vals, C, _, rfl, rfl, rfl, by go_num, by omega, by omega, HF3⟩
        · have hrz : ¬ (r : Int) < 2 := by omega
          go_wp2
          go_ret
          exact ⟨rfl, HCB.out.trans HR.out.1.since.2.2 (by simp)⟩
end Go.Proofs.YtipfgghdoicdhaaDoor.W

/- An array of two bytes that came in. -/
namespace Go.Proofs.YtipfgghdoicdhaaDoor.W
open Go.RowKit Go.ChangeShapes Go.WideShapes
set_option linter.unusedVariables false
set_option linter.unusedSimpArgs false
theorem cellsOf_two : Tryd.prog.cellsOf 58 = 2 := by kernel_rfl
theorem cellsOf_byte : Tryd.prog.cellsOf 5 = 1 := by kernel_rfl
set_option maxRecDepth 100000 in
theorem open_two {H : Type} {enc : TypeId × Value → H} {w : World} {base base' : Nat} {held : Bool} {fuel : Nat} {v : Value} {x : DataW H × List MemPlace} (hv : Value.okWide Tryd.prog w .any base' 58 v)
    (h : DataW.trod enc Tryd.prog w base (fun _ => true) held fuel 58 v.cells.toList = some x) : ∃ z0 z1 : Int, v = .agg #[.int .u8 z0, .int .u8 z1] ∧ (Lit.int .u8 z0).wf = true ∧ (Lit.int .u8 z1).wf = true := by
  have hu := Tryd.underlying58
  unfold Value.okWide at hv
  simp only [hu] at hv
  obtain ⟨cs, rfl, hsz, _⟩ := hv
  rw [cellsOf_two] at hsz
  obtain ⟨a, b, rfl⟩ : ∃ a b, cs = #[a, b] := by
    obtain ⟨l⟩ := cs
    match l, hsz with
    | [a, b], _ => exact ⟨a, b, rfl⟩
  cases fuel with
  | zero => simp [DataW.trod] at h
  | succ n =>
    unfold DataW.trod at h
    simp only [hu, Value.cells, cellsOf_two, cellsOf_byte] at h
    rw [if_pos (by simp)] at h
    obtain ⟨xs, hxs, _⟩ := Option.map_eq_some_iff.1 h
    rw [show List.range 2 = [0, 1] from rfl, List.mapM_cons] at hxs
    obtain ⟨y0, h0, hxs⟩ := Option.bind_eq_some_iff.1 hxs
    rw [List.mapM_cons] at hxs
    obtain ⟨ys, hys, _⟩ := Option.bind_eq_some_iff.1 hxs
    obtain ⟨y1, h1, _⟩ := Option.bind_eq_some_iff.1 hys
    simp at h0 h1
    obtain ⟨z0, e0, _, w0⟩ := DataW.trod_int Tryd.underlying5 h0
    obtain ⟨z1, e1, _, w1⟩ := DataW.trod_int Tryd.underlying5 h1
    simp at e0 e1
    subst e0; subst e1
    exact ⟨z0, z1, rfl, w0, w1⟩
end Go.Proofs.YtipfgghdoicdhaaDoor.W

/- SlotTwice: what the row asks. -/
namespace Go.Proofs.YtipfgghdoicdhaaDoor.slotTwice
open Go.RowKit
theorem walk (a : Option Addr) (n cap : Nat) (f : Nat → Go.Proofs.YtipfgghdoicdhaaDoor.W.Dd) (z0 z1 : Int) (ca : Option Addr) (cl cc : Nat) (zs : List Int) (X : World) (h : n ≤ maxLen ∧ Go.Proofs.YtipfgghdoicdhaaDoor.W.DeedsAt X a n f) (hz : (Lit.int .u8 z0).wf = true ∧ (Lit.int .u8 z1).wf = true) (hc : IsRow .u8 X ca cl cc zs) :
    Calls Tryd.prog 7 #[.slice a n cap, .agg #[.int .u8 z0, .int .u8 z1], .slice ca cl cc] X fun e w' => e = .returned (.bool true) ∧ Below X.heap.size X w' := by
  obtain ⟨ch, rfl, hl, hch⟩ := Go.Proofs.YtipfgghdoicdhaaDoor.W.IsRow.came hc
  obtain ⟨hz0, hz1⟩ := hz
  simp [Lit.wf, IntKind.min, IntKind.max, IntKind.signed, IntKind.bits] at hz0 hz1
  obtain ⟨f0, rfl⟩ := Int.eq_ofNat_of_zero_le hz0.1
  obtain ⟨f1, rfl⟩ := Int.eq_ofNat_of_zero_le hz1.1
  exact (Go.Proofs.YtipfgghdoicdhaaDoor.W.twice_any a n cap f f0 f1 (by omega) (by omega) ca cc ch X h.2 hch hl).mono fun e w' ⟨h1, h2⟩ => ⟨h1, h2.below (by simp)⟩
end Go.Proofs.YtipfgghdoicdhaaDoor.slotTwice
