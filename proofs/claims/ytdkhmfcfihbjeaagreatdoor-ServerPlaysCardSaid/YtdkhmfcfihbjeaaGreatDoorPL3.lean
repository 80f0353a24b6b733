/- Texts laid together. -/
import Derived.Test.YtdkhmfcfihbjeaaGreatDoorPL2
import Derived.Laws.IdiomStrings
import Derived.Laws.BytesArg
import Derived.Laws.CopyOwn
import Derived.Laws.MakeOwn
import Derived.Test.YtdkhmfcfihbjeaaGreatDoorPL1
import Derived.Laws.ResultCell
import Derived.Laws.Rows
set_option linter.unusedVariables false
set_option linter.unusedSimpArgs false
set_option maxHeartbeats 64000000
set_option maxRecDepth 100000
namespace Go.Proofs.YtdkhmfcfihbjeaaGreatDoor.W
open Go.RowKit
theorem SS.used_true {s : SS} {i : Int} (h : s.has i) : s.used i = (s.row i).used := by unfold SS.used; rw [decide_eq_true h, Bool.true_and]
theorem SS.used_false {s : SS} {i : Int} (h : ¬ s.has i) : s.used i = false := by unfold SS.used; rw [decide_eq_false h, Bool.false_and]
theorem sused_any (q p : Nat) (U : List Nat) (s : SS) (i : Int) (w : World) (h : SlotsAt w q p U s) : Calls Tryz.prog 93 #[.pointer (some ⟨q, 0, none⟩), .int .i64 i] w fun e w' => e = .returned (.bool (s.used i)) /\ w = w' := by
 have CH := LH (shas_any q p U s i w h)
 by_cases hi : s.has i
 ·rw [decide_eq_true hi] at CH
  obtain ⟨S, rv, R, H⟩ := h
  obtain ⟨h0, h1⟩ := hi
  obtain ⟨j, rfl⟩ := Int.eq_ofNat_of_zero_le h0
  obtain ⟨g, cap, kv, hrv, hcap, hcm, hR, k0, k1, k2, k3, k4⟩ := H.at j (by omega)
  have c2 := blk_cell H.obj.head 2 _ rfl
  subst hrv
  have HX : Hid (s.used (j : Int) = (s.rows.getD j noRow).used) := LH (by rw [SS.used_true ⟨h0, h1⟩]; rfl)
  rw [HX.out]
  generalize s.rows.getD j noRow = r at *
  generalize s.rows.length = n at *
  have hjz : (j : Int) < (n : Int) := h1
  have hjz1 : (j : Int).toNat = j := by omega
  clear H hR k3 k4
  go_enter Tryz.func93, Tryz.ntmps93
  go_wp2_with (go_at_call 137; refine CH.out.mono ?_; rintro e w' ⟨rfl, hq⟩; subst hq)
  go_ret
  exact ⟨rfl, rfl⟩
 ·rw [decide_eq_false hi] at CH
  rw [SS.used_false hi]
  clear hi h
  go_enter Tryz.func93, Tryz.ntmps93
  go_wp2_with (go_at_call 137; refine CH.out.mono ?_; rintro e w' ⟨rfl, hq⟩; subst hq)
  go_ret
  exact ⟨rfl, rfl⟩
theorem skey_any (q p : Nat) (U : List Nat) (s : SS) (i : Int) (w : World) (h : SlotsAt w q p U s) : Calls Tryz.prog 95 #[.pointer (some ⟨q, 0, none⟩), .int .i64 i] w fun e w' => (∃ v, e = .returned v /\ BRow w' v (s.key i)) /\ Chg [] w w' := by
 have CU := LH (sused_any q p U s i w h)
 by_cases hu : s.used i = true
 ·have hi : s.has i := by
   by_cases hi : s.has i
   ·exact hi
   ·rw [SS.used_false hi] at hu; cases hu
  have hk : s.key i = (s.row i).key := by unfold SS.key; rw [if_pos hu]
  rw [hu] at CU
  obtain ⟨S, rv, R, H⟩ := h
  obtain ⟨h0, h1⟩ := hi
  obtain ⟨j, rfl⟩ := Int.eq_ofNat_of_zero_le h0
  obtain ⟨g, cap, kv, hrv, hcap, hcm, hR, k0, k1, k2, k3, k4⟩ := H.at j (by omega)
  have c2 := blk_cell H.obj.head 2 _ rfl
  subst hrv
  have hkl : (s.rows.getD j noRow).key.length <= 40 := by
   rw [List.getD_eq_getElem?_getD, List.getElem?_eq_getElem (show j < s.rows.length by omega)]
   exact (H.ok.rows _ (List.getElem_mem _)).2
  have CC := LH (clone_any kv _ w k3 (by omega))
  have HX : Hid (s.key (j : Int) = (s.rows.getD j noRow).key) := LH (by rw [hk]; rfl)
  rw [HX.out]
  generalize s.rows.getD j noRow = r at *
  generalize s.rows.length = n at *
  have hjz : (j : Int) < (n : Int) := h1
  have hjz1 : (j : Int).toNat = j := by omega
  obtain ⟨ak, ck, hkv⟩ := k3.slice
  subst hkv
  clear H hR k3 k4 hu hk hkl
  go_enter Tryz.func95, Tryz.ntmps95
  go_wp2_with (go_at_call 93; refine CU.out.mono ?_; rintro e w' ⟨rfl, hq⟩; subst hq)
  refine CC.out.mono ?_
  rintro e w1 ⟨v1, rfl, hr, hn, hc⟩
  have HR := LH (And.intro hr hc)
  clear hr hn hc CC
  go_wp2
  go_ret
  exact ⟨⟨_, rfl, HR.out.1⟩, HR.out.2⟩
 ·have hu' : s.used i = false := by simpa using hu
  have hk : s.key i = [] := by unfold SS.key; rw [if_neg hu]
  rw [hu'] at CU
  rw [hk]
  clear hu hu' hk h
  go_enter Tryz.func95, Tryz.ntmps95
  go_wp2_with (go_at_call 93; refine CU.out.mono ?_; rintro e w' ⟨rfl, hq⟩; subst hq)
  go_ret
  exact ⟨⟨_, rfl, BRow.nil _⟩, Chg.refl _ _⟩
theorem rowFree_cons (r : SRow) (l : List SRow) (k : Nat) : rowFree (r :: l) k = if r.used = false then (k : Int) else rowFree l (k + 1) := rfl
theorem rowFind_cons (key : List UInt8) (r : SRow) (l : List SRow) (k : Nat) : rowFind key (r :: l) k = if r.used && decide (r.key = key) then (k : Int) else rowFind key l (k + 1) := rfl
theorem rowFree_drop (l : List SRow) (k : Nat) (hk : k <= l.length) (h : ∀ q, q < k -> (l.getD q noRow).used = true) : ∀ j, rowFree l j = rowFree (l.drop k) (j + k) := by
 induction l generalizing k with
 | nil => intro j; simp at hk; subst hk; rfl
 | cons r l ih =>
  intro j
  cases k with
  | zero => rfl
  | succ k =>
   have h0 := h 0 (by omega)
   simp at h0
   rw [List.drop_succ_cons, rowFree_cons, if_neg (by simp [h0]), ih k (by simpa using hk) (fun q hq => by simpa using h (q + 1) (by omega)) (j + 1), show j + 1 + k = j + (k + 1) by omega]
theorem rowFind_drop (key : List UInt8) (l : List SRow) (k : Nat) (hk : k <= l.length) (h : ∀ q, q < k -> ((l.getD q noRow).used && decide ((l.getD q noRow).key = key)) = false) : ∀ j, rowFind key l j = rowFind key (l.drop k) (j + k) := by
 induction l generalizing k with
 | nil => intro j; simp at hk; subst hk; rfl
 | cons r l ih =>
  intro j
  cases k with
  | zero => rfl
  | succ k =>
   have h0 : (r.used && decide (r.key = key)) = false := by simpa using h 0 (by omega)
   rw [List.drop_succ_cons, rowFind_cons, if_neg (by rw [h0]; simp), ih k (by simpa using hk) (fun q hq => by simpa using h (q + 1) (by omega)) (j + 1), show j + 1 + k = j + (k + 1) by omega]
theorem sfree_any (q p : Nat) (U : List Nat) (s : SS) (w : World) (h : SlotsAt w q p U s) : Calls Tryz.prog 146 #[.pointer (some ⟨q, 0, none⟩)] w fun e w' => e = .returned (.int .i64 s.free) /\ w = w' := by
 have CC := LH (scount_any q p U s w h)
 obtain ⟨S, rv, R, H⟩ := h
 have HH := LH H
 obtain ⟨a, cap0, hrv, hcap⟩ := H.form
 have c2 := blk_cell H.obj.head 2 _ rfl
 have hfew := H.few
 obtain ⟨n, hn⟩ : ∃ n, n = s.rows.length := ⟨_, rfl⟩
 rw [<- hn] at CC hrv hcap
 have HN := LH hn
 have HRV := LH hrv
 subst hrv
 have hnf : n <= 1000 := by omega
 clear H hfew hn
 go_enter Tryz.func146, Tryz.ntmps146
 go_wp2_with (go_at_call 92; refine CC.out.mono ?_; rintro e w' ⟨rfl, hq⟩; subst hq)
 go_loop [6] (fun i => ∃ k : Nat, k <= n /\ i = .int .i64 k /\ Hid (∀ x, x < k -> (s.rows.getD x noRow).used = true)) (fun i => n - (intOf i).toNat)
 case atStart => exact ⟨0, Nat.zero_le _, rfl, LH (fun q hq => absurd hq (by omega))⟩
 case round =>
  obtain ⟨k, hk, rfl, HZ⟩ := hrel
  by_cases hlt : k < n
  ·obtain ⟨g, cap, kv, hrv2, hcap2, hcm, hR, k0, k1, k2, k3, k4⟩ := HH.out.at k (by rw [<- HN.out]; exact hlt)
   have hF := rowFree_drop s.rows k (by rw [<- HN.out]; omega) HZ.out 0
   rw [List.drop_eq_getElem_cons (by rw [<- HN.out]; exact hlt)] at hF
   have hge : s.rows.getD k noRow = s.rows[k]'(by rw [<- HN.out]; exact hlt) := by rw [List.getD_eq_getElem?_getD, List.getElem?_eq_getElem]; rfl
   rw [<- hge] at hF
   have HRK : Hid (s.rows.getD k noRow = s.rows.getD k noRow) := LH rfl
   rw [<- HN.out] at hrv2
   obtain ⟨rfl, rfl⟩ : a = some ⟨g, 0, none⟩ /\ cap0 = cap := by
    have := Value.slice.inj hrv2
    exact ⟨this.1, this.2.2⟩
   have hkz : (k : Int) < (n : Int) := by omega
   have hkz1 : (k : Int).toNat = k := by omega
   have hu : ∃ u, u = (s.rows.getD k noRow).used := ⟨_, rfl⟩
   obtain ⟨u, hu⟩ := hu
   rw [<- hu] at k0
   have HU := LH hu
   have HF := LH hF
   clear hu hF hge hrv2 hR k1 k2 k3 k4
   cases u
   ·have HX : Hid (s.free = (k : Int)) := LH (by
     unfold SS.free
     rw [HF.out, rowFree_cons]
     rw [if_pos HU.out.symm]
     simp)
    go_wp2
    go_ret
    exact ⟨by rw [HX.out]; rfl, rfl⟩
   ·have HZ1 : Hid (∀ x, x < k + 1 -> (s.rows.getD x noRow).used = true) := LH (fun x hx => by
     rcases Nat.lt_or_ge x k with h | h
     ·exact HZ.out x h
     ·obtain rfl : x = k := by omega
      exact HU.out.symm)
    go_wp2
    go_round
    case rel => exact ⟨k + 1, by omega, by go_num, HZ1⟩
    case measure => simp [intOf]; omega
  ·have hkn : k = n := by omega
   have HX : Hid (s.free = -1) := LH (by
    unfold SS.free
    rw [rowFree_drop s.rows k (by rw [hkn, HN.out]; exact Nat.le_refl _) HZ.out 0, List.drop_of_length_le (by rw [hkn, HN.out]; exact Nat.le_refl _)]
    rfl)
   clear hkn
   go_wp2
   go_ret
   exact ⟨by rw [HX.out]; rfl, rfl⟩
theorem bytes_string (w : World) (v : Value) (l : List UInt8) (h : BytesAt w v l) : (convert 30 9 v).run Tryz.prog w = .ok (.string ⟨l.toArray⟩) w := by
 obtain ⟨a, cap, rfl, h1, h2, h3⟩ := h
 rcases h3 with ⟨rfl, rfl⟩ | ⟨g, o, rfl, hc⟩
 ·cases a with
  | none => exact run_convert_bytes_nil w 30 5 Tryz.underlying30 Tryz.underlying5 _ _ 9 Tryz.underlying9
  | some a => exact run_convert_bytes_back w 30 9 5 a 0 [] Tryz.underlying30 Tryz.underlying5 Tryz.underlying9 (fun j hj => absurd hj (by simp))
 ·refine run_convert_bytes_back w 30 9 5 ⟨g, o, none⟩ cap l Tryz.underlying30 Tryz.underlying5 Tryz.underlying9 (fun j hj => ?_)
  rw [add_none, hc j hj, List.getD_eq_getElem?_getD, List.getElem?_eq_getElem hj]
  rfl
theorem equal_any (u v : Value) (l m : List UInt8) (w : World) (hu : BytesAt w u l) (hv : BytesAt w v m) :
  Calls Tryz.prog 145 #[u, v] w fun e w' => e = .returned (.bool (decide (l = m))) /\ w = w' := by
 have h1 := bytes_string w u l hu
 have h2 := bytes_string w v m hv
 clear hu hv
 go_enter Tryz.func145, Tryz.ntmps145
 go_wp2
 go_ret
 exact ⟨ret_bool (show (l == m) = decide (l = m) by rw [Bool.eq_iff_iff]; simp), rfl⟩
def pad (m : List UInt8) : List UInt8 := m.take 64 ++ zeros (64 - (m.take 64).length)
theorem pad_len (m : List UInt8) : (pad m).length = 64 := by
 unfold pad zeros
 rw [List.length_append, List.length_replicate, List.length_take]
 omega
theorem secAt_pad (b : List UInt8) (k : Nat) : secAt b k = pad (b.drop (k * 64)) := rfl
def Z64 : Array Value := (bvs (zeros 64)).toArray
theorem facts_u8 : (Tryz.prog.info? 5).map (fun i => (i.zero, i.size, i.bytes)) = some (some (.int .u8 0), 1, 1) := by kernel_rfl
theorem make_64 (w : World) : (Instr.makeSlice 30 (.int .i64 64) (.int .i64 64)).run Tryz.prog w = .ok (.slice (some ⟨w.heap.size, 0, none⟩) 64 64) (w.alloc (.cells Z64 5)) := by
 obtain ⟨i, hi, h1, h2, h3⟩ := info_parts facts_u8
 have h := run_make (P := Tryz.prog) w 30 5 i _ Tryz.underlying30 hi h1 .i64 .i64 64 64 (by omega) (Int.le_refl _) (by rw [h3]; omega) (by omega)
 rw [h2] at h
 have hz : madeCells (Value.int .u8 0).cells ((64 : Int).toNat * 1) = Z64 := by kernel_rfl
 rw [hz] at h
 exact h
theorem row_of_block {w : World} {N : Nat} {l : List UInt8} (h : w.heap[N]? = some (.cells (bvs l).toArray 5 (0, 0))) (hl : l.length <= maxLen) : BRow w (.slice (some ⟨N, 0, none⟩) l.length l.length) l := by
 refine ⟨by simp [bvs_len], .inr ⟨N, l.length, (bvs l).toArray, rfl, Nat.zero_le _, h, Nat.le_refl _, hl, by simp [bvs_len], ?_⟩⟩
 rw [Nat.mul_one, List.take_of_length_le (by simp [bvs_len])]
theorem wpList_pad {w : World} {ops : Array Oper} {rest : List Oper} {o : Oper} {a : Act} {Q : Exit -> Act -> World -> Prop} (hgd : o.guard = none) (d s : Operand)
  (ho : o.op = .call { callee := .builtin .copy, args := #[d, s], argTypes := #[30, 30] }) (N : Nat) (hd : a.eval d = .slice (some ⟨N, 0, none⟩) 64 64) (u : Value) (hs : a.eval s = u) (m : List UInt8) (hm : BytesAt w u m)
  (hN : w.heap[N]? = some (.cells Z64 5 (0, 0)))
  (h : ∀ w' n, BRow w' (.slice (some ⟨N, 0, none⟩) 64 64) (pad m) -> Below N w w' -> N < w'.heap.size -> wpList Tryz.prog ops Q rest (a.put o.dst n) w') : wpList Tryz.prog ops Q (o :: rest) a w := by
 obtain ⟨au, cap, rfl, h1, h2, h3⟩ := hm
 have hlen : (m.take 64).length = Nat.min m.length 64 := by rw [List.length_take]; exact Nat.min_comm _ _
 have hle : Nat.min m.length 64 <= 64 := Nat.min_le_right _ _
 refine wpList_copy_splice hgd d s 30 30 ho 5 Tryz.underlying30 (by kernel_rfl) (some ⟨N, 0, none⟩) au 64 64 m.length cap hd hs N 0 (bvs (zeros 64)) 5 hN (bvs (m.take 64)) (by rw [bvs_len, hlen]) ?_ (by rw [bvs_len, bvs_len, hlen]; simp [zeros]; omega) (bvs_one _) N w (Below.refl _ _) (Nat.le_refl _) ?_
 ·intro hpos
  refine ⟨rfl, ?_⟩
  rcases h3 with ⟨rfl, _⟩ | ⟨g, o', rfl, hc⟩
  ·simp [bvs] at hpos
  ·refine ⟨_, rfl, fun j v hv => ?_⟩
   have hj : j < (m.take 64).length := by
    have := (List.getElem?_eq_some_iff.1 hv).1
    rwa [bvs_len] at this
   rw [bvs_at _ j hj] at hv
   cases hv
   rw [add_none, hc j (by rw [List.length_take] at hj; omega), getD_take _ _ _ (by rw [List.length_take] at hj; omega)]
 ·intro w' hw' hb
  have hsp : splice (bvs (zeros 64)) 0 (bvs (m.take 64)) = bvs (pad m) := by
   unfold splice pad
   rw [List.take_zero, List.nil_append, Nat.zero_add, bvs_len]
   unfold bvs
   rw [List.map_append]
   congr 1
   rw [<- List.map_drop]
   congr 1
   unfold zeros
   rw [List.drop_replicate]
  have hw2 := hw'.out
  rw [hsp] at hw2
  have hr := row_of_block hw2 (by rw [pad_len]; unfold maxLen; omega)
  rw [pad_len] at hr
  exact h w' _ hr hb (blk_lt hw2)
theorem bytes_drop {w : World} {g o cap k : Nat} {l : List UInt8} (h : BytesAt w (.slice (some ⟨g, o, none⟩) l.length cap) l) (hk : k <= l.length) (o2 : Nat) (ho : k < l.length -> o2 = o + k) : BytesAt w (.slice (some ⟨g, o2, none⟩) (l.length - k) (cap - k)) (l.drop k) := by
 have h1 := BytesAt.tail h (List.drop_suffix k l) o2 (fun hne => by
  rw [List.length_drop]
  have : 0 < (l.drop k).length := List.length_pos_iff.2 hne
  rw [List.length_drop] at this
  rw [ho (by omega)]
  show o + k = o + _
  omega)
 rw [List.length_drop, show l.length - (l.length - k) = k by omega] at h1
 exact h1
theorem chg_pad {w w1 w2 : World} (h : Chg [] w w1) (hb : Below w.heap.size w1 w2) : Chg [] w w2 := Chg.of_below ((Chg.below h (by simp)).trans hb)
theorem DS.write_ok (d : DS) (k : Int) (b : List UInt8) : (d.write k b).2.n = d.n /\ (d.write k b).2.ops <= d.ops + 1 /\ (d.write k b).2.since.length <= d.since.length + 1 := by
 unfold DS.write DS.op
 split
 ·exact ⟨rfl, Nat.le_succ _, Nat.le_succ _⟩
 ·split
  ·by_cases hf : d.fuse = 0
   ·simp [hf]
   ·simp [hf]
  ·exact ⟨rfl, Nat.le_succ _, Nat.le_succ _⟩
theorem DS.sync_ok (d : DS) : (d.sync).2.n = d.n /\ (d.sync).2.ops <= d.ops + 1 /\ (d.sync).2.since.length <= d.since.length := by
 unfold DS.sync DS.op
 split
 ·exact ⟨rfl, Nat.le_succ _, Nat.le_refl _⟩
 ·by_cases hf : d.fuse = 0
  ·simp [hf]
  ·simp [hf]
theorem DS.lay_ok (pos : Nat) (b : List UInt8) : ∀ (k j : Nat) (d : DS), (d.lay pos b k j).2.n = d.n /\ (d.lay pos b k j).2.ops <= d.ops + k + 1 /\ (d.lay pos b k j).2.since.length <= d.since.length + k
 | 0, j, d => by
  obtain ⟨h1, h2, h3⟩ := d.sync_ok
  exact ⟨h1, by simpa [DS.lay] using h2, by simpa [DS.lay] using h3⟩
 | k + 1, j, d => by
  obtain ⟨h1, h2, h3⟩ := d.write_ok (pos + j : Nat) (secAt b j)
  obtain ⟨g1, g2, g3⟩ := DS.lay_ok pos b k (j + 1) (d.write (pos + j : Nat) (secAt b j)).2
  unfold DS.lay
  split
  ·exact ⟨h1, by omega, by omega⟩
  ·exact ⟨by rw [g1, h1], by omega, by omega⟩
theorem SlotsAt.did {w w' : World} {q p : Nat} {S U : List Nat} {s : SS} {rv : Value} {R : List (SRow × Value)} {d' : DS} (h : SlotsOk w q p S U s rv R) (hd : Did w w' p S d') (hn : d'.n = s.d.n) : Sid w w' q p U { s with d := d' } := by
 obtain ⟨S', h1, h2, h3⟩ := hd
 have hlim := h.obj.lim
 refine ⟨U ++ S', ⟨S', rv, R, h.obj.keep h3 h.sep, h1, h.rows, fun x hx hm => ?_, fun x hx => ?_, fun x hx => List.mem_append_right _ hx, fun x hx => List.mem_append_left _ (h.uB x hx), fun x hx => ?_, ⟨by rw [show ({ s with d := d' } : SS).d.n = s.d.n from hn]; exact h.ok.room, h.ok.rows⟩⟩, fun x hx => ?_, h3.mono (fun x hx => .inl (h.uS x hx))⟩
 ·rcases h2 x hm with h4 | h4
  ·exact h.sep x hx h4
  ·have := hlim x hx; omega
 ·obtain ⟨k1, k2⟩ := h.keys x hx
  refine ⟨k1.chg h3 (fun k hk hm => (k2 k hk).2 (h.uS k hm)), fun g hg => ⟨Nat.lt_of_lt_of_le (k2 g hg).1 h3.size, fun hm => ?_⟩⟩
  rcases List.mem_append.1 hm with hm | hm
  ·exact (k2 g hg).2 hm
  ·rcases h2 g hm with h4 | h4
   ·exact (k2 g hg).2 (h.uS g h4)
   ·have := (k2 g hg).1; omega
 ·rcases List.mem_append.1 hx with hx | hx
  ·exact Nat.lt_of_lt_of_le (h.uL x hx) h3.size
  ·exact h1.lim x hx
 ·rcases List.mem_append.1 hx with hx | hx
  ·exact .inl hx
  ·rcases h2 x hx with h4 | h4
   ·exact .inl (h.uS x h4)
   ·exact .inr h4
theorem Sid.glue {w w1 w2 : World} {q p : Nat} {U U1 : List Nat} {s2 : SS} (hs : ∀ x ∈ U1, x ∈ U ∨ w.heap.size <= x) (hc : Chg U w w1) (h : Sid w1 w2 q p U1 s2) : Sid w w2 q p U s2 := by
 obtain ⟨U2, b1, b2, b3⟩ := h
 refine ⟨U2, b1, fun x hx => ?_, hc.trans b3 hs⟩
 rcases b2 x hx with h | h
 ·exact hs x h
 ·exact .inr (Nat.le_trans hc.size h)
theorem Sid.pre {w0 w w' : World} {q p : Nat} {U : List Nat} {s : SS} (hc : Chg [] w0 w) (h : Sid w w' q p U s) : Sid w0 w' q p U s := Sid.glue (fun x hx => .inl hx) (hc.mono (by simp)) h
theorem slay_any (q p : Nat) (U : List Nat) (s : SS) (pos : Nat) (v : Value) (b : List UInt8) (w : World) (h : SlotsAt w q p U s) (hb : BytesAt w v b) (hbU : b ≠ [] -> ∀ k, v.ownBlock = some k -> k ∉ U) (hpos : pos + nsec b.length <= s.d.n) (hbl : b.length <= 1000000)
  (ho : s.d.ops + nsec b.length + 1 <= 1000000000) (hw : s.d.since.length + nsec b.length <= 1000000) :
  Calls Tryz.prog 163 #[.pointer (some ⟨q, 0, none⟩), .int .i64 (pos : Int), v] w fun e w' => e = .returned (.int .i64 (s.d.lays pos b).1) /\ Sid w w' q p U { s with d := (s.d.lays pos b).2 } := by
 have CS := LH (ssec_any b.length w (by omega))
 obtain ⟨m, hm⟩ : ∃ m, m = nsec b.length := ⟨_, rfl⟩
 rw [<- hm] at CS hpos ho hw
 have HM := LH hm
 have hpn : s.d.n <= 4160 := by
  obtain ⟨S, rv, R, H⟩ := h
  obtain ⟨gn, gl, cn, cl, v, hd⟩ := H.disk
  exact hd.few
 have hmb : (0 < m -> (m - 1) * 64 < b.length) /\ m <= 4160 := by
  rw [hm]; unfold nsec; rw [hm] at hpos; unfold nsec at hpos; omega
 have HB := LH hb
 have HBU := LH hbU
 have HS := LH h
 have hmk := make_64
 obtain ⟨av, cv, rfl⟩ := hb.slice
 have hcv : b.length <= cv /\ cv <= 9223372036854775807 := by
  obtain ⟨a', c', he, h1, h2, _⟩ := hb
  have : cv = c' := (Value.slice.inj he).2.2
  unfold maxLen at h2
  omega
 clear hm hb hbU h
 go_enter Tryz.func163, Tryz.ntmps163
 go_wp2_with (go_at_call 161; refine CS.out.mono ?_; rintro e w' ⟨rfl, hq⟩; subst hq)
 go_loopg [13] m (fun g' s13 wr => ∃ (j : Nat) (dj : DS), s13 = .int .i64 j /\ j <= m /\ m <= j + g' /\ Hid (Sid w wr q p U { s with d := dj } /\ dj.n = s.d.n /\ dj.ops <= s.d.ops + j /\ dj.since.length <= s.d.since.length + j /\ s.d.lay pos b m 0 = dj.lay pos b (m - j) j))
 case atStart => exact ⟨0, s.d, rfl, by omega, by omega, LH ⟨Sid.same HS.out, rfl, by omega, by omega, rfl⟩⟩
 case round =>
  obtain ⟨j, dj, rfl, hj, hjg, HJ⟩ := hrel
  obtain ⟨⟨Uj, ⟨S, rv, R, H⟩, hUj, hCj⟩, hjn, hjo, hjs, hjl⟩ := HJ.out
  have HUj := LH hUj
  have HCj := LH hCj
  have c0 : wr.cell? ⟨q, 0, none⟩ = some (.pointer (some ⟨p, 0, none⟩)) := blk_cell H.obj.head 0 _ rfl
  have HH := LH H
  have HJL := LH hjl
  clear H hUj hCj hjl HJ
  have hbUr : b ≠ [] -> ∀ k, (Value.slice av b.length cv).ownBlock = some k -> k ∉ U := HBU.out
  have hBr : BytesAt wr (.slice av b.length cv) b := HB.out.chgW HCj.out hbUr
  have HBr := LH hBr
  clear hBr hbUr
  by_cases hlt : j < m
  ·obtain ⟨w1, hw1⟩ : ∃ w1, w1 = wr.alloc (.cells Z64 5) := ⟨_, rfl⟩
   have hc1 : Chg [] wr w1 := by rw [hw1]; exact (Chg.refl _ _).alloc _
   have hN1 : Hid (w1.heap[wr.heap.size]? = some (.cells Z64 5 (0, 0))) := LH (by rw [hw1]; exact heap_alloc_new wr _)
   have hjb : j * 64 < b.length := by
    have h1 : j <= m - 1 := by omega
    have h2 := Nat.mul_le_mul_right 64 h1
    have h3 := hmb.1 (by omega)
    omega
   obtain ⟨g, o, rfl⟩ : ∃ g o, av = some ⟨g, o, none⟩ := by
    obtain ⟨a', c', he, _, _, h3⟩ := HBr.out
    obtain rfl : av = a' := (Value.slice.inj he).1
    rcases h3 with ⟨rfl, _⟩ | ⟨g, o, e, _⟩
    ·simp at hjb
    ·exact ⟨g, o, e⟩
   have hB1 : BytesAt w1 (.slice (some ⟨g, o + j * 64, none⟩) (b.length - j * 64) (cv - j * 64)) (b.drop (j * 64)) := bytes_drop (HBr.out.chg hc1 (by simp)) (by omega) _ (fun _ => rfl)
   have HB1 := LH hB1
   have HC1 := LH hc1
   have HW1 := LH hw1
   have hcj : j * 64 < cv := by omega
   have hcj2 : ¬ cv = j * 64 := by omega
   have hjz : (j : Int) < (m : Int) := by omega
   have hj64 : ((j : Int) * 64) = ((j * 64 : Nat) : Int) := by push_cast; rfl
   have hmj : m - j = (m - (j + 1)) + 1 := by omega
   have HLS : Hid (s.d.lays pos b = if (dj.write (pos + j : Nat) (secAt b j)).1 ≠ 0 then dj.write (pos + j : Nat) (secAt b j) else (dj.write (pos + j : Nat) (secAt b j)).2.lay pos b (m - (j + 1)) (j + 1)) := LH (by
    unfold DS.lays
    rw [<- HM.out, HJL.out, hmj]
    rfl)
   clear hB1 hw1 hc1 hj64 hmj
   go_wp2_with (rw [<- HW1.out]; refine wpList_pad (by rfl) (.tmp 17) (.tmp 21) (by rfl) wr.heap.size (by rfl) _ (by rfl) (b.drop (j * 64)) HB1.out hN1.out ?_; intro w2 np hr2 hb2 hl2
                have hc2 := chg_pad HC1.out hb2
                have c02 := hc2.cell c0 (by simp)
                have HR2 := LH hr2
                have HC2 := LH hc2
                clear hr2 hb2 hc2)
   have hpj : ((pos + j : Nat) : Int) = (pos : Int) + (j : Int) := by push_cast; rfl
   rw [hpj] at HLS
   have CW := LH (dwrite_any p S dj ((pos : Int) + (j : Int)) _ (secAt b j) w2 (HH.out.disk.keep HC2.out (by simp)) (by omega) (by omega) ⟨by omega, by omega⟩ (secAt_len b j) HR2.out.bytes)
   have hwok := dj.write_ok ((pos : Int) + (j : Int)) (secAt b j)
   generalize dj.write ((pos : Int) + (j : Int)) (secAt b j) = r at *
   obtain ⟨r1, d1⟩ := r
   dsimp only at CW HLS hwok
   have HPJ := LH hpj
   clear hpj
   refine CW.out.mono ?_
   rintro e w3 ⟨rfl, hd3⟩
   have HD3 := LH (Did.pre HC2.out hd3)
   clear hd3 CW
   have hsid : Sid w w3 q p U { s with d := d1 } := Sid.glue HUj.out HCj.out (SlotsAt.did (s := { s with d := dj }) HH.out HD3.out hwok.1)
   have HSID := LH hsid
   clear hsid
   by_cases hr0 : r1 = 0
   ·subst hr0
    have HL2 : Hid (s.d.lay pos b m 0 = d1.lay pos b (m - (j + 1)) (j + 1)) := LH (by
     have h1 := HLS.out
     rw [if_neg (by simp)] at h1
     rw [<- h1]
     unfold DS.lays
     rw [<- HM.out])
    go_wp2
    go_roundg (gk - 1)
    case measure => omega
    case rel => exact ⟨j + 1, d1, by go_num, by omega, by omega, LH ⟨HSID.out, by rw [hwok.1, hjn], by omega, by omega, HL2.out⟩⟩
   ·have HL2 : Hid (s.d.lays pos b = (r1, d1)) := LH (by rw [HLS.out, if_pos hr0])
    have q1 : (r1 != 0) = true := by simp [hr0]
    clear hr0
    go_wp2
    go_ret
    rw [HL2.out]
    exact ⟨rfl, HSID.out⟩
  ·have hjm : j = m := by omega
   have HL2 : Hid (s.d.lays pos b = dj.sync) := LH (by
    unfold DS.lays
    rw [<- HM.out, HJL.out, hjm, Nat.sub_self]
    rfl)
   have hsok := dj.sync_ok
   have CY := LH (dsync_any p S dj wr HH.out.disk (by omega) (by omega))
   clear hjm
   go_wp2_with fail
   refine CY.out.mono ?_
   rintro e w3 ⟨rfl, hd3⟩
   have HSID : Hid (Sid w w3 q p U { s with d := (dj.sync).2 }) := LH (Sid.glue HUj.out HCj.out (SlotsAt.did (s := { s with d := dj }) HH.out hd3 hsok.1))
   clear hd3 CY
   go_wp2
   go_ret
   rw [HL2.out]
   exact ⟨rfl, HSID.out⟩
def GetPost (r : List UInt8 × Int) (w : World) (e : Ending) (w' : World) : Prop := (∃ v, e = .returned (.tuple #[v, .int .i64 r.2]) /\ BytesAt w' v r.1 /\ ∀ k, v.ownBlock = some k -> w.heap.size <= k) /\ Chg [] w w'
theorem GetPost.nil {c : Int} {w w' : World} (hc : Chg [] w w') : GetPost ([], c) w (.returned (.tuple #[.slice none 0 0, .int .i64 c])) w' := ⟨⟨_, rfl, BytesAt.nil _, by simp [Value.ownBlock]⟩, hc⟩
theorem sget_any (q p : Nat) (U : List Nat) (s : SS) (i : Int) (w : World) (h : SlotsAt w q p U s) : Calls Tryz.prog 144 #[.pointer (some ⟨q, 0, none⟩), .int .i64 i] w (GetPost (s.get i) w) := by
 have CH := LH (shas_any q p U s i w h)
 have HS := LH h
 obtain ⟨S, rv, R, H⟩ := h
 have c0 : w.cell? ⟨q, 0, none⟩ = some (.pointer (some ⟨p, 0, none⟩)) := blk_cell H.obj.head 0 _ rfl
 by_cases hi : s.has i
 ·rw [decide_eq_true hi] at CH
  have hi' := hi
  obtain ⟨h0, h1⟩ := hi'
  obtain ⟨j, rfl⟩ := Int.eq_ofNat_of_zero_le h0
  have hjl : j < s.rows.length := by omega
  obtain ⟨g, cap, kv, hrv, hcap, hcm, hR, k0, k1, k2, k3, k4⟩ := H.at j hjl
  have c2 : w.cell? ⟨q, 2, none⟩ = some rv := blk_cell H.obj.head 2 _ rfl
  have hfew := H.few
  have hrow : s.row (j : Int) = s.rows.getD j noRow := rfl
  have hn448 : (s.rows.getD j noRow).n <= 448 := by
   rw [List.getD_eq_getElem?_getD, List.getElem?_eq_getElem hjl]
   exact (H.ok.rows _ (List.getElem_mem _)).1
  have hroom := H.ok.room
  by_cases hu : (s.row (j : Int)).used = false
  ·have hg : s.get (j : Int) = ([], 6) := by unfold SS.get; rw [if_neg (by simpa using hi), if_pos hu]
   have HP := LH (fun (w' : World) (hc : Chg [] w w') => GetPost.nil (c := 6) hc)
   have HG := LH hg
   rw [HG.out]
   rw [hrow] at hu
   rw [hu] at k0
   subst hrv
   generalize s.rows.getD j noRow = r at *
   generalize s.rows.length = n at *
   have hjz : (j : Int) < (n : Int) := by omega
   have hjz1 : (j : Int).toNat = j := by omega
   clear H hR k1 k2 k3 k4 hu hg hi hrow hroom
   go_enter Tryz.func144, Tryz.ntmps144
   go_wp2_with (go_at_call 137; refine CH.out.mono ?_; rintro e w' ⟨rfl, hq⟩; subst hq)
   go_ret2
   exact HP.out _ (Chg.refl _ _)
  ·have hu' : (s.rows.getD j noRow).used = true := by rw [<- hrow]; simpa using hu
   have hg : s.get (j : Int) = if s.d.dead then ([], 14) else (s.data (j : Int), 0) := by
    unfold SS.get; rw [if_neg (by simpa using hi), if_neg hu]
   have hdat : s.data (j : Int) = (flat (nsec (s.rows.getD j noRow).n) (fun k => s.d.now (s.pos j + 1 + k))).take (s.rows.getD j noRow).n := rfl
   have hpos : s.pos (j : Int) = s.first + 8 * j := rfl
   rw [hu'] at k0
   have CA := LH (fun w' (h' : SlotsAt w' q p U s) => sat_any q p U s j w' h' (by omega))
   have CSec := LH (ssec_any (s.rows.getD j noRow).n w (by omega))
   have CD := LH (ddead_any p S s.d w H.disk)
   have hm7 : nsec (s.rows.getD j noRow).n <= 7 := by unfold nsec; omega
   have hmn : (s.rows.getD j noRow).n <= nsec (s.rows.getD j noRow).n * 64 := by unfold nsec; omega
   have HDK := LH H.disk
   have hlen64 : Hid (∀ k, k < s.d.n -> (s.d.now k).length = 64) := LH (by
    obtain ⟨gn, gl, cn, cl, v, hd⟩ := H.disk
    exact fun k hk => hd.now.len k hk)
   subst hrv
   have HG := LH hg
   have HDAT := LH hdat
   generalize hrr : s.rows.getD j noRow = r at *
   have hpl : s.pos (j : Int) + 8 <= s.d.n := by rw [hpos]; omega
   generalize s.pos (j : Int) = pos at *
   generalize hrl : s.rows.length = n at *
   have hjz : (j : Int) < (n : Int) := by omega
   have hjz1 : (j : Int).toNat = j := by omega
   obtain ⟨m, hm⟩ : ∃ m, m = nsec r.n := ⟨_, rfl⟩
   rw [<- hm] at CSec hm7 hmn
   have HM := LH hm
   obtain ⟨rn, hrn⟩ : ∃ rn, rn = r.n := ⟨_, rfl⟩
   rw [<- hrn] at CSec hmn k1 hn448
   have HRN := LH hrn
   have hnd : s.d.n <= 4160 := by
    obtain ⟨gn, gl, cn, cl, v, hd⟩ := H.disk
    exact hd.few
   have hwr : Hid (IntKind.i64.wrap (IntKind.i64.wrap ((pos : Int) + 1)) = (pos : Int) + 1) := LH (by rw [IntWalk.i64_in ((pos : Int) + 1) ⟨by omega, by omega⟩, IntWalk.i64_in _ ⟨by omega, by omega⟩])
   clear H hR k2 k3 k4 hu' hg hi hrow hdat hroom hm hrn hrr hrl hu hfew hpos
   by_cases hd : s.d.dead = true
   ·have HP := LH (fun (w' : World) (hc : Chg [] w w') => GetPost.nil (c := 14) hc)
    have HGG : Hid (s.get (j : Int) = ([], 14)) := LH (by rw [HG.out, if_pos hd])
    rw [HGG.out]
    rw [hd] at CD
    have HDD := LH hd
    clear hd
    go_enter Tryz.func144, Tryz.ntmps144
    go_wp2_with (first
     | (go_at_call 137; refine CH.out.mono ?_; rintro e w' ⟨rfl, hq⟩; subst hq)
     | (go_at_call 161; refine CSec.out.mono ?_; rintro e w' ⟨rfl, hq⟩; subst hq))
    go_loopg [6, 44] 0 (fun g' s6 s44 wr => s6 = .slice none 0 0 /\ s44 = .int .i64 0 /\ wr = w)
    case atStart => exact ⟨rfl, rfl, rfl⟩
    case round =>
     obtain ⟨rfl, rfl, rfl⟩ := hrel
     by_cases hm0 : 0 < m
     ·have hmz : (0 : Int) < (m : Int) := by omega
      have CR := LH (dread_any p S s.d ((pos : Int) + 1) wr.drew (by
       obtain ⟨gn, gl, cn, cl, v, hd⟩ := HDK.out
       exact ⟨gn, gl, cn, cl, v, hd.drew⟩))
      go_wp2_with fail
      refine wp_region_L [(10, fun w' => w'.cell? ⟨q, 0, none⟩ = some (.pointer (some ⟨p, 0, none⟩)))] (by kernel_rfl) ?_ (fun hHeld => ?_)
      ·exact (HoldC.cons (c0) HoldC.nil)
      refine tk 0 ?_ rfl (by kernel_rfl) (fun _ _ _ h => h) (.inl ⟨by rfl, ?_⟩) hHeld ?_; rotate_left; · (intro w _; go_simp; try with_reducible rfl)
      clear hHeld; intro hHeld; try simp only [gA,gB,gC,Act.put,gD,gE,gF]
      refine tk 1 ?_ rfl (by kernel_rfl) (fun _ _ _ h => h) (.inl ⟨by rfl, ?_⟩) hHeld ?_; rotate_left; · (intro w _; go_simp; try with_reducible rfl)
      clear hHeld; intro hHeld; try simp only [gA,gB,gC,Act.put,gD,gE,gF]
      refine tk 2 ?_ rfl (by kernel_rfl) (fun _ _ _ h => h) (.inl ⟨by rfl, ?_⟩) hHeld ?_; rotate_left; · (intro w _; go_simp; try with_reducible rfl)
      clear hHeld; intro hHeld; try simp only [gA,gB,gC,Act.put,gD,gE,gF]
      refine ld 0 3 ?_ rfl rfl (by kernel_rfl) (fun _ _ _ h => h) (.inl ⟨by rfl, ?_⟩) hHeld ?_; rotate_left; · (intro w hSw; (try dsimp only at hSw); go_simp; try with_reducible rfl)
      clear hHeld; intro hHeld; try simp only [gA,gB,gC,Act.put,gD,gE,gF]
      refine tk 4 ?_ rfl (by kernel_rfl) (fun _ _ _ h => h) (.inl ⟨by rfl, ?_⟩) hHeld ?_; rotate_left; · (intro w _; go_simp; try with_reducible rfl)
      clear hHeld; intro hHeld; try simp only [gA,gB,gC,Act.put,gD,gE,gF]
      refine tk 5 ?_ rfl (by kernel_rfl) (fun _ _ _ h => h) (.inl ⟨by rfl, ?_⟩) hHeld ?_; rotate_left; · (intro w _; go_simp; try with_reducible rfl)
      clear hHeld; intro hHeld; try simp only [gA,gB,gC,Act.put,gD,gE,gF]
      refine tk 8 ?_ rfl (by kernel_rfl) (fun _ _ _ h => h) (.inl ⟨by rfl, ?_⟩) hHeld ?_; rotate_left; · (intro w _; go_simp; try with_reducible rfl)
      clear hHeld; intro hHeld; try simp only [gA,gB,gC,Act.put,gD,gE,gF]
      refine wpAnyL_ready (rs := [6]) (by kernel_rfl) (by simp) (AllReadyL.cons (o := _) rfl (fun K hK => ?_) AllReadyL.nil)
      try simp only [gA,gB,gC]
      go_simp
      refine (CA.out _ (HS.out.keep0 (by exact (Chg.refl _ _).drew))).mono ?_
      rintro e w' ⟨rfl, hq⟩
      subst hq
      try go_wp2_with fail
      clear hHeld
      refine hK.out _ _ ?_ (fun hHeld => ?_)
      ·exact (HoldC.cons (c0) HoldC.nil)
      clear hK K
      try simp only [gA,gB,gC,Act.put,gD,gE,gF]
      refine tk 7 ?_ rfl (by kernel_rfl) (fun _ _ _ h => h) (.inl ⟨by rfl, ?_⟩) hHeld ?_; rotate_left; · (intro w _; go_simp; try with_reducible rfl)
      clear hHeld; intro hHeld; try simp only [gA,gB,gC,Act.put,gD,gE,gF]
      refine tk 9 ?_ rfl (by kernel_rfl) (fun _ _ _ h => h) (.inl ⟨by rfl, ?_⟩) hHeld ?_; rotate_left; · (intro w _; go_simp; try with_reducible rfl)
      clear hHeld; intro hHeld; try simp only [gA,gB,gC,Act.put,gD,gE,gF]
      refine wpAnyL_ready (rs := [10]) (by kernel_rfl) (by simp) (AllReadyL.cons (o := _) rfl (fun K hK => ?_) AllReadyL.nil)
      try simp only [gA,gB,gC]
      go_simp
      try rw [hwr.out]
      try rw [hwr2.out]
      refine CR.out.mono ?_
      rintro e w3 ⟨he, hc3⟩
      rw [if_pos HDD.out] at he
      subst he
      have HC3 : Hid (Chg [] wr w3) := LH ((by exact (Chg.refl [] wr).drew : Chg [] wr wr.drew).trans hc3 (by simp))
      clear hc3 CR
      try go_wp2_with fail
      clear hHeld
      refine hK.out _ _ ?_ (fun hHeld => ?_)
      ·exact (HoldC.past (by kernel_rfl) HoldC.nil)
      clear hK K
      try simp only [gA,gB,gC,Act.put,gD,gE,gF]
      refine tk 11 ?_ rfl (by kernel_rfl) (fun _ _ _ h => h) (.inl ⟨by rfl, ?_⟩) hHeld ?_; rotate_left; · (intro w _; go_simp; try with_reducible rfl)
      clear hHeld; intro hHeld; try simp only [gA,gB,gC,Act.put,gD,gE,gF]
      refine tk 12 ?_ rfl (by kernel_rfl) (fun _ _ _ h => h) (.inl ⟨by rfl, ?_⟩) hHeld ?_; rotate_left; · (intro w _; go_simp; try with_reducible rfl)
      clear hHeld; intro hHeld; try simp only [gA,gB,gC,Act.put,gD,gE,gF]
      refine tk 13 ?_ rfl (by kernel_rfl) (fun _ _ _ h => h) (.inl ⟨by rfl, ?_⟩) hHeld ?_; rotate_left; · (intro w _; go_simp; try with_reducible rfl)
      clear hHeld; intro hHeld; try simp only [gA,gB,gC,Act.put,gD,gE,gF]
      refine tk 14 ?_ rfl (by kernel_rfl) (fun _ _ _ h => h) (.inl ⟨by rfl, ?_⟩) hHeld ?_; rotate_left; · (intro w _; go_simp; try with_reducible rfl)
      clear hHeld; intro hHeld; try simp only [gA,gB,gC,Act.put,gD,gE,gF]
      refine tk 15 ?_ rfl (by kernel_rfl) (fun _ _ _ h => h) (.inl ⟨by rfl, ?_⟩) hHeld ?_; rotate_left; · (intro w _; go_simp; try with_reducible rfl)
      clear hHeld; intro hHeld; try simp only [gA,gB,gC,Act.put,gD,gE,gF]
      refine wpAnyL_done (by kernel_rfl) ?_ _
      clear hHeld
      go_wp2
      go_ret2
      exact HP.out _ HC3.out
     ·obtain rfl : m = 0 := by omega
      go_wp2_with (go_at_call 38; refine CD.out.mono ?_; rintro e w' ⟨rfl, hq⟩; subst hq)
      go_ret2
      exact HP.out _ (Chg.refl _ _)
   ·have hd' : s.d.dead = false := by simpa using hd
    have HGG : Hid (s.get (j : Int) = (s.data (j : Int), 0)) := LH (by rw [HG.out, if_neg hd])
    rw [HGG.out]
    rw [hd'] at CD
    have HDD := LH hd'
    have HK1 := LH k1
    have HC2 := LH c2
    have HC0 := LH c0
    have hkl := World.block_lt_of_cell? w _ k1
    clear hd hd'
    go_enter Tryz.func144, Tryz.ntmps144
    go_wp2_with (first
     | (go_at_call 137; refine CH.out.mono ?_; rintro e w' ⟨rfl, hq⟩; subst hq)
     | (go_at_call 161; refine CSec.out.mono ?_; rintro e w' ⟨rfl, hq⟩; subst hq))
    go_loopg [6, 44] m (fun g' s6 s44 wr => ∃ (k : Nat) (a6 : Option Addr) (c6 : Nat), s6 = .slice a6 (k * 64) c6 /\ s44 = .int .i64 k /\ k <= m /\ m <= k + g' /\ Hid (BRow wr s6 (flat k (fun k => s.d.now (pos + 1 + k))) /\ (∀ g, s6.ownBlock = some g -> w.heap.size <= g) /\ Chg [] w wr))
    case atStart => exact ⟨0, none, 0, rfl, rfl, by omega, by omega, LH ⟨BRow.nil _, by simp [Value.ownBlock], Chg.refl _ _⟩⟩
    case round =>
     obtain ⟨k, a6, c6, rfl, rfl, hk, hkg, HR⟩ := hrel
     obtain ⟨s6, hs6⟩ : ∃ s6, s6 = Value.slice a6 (k * 64) c6 := ⟨_, rfl⟩
     have HS6 := LH hs6
     rw [<- hs6] at HR
     clear hs6 c0 c2 k0 k1
     have c0 := HR.out.2.2.cell HC0.out (by simp)
     by_cases hlt : k < m
     ·have hkz : (k : Int) < (m : Int) := by omega
      have hkz1 : (k : Int).toNat = k := by omega
      have hcd : Chg [] w wr.drew := HR.out.2.2.drew
      have CR := LH (dread_any p S s.d ((pos : Int) + 1 + (k : Int)) wr.drew (HDK.out.keep hcd (by simp)))
      have HSd := LH (HS.out.keep0 hcd)
      have hwr2 : Hid (IntKind.i64.wrap (IntKind.i64.wrap ((pos : Int) + 1) + (k : Int)) = (pos : Int) + 1 + (k : Int)) := LH (by rw [IntWalk.i64_in ((pos : Int) + 1) ⟨by omega, by omega⟩, IntWalk.i64_in _ ⟨by omega, by omega⟩])
      have hpk : ((pos : Int) + 1 + (k : Int)).toNat = pos + 1 + k := by omega
      have hl1 := hlen64.out (pos + 1 + k) (by omega)
      have HL1 := LH hl1
      have HPK := LH hpk
      clear hcd hpk hl1
      go_wp2_with fail
      refine wp_region_L [(10, fun w' => w'.cell? ⟨q, 0, none⟩ = some (.pointer (some ⟨p, 0, none⟩)))] (by kernel_rfl) ?_ (fun hHeld => ?_)
      ·exact (HoldC.cons (c0) HoldC.nil)
      refine tk 0 ?_ rfl (by kernel_rfl) (fun _ _ _ h => h) (.inl ⟨by rfl, ?_⟩) hHeld ?_; rotate_left; · (intro w _; go_simp; try with_reducible rfl)
      clear hHeld; intro hHeld; try simp only [gA,gB,gC,Act.put,gD,gE,gF]
      refine tk 1 ?_ rfl (by kernel_rfl) (fun _ _ _ h => h) (.inl ⟨by rfl, ?_⟩) hHeld ?_; rotate_left; · (intro w _; go_simp; try with_reducible rfl)
      clear hHeld; intro hHeld; try simp only [gA,gB,gC,Act.put,gD,gE,gF]
      refine tk 2 ?_ rfl (by kernel_rfl) (fun _ _ _ h => h) (.inl ⟨by rfl, ?_⟩) hHeld ?_; rotate_left; · (intro w _; go_simp; try with_reducible rfl)
      clear hHeld; intro hHeld; try simp only [gA,gB,gC,Act.put,gD,gE,gF]
      refine ld 0 3 ?_ rfl rfl (by kernel_rfl) (fun _ _ _ h => h) (.inl ⟨by rfl, ?_⟩) hHeld ?_; rotate_left; · (intro w hSw; (try dsimp only at hSw); go_simp; try with_reducible rfl)
      clear hHeld; intro hHeld; try simp only [gA,gB,gC,Act.put,gD,gE,gF]
      refine tk 4 ?_ rfl (by kernel_rfl) (fun _ _ _ h => h) (.inl ⟨by rfl, ?_⟩) hHeld ?_; rotate_left; · (intro w _; go_simp; try with_reducible rfl)
      clear hHeld; intro hHeld; try simp only [gA,gB,gC,Act.put,gD,gE,gF]
      refine tk 5 ?_ rfl (by kernel_rfl) (fun _ _ _ h => h) (.inl ⟨by rfl, ?_⟩) hHeld ?_; rotate_left; · (intro w _; go_simp; try with_reducible rfl)
      clear hHeld; intro hHeld; try simp only [gA,gB,gC,Act.put,gD,gE,gF]
      refine tk 8 ?_ rfl (by kernel_rfl) (fun _ _ _ h => h) (.inl ⟨by rfl, ?_⟩) hHeld ?_; rotate_left; · (intro w _; go_simp; try with_reducible rfl)
      clear hHeld; intro hHeld; try simp only [gA,gB,gC,Act.put,gD,gE,gF]
      refine wpAnyL_ready (rs := [6]) (by kernel_rfl) (by simp) (AllReadyL.cons (o := _) rfl (fun K hK => ?_) AllReadyL.nil)
      try simp only [gA,gB,gC]
      go_simp
      refine (CA.out _ HSd.out).mono ?_
      rintro e w' ⟨rfl, hq⟩
      subst hq
      try go_wp2_with fail
      clear hHeld
      refine hK.out _ _ ?_ (fun hHeld => ?_)
      ·exact (HoldC.cons (c0) HoldC.nil)
      clear hK K
      try simp only [gA,gB,gC,Act.put,gD,gE,gF]
      refine tk 7 ?_ rfl (by kernel_rfl) (fun _ _ _ h => h) (.inl ⟨by rfl, ?_⟩) hHeld ?_; rotate_left; · (intro w _; go_simp; try with_reducible rfl)
      clear hHeld; intro hHeld; try simp only [gA,gB,gC,Act.put,gD,gE,gF]
      refine tk 9 ?_ rfl (by kernel_rfl) (fun _ _ _ h => h) (.inl ⟨by rfl, ?_⟩) hHeld ?_; rotate_left; · (intro w _; go_simp; try with_reducible rfl)
      clear hHeld; intro hHeld; try simp only [gA,gB,gC,Act.put,gD,gE,gF]
      refine wpAnyL_ready (rs := [10]) (by kernel_rfl) (by simp) (AllReadyL.cons (o := _) rfl (fun K hK => ?_) AllReadyL.nil)
      try simp only [gA,gB,gC]
      go_simp
      try rw [hwr.out]
      try rw [hwr2.out]
      refine CR.out.mono ?_
      rintro e w3 ⟨he, hc3⟩
      rw [if_neg (by rw [HDD.out]; simp), if_pos ⟨by omega, by omega⟩] at he
      obtain ⟨v3, rfl, hr3, hn3⟩ := he
      rw [HPK.out] at hr3
      have HC3 : Hid (Chg [] wr w3) := LH ((by exact (Chg.refl [] wr).drew : Chg [] wr wr.drew).trans hc3 (by simp))
      have HR3 := LH (HR.out.1.keep (fun g hg => HC3.out.block g (HR.out.1.lt g hg) (by simp)))
      have HB3 := LH hr3.bytes
      obtain ⟨a3, c3, hv3⟩ := hr3.bytes.slice
      rw [HL1.out] at hv3
      subst hv3
      have hsz : Hid ((flat k (fun k => s.d.now (pos + 1 + k))).length + (s.d.now (pos + 1 + k)).length <= 140737488355328) := LH (by
       rw [flat_len k _ (fun i hi => hlen64.out _ (by omega)), HL1.out]; omega)
      clear hc3 CR hr3 hn3
      try go_wp2_with fail
      clear hHeld
      refine hK.out _ _ ?_ (fun hHeld => ?_)
      ·exact (HoldC.past (by kernel_rfl) HoldC.nil)
      clear hK K
      try simp only [gA,gB,gC,Act.put,gD,gE,gF]
      refine tk 11 ?_ rfl (by kernel_rfl) (fun _ _ _ h => h) (.inl ⟨by rfl, ?_⟩) hHeld ?_; rotate_left; · (intro w _; go_simp; try with_reducible rfl)
      clear hHeld; intro hHeld; try simp only [gA,gB,gC,Act.put,gD,gE,gF]
      refine tk 12 ?_ rfl (by kernel_rfl) (fun _ _ _ h => h) (.inl ⟨by rfl, ?_⟩) hHeld ?_; rotate_left; · (intro w _; go_simp; try with_reducible rfl)
      clear hHeld; intro hHeld; try simp only [gA,gB,gC,Act.put,gD,gE,gF]
      refine tk 13 ?_ rfl (by kernel_rfl) (fun _ _ _ h => h) (.inl ⟨by rfl, ?_⟩) hHeld ?_; rotate_left; · (intro w _; go_simp; try with_reducible rfl)
      clear hHeld; intro hHeld; try simp only [gA,gB,gC,Act.put,gD,gE,gF]
      refine tk 14 ?_ rfl (by kernel_rfl) (fun _ _ _ h => h) (.inl ⟨by rfl, ?_⟩) hHeld ?_; rotate_left; · (intro w _; go_simp; try with_reducible rfl)
      clear hHeld; intro hHeld; try simp only [gA,gB,gC,Act.put,gD,gE,gF]
      refine tk 15 ?_ rfl (by kernel_rfl) (fun _ _ _ h => h) (.inl ⟨by rfl, ?_⟩) hHeld ?_; rotate_left; · (intro w _; go_simp; try with_reducible rfl)
      clear hHeld; intro hHeld; try simp only [gA,gB,gC,Act.put,gD,gE,gF]
      refine wpAnyL_done (by kernel_rfl) ?_ _
      clear hHeld
      go_wp2_with (at_builtin; refine wpList_appB rfl (.tmp 64) (.tmp 65) rfl s6 (flat k (fun k => s.d.now (pos + 1 + k))) HS6.out.symm HR3.out _ (s.d.now (pos + 1 + k)) (by rfl) HB3.out hsz.out ?_; intro v4 w4 ho4 hg4 hat4)
      have HO4 := LH ho4
      have HG4 := LH hg4
      have HA4 := LH hat4
      clear ho4 hg4 hat4
      go_roundg (gk - 1)
      case measure => omega
      case rel =>
       have hr : BRow w4 v4 (flat (k + 1) (fun k => s.d.now (pos + 1 + k))) := by rw [flat_succ]; exact HO4.out
       obtain ⟨a, c4, he, _⟩ := hr.bytes
       rw [flat_len (k + 1) _ (fun i hi => hlen64.out _ (by omega))] at he
       refine ⟨k + 1, a, c4, he, by go_num, by omega, by omega, LH ⟨hr, fun g hg => ?_, (HR.out.2.2.trans HC3.out (by simp)).grown HG4.out (fun g hg => .inr (HR.out.2.1 g hg))⟩⟩
       rcases HA4.out with h | h
       ·exact HR.out.2.1 g (by rw [<- h]; exact hg)
       ·rw [h] at hg
        have h1 := HR.out.2.2.size
        have h3 := HC3.out.size
        have h2 : w3.heap.size = g := by simpa using hg
        omega
     ·have hkm : k = m := by omega
      obtain rfl := hkm.symm
      have c2 := HR.out.2.2.cell HC2.out (by simp)
      have k1 := HR.out.2.2.cell HK1.out (by simp)
      have CD2 := LH (ddead_any p S s.d wr (HDK.out.keep HR.out.2.2 (by simp)))
      rw [HDD.out] at CD2
      have hcb : m * 64 <= c6 := by
       obtain ⟨_, c, he, h1, _⟩ := HR.out.1.bytes
       rw [HS6.out] at he
       have e1 := (Value.slice.inj he).2.1
       have e2 := (Value.slice.inj he).2.2
       omega
      have hrz : (rn : Int) <= (c6 : Int) := by omega
      have hrz1 : (rn : Int).toNat = rn := by omega
      have hfin : ∀ w', Chg [] wr w' -> Hid (GetPost (s.data (j : Int), 0) w (.returned (.tuple #[.slice a6 rn c6, .int .i64 0])) w') := fun w' hc => LH (by
       refine ⟨⟨_, rfl, ?_, ?_⟩, HR.out.2.2.trans hc (by simp)⟩
       ·have hb := HR.out.1.bytes.chg hc (by simp)
        obtain ⟨a, c, he, h1, h2, h3⟩ := hb
        rw [HS6.out] at he
        obtain rfl := (Value.slice.inj he).1
        obtain rfl := (Value.slice.inj he).2.2
        rw [HDAT.out, <- HM.out, <- HRN.out]
        have hfl := flat_len m (fun k => s.d.now (pos + 1 + k)) (fun i hi => hlen64.out _ (by omega))
        have hlt : ((flat m (fun k => s.d.now (pos + 1 + k))).take rn).length = rn := by rw [List.length_take]; omega
        refine ⟨a6, c6, by dsimp only; rw [hlt], by dsimp only; rw [hlt]; omega, h2, ?_⟩
        rcases h3 with ⟨h3, h4⟩ | ⟨g, o, e, hcell⟩
        ·left
         exact ⟨by rw [h3]; simp, h4⟩
        ·right
         refine ⟨g, o, e, fun x hx => ?_⟩
         rw [hlt] at hx
         rw [getD_take _ _ _ hx]
         exact hcell x (by omega)
       ·intro g hg
        refine HR.out.2.1 g ?_
        rw [HS6.out]
        cases a6 <;> exact hg)
      have HFIN := LH hfin
      clear hfin
      go_wp2_with (go_at_call 38; refine CD2.out.mono ?_; rintro e w' ⟨rfl, hq⟩; subst hq)
      go_ret2
      exact (HFIN.out _ (Chg.refl _ _)).out
 ·have hg : s.get i = ([], 1) := by unfold SS.get; rw [if_pos (by simpa using hi)]
  have HP := LH (fun (w' : World) (hc : Chg [] w w') => GetPost.nil (c := 1) hc)
  rw [decide_eq_false hi] at CH
  have HG := LH hg
  rw [HG.out]
  clear H hi hg
  go_enter Tryz.func144, Tryz.ntmps144
  go_wp2_with (go_at_call 137; refine CH.out.mono ?_; rintro e w' ⟨rfl, hq⟩; subst hq)
  go_ret2
  exact HP.out _ (Chg.refl _ _)
theorem Chg.grownBy {g : Nat} {w w' : World} (h : Chg [g] w w') : w.grownBy w' (some g) := ⟨h.os, h.tape, h.output, h.size, fun k hk hn => h.block k hk (by simpa using fun e : k = g => hn (by rw [e]))⟩
theorem SlotsOk.row {w : World} {q p : Nat} {S U : List Nat} {s : SS} {rv : Value} {R : List (SRow × Value)} (h : SlotsOk w q p S U s rv R) : w.ownsRow 0 192 3 rv R.length (rcells R) := h.obj.rows _ (List.mem_singleton.2 rfl)
theorem SlotsOk.there {w : World} {q p : Nat} {S U : List Nat} {s : SS} {rv : Value} {R : List (SRow × Value)} (h : SlotsOk w q p S U s rv R) (i : Nat) (hi : i < s.rows.length) (g cap : Nat) (hrv : rv = .slice (some ⟨g, 0, none⟩) s.rows.length cap) : w.there g (i * 3) 3 := by
 have hl := h.len
 rcases h.row.2 with ⟨h1, h2⟩ | ⟨g', cap', cur, h1, _, hb, h3, h4, h5, _⟩
 ·omega
 ·rw [hrv] at h1
  obtain ⟨rfl, -, rfl⟩ : g = g' /\ s.rows.length = R.length /\ cap = cap' := by simpa using h1
  intro j hj
  have hlt : i * 3 + j < cur.size := by
   have : (i + 1) * 3 <= cap * 3 := Nat.mul_le_mul_right _ (by omega)
   omega
  exact ⟨by rw [blk_cell hb _ _ (Array.getElem?_eq_getElem hlt)]; rfl, blk_frozen hb _⟩
theorem SlotsOk.setRow {w : World} {q p : Nat} {S U : List Nat} {s : SS} {rv : Value} {R : List (SRow × Value)} (h : SlotsOk w q p S U s rv R) (i : Nat) (hi : i < s.rows.length) (g cap : Nat) (hrv : rv = .slice (some ⟨g, 0, none⟩) s.rows.length cap)
  (r : SRow) (kv : Value) (hk : BytesAt w kv r.key) (hkU : ∀ k, kv.ownBlock = some k -> k < w.heap.size /\ k ∉ U) (hr : r.n <= 448 /\ r.key.length <= 40) :
  Sid w (w.setCells g (i * 3) [.bool r.used, .int .i64 (r.n : Int), kv]) q p U { s with rows := s.rows.set i r } := by
 have hl := h.len
 have hC : Chg [g] w (w.setCells g (i * 3) [.bool r.used, .int .i64 (r.n : Int), kv]) := (Chg.refl _ _).setCells (.inl (by simp)) _
 have hob : rv.ownBlock = some g := by rw [hrv]; rfl
 have hgb : g ∈ blks q [rowD rv R] := blks_row (r := rowD rv R) (List.mem_singleton.2 rfl) hob
 have hgU := h.uB g hgb
 have hrow := h.row
 have hR' : (rowD rv (R.set i (r, kv))).At (w.setCells g (i * 3) [.bool r.used, .int .i64 (r.n : Int), kv]) := by
  show (w.setCells g (i * 3) [.bool r.used, .int .i64 (r.n : Int), kv]).ownsRow 0 192 3 rv (R.set i (r, kv)).length (rcells (R.set i (r, kv)))
  rw [List.length_set, rcells_set R i _ (by omega)]
  rw [hrv, <- hl] at hrow ⊢
  exact row_set (row_set (row_set hrow (i * 3) _ (by omega)) (i * 3 + 1) _ (by omega)) (i * 3 + 2) _ (by omega)
 have hgr := ObjAt.grow (a := []) (b := []) h.obj (r' := rowD rv (R.set i (r, kv))) (by rw [show (rowD rv R).v.ownBlock = some g from hob]; exact hC.grownBy) hR' (fun k hk => .inl hk)
 generalize w.setCells g (i * 3) [.bool r.used, .int .i64 (r.n : Int), kv] = W at *
 have hgu : ∀ x ∈ [g], x ∈ U := fun x hx => (List.mem_singleton.1 hx) ▸ hgU
 have hnot : ∀ k, k ∉ U -> k ∉ [g] := fun k hk hm => hk (hgu k hm)
 refine ⟨U, ⟨S, rv, R.set i (r, kv), hgr.1, h.disk.keep hC (fun x hx hm => ?_), ?_, h.sep, fun x hx => ?_, h.uS, h.uB, fun x hx => Nat.lt_of_lt_of_le (h.uL x hx) hC.size, ⟨?_, fun x hx => ?_⟩⟩, fun x hx => .inl hx, hC.mono (fun x hx => .inl (hgu x hx))⟩
 ·exact h.sep _ hgb (by rw [<- List.mem_singleton.1 hm]; exact hx)
 ·rw [List.map_set, h.rows]
 ·rcases List.mem_or_eq_of_mem_set hx with hx | rfl
  ·obtain ⟨k1, k2⟩ := h.keys x hx
   exact ⟨k1.chg hC (fun k hk => hnot k (k2 k hk).2), fun g' hg' => ⟨Nat.lt_of_lt_of_le (k2 g' hg').1 hC.size, (k2 g' hg').2⟩⟩
  ·exact ⟨hk.chg hC (fun k hk => hnot k (hkU k hk).2), fun g' hg' => ⟨Nat.lt_of_lt_of_le (hkU g' hg').1 hC.size, (hkU g' hg').2⟩⟩
 ·show s.first + 8 * (s.rows.set i r).length <= s.d.n
  rw [List.length_set]
  exact h.ok.room
 ·rcases List.mem_or_eq_of_mem_set hx with hx | rfl
  ·exact h.ok.rows x hx
  ·exact hr
def h1 : List UInt8 × Int := penNum [] 0 1 1
def h2 (n : Nat) : List UInt8 × Int := penNum h1.1 h1.2 n 2
def h3 (n : Nat) (key : List UInt8) : List UInt8 × Int := penRaw (h2 n).1 (h2 n).2 key
theorem h1_eq : h1 = ([1], 0) := rfl
theorem h2_eq (n : Nat) (hn : n <= 448) : h2 n = ([1] ++ beBytes 2 n, 0) := by
 unfold h2
 rw [h1_eq]
 unfold penNum
 dsimp only
 rw [if_neg (by simp), if_neg (by omega)]
 unfold penAdd
 rw [if_neg (by simp), if_neg (by simp [beBytes_len]), Int.toNat_natCast]
theorem h3_eq (n : Nat) (key : List UInt8) (hn : n <= 448) (hk : key.length <= 40) : h3 n key = ([1] ++ beBytes 2 n ++ (beBytes 2 key.length ++ key), 0) := by
 unfold h3
 rw [h2_eq n hn]
 unfold penRaw
 rw [if_neg (by simp), if_neg (by omega)]
 unfold penAdd
 rw [if_neg (by simp), if_neg (by simp [beBytes_len]; omega)]
theorem head_h3 (n : Nat) (key : List UInt8) : headBytes n key = (h3 n key).1 := rfl
theorem headBytes_len (n : Nat) (key : List UInt8) (hn : n <= 448) (hk : key.length <= 40) : (headBytes n key).length = 5 + key.length := by
 rw [head_h3, h3_eq n key hn hk]
 simp [beBytes_len]; omega
theorem DS.lays_ok (d : DS) (pos : Nat) (b : List UInt8) : (d.lays pos b).2.n = d.n /\ (d.lays pos b).2.ops <= d.ops + nsec b.length + 1 /\ (d.lays pos b).2.since.length <= d.since.length + nsec b.length := DS.lay_ok _ _ _ _ _
def SidPost (w : World) (q p : Nat) (U : List Nat) (r : Int × SS) (e : Ending) (w' : World) : Prop := e = .returned (.int .i64 r.1) /\ Sid w w' q p U r.2
theorem SidPost.same {w : World} {q p : Nat} {U : List Nat} {s : SS} {c : Int} (h : SlotsAt w q p U s) : SidPost w q p U (c, s) (.returned (.int .i64 c)) w := ⟨rfl, Sid.same h⟩
theorem SlotsOk.keep0 {w w' : World} {q p : Nat} {S U : List Nat} {s : SS} {rv : Value} {R : List (SRow × Value)} (h : SlotsOk w q p S U s rv R) (hc : Chg [] w w') : SlotsOk w' q p S U s rv R :=
 ⟨h.obj.keep hc (by simp), h.disk.keep hc (by simp), h.rows, h.sep, fun x hx => ⟨(h.keys x hx).1.chg hc (by simp), fun g hg => ⟨Nat.lt_of_lt_of_le ((h.keys x hx).2 g hg).1 hc.size, ((h.keys x hx).2 g hg).2⟩⟩, h.uS, h.uB, fun x hx => Nat.lt_of_lt_of_le (h.uL x hx) hc.size, h.ok⟩
theorem sput_any (q p : Nat) (U : List Nat) (s : SS) (i : Int) (kv bv : Value) (key b : List UInt8) (w : World) (h : SlotsAt w q p U s) (hk : BytesAt w kv key) (hkU : key ≠ [] -> ∀ k, kv.ownBlock = some k -> k ∉ U) (hb : BytesAt w bv b) (hbU : b ≠ [] -> ∀ k, bv.ownBlock = some k -> k ∉ U)
  (hkl : key.length <= 1000000) (hbl : b.length <= 1000000) (ho : s.d.ops <= 900000000) (hw : s.d.since.length <= 900000) :
  Calls Tryz.prog 147 #[.pointer (some ⟨q, 0, none⟩), .int .i64 i, kv, bv] w (SidPost w q p U (s.put i key b)) := by
 have CH := LH (shas_any q p U s i w h)
 have HS := LH h
 have HK := LH hk
 have HB := LH hb
 obtain ⟨S, rv, R, H⟩ := h
 have c0 : w.cell? ⟨q, 0, none⟩ = some (.pointer (some ⟨p, 0, none⟩)) := blk_cell H.obj.head 0 _ rfl
 have c2 : w.cell? ⟨q, 2, none⟩ = some rv := blk_cell H.obj.head 2 _ rfl
 obtain ⟨ka, kc, rfl⟩ := hk.slice
 obtain ⟨ba, bc, rfl⟩ := hb.slice
 by_cases hi : s.has i
 ·rw [decide_eq_true hi] at CH
  have hi' := hi
  obtain ⟨h0, h1⟩ := hi'
  obtain ⟨j, rfl⟩ := Int.eq_ofNat_of_zero_le h0
  have hjl : j < s.rows.length := by omega
  by_cases hlong : 40 < key.length ∨ 448 < b.length
  ·have hg : s.put (j : Int) key b = (3, s) := by unfold SS.put; rw [if_neg (by simpa using hi), if_pos hlong]
   have HP := LH (SidPost.same (c := 3) HS.out)
   have HG := LH hg
   rw [HG.out]
   clear H hi hg hk hb hkU hbU c2
   by_cases hk40 : 40 < key.length
   ·have hz : (40 : Int) < (key.length : Int) := by omega
    clear hlong hk40
    go_enter Tryz.func147, Tryz.ntmps147
    go_wp2_with (go_at_call 137; refine CH.out.mono ?_; rintro e w' ⟨rfl, hq⟩; subst hq)
    go_ret
    exact HP.out
   ·have hz : ¬ (40 : Int) < (key.length : Int) := by omega
    have hz2 : (448 : Int) < (b.length : Int) := by omega
    clear hlong hk40
    go_enter Tryz.func147, Tryz.ntmps147
    go_wp2_with (go_at_call 137; refine CH.out.mono ?_; rintro e w' ⟨rfl, hq⟩; subst hq)
    go_ret
    exact HP.out
  ·obtain ⟨hk40, hb448⟩ : key.length <= 40 /\ b.length <= 448 := by omega
   obtain ⟨g, cap, kv0, hrv, hcap, hcm, hR, k0, k1, k2, k3, k4⟩ := H.at j hjl
   have hfew := H.few
   have hrow : s.row (j : Int) = s.rows.getD j noRow := rfl
   have hz1 : ¬ (40 : Int) < (key.length : Int) := by omega
   have hz2 : ¬ (448 : Int) < (b.length : Int) := by omega
   by_cases hu : (s.row (j : Int)).used = true
   ·have hg : s.put (j : Int) key b = (7, s) := by unfold SS.put; rw [if_neg (by simpa using hi), if_neg hlong, if_pos hu]
    have HP := LH (SidPost.same (c := 7) HS.out)
    have HG := LH hg
    rw [HG.out]
    rw [hrow] at hu
    rw [hu] at k0
    subst hrv
    generalize s.rows.getD j noRow = r at *
    generalize s.rows.length = n at *
    have hjz : (j : Int) < (n : Int) := by omega
    have hjz1 : (j : Int).toNat = j := by omega
    clear H hR k1 k2 k3 k4 hu hg hi hrow hlong hk hb hkU hbU
    go_enter Tryz.func147, Tryz.ntmps147
    go_wp2_with (go_at_call 137; refine CH.out.mono ?_; rintro e w' ⟨rfl, hq⟩; subst hq)
    go_ret
    exact HP.out
   ·have hu' : (s.rows.getD j noRow).used = false := by rw [<- hrow]; simpa using hu
    have hg : s.put (j : Int) key b = if (s.d.lays (s.pos j + 1) b).1 ≠ 0 then ((s.d.lays (s.pos j + 1) b).1, { s with d := (s.d.lays (s.pos j + 1) b).2 }) else
      if ((s.d.lays (s.pos j + 1) b).2.lays (s.pos j) (headBytes b.length key)).1 ≠ 0 then (((s.d.lays (s.pos j + 1) b).2.lays (s.pos j) (headBytes b.length key)).1, { s with d := ((s.d.lays (s.pos j + 1) b).2.lays (s.pos j) (headBytes b.length key)).2 }) else
      (0, { s with d := ((s.d.lays (s.pos j + 1) b).2.lays (s.pos j) (headBytes b.length key)).2, rows := s.rows.set j ⟨true, b.length, key⟩ }) := by
     unfold SS.put
     rw [if_neg (by simpa using hi), if_neg hlong, if_neg hu]
     rfl
    rw [hu'] at k0
    have hpos : s.pos (j : Int) = s.first + 8 * j := rfl
    have hroom := H.ok.room
    have hns : nsec b.length <= 7 := by unfold nsec; omega
    have hns2 : nsec (headBytes b.length key).length = 1 := by rw [headBytes_len _ _ hb448 hk40]; unfold nsec; omega
    have CA := LH (sat_any q p U s j w HS.out (by omega))
    have CL1 := LH (slay_any q p U s (s.pos j + 1) _ b w HS.out HB.out hbU (by omega) (by omega) (by omega) (by omega))
    have CA2 : Hid (∀ U' d' w', SlotsAt w' q p U' { s with d := d' } -> Calls Tryz.prog 162 #[.pointer (some ⟨q, 0, none⟩), .int .i64 (j : Int)] w' fun e w'' => e = .returned (.int .i64 ((s.pos (j : Int) : Nat) : Int)) /\ w' = w'') := LH (fun U' d' w' h' => sat_any q p U' { s with d := d' } j w' h' (by omega))
    have CL2 := LH (fun U' d' v w' (h' : SlotsAt w' q p U' { s with d := d' }) (hn : d'.n = s.d.n) (hv : BytesAt w' v (headBytes b.length key)) hvU ho' hw' => slay_any q p U' { s with d := d' } (s.pos j) v (headBytes b.length key) w' h' hv hvU (by rw [hns2]; show _ <= d'.n; omega) (by rw [headBytes_len _ _ hb448 hk40]; omega) ho' hw')
    have hok1 := s.d.lays_ok (s.pos j + 1) b
    have hok2 := (s.d.lays (s.pos j + 1) b).2.lays_ok (s.pos j) (headBytes b.length key)
    rw [hns2] at hok2
    obtain ⟨Z, hZ⟩ : ∃ Z, Z = s.put (j : Int) key b := ⟨_, rfl⟩
    rw [<- hZ] at hg ⊢
    have HKU := LH hkU
    have HBU := LH hbU
    have HN2 := LH hns2
    have hjz : (j : Int) < (s.rows.length : Int) := by omega
    have hjz1 : (j : Int).toNat = j := by omega
    have hpl : s.pos (j : Int) <= 4160 := by omega
    subst hrv
    have H3 : Hid ((h2 b.length).2 = 0 /\ (h3 b.length key).2 = 0) := LH ⟨by rw [h2_eq _ hb448], by rw [h3_eq _ _ hb448 hk40]⟩
    clear H hR k1 k2 k3 k4 hu hu' hi hrow hlong hk hb hkU hbU hpos hroom hns2 hZ
    generalize s.d.lays (s.pos j + 1) b = z1 at *
    obtain ⟨r1, d1⟩ := z1
    dsimp only at CL1 CL2 hok1 hok2 hg
    obtain ⟨pos, hps⟩ : ∃ pos, pos = s.pos (j : Int) := ⟨_, rfl⟩
    rw [<- hps] at CL1 CL2 CA CA2 hpl hok2 hg
    have HG := LH hg
    clear hg
    have HPS := LH hps
    obtain ⟨n, hn⟩ : ∃ n, n = s.rows.length := ⟨_, rfl⟩
    rw [<- hn] at c2 hjz hcap hjl
    have HN := LH hn
    clear hps hn h1 hfew
    go_enter Tryz.func147, Tryz.ntmps147
    go_wp2_with (first
     | (go_at_call 137; refine CH.out.mono ?_; rintro e w' ⟨rfl, hq⟩; subst hq)
     | (go_at_call 162; refine CA.out.mono ?_; rintro e w' ⟨rfl, hq⟩; subst hq))
    refine CL1.out.mono ?_
    rintro e w1 ⟨rfl, hs1⟩
    by_cases hr1 : r1 = 0
    ·subst hr1
     have HG1 := LH HG.out
     rw [if_neg (show ¬ (0 : Int) ≠ 0 by simp)] at HG1
     obtain ⟨U1, hS1, hU1, hC1⟩ := hs1
     obtain ⟨w2, hw2⟩ : ∃ w2, w2 = w1.alloc (.cells #[.slice none 0 0, .int .i64 0] 110) := ⟨_, rfl⟩
     have hc2 : Chg [] w1 w2 := by rw [hw2]; exact (Chg.refl _ _).alloc _
     have hp2 : PenAt 110 w2 w1.heap.size none [] 0 := ⟨.slice none 0 0, by rw [hw2]; exact heap_alloc_new w1 _, BRow.nil _, rfl, by simp, by simp⟩
     have HS1 := LH hS1
     have HU1 := LH hU1
     have HC1 := LH hC1
     have HW2 := LH hw2
     have CN1 := LH (pnum_any w1.heap.size none [] 0 1 1 w2 hp2 (by omega) (by omega))
     rw [show penNum [] 0 1 (1 : Int).toNat = h1 from rfl] at CN1
     have HC2 := LH hc2
     clear hS1 hU1 hC1 hw2 hp2 hc2 CL1
     go_wp2_with fail
     rw [<- HW2.out]
     refine CN1.out.mono ?_
     rintro e w3 ⟨rfl, hw3⟩
     obtain ⟨g3, hp3, hg3, hc3⟩ := hw3
     have HC3 : Hid (Chg [] w1 w3) := LH (HC2.out.trans hc3 (fun x hx => .inr (by
      have : x = w1.heap.size := by simpa using hx
      omega)))
     have hge3 : ∀ k, g3 = some k -> w1.heap.size <= k := by
      intro k hk
      rcases hg3 with rfl | ⟨k', rfl, h'⟩
      ·cases hk
      ·obtain rfl : k' = k := by simpa using hk
       exact Nat.le_trans HC2.out.size h'
     have CN2 := LH (pnum_any w1.heap.size g3 h1.1 h1.2 (b.length : Int) 2 w3 hp3 (by omega) (by omega))
     rw [show penNum h1.1 h1.2 (b.length : Int) (2 : Int).toNat = h2 b.length from rfl] at CN2
     have HGE3 := LH hge3
     clear hp3 hg3 hc3 hge3 CN1
     go_wp2_with fail
     refine CN2.out.mono ?_
     rintro e w4 ⟨rfl, hw4⟩
     obtain ⟨g4, hp4, hg4, hc4⟩ := hw4
     have HC4 : Hid (Chg [] w1 w4) := LH (HC3.out.trans hc4 (fun x hx => .inr (by
      rcases List.mem_cons.1 hx with rfl | hx
      ·exact Nat.le_refl _
      ·exact HGE3.out x (by simpa using hx))))
     have hge4 : ∀ k, g4 = some k -> w1.heap.size <= k := by
      intro k hk
      rcases hg4 with rfl | ⟨k', rfl, h'⟩
      ·exact HGE3.out k hk
      ·obtain rfl : k' = k := by simpa using hk
       exact Nat.le_trans HC3.out.size h'
     have hkey4 : BytesAt w4 (.slice ka key.length kc) key := (HK.out.chgW HC1.out HKU.out).chg HC4.out (by simp)
     have CR := LH (praw_any w1.heap.size g4 (h2 b.length).1 (h2 b.length).2 _ key w4 hp4 hkey4 (by omega))
     rw [show penRaw (h2 b.length).1 (h2 b.length).2 key = h3 b.length key from rfl] at CR
     have HGE4 := LH hge4
     clear hp4 hg4 hc4 hge4 CN2 hkey4
     go_wp2_with fail
     refine CR.out.mono ?_
     rintro e w5 ⟨rfl, hw5⟩
     obtain ⟨g5, hp5, hg5, hc5⟩ := hw5
     have HC5 : Hid (Chg [] w1 w5) := LH (HC4.out.trans hc5 (fun x hx => .inr (by
      rcases List.mem_cons.1 hx with rfl | hx
      ·exact Nat.le_refl _
      ·exact HGE4.out x (by simpa using hx))))
     rw [H3.out.2] at hp5
     have CB := LH (pbytes_any w1.heap.size g5 (h3 b.length key).1 w5 hp5)
     rw [<- head_h3] at CB
     clear hp5 hg5 hc5 CR
     go_wp2_with fail
     refine CB.out.mono ?_
     rintro e w6 ⟨v6, rfl, hr6, ho6, hc6⟩
     have HC6 : Hid (Chg [] w1 w6) := LH (HC5.out.trans hc6 (by simp))
     have hS6 : SlotsAt w6 q p U1 { s with d := d1 } := HS1.out.keep0 HC6.out
     have hv6 : headBytes b.length key ≠ [] -> ∀ k, v6.ownBlock = some k -> k ∉ U1 := fun _ k hk hm => by
      have a1 := ho6 k hk
      obtain ⟨_, _, _, H1⟩ := HS1.out
      have a2 := H1.uL k hm
      have a3 := HC5.out.size
      omega
     have CAT := LH (CA2.out U1 d1 w6 hS6)
     have CL := LH (CL2.out U1 d1 v6 w6 hS6 hok1.1 hr6.bytes hv6 (by rw [HN2.out]; show d1.ops + 1 + 1 <= _; omega) (by rw [HN2.out]; show d1.since.length + 1 <= _; omega))
     clear CL2 CA2 hS6 hv6 hr6 ho6 hc6 CB
     generalize d1.lays pos (headBytes b.length key) = z2 at *
     obtain ⟨r2, d2⟩ := z2
     dsimp only at CL hok2 HG1
     go_wp2_with (go_at_call 162; refine CAT.out.mono ?_; rintro e w' ⟨rfl, hq⟩; subst hq)
     refine CL.out.mono ?_
     rintro e w7 ⟨rfl, hs7⟩
     have hs7' := Sid.glue HU1.out HC1.out (Sid.pre HC6.out hs7)
     by_cases hr2 : r2 = 0
     ·subst hr2
      rw [if_neg (show ¬ (0 : Int) ≠ 0 by simp)] at HG1
      obtain ⟨U7, ⟨S7, rv7, R7, H7⟩, hU7, hC7⟩ := hs7'
      have c07 : w7.cell? ⟨q, 0, none⟩ = some (.pointer (some ⟨p, 0, none⟩)) := blk_cell H7.obj.head 0 _ rfl
      obtain ⟨g7, cap7, kv7, hrv7, hcap7, hcm7, hR7, _, _, _, _, _⟩ := H7.at j (by rw [HN.out] at hjl; exact hjl)
      have c27 : w7.cell? ⟨q, 2, none⟩ = some rv7 := blk_cell H7.obj.head 2 _ rfl
      rw [show ({ s with d := d2 } : SS).rows.length = s.rows.length from rfl, <- HN.out] at hrv7 hcap7
      have CC := LH (clone_any _ key w7.drew ((HK.out.chgW hC7 HKU.out).chg (by exact (Chg.refl [] w7).drew) (by simp)) (by omega))
      have HH7 := LH H7
      have HU7 := LH hU7
      have HC7 := LH hC7
      have HRV : Hid (∃ x, x = rv7 /\ x = .slice (some ⟨g7, 0, none⟩) n cap7) := LH ⟨rv7, rfl, hrv7⟩
      subst hrv7
      clear H7 hU7 hC7 hs7 hR7 CL CAT
      go_wp2_with fail
      refine wp_region_L [(11, fun w' => w'.cell? ⟨q, 2, none⟩ = some (.slice (some ⟨g7, 0, none⟩) n cap7))] (by kernel_rfl) ?_ (fun hHeld => ?_)
      ·exact (HoldC.cons (c27) HoldC.nil)
      refine tk 0 ?_ rfl (by kernel_rfl) (fun _ _ _ h => h) (.inl ⟨by rfl, ?_⟩) hHeld ?_; rotate_left; · (intro w _; go_simp; try with_reducible rfl)
      clear hHeld; intro hHeld; try simp only [gA,gB,gC,Act.put,gD,gE,gF]
      refine tk 1 ?_ rfl (by kernel_rfl) (fun _ _ _ h => h) (.inl ⟨by rfl, ?_⟩) hHeld ?_; rotate_left; · (intro w _; go_simp; try with_reducible rfl)
      clear hHeld; intro hHeld; try simp only [gA,gB,gC,Act.put,gD,gE,gF]
      refine tk 2 ?_ rfl (by kernel_rfl) (fun _ _ _ h => h) (.inl ⟨by rfl, ?_⟩) hHeld ?_; rotate_left; · (intro w _; go_simp; try with_reducible rfl)
      clear hHeld; intro hHeld; try simp only [gA,gB,gC,Act.put,gD,gE,gF]
      refine ld 0 3 ?_ rfl rfl (by kernel_rfl) (fun _ _ _ h => h) (.inl ⟨by rfl, ?_⟩) hHeld ?_; rotate_left; · (intro w hSw; (try dsimp only at hSw); go_simp; try with_reducible rfl)
      clear hHeld; intro hHeld; try simp only [gA,gB,gC,Act.put,gD,gE,gF]
      refine tk 4 ?_ rfl (by kernel_rfl) (fun _ _ _ h => h) (.inl ⟨by rfl, ?_⟩) hHeld ?_; rotate_left; · (intro w _; go_simp; try with_reducible rfl)
      clear hHeld; intro hHeld; try simp only [gA,gB,gC,Act.put,gD,gE,gF]
      refine tk 5 ?_ rfl (by kernel_rfl) (fun _ _ _ h => h) (.inl ⟨by rfl, ?_⟩) hHeld ?_; rotate_left; · (intro w _; go_simp; try with_reducible rfl)
      clear hHeld; intro hHeld; try simp only [gA,gB,gC,Act.put,gD,gE,gF]
      refine tk 6 ?_ rfl (by kernel_rfl) (fun _ _ _ h => h) (.inl ⟨by rfl, ?_⟩) hHeld ?_; rotate_left; · (intro w _; go_simp; try with_reducible rfl)
      clear hHeld; intro hHeld; try simp only [gA,gB,gC,Act.put,gD,gE,gF]
      refine tk 7 ?_ rfl (by kernel_rfl) (fun _ _ _ h => h) (.inl ⟨by rfl, ?_⟩) hHeld ?_; rotate_left; · (intro w _; go_simp; try with_reducible rfl)
      clear hHeld; intro hHeld; try simp only [gA,gB,gC,Act.put,gD,gE,gF]
      refine wpAnyL_ready (rs := [8]) (by kernel_rfl) (by simp) (AllReadyL.cons (o := _) rfl (fun K hK => ?_) AllReadyL.nil)
      try simp only [gA,gB,gC]
      go_simp
      refine CC.out.mono ?_
      rintro e w8 ⟨v8, rfl, hr8, ho8, hc8⟩
      have HC8 : Hid (Chg [] w7 w8) := LH ((by exact (Chg.refl [] w7).drew : Chg [] w7 w7.drew).trans hc8 (by simp))
      obtain ⟨a8, c8, rfl⟩ := hr8.bytes.slice
      have H8 := HH7.out.keep0 HC8.out
      have HSR := LH (H8.setRow j (by rw [HN.out] at hjl; exact hjl) g7 cap7 (by rw [HN.out]) ⟨true, b.length, key⟩ _ hr8.bytes (fun k hk => ⟨hr8.lt k hk, fun hm => by
       have a1 := ho8 k hk
       have a2 := HH7.out.uL k hm
       have a3 : w7.drew.heap.size = w7.heap.size := rfl
       omega⟩) ⟨hb448, hk40⟩)
      have TH := LH (H8.there j (by rw [HN.out] at hjl; exact hjl) g7 cap7 (by rw [HN.out]))
      clear H8 hr8 ho8 hc8 CC
      have c28 := HC8.out.cell c27 (by simp)
      try go_wp2_with fail
      clear hHeld
      refine hK.out _ _ ?_ (fun hHeld => ?_)
      ·exact (HoldC.cons (c28) HoldC.nil)
      clear hK K
      try simp only [gA,gB,gC,Act.put,gD,gE,gF]
      refine tk 9 ?_ rfl (by kernel_rfl) (fun _ _ _ h => h) (.inl ⟨by rfl, ?_⟩) hHeld ?_; rotate_left; · (intro w _; go_simp; try with_reducible rfl)
      clear hHeld; intro hHeld; try simp only [gA,gB,gC,Act.put,gD,gE,gF]
      refine tk 10 ?_ rfl (by kernel_rfl) (fun _ _ _ h => h) (.inl ⟨by rfl, ?_⟩) hHeld ?_; rotate_left; · (intro w _; go_simp; try with_reducible rfl)
      clear hHeld; intro hHeld; try simp only [gA,gB,gC,Act.put,gD,gE,gF]
      refine wpAnyL_ready (rs := [11]) (by kernel_rfl) (by simp) (AllReadyL.cons (o := _) rfl (fun K hK => ?_) AllReadyL.nil)
      try simp only [gA,gB,gC]
      rw [if_pos (by rfl)]
      refine wp_store_mid 192 (.tmp 92) (.tmp 91) (by rfl) g7 (j * 3) #[.bool true, .int .i64 (b.length : Int), .slice a8 key.length c8] (by rfl) (by rfl) TH.out (by kernel_rfl) (by simp [Value.oneCell']) ?_
      clear hHeld
      refine hK.out _ _ ?_ (fun hHeld => ?_)
      ·exact (HoldC.past (by kernel_rfl) HoldC.nil)
      clear hK K
      try simp only [gA,gB,gC,Act.put,gD,gE,gF]
      refine wpAnyL_done (by kernel_rfl) ?_ _
      clear hHeld
      go_wp2
      go_ret
      rw [HG1.out]
      exact ⟨rfl, Sid.glue HU7.out HC7.out (Sid.pre HC8.out HSR.out)⟩
     ·have q2 : (r2 != 0) = true := by simp [hr2]
      have HG2 : Hid (Z = (r2, { s with d := d2 })) := LH (by rw [HG1.out, if_pos hr2])
      have HS7 := LH hs7'
      clear hs7' hs7 hr2
      go_wp2
      go_ret
      rw [HG2.out]
      exact ⟨rfl, HS7.out⟩
    ·have q1 : (r1 != 0) = true := by simp [hr1]
     have HG1 : Hid (Z = (r1, { s with d := d1 })) := LH (by rw [HG.out, if_pos hr1])
     have HS1 := LH hs1
     clear hs1 CL1 CL2 hr1
     go_wp2
     go_ret
     rw [HG1.out]
     exact ⟨rfl, HS1.out⟩
 ·have hg : s.put i key b = (1, s) := by unfold SS.put; rw [if_pos (by simpa using hi)]
  have HP := LH (SidPost.same (c := 1) HS.out)
  rw [decide_eq_false hi] at CH
  have HG := LH hg
  rw [HG.out]
  clear H hi hg hk hb hkU hbU c2
  go_enter Tryz.func147, Tryz.ntmps147
  go_wp2_with (go_at_call 137; refine CH.out.mono ?_; rintro e w' ⟨rfl, hq⟩; subst hq)
  go_ret
  exact HP.out
theorem sclear_any (q p : Nat) (U : List Nat) (s : SS) (i : Int) (w : World) (h : SlotsAt w q p U s) (ho : s.d.ops <= 900000000) (hw : s.d.since.length <= 900000) :
  Calls Tryz.prog 148 #[.pointer (some ⟨q, 0, none⟩), .int .i64 i] w (SidPost w q p U (s.clear i)) := by
 have CH := LH (shas_any q p U s i w h)
 have HS := LH h
 obtain ⟨S, rv, R, H⟩ := h
 have c0 : w.cell? ⟨q, 0, none⟩ = some (.pointer (some ⟨p, 0, none⟩)) := blk_cell H.obj.head 0 _ rfl
 have c2 : w.cell? ⟨q, 2, none⟩ = some rv := blk_cell H.obj.head 2 _ rfl
 by_cases hi : s.has i
 ·rw [decide_eq_true hi] at CH
  have hi' := hi
  obtain ⟨h0, h1⟩ := hi'
  obtain ⟨j, rfl⟩ := Int.eq_ofNat_of_zero_le h0
  have hjl : j < s.rows.length := by omega
  obtain ⟨g, cap, kv0, hrv, hcap, hcm, hR, k0, k1, k2, k3, k4⟩ := H.at j hjl
  have hfew := H.few
  have hrow : s.row (j : Int) = s.rows.getD j noRow := rfl
  by_cases hu : (s.row (j : Int)).used = false
  ·have hg : s.clear (j : Int) = (6, s) := by unfold SS.clear; rw [if_neg (by simpa using hi), if_pos hu]
   have HP := LH (SidPost.same (c := 6) HS.out)
   have HG := LH hg
   rw [HG.out]
   rw [hrow] at hu
   rw [hu] at k0
   subst hrv
   generalize s.rows.getD j noRow = r at *
   generalize s.rows.length = n at *
   have hjz : (j : Int) < (n : Int) := by omega
   have hjz1 : (j : Int).toNat = j := by omega
   clear H hR k1 k2 k3 k4 hu hg hi hrow
   go_enter Tryz.func148, Tryz.ntmps148
   go_wp2_with (go_at_call 137; refine CH.out.mono ?_; rintro e w' ⟨rfl, hq⟩; subst hq)
   go_ret
   exact HP.out
  ·have hu' : (s.rows.getD j noRow).used = true := by rw [<- hrow]; simpa using hu
   have hg : s.clear (j : Int) = if (s.d.lays (s.pos j) (zeros 64)).1 ≠ 0 then ((s.d.lays (s.pos j) (zeros 64)).1, { s with d := (s.d.lays (s.pos j) (zeros 64)).2 }) else
         (0, { s with d := (s.d.lays (s.pos j) (zeros 64)).2, rows := s.rows.set j noRow }) := by
    unfold SS.clear
    rw [if_neg (by simpa using hi), if_neg hu]
    rfl
   rw [hu'] at k0
   have hpos : s.pos (j : Int) = s.first + 8 * j := rfl
   have hroom := H.ok.room
   have hns : nsec (zeros 64).length = 1 := rfl
   have hzl : (zeros 64).length = 64 := rfl
   have CA : Hid (∀ w', SlotsAt w' q p U s -> Calls Tryz.prog 162 #[.pointer (some ⟨q, 0, none⟩), .int .i64 (j : Int)] w' fun e w'' => e = .returned (.int .i64 ((s.pos (j : Int) : Nat) : Int)) /\ w' = w'') := LH (fun w' h' => sat_any q p U s j w' h' (by omega))
   have CL : Hid (∀ w', SlotsAt w' q p U s -> ∀ N, w'.heap[N]? = some (.cells Z64 5 (0, 0)) -> N ∉ U -> Calls Tryz.prog 163 #[.pointer (some ⟨q, 0, none⟩), .int .i64 ((s.pos (j : Int) : Nat) : Int), .slice (some ⟨N, 0, none⟩) 64 64] w' fun e w'' => e = .returned (.int .i64 (s.d.lays (s.pos j) (zeros 64)).1) /\ Sid w' w'' q p U { s with d := (s.d.lays (s.pos j) (zeros 64)).2 }) := LH (fun w' h' N hN hNU => by
    have hr : BRow w' (.slice (some ⟨N, 0, none⟩) (zeros 64).length (zeros 64).length) (zeros 64) := row_of_block hN (by rw [hzl]; unfold maxLen; omega)
    rw [hzl] at hr
    exact slay_any q p U s (s.pos j) _ (zeros 64) w' h' hr.bytes (fun _ k hk => by
     obtain rfl : N = k := by simpa [Value.ownBlock] using hk
     exact hNU) (by rw [hns]; omega) (by rw [hzl]; omega) (by rw [hns]; omega) (by rw [hns]; omega))
   have hok1 := s.d.lays_ok (s.pos j) (zeros 64)
   obtain ⟨Z, hZ⟩ : ∃ Z, Z = s.clear (j : Int) := ⟨_, rfl⟩
   rw [<- hZ] at hg ⊢
   have hjz : (j : Int) < (s.rows.length : Int) := by omega
   have hjz1 : (j : Int).toNat = j := by omega
   have hpl : s.pos (j : Int) <= 4160 := by omega
   subst hrv
   have HUL := LH H.uL
   clear H hR k1 k2 k3 k4 hu hu' hi hrow hpos hroom hns hzl hZ
   generalize s.d.lays (s.pos j) (zeros 64) = z1 at *
   obtain ⟨r1, d1⟩ := z1
   dsimp only at CL hok1 hg
   obtain ⟨pos, hps⟩ : ∃ pos, pos = s.pos (j : Int) := ⟨_, rfl⟩
   rw [<- hps] at CL CA hpl
   have HG := LH hg
   obtain ⟨n, hn⟩ : ∃ n, n = s.rows.length := ⟨_, rfl⟩
   rw [<- hn] at c2 hjz hcap hjl
   have HN := LH hn
   have hmk := make_64
   have HC0 := LH c0
   have HC2 := LH c2
   clear hps hn h1 hfew hg
   go_enter Tryz.func148, Tryz.ntmps148
   go_wp2_with (go_at_call 137; refine CH.out.mono ?_; rintro e w' ⟨rfl, hq⟩; subst hq)
   have HSD := LH (HS.out.keep0 (by exact (Chg.refl [] w).drew))
   have HC6 : Hid (Chg [] w (w.drew.alloc (.cells Z64 5))) := LH (by exact ((Chg.refl [] w).drew).alloc _)
   have HSA := LH (HS.out.keep0 HC6.out)
   have CL1 := LH (CL.out _ HSA.out w.drew.heap.size (heap_alloc_new w.drew _) (fun hm => by
    have a1 := HUL.out _ hm
    have a2 : w.drew.heap.size = w.heap.size := rfl
    omega))
   go_wp2_with fail
   refine wp_region_L [] (by kernel_rfl) ?_ (fun hHeld => ?_)
   ·exact HoldC.nil
   refine tk 0 ?_ rfl (by kernel_rfl) (fun _ _ _ h => h) (.inl ⟨by rfl, ?_⟩) hHeld ?_; rotate_left; · (intro w _; go_simp; try with_reducible rfl)
   clear hHeld; intro hHeld; try simp only [gA,gB,gC,Act.put,gD,gE,gF]
   refine tk 1 ?_ rfl (by kernel_rfl) (fun _ _ _ h => h) (.inl ⟨by rfl, ?_⟩) hHeld ?_; rotate_left; · (intro w _; go_simp; try with_reducible rfl)
   clear hHeld; intro hHeld; try simp only [gA,gB,gC,Act.put,gD,gE,gF]
   refine tk 2 ?_ rfl (by kernel_rfl) (fun _ _ _ h => h) (.inl ⟨by rfl, ?_⟩) hHeld ?_; rotate_left; · (intro w _; go_simp; try with_reducible rfl)
   clear hHeld; intro hHeld; try simp only [gA,gB,gC,Act.put,gD,gE,gF]
   refine wpAnyL_ready (rs := [3, 4]) (by kernel_rfl) (by simp) ?_
   refine AllReadyL.cons (o := _) rfl (fun K hK => ?_) (AllReadyL.cons (o := _) rfl (fun K hK => ?_) AllReadyL.nil)
   ·try simp only [gA,gB,gC]
    go_simp
    refine (CA.out w.drew HSD.out).mono ?_
    rintro e w' ⟨rfl, hq⟩
    subst hq
    try go_wp2_with fail
    clear hHeld
    refine hK.out _ _ ?_ (fun hHeld => ?_)
    ·exact HoldC.nil
    clear hK K
    try simp only [gA,gB,gC,Act.put,gD,gE,gF]
    refine wpAnyL_ready (rs := [4]) (by kernel_rfl) (by simp) (AllReadyL.cons (o := _) rfl (fun K hK => ?_) AllReadyL.nil)
    try simp only [gA,gB,gC]
    go_simp
    clear hHeld
    refine hK.out _ _ ?_ (fun hHeld => ?_)
    ·exact HoldC.nil
    clear hK K
    try simp only [gA,gB,gC,Act.put,gD,gE,gF]
    refine wpAnyL_ready (rs := [5]) (by kernel_rfl) (by simp) (AllReadyL.cons (o := _) rfl (fun K hK => ?_) AllReadyL.nil)
    try simp only [gA,gB,gC]
    go_simp
    refine CL1.out.mono ?_
    rintro e w7 ⟨rfl, hs7⟩
    have hs7' := Sid.pre HC6.out hs7
    try go_wp2_with fail
    clear hHeld
    refine hK.out _ _ ?_ (fun hHeld => ?_)
    ·exact HoldC.nil
    clear hK K
    try simp only [gA,gB,gC,Act.put,gD,gE,gF]
    refine tk 6 ?_ rfl (by kernel_rfl) (fun _ _ _ h => h) (.inl ⟨by rfl, ?_⟩) hHeld ?_; rotate_left; · (intro w _; go_simp; try with_reducible rfl)
    clear hHeld; intro hHeld; try simp only [gA,gB,gC,Act.put,gD,gE,gF]
    refine wpAnyL_done (by kernel_rfl) ?_ _
    clear hHeld
    by_cases hr1 : r1 = 0
    ·subst hr1
     have HG1 := LH HG.out
     rw [if_neg (show ¬ (0 : Int) ≠ 0 by simp)] at HG1
     obtain ⟨U7, ⟨S7, rv7, R7, H7⟩, hU7, hC7⟩ := hs7'
     have c27 : w7.cell? ⟨q, 2, none⟩ = some rv7 := blk_cell H7.obj.head 2 _ rfl
     obtain ⟨g7, cap7, kv7, hrv7, hcap7, hcm7, hR7, _, _, _, _, _⟩ := H7.at j (by rw [HN.out] at hjl; exact hjl)
     rw [show ({ s with d := d1 } : SS).rows.length = s.rows.length from rfl, <- HN.out] at hrv7 hcap7
     have HSR := LH (H7.setRow j (by rw [HN.out] at hjl; exact hjl) g7 cap7 (by rw [hrv7, HN.out]) noRow (.slice none 0 0) (BytesAt.nil _) (by simp [Value.ownBlock]) ⟨by decide, by decide⟩)
     have TH := LH (H7.there j (by rw [HN.out] at hjl; exact hjl) g7 cap7 (by rw [hrv7, HN.out]))
     have HU7 := LH hU7
     have HC7 := LH hC7
     subst hrv7
     clear H7 hU7 hC7 hs7 hR7 CL CL1
     go_wp2_with (refine wpList_store_mid (by rfl) 192 (.tmp 46) (.tmp 45) (by rfl) g7 (j * 3) #[.bool false, .int .i64 0, .slice none 0 0] (by rfl) (by rfl) TH.out (by kernel_rfl) (by simp [Value.oneCell']) ?_)
     go_ret
     rw [HG1.out]
     exact ⟨rfl, Sid.glue HU7.out HC7.out HSR.out⟩
    ·have q1 : (r1 != 0) = true := by simp [hr1]
     have HG1 : Hid (Z = (r1, { s with d := d1 })) := LH (by rw [HG.out, if_pos hr1])
     have HS7 := LH hs7'
     clear hs7' hs7 hr1 CL CL1
     go_wp2
     go_ret
     rw [HG1.out]
     exact ⟨rfl, HS7.out⟩
   ·try simp only [gA,gB,gC]
    go_simp
    clear hHeld
    refine hK.out _ _ ?_ (fun hHeld => ?_)
    ·exact HoldC.nil
    clear hK K
    try simp only [gA,gB,gC,Act.put,gD,gE,gF]
    refine wpAnyL_ready (rs := [3]) (by kernel_rfl) (by simp) (AllReadyL.cons (o := _) rfl (fun K hK => ?_) AllReadyL.nil)
    try simp only [gA,gB,gC]
    go_simp
    refine (CA.out _ HSA.out).mono ?_
    rintro e w' ⟨rfl, hq⟩
    subst hq
    try go_wp2_with fail
    clear hHeld
    refine hK.out _ _ ?_ (fun hHeld => ?_)
    ·exact HoldC.nil
    clear hK K
    try simp only [gA,gB,gC,Act.put,gD,gE,gF]
    refine wpAnyL_ready (rs := [5]) (by kernel_rfl) (by simp) (AllReadyL.cons (o := _) rfl (fun K hK => ?_) AllReadyL.nil)
    try simp only [gA,gB,gC]
    go_simp
    refine CL1.out.mono ?_
    rintro e w7 ⟨rfl, hs7⟩
    have hs7' := Sid.pre HC6.out hs7
    try go_wp2_with fail
    clear hHeld
    refine hK.out _ _ ?_ (fun hHeld => ?_)
    ·exact HoldC.nil
    clear hK K
    try simp only [gA,gB,gC,Act.put,gD,gE,gF]
    refine tk 6 ?_ rfl (by kernel_rfl) (fun _ _ _ h => h) (.inl ⟨by rfl, ?_⟩) hHeld ?_; rotate_left; · (intro w _; go_simp; try with_reducible rfl)
    clear hHeld; intro hHeld; try simp only [gA,gB,gC,Act.put,gD,gE,gF]
    refine wpAnyL_done (by kernel_rfl) ?_ _
    clear hHeld
    by_cases hr1 : r1 = 0
    ·subst hr1
     have HG1 := LH HG.out
     rw [if_neg (show ¬ (0 : Int) ≠ 0 by simp)] at HG1
     obtain ⟨U7, ⟨S7, rv7, R7, H7⟩, hU7, hC7⟩ := hs7'
     have c27 : w7.cell? ⟨q, 2, none⟩ = some rv7 := blk_cell H7.obj.head 2 _ rfl
     obtain ⟨g7, cap7, kv7, hrv7, hcap7, hcm7, hR7, _, _, _, _, _⟩ := H7.at j (by rw [HN.out] at hjl; exact hjl)
     rw [show ({ s with d := d1 } : SS).rows.length = s.rows.length from rfl, <- HN.out] at hrv7 hcap7
     have HSR := LH (H7.setRow j (by rw [HN.out] at hjl; exact hjl) g7 cap7 (by rw [hrv7, HN.out]) noRow (.slice none 0 0) (BytesAt.nil _) (by simp [Value.ownBlock]) ⟨by decide, by decide⟩)
     have TH := LH (H7.there j (by rw [HN.out] at hjl; exact hjl) g7 cap7 (by rw [hrv7, HN.out]))
     have HU7 := LH hU7
     have HC7 := LH hC7
     subst hrv7
     clear H7 hU7 hC7 hs7 hR7 CL CL1
     go_wp2_with (refine wpList_store_mid (by rfl) 192 (.tmp 46) (.tmp 45) (by rfl) g7 (j * 3) #[.bool false, .int .i64 0, .slice none 0 0] (by rfl) (by rfl) TH.out (by kernel_rfl) (by simp [Value.oneCell']) ?_)
     go_ret
     rw [HG1.out]
     exact ⟨rfl, Sid.glue HU7.out HC7.out HSR.out⟩
    ·have q1 : (r1 != 0) = true := by simp [hr1]
     have HG1 : Hid (Z = (r1, { s with d := d1 })) := LH (by rw [HG.out, if_pos hr1])
     have HS7 := LH hs7'
     clear hs7' hs7 hr1 CL CL1
     go_wp2
     go_ret
     rw [HG1.out]
     exact ⟨rfl, HS7.out⟩
 ·have hg : s.clear i = (1, s) := by unfold SS.clear; rw [if_pos (by simpa using hi)]
  have HP := LH (SidPost.same (c := 1) HS.out)
  rw [decide_eq_false hi] at CH
  have HG := LH hg
  rw [HG.out]
  clear H hi hg c2
  go_enter Tryz.func148, Tryz.ntmps148
  go_wp2_with (go_at_call 137; refine CH.out.mono ?_; rintro e w' ⟨rfl, hq⟩; subst hq)
  go_ret
  exact HP.out
end Go.Proofs.YtdkhmfcfihbjeaaGreatDoor.W
/- Package slot: what Open makes. -/
namespace Go.Proofs.YtdkhmfcfihbjeaaGreatDoor.W
open Go.RowKit
theorem assertB_nil (w : World) : (Instr.typeAssert .nilIface 20 186 true).run Tryz.prog w = .ok (.tuple #[.agg #[.int .i64 0], .bool false]) w := by kernel_rfl
theorem assertB_give (x : Int) (w : World) : (Instr.typeAssert (.iface 186 (.agg #[.int .i64 x])) 20 186 true).run Tryz.prog w = .ok (.tuple #[.agg #[.int .i64 x], .bool true]) w := by kernel_rfl
theorem catchB_idle (pa pb : Value) (w : World) :
  CallsD Tryz.prog 134 #[pa, pb] .returning w fun e u' w' => e = .returned (.tuple #[]) /\ u' = .returning /\ w' = w.alloc (.cells #[.int .i64 0] 186) := by
 have hta := assertB_nil
 refine callsD_of_wpS Tryz.func134 rfl fun c₀ cs hu => ?_
 rw [Tryz.ntmps134]
 change Code.wpS Tryz.prog _ _ ⟨#[pa, pb, undef, undef, undef, undef, undef, undef, undef, undef, undef, undef, undef, undef, undef], []⟩ _ _
 apply wpS_seq
 apply wpS_region
 simp [wpOpsS, go_sem, recoverD, hu, Exit.thenS, hta]
 apply wpS_seq
 apply wpS_region
 simp [wpOpsS, go_sem, Exit.thenS]
 refine wpS_cond (t := false) (by simp [Act.eval]) ?_
 simp only [Bool.false_eq_true, if_false]
 refine wpS_of_wp (wp_skip ?_)
 cases c₀
 simp_all [bodyPostS, results, Tryz.results134]
theorem catchB_14 (pa pb : Nat) (v1 v2 : Value) (older : List PanicEntry) (w : World) (ha : w.heap[pa]? = some (.cells #[v1] 95 (0, 0))) (hb : w.heap[pb]? = some (.cells #[v2] 26 (0, 0))) (hne : pa ≠ pb) :
  CallsD Tryz.prog 134 #[.pointer (some ⟨pa, 0, none⟩), .pointer (some ⟨pb, 0, none⟩)] (.panicking ({ v := .iface 186 (.agg #[.int .i64 14]), recovered := false } :: older)) w fun e u' w' =>
   e = .returned (.tuple #[]) /\ u' = .panicking ({ v := .iface 186 (.agg #[.int .i64 14]), recovered := true } :: older) /\ Chg [pa, pb] w w' /\ w'.heap[pa]? = some (.cells #[.pointer none] 95 (0, 0)) /\ w'.heap[pb]? = some (.cells #[.int .i64 14] 26 (0, 0)) := by
 have hta := assertB_give 14
 have ha0 := blk_cell ha 0 _ rfl
 have hb0 := blk_cell hb 0 _ rfl
 have fa0 := blk_frozen ha 0
 have fb0 := blk_frozen hb 0
 have l1 := blk_lt ha
 have l2 := blk_lt hb
 have l3 : ¬ (pa = w.heap.size) := Nat.ne_of_lt l1
 have l4 : ¬ (pb = w.heap.size) := Nat.ne_of_lt l2
 have l5 : ¬ (w.heap.size = pa) := fun e => l3 e.symm
 have l6 : ¬ (w.heap.size = pb) := fun e => l4 e.symm
 have l7 : ¬ (pb = pa) := fun e => hne e.symm
 have HA := LH ha
 have HB := LH hb
 clear ha hb
 refine callsD_of_wpS Tryz.func134 rfl fun c₀ cs hu => ?_
 rw [Tryz.ntmps134]
 change Code.wpS Tryz.prog _ _ ⟨#[_, _, undef, undef, undef, undef, undef, undef, undef, undef, undef, undef, undef, undef, undef], []⟩ _ _
 apply wpS_seq
 apply wpS_region
 simp [wpOpsS, go_sem, recoverD, hu, Exit.thenS, hta]
 apply wpS_seq
 apply wpS_region
 simp [wpOpsS, go_sem, Exit.thenS]
 refine wpS_cond (t := true) (by simp [Act.eval]) ?_
 simp only [if_true]
 refine wpS_of_wp ?_
 go_wp2
 refine ⟨rfl, _, rfl, .tuple #[], by simp [results, Tryz.results134], rfl, rfl, ?_, ?_, ?_⟩
 ·exact ((((Chg.refl [pa, pb] w).setCell (p := ⟨pa, 0, none⟩) (.inl (by simp)) _).setCell (p := ⟨pb, 0, none⟩) (.inl (by simp)) _).setCell (p := ⟨pb, 0, none⟩) (.inl (by simp)) _).alloc _
 ·exact blk_alloc (blk_sets (blk_sets (set_blk HA.out) hne) hne)
 ·exact blk_alloc (set_blk (set_blk (blk_sets HB.out l7)))
theorem catchB_x (pa pb : Nat) (x : Int) (hx : x ≠ 14) (v1 v2 : Value) (older : List PanicEntry) (w : World) (ha : w.heap[pa]? = some (.cells #[v1] 95 (0, 0))) (hb : w.heap[pb]? = some (.cells #[v2] 26 (0, 0))) (hne : pa ≠ pb) :
  CallsD Tryz.prog 134 #[.pointer (some ⟨pa, 0, none⟩), .pointer (some ⟨pb, 0, none⟩)] (.panicking ({ v := .iface 186 (.agg #[.int .i64 x]), recovered := false } :: older)) w fun e u' w' =>
   e = .returned (.tuple #[]) /\ u' = .panicking ({ v := .iface 186 (.agg #[.int .i64 x]), recovered := true } :: older) /\ Chg [pa, pb] w w' /\ w'.heap[pa]? = some (.cells #[.pointer none] 95 (0, 0)) /\ w'.heap[pb]? = some (.cells #[.int .i64 4] 26 (0, 0)) := by
 have hta := assertB_give x
 have q14 : (x == 14) = false := by simp [hx]
 have ha0 := blk_cell ha 0 _ rfl
 have hb0 := blk_cell hb 0 _ rfl
 have fa0 := blk_frozen ha 0
 have fb0 := blk_frozen hb 0
 have l1 := blk_lt ha
 have l2 := blk_lt hb
 have l3 : ¬ (pa = w.heap.size) := Nat.ne_of_lt l1
 have l4 : ¬ (pb = w.heap.size) := Nat.ne_of_lt l2
 have l5 : ¬ (w.heap.size = pa) := fun e => l3 e.symm
 have l6 : ¬ (w.heap.size = pb) := fun e => l4 e.symm
 have l7 : ¬ (pb = pa) := fun e => hne e.symm
 have HA := LH ha
 have HB := LH hb
 clear ha hb hx
 refine callsD_of_wpS Tryz.func134 rfl fun c₀ cs hu => ?_
 rw [Tryz.ntmps134]
 change Code.wpS Tryz.prog _ _ ⟨#[_, _, undef, undef, undef, undef, undef, undef, undef, undef, undef, undef, undef, undef, undef], []⟩ _ _
 apply wpS_seq
 apply wpS_region
 simp [wpOpsS, go_sem, recoverD, hu, Exit.thenS, hta]
 apply wpS_seq
 apply wpS_region
 simp [wpOpsS, go_sem, Exit.thenS]
 refine wpS_cond (t := true) (by simp [Act.eval]) ?_
 simp only [if_true]
 refine wpS_of_wp ?_
 go_wp2
 refine ⟨rfl, _, rfl, .tuple #[], by simp [results, Tryz.results134], rfl, rfl, ?_, ?_, ?_⟩
 ·exact (((Chg.refl [pa, pb] w).setCell (p := ⟨pa, 0, none⟩) (.inl (by simp)) _).setCell (p := ⟨pb, 0, none⟩) (.inl (by simp)) _).alloc _
 ·exact blk_alloc (blk_sets (set_blk HA.out) hne)
 ·exact blk_alloc (set_blk (blk_sets HB.out l7))
end Go.Proofs.YtdkhmfcfihbjeaaGreatDoor.W
namespace Go.Proofs.YtdkhmfcfihbjeaaGreatDoor.W
open Go.RowKit
def rowsFrom (d : DS) (first : Nat) : Nat -> Nat -> Option (List SRow)
 | 0, _ => some []
 | m + 1, k => match headOf (d.now (first + 8 * k)) with
  | none => none
  | some r => (rowsFrom d first m (k + 1)).map (r :: ·)
def DS.slots (d : DS) (first : Int) : Int × Option SS :=
 if first < 0 ∨ (d.n : Int) < first then (1, none) else if d.dead = true ∨ d.n = 0 then (14, none) else
 match rowsFrom d first.toNat ((d.n - first.toNat) / 8) 0 with
 | none => (4, none)
 | some rows => (0, some ⟨d, first.toNat, rows⟩)
def OpenPost (p : Nat) (S : List Nat) (w : World) (r : Int × Option SS) (e : Ending) (w' : World) : Prop := Chg [] w w' /\ match r with
 | (c, none) => e = .returned (.tuple #[.pointer none, .int .i64 c])
 | (c, some s) => ∃ q U, e = .returned (.tuple #[.pointer (some ⟨q, 0, none⟩), .int .i64 c]) /\ SlotsAt w' q p U s /\ ∀ x ∈ U, x ∈ S ∨ w.heap.size <= x
theorem headOf_ok {b : List UInt8} {r : SRow} (h : headOf b = some r) : r.n <= 448 /\ r.key.length <= 40 := by
 unfold headOf at h
 split at h
 ·obtain rfl := Option.some.inj h
  exact ⟨by decide, by decide⟩
 ·split at h
  ·cases h
  ·rename_i hn
   obtain rfl := Option.some.inj h
   have hn0 := eyeNum_nonneg (eyeNum b 0 1).2.1 (eyeNum b 0 1).2.2 2
   refine ⟨by dsimp only; omega, ?_⟩
   dsimp only
   unfold eyeRaw
   split
   ·simp
   ·split
    ·simp
    ·split
     ·simp
     ·split
      ·simp
      ·rw [List.length_take]; omega
theorem rowsFrom_len {d : DS} {first : Nat} : ∀ (m k : Nat) (rows : List SRow), rowsFrom d first m k = some rows -> rows.length = m /\ ∀ r ∈ rows, r.n <= 448 /\ r.key.length <= 40 := by
 intro m
 induction m with
 | zero => intro k rows h; obtain rfl := Option.some.inj h; simp
 | succ m ih =>
  intro k rows h
  unfold rowsFrom at h
  cases hh : headOf (d.now (first + 8 * k)) with
  | none => rw [hh] at h; cases h
  | some r =>
   rw [hh] at h
   dsimp only at h
   obtain ⟨t, h1, rfl⟩ := Option.map_eq_some_iff.1 h
   obtain ⟨h2, h3⟩ := ih _ _ h1
   refine ⟨by simp [h2], fun x hx => ?_⟩
   rcases List.mem_cons.1 hx with rfl | hx
   ·exact headOf_ok hh
   ·exact h3 x hx
structure OpenAt (w wr : World) (pa pb q p : Nat) (first : Nat) (rv : Value) (R : List (SRow × Value)) : Prop where
 chg : Chg [] w wr
 lo : w.heap.size <= pa /\ w.heap.size <= pb
 ca : wr.heap[pa]? = some (.cells #[.pointer (some ⟨q, 0, none⟩)] 95 (0, 0))
 cb : wr.heap[pb]? = some (.cells #[.int .i64 0] 26 (0, 0))
 obj : ObjAt wr q 190 #[.pointer (some ⟨p, 0, none⟩), .int .i64 (first : Int), rv] [rowD rv R]
 new : ∀ x ∈ blks q [rowD rv R], w.heap.size <= x /\ x ≠ pa /\ x ≠ pb
 keys : ∀ x ∈ R, BytesAt wr x.2 x.1.key /\ ∀ g, x.2.ownBlock = some g -> g < wr.heap.size /\ w.heap.size <= g /\ g ∉ blks q [rowD rv R] /\ g ≠ pa /\ g ≠ pb
theorem OpenAt.keep {w wr w' : World} {pa pb q p first : Nat} {rv : Value} {R : List (SRow × Value)} (h : OpenAt w wr pa pb q p first rv R) (hc : Chg [] wr w') : OpenAt w w' pa pb q p first rv R :=
 ⟨h.chg.trans hc (by simp), h.lo, hc.keep h.ca (by simp), hc.keep h.cb (by simp), h.obj.keep hc (by simp), h.new, fun x hx => ⟨(h.keys x hx).1.chg hc (by simp), fun g hg => ⟨Nat.lt_of_lt_of_le ((h.keys x hx).2 g hg).1 hc.size, ((h.keys x hx).2 g hg).2⟩⟩⟩
theorem OpenAt.more {w wr w2 : World} {pa pb q p first : Nat} {rv rv' : Value} {R : List (SRow × Value)} (h : OpenAt w wr pa pb q p first rv R) (x : SRow × Value) (hg : wr.grownBy w2 rv.ownBlock) (hrow : w2.ownsRow 0 192 3 rv' (R.length + 1) (rcells R ++ rcell x))
  (hat : ∀ k, rv'.ownBlock = some k -> rv.ownBlock = some k ∨ (wr.heap.size <= k)) (hx : BytesAt wr x.2 x.1.key) (hxU : ∀ g, x.2.ownBlock = some g -> g < wr.heap.size /\ w.heap.size <= g /\ g ∉ blks q [rowD rv R] /\ g ≠ pa /\ g ≠ pb) :
  OpenAt w (w2.setCell ⟨q, 2, none⟩ rv') pa pb q p first rv' (R ++ [x]) := by
 have hR' : (rowD rv' (R ++ [x])).At w2 := by
  show w2.ownsRow 0 192 3 rv' (R ++ [x]).length (rcells (R ++ [x]))
  rw [List.length_append, rcells_app]
  exact hrow
 obtain ⟨g1, g2, g3⟩ := ObjAt.grow (a := []) (b := []) h.obj hg hR' hat
 simp only [List.nil_append] at g1 g2 g3
 have g4 := g1.setHead 2 rv'
 have hne := h.new
 have hpa : pa ∉ blks q [rowD rv R] := fun hm => (hne pa hm).2.1 rfl
 have hpb : pb ∉ blks q [rowD rv R] := fun hm => (hne pb hm).2.2 rfl
 have hqa : pa ≠ q := fun e => (hne q blks_head).2.1 e.symm
 have hqb : pb ≠ q := fun e => (hne q blks_head).2.2 e.symm
 have hc : Chg (blks q [rowD rv R]) wr (w2.setCell ⟨q, 2, none⟩ rv') := g3.setCell (p := ⟨q, 2, none⟩) (.inl blks_head) rv'
 have hbw : ∀ x ∈ blks q [rowD rv R], w.heap.size <= x := fun x hx => (hne x hx).1
 have hla := blk_lt h.ca
 have hlb := blk_lt h.cb
 refine ⟨h.chg.trans hc (fun x hx => .inr (hbw x hx)), h.lo, hc.keep h.ca hpa, hc.keep h.cb hpb, g4, fun x hx => ?_, fun y hy => ?_⟩
 ·rcases g2 x hx with h1 | h1
  ·exact hne x h1
  ·exact ⟨Nat.le_trans h.chg.size h1, fun e => by rw [e] at h1; omega, fun e => by rw [e] at h1; omega⟩
 ·have hout : ∀ g, g < wr.heap.size -> g ∉ blks q [rowD rv R] -> g ∉ blks q [rowD rv' (R ++ [x])] := fun g h1 h2 hm => by
   rcases g2 g hm with h3 | h3
   ·exact h2 h3
   ·omega
  rcases List.mem_append.1 hy with hy | hy
  ·obtain ⟨k1, k2⟩ := h.keys y hy
   exact ⟨k1.chg hc (fun k hk => (k2 k hk).2.2.1), fun g hg => ⟨Nat.lt_of_lt_of_le (k2 g hg).1 hc.size, (k2 g hg).2.1, hout g (k2 g hg).1 (k2 g hg).2.2.1, (k2 g hg).2.2.2⟩⟩
  ·obtain rfl : y = x := by simpa using hy
   exact ⟨hx.chg hc (fun k hk => (hxU k hk).2.2.1), fun g hg => ⟨Nat.lt_of_lt_of_le (hxU g hg).1 hc.size, (hxU g hg).2.1, hout g (hxU g hg).1 (hxU g hg).2.2.1, (hxU g hg).2.2.2⟩⟩
theorem OpenAt.done {w wr : World} {pa pb q p first : Nat} {S : List Nat} {d : DS} {rv : Value} {R : List (SRow × Value)} (h : OpenAt w wr pa pb q p first rv R) (hd : DiskAt w p S d) (hok : SS.Ok ⟨d, first, R.map (·.1)⟩) :
  ∀ w', Chg [pa, pb] wr w' -> Chg [] w w' /\ SlotsAt w' q p (S ++ blks q [rowD rv R]) ⟨d, first, R.map (·.1)⟩ /\ ∀ x ∈ S ++ blks q [rowD rv R], x ∈ S ∨ w.heap.size <= x := fun w' hc => by
 have hlim : ∀ x ∈ S, x < w.heap.size := by
  obtain ⟨gn, gl, cn, cl, v, H⟩ := hd
  exact H.lim
 have hnp : ∀ x ∈ blks q [rowD rv R], x ∉ [pa, pb] := fun x hx hm => by
  rcases List.mem_cons.1 hm with h1 | h1
  ·exact (h.new x hx).2.1 h1
  ·exact (h.new x hx).2.2 (by simpa using h1)
 have hcw : Chg [] w w' := h.chg.trans hc (fun x hx => .inr (by
  rcases List.mem_cons.1 hx with h1 | h1
  ·rw [h1]; exact h.lo.1
  ·rw [show x = pb by simpa using h1]; exact h.lo.2))
 refine ⟨hcw, ⟨S, rv, R, h.obj.keep hc hnp, hd.keep hcw (by simp), rfl, fun x hx hm => ?_, fun x hx => ?_, fun x hx => List.mem_append_left _ hx, fun x hx => List.mem_append_right _ hx, fun x hx => ?_, hok⟩, fun x hx => ?_⟩
 ·have a1 := (h.new x hx).1
  have a2 := hlim x hm
  omega
 ·obtain ⟨k1, k2⟩ := h.keys x hx
  refine ⟨k1.chg hc (fun k hk hm => ?_), fun g hg => ⟨Nat.lt_of_lt_of_le (k2 g hg).1 hc.size, fun hm => ?_⟩⟩
  ·obtain ⟨_, _, _, k3, k4⟩ := k2 k hk
   rcases List.mem_cons.1 hm with h1 | h1
   ·exact k3 h1
   ·exact k4 (by simpa using h1)
  ·obtain ⟨_, k3, k4, _⟩ := k2 g hg
   rcases List.mem_append.1 hm with hm | hm
   ·have := hlim g hm; omega
   ·exact k4 hm
 ·rcases List.mem_append.1 hx with hx | hx
  ·exact Nat.lt_of_lt_of_le (hlim x hx) hcw.size
  ·exact Nat.lt_of_lt_of_le (h.obj.lim x hx) hc.size
 ·rcases List.mem_append.1 hx with hx | hx
  ·exact .inl hx
  ·exact .inr (h.new x hx).1
theorem facts_row : (Tryz.prog.info? 192).map (fun i => (i.zero.map (·.cells.size), i.size, i.bytes)) = some (some 3, 3, 40) := by kernel_rfl
end Go.Proofs.YtdkhmfcfihbjeaaGreatDoor.W
namespace Go.Proofs.YtdkhmfcfihbjeaaGreatDoor.W
open Go.RowKit
theorem sopen_bad (p : Nat) (S : List Nat) (d : DS) (first : Int) (w : World) (h : DiskAt w p S d) (hb : first < 0 ∨ (d.n : Int) < first) :
  Calls Tryz.prog 91 #[.pointer (some ⟨p, 0, none⟩), .int .i64 first] w (OpenPost p S w (d.slots first)) := by
 have hg : d.slots first = (1, none) := by unfold DS.slots; rw [if_pos hb]
 rw [hg]
 have CS := LH (fun w' (hc : Chg [] w w') => dsectors_any p S d w' (h.keep hc (by simp)))
 clear h hg
 by_cases h0 : first < 0
 ·clear hb
  go_enter_defers Tryz.func91, Tryz.ntmps91
  go_wp2_with fail
  exact ⟨.tuple #[.pointer none, .int .i64 1], by simp [results, Tryz.results91, go_sem], ((Chg.refl _ _).alloc _).alloc _, rfl⟩
 ·have h1 : (d.n : Int) < first := by omega
  clear hb
  go_enter_defers Tryz.func91, Tryz.ntmps91
  go_wp2_with (go_at_call 78; refine (CS.out _ ?_).mono ?_; first | exact ((Chg.refl _ _).alloc _).alloc _ | skip; rintro e w' ⟨rfl, hq⟩; subst hq)
  exact ⟨.tuple #[.pointer none, .int .i64 1], by simp [results, Tryz.results91, go_sem], ((Chg.refl _ _).alloc _).alloc _, rfl⟩
theorem sopen_dead (p : Nat) (S : List Nat) (d : DS) (first : Int) (w : World) (h : DiskAt w p S d) (hb : ¬ (first < 0 ∨ (d.n : Int) < first)) (hd : d.dead = true ∨ d.n = 0) :
  Calls Tryz.prog 91 #[.pointer (some ⟨p, 0, none⟩), .int .i64 first] w (OpenPost p S w (d.slots first)) := by
 have hg : d.slots first = (14, none) := by unfold DS.slots; rw [if_neg hb, if_pos hd]
 rw [hg]
 obtain ⟨w2, hw2⟩ : ∃ w2, w2 = (w.alloc (.cells #[.pointer none] 95)).alloc (.cells #[.int .i64 0] 26) := ⟨_, rfl⟩
 have hc2 : Chg [] w w2 := by rw [hw2]; exact ((Chg.refl _ _).alloc _).alloc _
 have CS := LH (dsectors_any p S d w2 (h.keep hc2 (by simp)))
 have CD := LH (ddead_any p S d w2 (h.keep hc2 (by simp)))
 have hpa : w2.heap[w.heap.size]? = some (.cells #[.pointer none] 95 (0, 0)) := by rw [hw2]; exact blk_alloc (heap_alloc_new w _)
 have hpb : w2.heap[w.heap.size + 1]? = some (.cells #[.int .i64 0] 26 (0, 0)) := by
  rw [hw2]
  have := heap_alloc_new (w.alloc (.cells #[.pointer none] 95)) (.cells #[.int .i64 0] 26)
  simpa using this
 have CP := LH (catchB_14 w.heap.size (w.heap.size + 1) _ _ [] w2 hpa hpb (by omega))
 have h0 : ¬ first < 0 := by omega
 have h1 : ¬ (d.n : Int) < first := by omega
 have hmf : ∀ (fn : Fn) (first cap : Array Value) (w : World), (Instr.makeFunc fn first cap).run Tryz.prog w = .ok (.func fn first cap) w := fun _ _ _ _ => rfl
 have HW2 := LH hw2
 have HC2 := LH hc2
 clear h hg hb hpa hpb hw2 hc2
 by_cases hdd : d.dead = true
 ·rw [hdd] at CD
  clear hd hdd
  go_enter_defers Tryz.func91, Tryz.ntmps91
  go_wp2_with (first
   | (go_at_call 78; rw [<- HW2.out]; refine CS.out.mono ?_; rintro e w' ⟨rfl, hq⟩; subst hq)
   | (go_at_call 78; refine CS.out.mono ?_; rintro e w' ⟨rfl, hq⟩; subst hq)
   | (go_at_call 38; refine CD.out.mono ?_; rintro e w' ⟨rfl, hq⟩; subst hq))
  refine leaves_cons (f := 134) (args := #[.pointer (some ⟨w.heap.size, 0, none⟩), .pointer (some ⟨w.heap.size + 1, 0, none⟩)]) (by simp) (by simp [go_sem]) ?_
  refine CP.out.mono ?_
  rintro e u' w'' ⟨rfl, rfl, hc, ha, hb⟩
  exact ⟨.tuple #[.pointer none, .int .i64 14], by simp [results, Tryz.results91, go_sem, blk_cell ha 0 _ rfl, blk_cell hb 0 _ rfl], HC2.out.trans hc (fun x hx => .inr (by simp at hx; omega)), rfl⟩
 ·have hdn : d.n = 0 := hd.resolve_left hdd
  have hdf : d.dead = false := by simpa using hdd
  rw [hdf] at CD
  have HDN := LH hdn
  rw [hdn] at CS h1
  clear hd hdd hdn hdf
  go_enter_defers Tryz.func91, Tryz.ntmps91
  go_wp2_with (first
   | (go_at_call 78; rw [<- HW2.out]; refine CS.out.mono ?_; rintro e w' ⟨rfl, hq⟩; subst hq)
   | (go_at_call 78; refine CS.out.mono ?_; rintro e w' ⟨rfl, hq⟩; subst hq)
   | (go_at_call 38; refine CD.out.mono ?_; rintro e w' ⟨rfl, hq⟩; subst hq))
  refine leaves_cons (f := 134) (args := #[.pointer (some ⟨w.heap.size, 0, none⟩), .pointer (some ⟨w.heap.size + 1, 0, none⟩)]) (by simp) (by simp [go_sem]) ?_
  refine CP.out.mono ?_
  rintro e u' w'' ⟨rfl, rfl, hc, ha, hb⟩
  exact ⟨.tuple #[.pointer none, .int .i64 14], by simp [results, Tryz.results91, go_sem, blk_cell ha 0 _ rfl, blk_cell hb 0 _ rfl], HC2.out.trans hc (fun x hx => .inr (by simp at hx; omega)), rfl⟩
theorem wp_app_row {o : Oper} {a : Act} {K : Act -> World -> Prop} {Q : Exit -> Act -> World -> Prop} (s y : Operand) (ho : o.op = .call { callee := .builtin .append, args := #[s, y], argTypes := #[188, 188] })
  {w wr : World} {pa pb q p first : Nat} {rv : Value} {R : List (SRow × Value)} (h : OpenAt w wr pa pb q p first rv R) (x : SRow × Value) (hx : BytesAt wr x.2 x.1.key) (hxU : ∀ g, x.2.ownBlock = some g -> g < wr.heap.size /\ w.heap.size <= g /\ g ∉ blks q [rowD rv R] /\ g ≠ pa /\ g ≠ pb)
  (hl : R.length <= 1000000) (hs : a.eval s = rv) (hy : a.eval y = .slice (some ⟨wr.heap.size, 0, none⟩) 1 1)
  (hk : ∀ g cap w2, w2.cell? ⟨pa, 0, none⟩ = some (.pointer (some ⟨q, 0, none⟩)) -> w2.cell? ⟨q, 2, none⟩ = some rv -> w2.frozen? ⟨q, 2, none⟩ = false -> q < w2.heap.size -> Hid (OpenAt w (w2.setCell ⟨q, 2, none⟩ (.slice (some ⟨g, 0, none⟩) (R.length + 1) cap)) pa pb q p first (.slice (some ⟨g, 0, none⟩) (R.length + 1) cap) (R ++ [x])) -> K (a.put o.dst (.slice (some ⟨g, 0, none⟩) (R.length + 1) cap)) w2) :
  Oper.wp Tryz.prog o a (wr.alloc (.cells (rcell x).toArray 192)) K Q := by
 obtain ⟨i, z, hi, hz, h1, h2, h3⟩ := info_three facts_row
 have hrow : wr.ownsRow 0 192 3 rv R.length (rcells R) := h.obj.rows _ (List.mem_singleton.2 rfl)
 obtain ⟨ka, kc, hkv⟩ := hx.slice
 have hrow' : (wr.alloc (.cells (rcell x).toArray 192)).ownsRow 0 192 3 rv R.length (rcells R) := hrow.alloc _
 refine wp_append_lies _ s y 188 ho 0 192 i z 3 40 Tryz.underlying188 hi hz h2 h3 h1 (by omega) rv R.length (rcells R) hs hrow' ⟨wr.heap.size, 0, none⟩ 1 1 (rcell x) hy rfl
  (fun j u hj => by rw [add_none, Nat.zero_add]; exact blk_cell (heap_alloc_new wr _) j u (by simpa using hj)) (fun u hu => by
   unfold rcell at hu
   rw [hkv] at hu
   rcases List.mem_cons.1 hu with rfl | hu
   ·rfl
   ·rcases List.mem_cons.1 hu with rfl | hu
    ·rfl
    ·obtain rfl := List.mem_singleton.1 hu
     rfl) (by omega) (by unfold maxLen; omega) (by omega) (Nat.zero_le _) _ rfl ?_
 intro g cap w2 hrow hg hat hlt
 have hg' : wr.grownBy w2 rv.ownBlock := grownBy_trans (World.grownBy_alloc wr _ _) hg
 have hkeep : ∀ k, k < wr.heap.size -> rv.ownBlock ≠ some k -> w2.heap[k]? = wr.heap[k]? := fun k h1 h2 => hg'.block k h1 (fun e => h2 e.symm)
 have hrb : ∀ k, rv.ownBlock = some k -> k ∈ blks q [rowD rv R] := fun k hk => blks_row (r := rowD rv R) (List.mem_singleton.2 rfl) hk
 have hq := (hkeep q (blk_lt h.obj.head) (fun e => (h.obj.row_ne (r := rowD rv R) (List.mem_singleton.2 rfl) e) rfl)).trans h.obj.head
 have hpa := (hkeep pa (blk_lt h.ca) (fun e => (h.new _ (hrb _ e)).2.1 rfl)).trans h.ca
 refine hk g cap w2 (blk_cell hpa 0 _ rfl) (blk_cell hq 2 _ rfl) (blk_frozen hq 2) (blk_lt hq) (LH (h.more x hg' hrow (fun k hk => ?_) hx hxU))
 obtain rfl : g = k := by simpa [Value.ownBlock] using hk
 rcases hat with h4 | h4
 ·exact .inl h4
 ·exact .inr (by rw [h4]; simp)
theorem leaves_put {P : Program} {fn : Func} {R : Ending -> World -> Prop} (i : Nat) (v : Value) (hres : ∀ t : Array Value, results fn (t.setIfInBounds i v) = results fn t) :
  ∀ (ds : List Deferred) (u : FrameMode) (w : World) (t : Array Value), Leaves P fn (t.setIfInBounds i v) R ds u w -> Leaves P fn t R ds u w := by
 intro ds
 induction ds with
 | nil =>
  intro u w t h
  cases u with
  | run => exact h
  | returning =>
   obtain ⟨x, h1, h2⟩ := h
   exact ⟨x, by rw [hres] at h1; exact h1, h2⟩
  | panicking c => exact h
 | cons d ds ih =>
  intro u w t h
  obtain ⟨h0, fv, cap, f, args, h1, h2, h3⟩ := h
  refine ⟨h0, fv, cap, f, args, h1, h2, h3.mono ?_⟩
  intro e u' w' hr
  cases e with
  | returned x => exact ih _ _ _ hr
  | panicked c => exact ih _ _ _ hr
  | outgrown => exact hr
theorem open_res (i : Nat) (v : Value) (h4 : i ≠ 4) (h5 : i ≠ 5) (t : Array Value) : results Tryz.f91 (t.setIfInBounds i v) = results Tryz.f91 t := by
 unfold results
 rw [Tryz.results91]
 simp [Array.getElem?_setIfInBounds_ne h4, Array.getElem?_setIfInBounds_ne h5]
theorem openQ {R : Ending -> World -> Prop} (i : Nat) (v : Value) (h4 : i ≠ 4) (h5 : i ≠ 5) (c : List PanicEntry) (a : Act) (w : World) (h : bodyPostD Tryz.prog Tryz.f91 R (.panic c) (a.put (some i) v) w) : bodyPostD Tryz.prog Tryz.f91 R (.panic c) a w :=
 leaves_put i v (open_res i v h4 h5) _ _ _ _ h
theorem sopen_live (p : Nat) (S : List Nat) (d : DS) (first : Nat) (w : World) (h : DiskAt w p S d) (hb : first <= d.n) (hd : d.dead = false) (hn : d.n ≠ 0) :
  Calls Tryz.prog 91 #[.pointer (some ⟨p, 0, none⟩), .int .i64 (first : Int)] w (OpenPost p S w (d.slots first)) := by
 have hg : d.slots first = match rowsFrom d first ((d.n - first) / 8) 0 with
   | none => (4, none)
   | some rows => (0, some ⟨d, first, rows⟩) := by
  unfold DS.slots
  rw [if_neg (by omega), if_neg (by simp [hd, hn])]
  rfl
 obtain ⟨w2, hw2⟩ : ∃ w2, w2 = (w.alloc (.cells #[.pointer none] 95)).alloc (.cells #[.int .i64 0] 26) := ⟨_, rfl⟩
 obtain ⟨w3, hw3⟩ : ∃ w3, w3 = (w2.setCell ⟨w.heap.size, 0, none⟩ (.pointer (some ⟨w.heap.size + 2, 0, none⟩))).alloc (.cells #[.pointer (some ⟨p, 0, none⟩), .int .i64 (first : Int), .slice none 0 0] 190) := ⟨_, rfl⟩
 have hc2 : Chg [] w w2 := by rw [hw2]; exact ((Chg.refl _ _).alloc _).alloc _
 have CS := LH (fun w' (hc : Chg [] w w') => dsectors_any p S d w' (h.keep hc (by simp)))
 have CD := LH (ddead_any p S d w2 (h.keep hc2 (by simp)))
 have CR := LH (fun k w' (hc : Chg [] w w') => dread_any p S d k w' (h.keep hc (by simp)))
 have hs2 : w2.heap.size = w.heap.size + 2 := by rw [hw2]; simp
 have hpa : w2.heap[w.heap.size]? = some (.cells #[.pointer none] 95 (0, 0)) := by rw [hw2]; exact blk_alloc (heap_alloc_new w _)
 have hpb : w2.heap[w.heap.size + 1]? = some (.cells #[.int .i64 0] 26 (0, 0)) := by
  rw [hw2]
  have := heap_alloc_new (w.alloc (.cells #[.pointer none] 95)) (.cells #[.int .i64 0] 26)
  simpa using this
 have hs2' : (w2.setCell ⟨w.heap.size, 0, none⟩ (.pointer (some ⟨w.heap.size + 2, 0, none⟩))).heap.size = w.heap.size + 2 := by rw [<- hs2]; simp [World.setCell]
 have hq2 : ((w2.setCell ⟨w.heap.size, 0, none⟩ (.pointer (some ⟨w.heap.size + 2, 0, none⟩))).alloc (.cells #[.pointer (some ⟨p, 0, none⟩), .int .i64 (first : Int), .slice none 0 0] 190)).heap[w.heap.size + 2]? = some (.cells #[.pointer (some ⟨p, 0, none⟩), .int .i64 (first : Int), .slice none 0 0] 190 (0, 0)) := by
  have h1 := heap_alloc_new (w2.setCell ⟨w.heap.size, 0, none⟩ (.pointer (some ⟨w.heap.size + 2, 0, none⟩))) (.cells #[.pointer (some ⟨p, 0, none⟩), .int .i64 (first : Int), .slice none 0 0] 190)
  rw [hs2'] at h1
  exact h1
 have HO3 : Hid (OpenAt w w3 w.heap.size (w.heap.size + 1) (w.heap.size + 2) p first (.slice none 0 0) []) := LH (by
  rw [hw3]
  refine ⟨((hc2.setCell (p := ⟨w.heap.size, 0, none⟩) (.inr (Nat.le_refl _)) _).alloc _), ⟨Nat.le_refl _, by omega⟩, blk_alloc (set_blk hpa), blk_alloc (blk_sets hpb (by omega)), ⟨hq2, fun r hr => ?_, by simp [blks, rowD, Value.ownBlock]⟩, fun x hx => ?_, fun x hx => by cases hx⟩
  ·obtain rfl : r = rowD (.slice none 0 0) [] := by simpa using hr
   exact ⟨rfl, .inl ⟨rfl, rfl⟩⟩
  ·have : x = w.heap.size + 2 := by simpa [blks, rowD, Value.ownBlock] using hx
   omega)
 have hfew : d.n <= 4160 := by
  obtain ⟨gn, gl, cn, cl, v, hd⟩ := h
  exact hd.few
 have hlen64 : Hid (∀ k, k < d.n -> (d.now k).length = 64) := LH (by
  obtain ⟨gn, gl, cn, cl, v, hd⟩ := h
  exact fun k hk => hd.now.len k hk)
 have h0 : ¬ (first : Int) < 0 := by omega
 have h1 : ¬ (d.n : Int) < (first : Int) := by omega
 have hnz : ¬ (d.n : Int) = 0 := by omega
 have hnz1 : ((d.n : Int) == 0) = false := by simp [hn]
 have hmf : ∀ (fn : Fn) (first cap : Array Value) (w : World), (Instr.makeFunc fn first cap).run Tryz.prog w = .ok (.func fn first cap) w := fun _ _ _ _ => rfl
 have HDK := LH h
 have HW2 := LH hw2
 have HW3 := LH hw3
 have HC2 := LH hc2
 have f0 := blk_frozen hpa 0
 have a0 := blk_cell hpa 0 _ rfl
 have l0 := blk_lt hpa
 have hw2z := hs2
 have HG := LH hg
 rw [hd] at CD
 have HD := LH hd
 have HPA := LH hpa
 have HPB := LH hpb
 obtain ⟨Z, hZ⟩ : ∃ Z, Z = d.slots first := ⟨_, rfl⟩
 rw [<- hZ] at HG ⊢
 obtain ⟨m, hm⟩ : ∃ m, m = (d.n - first) / 8 := ⟨_, rfl⟩
 rw [<- hm] at HG
 obtain ⟨n, hnn⟩ : ∃ n, n = d.n := ⟨_, rfl⟩
 have HN := LH hnn
 rw [<- hnn] at h1 hnz hnz1 hfew hb CS hm
 have hm8 : first + 8 * m <= n /\ n < first + 8 * m + 8 := by omega
 clear h hg hw2 hw3 hc2 hpa hpb hq2 hs2' hd hZ hn hnn hm
 go_enter_defers Tryz.func91, Tryz.ntmps91
 go_wp2_with (first
   | (go_at_call 78; rw [<- HW2.out]; refine (CS.out _ HC2.out).mono ?_; rintro e w' ⟨rfl, hq⟩; subst hq)
   | (go_at_call 78; refine (CS.out _ HC2.out).mono ?_; rintro e w' ⟨rfl, hq⟩; subst hq)
   | (go_at_call 38; refine CD.out.mono ?_; rintro e w' ⟨rfl, hq⟩; subst hq))
 rw [<- HW3.out]
 go_loopg [6] m (fun g' s6 wr => ∃ (k : Nat) (rv : Value) (R : List (SRow × Value)), s6 = .int .i64 ((first + 8 * k : Nat) : Int) /\ k <= m /\ m <= k + g' /\ Hid (OpenAt w wr w.heap.size (w.heap.size + 1) (w.heap.size + 2) p first rv R /\ R.length = k /\ rowsFrom d first m 0 = (rowsFrom d first (m - k) k).map (R.map (·.1) ++ ·)))
 case atStart => exact ⟨0, .slice none 0 0, [], by simp, by omega, by omega, LH ⟨HO3.out, rfl, by simp⟩⟩
 case round =>
  obtain ⟨k, rv, R, rfl, hk, hkg, HR⟩ := hrel
  obtain ⟨hO, hRl, hrows⟩ := HR.out
  have HO := LH hO
  have HROWS := LH hrows
  have CSr := LH (CS.out wr hO.chg)
  clear hO hrows f0 a0 l0 HR
  have hk8 : first + 8 * k <= 4160 := by omega
  have hwr : Hid (IntKind.i64.wrap (((first + 8 * k : Nat) : Int) + 8) = ((first + 8 * k + 8 : Nat) : Int)) := LH (by rw [IntWalk.i64_in _ ⟨by omega, by omega⟩]; push_cast; omega)
  by_cases hlt : k < m
  ·have hle : (first : Int) + 8 * (k : Int) + 8 <= (n : Int) := by omega
   go_wp2_with (go_at_call 78; refine CSr.out.mono ?_; rintro e w' ⟨rfl, hq⟩; subst hq)
   have hlen := hlen64.out (first + 8 * k) (by rw [<- HN.out]; omega)
   have HLEN := LH hlen
   refine (CR.out _ wr HO.out.chg).mono ?_
   rintro e w4 ⟨he, hc4⟩
   rw [if_neg (by rw [HD.out]; simp), if_pos ⟨by omega, by rw [<- HN.out]; omega⟩] at he
   obtain ⟨v4, rfl, hr4, hn4⟩ := he
   rw [show ((first : Int) + 8 * (k : Int)).toNat = first + 8 * k by omega] at hr4
   have HO4 := LH (HO.out.keep hc4)
   have CH := LH (head_any v4 (d.now (first + 8 * k)) w4.drew (hr4.bytes.chg (by exact (Chg.refl [] w4).drew) (by simp)) (by rw [hlen]; omega))
   obtain ⟨a4, c4, hv4⟩ := hr4.bytes.slice
   rw [hlen] at hv4
   obtain ⟨b4, hb4⟩ : ∃ b4, b4 = d.now (first + 8 * k) := ⟨_, rfl⟩
   have HB4 := LH hb4
   rw [<- hb4] at CH
   subst hv4
   clear hlen hr4 hn4 hc4 hb4
   have a0 := blk_cell HO4.out.ca 0 _ rfl
   have a1 := blk_cell HO4.out.obj.head 2 _ rfl
   go_wp2_with (go_at_call 135; refine (must_ok _).mono ?_; rintro e w' ⟨rfl, hq⟩; subst hq)
   refine wp_region_L [(11, fun w' => w'.cell? ⟨w.heap.size, 0, none⟩ = some (.pointer (some ⟨w.heap.size + 2, 0, none⟩))), (11, fun w' => w'.cell? ⟨w.heap.size + 2, 2, none⟩ = some rv)] (by kernel_rfl) ?_ (fun hHeld => ?_)
   ·exact (HoldC.cons (a0) (HoldC.cons (a1) HoldC.nil))
   refine ld 0 0 ?_ rfl rfl (by kernel_rfl) (by intro c a w hq; refine openQ _ _ ?_ ?_ c a w hq <;> decide) (.inl ⟨by rfl, ?_⟩) hHeld ?_; rotate_left; · (intro w hSw; (try dsimp only at hSw); go_simp; try with_reducible rfl)
   clear hHeld; intro hHeld; try simp only [gA,gB,gC,Act.put,gD,gE,gF]
   refine ld 0 1 ?_ rfl rfl (by kernel_rfl) (by intro c a w hq; refine openQ _ _ ?_ ?_ c a w hq <;> decide) (.inl ⟨by rfl, ?_⟩) hHeld ?_; rotate_left; · (intro w hSw; (try dsimp only at hSw); go_simp; try with_reducible rfl)
   clear hHeld; intro hHeld; try simp only [gA,gB,gC,Act.put,gD,gE,gF]
   refine tk 2 ?_ rfl (by kernel_rfl) (by intro c a w hq; refine openQ _ _ ?_ ?_ c a w hq <;> decide) (.inl ⟨by rfl, ?_⟩) hHeld ?_; rotate_left; · (intro w _; go_simp; try with_reducible rfl)
   clear hHeld; intro hHeld; try simp only [gA,gB,gC,Act.put,gD,gE,gF]
   refine tk 3 ?_ rfl (by kernel_rfl) (by intro c a w hq; refine openQ _ _ ?_ ?_ c a w hq <;> decide) (.inl ⟨by rfl, ?_⟩) hHeld ?_; rotate_left; · (intro w _; go_simp; try with_reducible rfl)
   clear hHeld; intro hHeld; try simp only [gA,gB,gC,Act.put,gD,gE,gF]
   refine ld 1 4 ?_ rfl rfl (by kernel_rfl) (by intro c a w hq; refine openQ _ _ ?_ ?_ c a w hq <;> decide) (.inl ⟨by rfl, ?_⟩) hHeld ?_; rotate_left; · (intro w hSw; (try dsimp only at hSw); go_simp; try with_reducible rfl)
   clear hHeld; intro hHeld; try simp only [gA,gB,gC,Act.put,gD,gE,gF]
   refine tk 5 ?_ rfl (by kernel_rfl) (by intro c a w hq; refine openQ _ _ ?_ ?_ c a w hq <;> decide) (.inl ⟨by rfl, ?_⟩) hHeld ?_; rotate_left; · (intro w _; go_simp; try with_reducible rfl)
   clear hHeld; intro hHeld; try simp only [gA,gB,gC,Act.put,gD,gE,gF]
   refine wpAnyL_ready (rs := [6]) (by kernel_rfl) (by simp) (AllReadyL.cons (o := _) rfl (fun K hK => ?_) AllReadyL.nil)
   try simp only [gA,gB,gC]
   go_simp
   refine CH.out.mono ?_
   rintro e w5 ⟨hc5, hh⟩
   have HO5 := LH (HO4.out.keep ((by exact (Chg.refl [] w4).drew : Chg [] w4 w4.drew).trans hc5 (by simp)))
   have hc5' : Chg [] w4 w5 := (by exact (Chg.refl [] w4).drew : Chg [] w4 w4.drew).trans hc5 (by simp)
   cases hhd : headOf b4 with
   | none =>
    rw [hhd] at hh
    obtain ⟨x, rfl, hx⟩ := hh
    have HZ : Hid (Z = (4, none)) := LH (by
     rw [HG.out, HROWS.out, show m - k = (m - (k + 1)) + 1 by omega]
     unfold rowsFrom
     rw [<- HB4.out, hhd]
     rfl)
    have CP := LH (catchB_x w.heap.size (w.heap.size + 1) x hx _ _ [] w5 HO5.out.ca HO5.out.cb (by omega))
    unfold broke
    refine leaves_cons (f := 134) (args := #[.pointer (some ⟨w.heap.size, 0, none⟩), .pointer (some ⟨w.heap.size + 1, 0, none⟩)]) (by simp) (by simp [go_sem]) ?_
    refine CP.out.mono ?_
    rintro e u' w'' ⟨rfl, rfl, hc, ha, hb⟩
    refine ⟨.tuple #[.pointer none, .int .i64 4], by simp [results, Tryz.results91, go_sem, blk_cell ha 0 _ rfl, blk_cell hb 0 _ rfl], ?_⟩
    rw [HZ.out]
    exact ⟨HO5.out.chg.trans hc (fun x hx => .inr (by simp at hx; omega)), rfl⟩
   | some r =>
    rw [hhd] at hh
    obtain ⟨kv, rfl, hr5, ho5⟩ := hh
    have hxU : ∀ g, kv.ownBlock = some g -> g < w5.heap.size /\ w.heap.size <= g /\ g ∉ blks (w.heap.size + 2) [rowD rv R] /\ g ≠ w.heap.size /\ g ≠ w.heap.size + 1 := fun g hg => by
     have e1 := ho5 g hg
     have e2 : w4.drew.heap.size = w4.heap.size := rfl
     have e3 := blk_lt HO4.out.cb
     have e4 := HO4.out.chg.size
     refine ⟨hr5.lt g hg, by omega, fun hm => ?_, by omega, by omega⟩
     have := HO4.out.obj.lim g hm
     omega
    have HXU := LH hxU
    have HBX := LH hr5.bytes
    obtain ⟨iw, zw, hiw, hzw1, hzw2, hzw3, hzw4⟩ := info_three facts_row
    have HIW := LH hiw
    have HZ1 := LH hzw1
    have HZ3 : Hid (iw.size = (rcell (r, kv)).toArray.size) := LH (by rw [hzw3]; rfl)
    have HWS : Hid ((rcell (r, kv)).toArray.size = 3) := LH rfl
    have HRC : Hid (rowsFrom d first m 0 = (rowsFrom d first (m - (k + 1)) (k + 1)).map ((R ++ [(r, kv)]).map (·.1) ++ ·)) := LH (by
     rw [HROWS.out, show m - k = (m - (k + 1)) + 1 by omega]
     conv => lhs; unfold rowsFrom
     rw [<- HB4.out, hhd]
     dsimp only
     rw [Option.map_map]
     congr 1
     funext t
     simp)
    clear hhd hxU hr5 ho5 hc5 hc5' hiw hzw1 hzw2 hzw3 hzw4 CH HB4 HLEN
    have a5 := blk_cell HO5.out.ca 0 _ rfl
    have b5 := blk_cell HO5.out.obj.head 2 _ rfl
    try go_wp2_with fail
    clear hHeld
    refine hK.out _ _ ?_ (fun hHeld => ?_)
    ·exact (HoldC.cons (a5) (HoldC.cons (b5) HoldC.nil))
    clear hK K
    try simp only [gA,gB,gC,Act.put,gD,gE,gF]
    refine wpAnyL_ready (rs := [7]) (by kernel_rfl) (by simp) (AllReadyL.cons (o := _) rfl (fun K hK => ?_) AllReadyL.nil)
    try simp only [gA,gB,gC]
    rw [if_pos (by rfl)]
    refine wp_slice1 188 192 (.tmp 57) (by rfl) (rcell (r, kv)).toArray (by rfl) iw zw Tryz.underlying188 HIW.out HZ1.out HZ3.out (by rw [HWS.out]; omega) (by rw [HWS.out]; omega) ?_
    clear hHeld
    refine hK.out _ _ ?_ (fun hHeld => ?_)
    ·exact (HoldC.cons ((blk_cell (blk_alloc HO5.out.ca) 0 _ rfl)) (HoldC.cons ((blk_cell (blk_alloc HO5.out.obj.head) 2 _ rfl)) HoldC.nil))
    clear hK K
    try simp only [gA,gB,gC,Act.put,gD,gE,gF]
    refine wpAnyL_ready (rs := [8]) (by kernel_rfl) (by simp) (AllReadyL.cons (o := _) rfl (fun K hK => ?_) AllReadyL.nil)
    try simp only [gA,gB,gC]
    rw [if_pos (by rfl)]
    refine wp_app_row (.tmp 55) (.tmp 58) (by rfl) HO5.out (r, kv) HBX.out HXU.out (by omega) (by rfl) (by rfl) ?_
    intro g2 cap2 w6 ea eb ef el HO6
    clear hHeld
    refine hK.out _ _ ?_ (fun hHeld => ?_)
    ·exact (HoldC.cons (ea) (HoldC.cons (eb) HoldC.nil))
    clear hK K
    try simp only [gA,gB,gC,Act.put,gD,gE,gF]
    refine tk 9 ?_ rfl (by kernel_rfl) (by intro c a w hq; refine openQ _ _ ?_ ?_ c a w hq <;> decide) (.inl ⟨by rfl, ?_⟩) hHeld ?_; rotate_left; · (intro w _; go_simp; try with_reducible rfl)
    clear hHeld; intro hHeld; try simp only [gA,gB,gC,Act.put,gD,gE,gF]
    refine tk 10 ?_ rfl (by kernel_rfl) (by intro c a w hq; refine openQ _ _ ?_ ?_ c a w hq <;> decide) (.inl ⟨by rfl, ?_⟩) hHeld ?_; rotate_left; · (intro w _; go_simp; try with_reducible rfl)
    clear hHeld; intro hHeld; try simp only [gA,gB,gC,Act.put,gD,gE,gF]
    refine wpAnyL_ready (rs := [11]) (by kernel_rfl) (by simp) (AllReadyL.cons (o := _) rfl (fun K hK => ?_) AllReadyL.nil)
    try simp only [gA,gB,gC]
    go_simp
    clear hHeld
    refine hK.out _ _ ?_ (fun hHeld => ?_)
    ·exact (HoldC.past (by kernel_rfl) (HoldC.past (by kernel_rfl) HoldC.nil))
    clear hK K
    try simp only [gA,gB,gC,Act.put,gD,gE,gF]
    refine wpAnyL_done (by kernel_rfl) ?_ _
    clear hHeld
    rw [hRl] at HO6
    generalize w6.setCell ⟨w.heap.size + 2, 2, none⟩ (.slice (some ⟨g2, 0, none⟩) (k + 1) cap2) = w7 at *
    clear ea eb ef el a0 a1 a5 b5
    have hw8 : IntKind.i64.wrap ((first : Int) + 8 * (k : Int) + 8) = ((first + 8 * (k + 1) : Nat) : Int) := by rw [IntWalk.i64_in _ ⟨by omega, by omega⟩]; push_cast; omega
    have HW8 := LH hw8
    clear hw8
    go_wp2
    go_roundg (gk - 1)
    case measure => omega
    case rel => exact ⟨k + 1, _, R ++ [(r, kv)], by first | rfl | rw [HW8.out] | (push_cast; congr 1; omega), by omega, by omega, LH ⟨HO6.out, by simp [hRl], HRC.out⟩⟩
  ·have hkm : k = m := by omega
   have hle : ¬ (first : Int) + 8 * (m : Int) + 8 <= (n : Int) := by omega
   obtain rfl := hkm.symm
   have HZ : Hid (Z = (0, some ⟨d, first, R.map (·.1)⟩)) := LH (by
    rw [HG.out, HROWS.out, Nat.sub_self]
    simp [rowsFrom])
   have HROK : Hid (rowsFrom d first m 0 = some (R.map (·.1))) := LH (by rw [HROWS.out, Nat.sub_self]; simp [rowsFrom])
   have a0 := blk_cell HO.out.ca 0 _ rfl
   have f0 := blk_frozen HO.out.ca 0
   have b0 := blk_cell HO.out.cb 0 _ rfl
   have g0 := blk_frozen HO.out.cb 0
   have l0 := blk_lt HO.out.ca
   have l1 := blk_lt HO.out.cb
   have l2 : ¬ (w.heap.size = w.heap.size + 1) := by omega
   have HD1 := LH (HO.out.done HDK.out ⟨by show first + 8 * (R.map (·.1)).length <= d.n; rw [List.length_map, hRl, <- HN.out]; omega, (rowsFrom_len _ _ _ HROK.out).2⟩)
   clear hkm hRl
   go_wp2_with (go_at_call 78; refine CSr.out.mono ?_; rintro e w' ⟨rfl, hq⟩; subst hq)
   refine leaves_cons (f := 134) (args := #[.pointer (some ⟨w.heap.size, 0, none⟩), .pointer (some ⟨w.heap.size + 1, 0, none⟩)]) (by simp) (by simp [go_sem]) ?_
   refine (catchB_idle _ _ _).mono ?_
   rintro e u' w'' ⟨rfl, rfl, rfl⟩
   obtain ⟨w9, hw9⟩ : ∃ w9, w9 = (wr.setCell ⟨w.heap.size, 0, none⟩ (.pointer (some ⟨w.heap.size + 2, 0, none⟩))).setCell ⟨w.heap.size + 1, 0, none⟩ (.int .i64 0) := ⟨_, rfl⟩
   have hc9 : Chg [w.heap.size, w.heap.size + 1] wr w9 := by rw [hw9]; exact ((Chg.refl _ wr).setCell (p := ⟨w.heap.size, 0, none⟩) (.inl (by simp)) _).setCell (p := ⟨w.heap.size + 1, 0, none⟩) (.inl (by simp)) _
   have ca9 : w9.heap[w.heap.size]? = some (.cells #[.pointer (some ⟨w.heap.size + 2, 0, none⟩)] 95 (0, 0)) := by rw [hw9]; exact blk_sets (set_blk HO.out.ca) (by omega)
   have cb9 : w9.heap[w.heap.size + 1]? = some (.cells #[.int .i64 0] 26 (0, 0)) := by rw [hw9]; exact set_blk (blk_sets HO.out.cb (by omega))
   rw [<- hw9]
   obtain ⟨k1, k2, k3⟩ := HD1.out _ (hc9.alloc (.cells #[.int .i64 0] 186))
   refine ⟨.tuple #[.pointer (some ⟨w.heap.size + 2, 0, none⟩), .int .i64 0], by simp [results, Tryz.results91, go_sem, blk_cell (blk_alloc (o' := .cells #[.int .i64 0] 186) ca9) 0 _ rfl, blk_cell (blk_alloc (o' := .cells #[.int .i64 0] 186) cb9) 0 _ rfl], ?_⟩
   rw [HZ.out]
   exact ⟨k1, _, _, rfl, k2, k3⟩
theorem sopen_any (p : Nat) (S : List Nat) (d : DS) (first : Int) (w : World) (h : DiskAt w p S d) : Calls Tryz.prog 91 #[.pointer (some ⟨p, 0, none⟩), .int .i64 first] w (OpenPost p S w (d.slots first)) := by
 by_cases hb : first < 0 ∨ (d.n : Int) < first
 ·exact sopen_bad p S d first w h hb
 ·by_cases hd : d.dead = true ∨ d.n = 0
  ·exact sopen_dead p S d first w h hb hd
  ·obtain ⟨f, rfl⟩ := Int.eq_ofNat_of_zero_le (show 0 <= first by omega)
   exact sopen_live p S d f w h (by omega) (by simpa using fun h => hd (.inl h)) (fun h => hd (.inr h))
def endOf (l : List UInt8) (bad : Int) : Int := if bad ≠ 0 then bad else if l = [] then 0 else 3
theorem eend_any (b g : Nat) (l : List UInt8) (bad : Int) (w : World) (h : EyeAt w b g l bad) :
  Calls Tryz.prog 58 #[.pointer (some ⟨b, 0, none⟩)] w fun e w' => e = .returned (.int .i64 (endOf l bad)) /\ w = w' := by
 have CF := LH (efail_any b g l bad w h)
 obtain ⟨v, hb, hv, _, _, _⟩ := h
 obtain ⟨a, cap, rfl⟩ := hv.slice
 have h1 := blk_cell hb 1 _ rfl
 unfold endOf
 clear hb hv
 by_cases hbad : bad = 0
 ·subst hbad
  rw [if_neg (by simp)]
  by_cases hl : l = []
  ·subst hl
   rw [if_pos rfl]
   go_enter Tryz.func58, Tryz.ntmps58
   go_wp2_with (go_at_call 55; refine CF.out.mono ?_; rintro e w' ⟨rfl, hq⟩; subst hq)
   go_ret
   exact ⟨rfl, rfl⟩
  ·rw [if_neg hl]
   have hp : 0 < l.length := List.length_pos_iff.2 hl
   clear hl
   go_enter Tryz.func58, Tryz.ntmps58
   go_wp2_with (go_at_call 55; refine CF.out.mono ?_; rintro e w' ⟨rfl, hq⟩; subst hq)
   go_ret
   exact ⟨rfl, rfl⟩
 ·rw [if_pos hbad]
  have q : (bad != 0) = true := by simp [hbad]
  clear hbad
  go_enter Tryz.func58, Tryz.ntmps58
  go_wp2_with (go_at_call 55; refine CF.out.mono ?_; rintro e w' ⟨rfl, hq⟩; subst hq)
  go_ret
  exact ⟨rfl, rfl⟩
theorem EyeAt.pick {w : World} {b g : Nat} {l : List UInt8} {bad : Int} (h : EyeAt w b g l bad) (M : Nat) (hM : M ≠ b) : ∃ g', EyeAt w b g' l bad /\ (g' = g /\ g < w.heap.size ∨ g' = M) := by
 obtain ⟨v, hb, hv, hgb, hg, hl⟩ := h
 rcases hg with hg | hg
 ·exact ⟨g, ⟨v, hb, hv, hgb, .inl hg, hl⟩, .inl ⟨rfl, hg⟩⟩
 ·subst hg
  have hv' : l = [] := by
   rcases hv with ⟨_, h⟩ | ⟨o, cap, h, _⟩
   ·exact h
   ·cases h
  exact ⟨M, ⟨_, hb, .inl ⟨rfl, hv'⟩, by first | exact hM | exact hM.symm, .inr rfl, hl⟩, .inr rfl⟩
structure EyeNew (w0 w : World) (b g N : Nat) (x : Id) (r : Int × List UInt8 × Int) : Prop where
 eye : EyeAt w b g r.2.1 r.2.2
 chg : Chg [] w0 w
 own : w0.heap.size <= b
 blk : w.heap[N]? = some (.cells (idC x) 38 (0, 0))
 own2 : w0.heap.size <= N
 ne : N ≠ b /\ N ≠ g
theorem EyeNew.num {w0 w : World} {b g N : Nat} {x : Id} {r : Int × List UInt8 × Int} (h : EyeNew w0 w b g N x r) (n : Nat) (h1 : 1 <= n) (h7 : n <= 7) (r' : Int × List UInt8 × Int) (hr : r' = eyeNum r.2.1 r.2.2 n) :
  Calls Tryz.prog 54 #[.pointer (some ⟨b, 0, none⟩), .int .i64 n] w fun e w' => e = .returned (.int .i64 r'.1) /\ EyeNew w0 w' b g N x r' := by
 subst hr
 refine (enum_any b g r.2.1 r.2.2 n w h.eye (by omega) (by omega)).mono ?_
 rintro e w' ⟨rfl, h2, h3⟩
 refine ⟨rfl, h2, h.chg.trans h3 (fun x hx => .inr ?_), h.own, h3.keep h.blk (by simpa using h.ne.1), h.own2, h.ne⟩
 rw [List.mem_singleton.1 hx]; exact h.own
theorem EyeNew.set {w0 w : World} {b g N : Nat} {x y : Id} {r : Int × List UInt8 × Int} (h : EyeNew w0 w b g N x r) (j : Nat) (u : Value) (hy : (idC x).setIfInBounds j u = idC y) : EyeNew w0 (w.setCell ⟨N, j, none⟩ u) b g N y r := by
 have hc : Chg [N] w (w.setCell ⟨N, j, none⟩ u) := (Chg.refl [N] w).setCell (p := ⟨N, j, none⟩) (.inl (by simp)) u
 refine ⟨h.eye.keep hc (by simpa using Ne.symm h.ne.1) (by simpa using Ne.symm h.ne.2), h.chg.setCell (p := ⟨N, j, none⟩) (.inr h.own2) u, h.own, ?_, h.own2, h.ne⟩
 rw [<- hy]; exact set_blk h.blk
theorem EyeNew.cells {w0 w : World} {b g N : Nat} {a c d e : Int} {r : Int × List UInt8 × Int} (h : EyeNew w0 w b g N ⟨a, c, d, e⟩ r) : (w.cell? ⟨N, 0, none⟩ = some (.int .i64 a) /\ w.cell? ⟨N, 1, none⟩ = some (.int .i64 c) /\ w.cell? ⟨N, 2, none⟩ = some (.int .i64 d) /\ w.cell? ⟨N, 3, none⟩ = some (.int .i64 e)) /\
  w.frozen? ⟨N, 0, none⟩ = false /\ w.frozen? ⟨N, 1, none⟩ = false /\ w.frozen? ⟨N, 2, none⟩ = false /\ w.frozen? ⟨N, 3, none⟩ = false :=
 ⟨id_cells h.blk, blk_frozen h.blk 0, blk_frozen h.blk 1, blk_frozen h.blk 2, blk_frozen h.blk 3⟩
theorem idSize : (Tryz.prog.info? 38).map (·.size) = some 4 := by kernel_rfl
theorem ret_id {fn : Func} {p u : Tmp} (h : fn.results = #[.cell p 38, .tmp u]) (tmps : Array Value) {w : World} {b t : Nat} {x : Id} {q : Value} (hp : tmps.getD p undef = .pointer (some ⟨b, 0, none⟩)) (hu : tmps.getD u undef = q) (hb : w.heap[b]? = some (.cells (idC x) t (0, 0))) :
  (results fn tmps).run Tryz.prog w = .ok (.tuple #[idV x, q]) w := by
 have hl := run_loadVar_row (P := Tryz.prog) w b t 38 (idC x) (0, 0) _ hb Tryz.underlying38 rfl (by rw [idSize]; rfl)
 rw [results_cell_tmp h, hp, hu]
 simp only [asAddr, Sem.run_pure, Result.andThen_ok, hl]
theorem id_written {w : World} {b t : Nat} {y : Id} (h : w.heap[b]? = some (.cells (idC y) t (0, 0))) (x : Id) :
  ((((w.setCell ⟨b, 0, none⟩ (.int .i64 x.c)).setCell ⟨b, 1, none⟩ (.int .i64 x.l)).setCell ⟨b, 2, none⟩ (.int .i64 x.n)).setCell ⟨b, 3, none⟩ (.int .i64 x.i)).heap[b]? = some (.cells (idC x) t (0, 0)) :=
 set_blk (set_blk (set_blk (set_blk h)))
theorem stread_any (v : Value) (l : List UInt8) (w : World) (h : BytesAt w v l) (hl : l.length <= 100000) :
  Calls Tryz.prog 94 #[v] w fun e w' => e = .returned (.tuple #[idV (unId l), .bool (unOk l)]) /\ Chg [] w w' := by
 obtain ⟨w1, hw1⟩ : ∃ w1, w1 = w.alloc (.cells (idC ⟨0, 0, 0, 0⟩) 38) := ⟨_, rfl⟩
 have hc1 : Chg [] w w1 := by rw [hw1]; exact (Chg.refl [] w).alloc _
 have hb1 : w1.heap[w.heap.size]? = some (.cells (idC ⟨0, 0, 0, 0⟩) 38 (0, 0)) := by rw [hw1]; exact heap_alloc_new w _
 have CE := LH (neweye_any v l w1 (h.chg hc1 (by simp)) (by omega))
 have HB := LH hb1
 have HC1 := LH hc1
 have HW1 := LH hw1
 obtain ⟨a, cap, hv⟩ := h.slice
 subst hv
 have HU : Hid (unId l = ⟨(un1 l).1, (un2 l).1, (un3 l).1, (un4 l).1⟩ /\ unOk l = (decide (endOf (un4 l).2.1 (un4 l).2.2 = 0) && mayId (unId l))) := LH ⟨rfl, by
  unfold unOk endOf
  by_cases h1 : (un4 l).2.2 = 0
  ·by_cases h2 : (un4 l).2.1 = [] <;> simp [h1, h2]
  ·simp [h1]⟩
 clear h hw1 hb1 hc1
 go_enter Tryz.func94, Tryz.ntmps94
 go_wp2_with fail
 rw [<- HW1.out]
 refine CE.out.mono ?_
 rintro e w2 ⟨b, g0, rfl, he0, hb2, hg2, hc2⟩
 have hw1s : w1.heap.size = w.heap.size + 1 := by rw [HW1.out]; simp
 obtain ⟨g, he2, hgg⟩ := he0.pick 0 (by omega)
 obtain ⟨w3, hw3⟩ : ∃ w3, w3 = w2.alloc (.cells (idC ⟨0, 0, 0, 0⟩) 38) := ⟨_, rfl⟩
 have hb3 : b < w2.heap.size := by obtain ⟨v, hb, _⟩ := he2; exact blk_lt hb
 have hc3 : Chg [] w2 w3 := by rw [hw3]; exact (Chg.refl [] w2).alloc _
 have hen : EyeNew w1 w3 b g w2.heap.size ⟨0, 0, 0, 0⟩ (0, l, 0) := ⟨he2.keep hc3 (by simp) (by simp), hc2.trans hc3 (by simp), hb2, by rw [hw3]; exact heap_alloc_new w2 _, hc2.size, by omega, by
  have := hc2.size
  rcases hgg with ⟨rfl, h⟩ | rfl <;> omega⟩
 have HB2 := LH ((hc2.trans hc3 (by simp)).keep HB.out (by simp))
 have hlt : w.heap.size < w2.heap.size := by have := hc2.size; omega
 have CN := LH (hen.num 1 (by omega) (by omega) (un1 l) rfl)
 have HW3 := LH hw3
 clear he2 hb2 hg2 hc2 CE hw3 hc3 hen he0 hgg
 go_wp2_with fail
 rw [<- HW3.out]
 refine CN.out.mono ?_
 rintro e w4 ⟨rfl, h4⟩
 obtain ⟨⟨m0, m1, m2, m3⟩, f0, f1, f2, f3⟩ := h4.cells
 have h4' := h4.set 0 (.int .i64 (un1 l).1) (y := ⟨(un1 l).1, 0, 0, 0⟩) rfl
 have CN4 := LH (h4'.num 3 (by omega) (by omega) (un2 l) rfl)
 clear h4 h4' CN HW3
 go_wp2_with fail
 refine CN4.out.mono ?_
 rintro e w5 ⟨rfl, h5⟩
 obtain ⟨⟨m0, m1, m2, m3⟩, f0, f1, f2, f3⟩ := h5.cells
 have h5' := h5.set 1 (.int .i64 (un2 l).1) (y := ⟨(un1 l).1, (un2 l).1, 0, 0⟩) rfl
 have CN5 := LH (h5'.num 4 (by omega) (by omega) (un3 l) rfl)
 clear h5 h5' CN4
 go_wp2_with fail
 refine CN5.out.mono ?_
 rintro e w6 ⟨rfl, h6⟩
 obtain ⟨⟨m0, m1, m2, m3⟩, f0, f1, f2, f3⟩ := h6.cells
 have h6' := h6.set 2 (.int .i64 (un3 l).1) (y := ⟨(un1 l).1, (un2 l).1, (un3 l).1, 0⟩) rfl
 have CN6 := LH (h6'.num 1 (by omega) (by omega) (un4 l) rfl)
 clear h6 h6' CN5
 go_wp2_with fail
 refine CN6.out.mono ?_
 rintro e w7 ⟨rfl, h7⟩
 obtain ⟨⟨m0, m1, m2, m3⟩, f0, f1, f2, f3⟩ := h7.cells
 have h7' := h7.set 3 (.int .i64 (un4 l).1) (y := ⟨(un1 l).1, (un2 l).1, (un3 l).1, (un4 l).1⟩) rfl
 rw [<- HU.out.1] at h7'
 have HE := LH h7'
 have HUI := LH HU.out.2
 clear h7 h7' CN6 HU
 generalize un4 l = z4 at *
 obtain ⟨x, hx⟩ : ∃ x, x = unId l := ⟨_, rfl⟩
 obtain ⟨ok, hok⟩ : ∃ ok, ok = unOk l := ⟨_, rfl⟩
 rw [<- hx] at HE HUI
 rw [<- hok] at HUI
 have HX := LH hx
 have HOK := LH hok
 clear hx hok
 go_wp2_with fail
 obtain ⟨xc, xl, xn, xi⟩ := x
 generalize hw8 : w7.setCell _ _ = w8 at *
 have HE8 := LH (show EyeNew w1 w8.drew b g w2.heap.size _ z4 from ⟨HE.out.eye.keep ((Chg.refl [] _).drew) (by simp) (by simp), HE.out.chg.drew, HE.out.own, HE.out.blk, HE.out.own2, HE.out.ne⟩)
 have HR8 := LH (HE8.out.chg.keep HB.out (by simp))
 have CF := LH (eend_any b g _ _ _ HE8.out.eye)
 have mm := id_cells HE8.out.blk
 obtain ⟨r, hr⟩ : ∃ r, r = endOf z4.2.1 z4.2.2 := ⟨_, rfl⟩
 rw [<- hr] at CF HUI
 clear hr HE hw8 m0 m1 m2 m3 f0 f1 f2 f3
 by_cases hr0 : r = 0
 ·subst hr0
  have CM := LH (mayid_any ⟨xc, xl, xn, xi⟩ w8.drew)
  have hk : ok = mayId ⟨xc, xl, xn, xi⟩ := by simpa using HUI.out
  subst hk
  refine wp_region_L [(8, fun w' => (w'.cell? ⟨w2.heap.size, 0, none⟩ = some (.int .i64 xc) /\ w'.cell? ⟨w2.heap.size, 1, none⟩ = some (.int .i64 xl) /\ w'.cell? ⟨w2.heap.size, 2, none⟩ = some (.int .i64 xn) /\ w'.cell? ⟨w2.heap.size, 3, none⟩ = some (.int .i64 xi))), (6, fun w' => (w'.cell? ⟨w2.heap.size, 0, none⟩ = some (.int .i64 xc) /\ w'.cell? ⟨w2.heap.size, 1, none⟩ = some (.int .i64 xl) /\ w'.cell? ⟨w2.heap.size, 2, none⟩ = some (.int .i64 xn) /\ w'.cell? ⟨w2.heap.size, 3, none⟩ = some (.int .i64 xi)))] (by kernel_rfl) ?_ (fun hHeld => ?_)
  ·exact (HoldC.cons (mm) (HoldC.cons (mm) HoldC.nil))
  refine ld 0 0 ?_ rfl rfl (by kernel_rfl) (fun _ _ _ h => h) (.inl ⟨by rfl, ?_⟩) hHeld ?_; rotate_left; · (intro w hSw; (try dsimp only at hSw); go_simp; try with_reducible rfl)
  clear hHeld; intro hHeld; try simp only [gA,gB,gC,Act.put,gD,gE,gF]
  refine tk 1 ?_ rfl (by kernel_rfl) (fun _ _ _ h => h) (.inl ⟨by rfl, ?_⟩) hHeld ?_; rotate_left; · (intro w _; go_simp; try with_reducible rfl)
  clear hHeld; intro hHeld; try simp only [gA,gB,gC,Act.put,gD,gE,gF]
  refine wpAnyL_ready (rs := [2]) (by kernel_rfl) (by simp) (AllReadyL.cons (o := _) rfl (fun K hK => ?_) AllReadyL.nil)
  try simp only [gA,gB,gC]
  go_simp
  refine (CF.out).mono ?_
  rintro e w9 ⟨rfl, hw9⟩
  subst hw9
  clear hHeld
  refine hK.out _ _ ?_ (fun hHeld => ?_)
  ·exact (HoldC.cons (mm) (HoldC.cons (mm) HoldC.nil))
  clear hK K
  try simp only [gA,gB,gC,Act.put,gD,gE,gF]
  refine tk 3 ?_ rfl (by kernel_rfl) (fun _ _ _ h => h) (.inl ⟨by rfl, ?_⟩) hHeld ?_; rotate_left; · (intro w _; go_simp; try with_reducible rfl)
  clear hHeld; intro hHeld; try simp only [gA,gB,gC,Act.put,gD,gE,gF]
  refine tk 4 ?_ rfl (by kernel_rfl) (fun _ _ _ h => h) (.inl ⟨by rfl, ?_⟩) hHeld ?_; rotate_left; · (intro w _; go_simp; try with_reducible rfl)
  clear hHeld; intro hHeld; try simp only [gA,gB,gC,Act.put,gD,gE,gF]
  refine ld 1 5 ?_ rfl rfl (by kernel_rfl) (fun _ _ _ h => h) (.inl ⟨by rfl, ?_⟩) hHeld ?_; rotate_left; · (intro w hSw; (try dsimp only at hSw); go_simp; try with_reducible rfl)
  clear hHeld; intro hHeld; try simp only [gA,gB,gC,Act.put,gD,gE,gF]
  refine wpAnyL_ready (rs := [6]) (by kernel_rfl) (by simp) (AllReadyL.cons (o := _) rfl (fun K hK => ?_) AllReadyL.nil)
  try simp only [gA,gB,gC]
  go_simp
  refine CM.out.mono ?_
  rintro e w10 ⟨rfl, hc10⟩
  have HC10 := LH hc10
  have mm := id_cells (hc10.keep HE8.out.blk (by simp))
  clear hc10
  clear hHeld
  refine hK.out _ _ ?_ (fun hHeld => ?_)
  ·exact (HoldC.cons (mm) (HoldC.past (by kernel_rfl) HoldC.nil))
  clear hK K
  try simp only [gA,gB,gC,Act.put,gD,gE,gF]
  refine tk 7 ?_ rfl (by kernel_rfl) (fun _ _ _ h => h) (.inl ⟨by rfl, ?_⟩) hHeld ?_; rotate_left; · (intro w _; go_simp; try with_reducible rfl)
  clear hHeld; intro hHeld; try simp only [gA,gB,gC,Act.put,gD,gE,gF]
  obtain ⟨v0, v1, v2, v3⟩ := id_cells (HC10.out.keep HR8.out (by simp))
  have y0 := blk_frozen (HC10.out.keep HR8.out (by simp)) 0
  have y1 := blk_frozen (HC10.out.keep HR8.out (by simp)) 1
  have y2 := blk_frozen (HC10.out.keep HR8.out (by simp)) 2
  have y3 := blk_frozen (HC10.out.keep HR8.out (by simp)) 3
  refine wpAnyL_ready (rs := [8]) (by kernel_rfl) (by simp) (AllReadyL.cons (o := _) rfl (fun K hK => ?_) AllReadyL.nil)
  try simp only [gA,gB,gC]
  go_simp
  clear hHeld
  refine hK.out _ _ ?_ (fun hHeld => ?_)
  ·exact (HoldC.past (by kernel_rfl) (HoldC.past (by kernel_rfl) HoldC.nil))
  clear hK K
  try simp only [gA,gB,gC,Act.put,gD,gE,gF]
  refine tk 9 ?_ rfl (by kernel_rfl) (fun _ _ _ h => h) (.inl ⟨by rfl, ?_⟩) hHeld ?_; rotate_left; · (intro w _; go_simp; try with_reducible rfl)
  clear hHeld; intro hHeld; try simp only [gA,gB,gC,Act.put,gD,gE,gF]
  refine wpAnyL_done (by kernel_rfl) ?_ _
  clear hHeld
  go_wp2_with fail
  have HW := LH (id_written (HC10.out.keep HR8.out (by simp)) ⟨xc, xl, xn, xi⟩)
  refine bodyPost_ret (ret_id rfl _ rfl rfl HW.out) rfl ?_
  refine ⟨by rw [<- HX.out, <- HOK.out]; rfl, ?_⟩
  have hc := (HC1.out.trans (HE8.out.chg.trans HC10.out (by simp)) (by simp))
  exact (((hc.setCell (.inr (Nat.le_refl _)) _).setCell (.inr (Nat.le_refl _)) _).setCell (.inr (Nat.le_refl _)) _).setCell (.inr (Nat.le_refl _)) _
 ·have hk : ok = false := by simpa [hr0] using HUI.out
  subst hk
  have qr : (r == 0) = false := by simpa using hr0
  refine wp_region_L [(8, fun w' => (w'.cell? ⟨w2.heap.size, 0, none⟩ = some (.int .i64 xc) /\ w'.cell? ⟨w2.heap.size, 1, none⟩ = some (.int .i64 xl) /\ w'.cell? ⟨w2.heap.size, 2, none⟩ = some (.int .i64 xn) /\ w'.cell? ⟨w2.heap.size, 3, none⟩ = some (.int .i64 xi)))] (by kernel_rfl) ?_ (fun hHeld => ?_)
  ·exact (HoldC.cons (mm) HoldC.nil)
  refine ld 0 0 ?_ rfl rfl (by kernel_rfl) (fun _ _ _ h => h) (.inl ⟨by rfl, ?_⟩) hHeld ?_; rotate_left; · (intro w hSw; (try dsimp only at hSw); go_simp; try with_reducible rfl)
  clear hHeld; intro hHeld; try simp only [gA,gB,gC,Act.put,gD,gE,gF]
  refine tk 1 ?_ rfl (by kernel_rfl) (fun _ _ _ h => h) (.inl ⟨by rfl, ?_⟩) hHeld ?_; rotate_left; · (intro w _; go_simp; try with_reducible rfl)
  clear hHeld; intro hHeld; try simp only [gA,gB,gC,Act.put,gD,gE,gF]
  refine wpAnyL_ready (rs := [2]) (by kernel_rfl) (by simp) (AllReadyL.cons (o := _) rfl (fun K hK => ?_) AllReadyL.nil)
  try simp only [gA,gB,gC]
  go_simp
  refine (CF.out).mono ?_
  rintro e w9 ⟨rfl, hw9⟩
  subst hw9
  clear hHeld
  refine hK.out _ _ ?_ (fun hHeld => ?_)
  ·exact (HoldC.cons (mm) HoldC.nil)
  clear hK K
  try simp only [gA,gB,gC,Act.put,gD,gE,gF]
  refine tk 3 ?_ rfl (by kernel_rfl) (fun _ _ _ h => h) (.inl ⟨by rfl, ?_⟩) hHeld ?_; rotate_left; · (intro w _; go_simp; try with_reducible rfl)
  clear hHeld; intro hHeld; try simp only [gA,gB,gC,Act.put,gD,gE,gF]
  refine tk 4 ?_ rfl (by kernel_rfl) (fun _ _ _ h => h) (.inl ⟨by rfl, ?_⟩) hHeld ?_; rotate_left; · (intro w _; go_simp; try with_reducible rfl)
  clear hHeld; intro hHeld; try simp only [gA,gB,gC,Act.put,gD,gE,gF]
  refine wpAnyL_take (i := 5) (oi := _) (v := _) rfl (by kernel_rfl) (by kernel_rfl) (by kernel_rfl) (by kernel_rfl) (by kernel_rfl) (fun _ _ _ h => h) (Or.inr ⟨by rfl, rfl⟩) (by assumption) (fun hNew => ?_)
  clear hHeld
  have hHeld := hNew
  clear hNew
  try simp only [gA,gB,gC,Act.put,gD,gE,gF]
  refine wpAnyL_take (i := 6) (oi := _) (v := _) rfl (by kernel_rfl) (by kernel_rfl) (by kernel_rfl) (by kernel_rfl) (by kernel_rfl) (fun _ _ _ h => h) (Or.inr ⟨by rfl, rfl⟩) (by assumption) (fun hNew => ?_)
  clear hHeld
  have hHeld := hNew
  clear hNew
  try simp only [gA,gB,gC,Act.put,gD,gE,gF]
  refine tk 7 ?_ rfl (by kernel_rfl) (fun _ _ _ h => h) (.inl ⟨by rfl, ?_⟩) hHeld ?_; rotate_left; · (intro w _; go_simp; try with_reducible rfl)
  clear hHeld; intro hHeld; try simp only [gA,gB,gC,Act.put,gD,gE,gF]
  have HR9 : w8.heap[w.heap.size]? = some (.cells (idC ⟨0, 0, 0, 0⟩) 38 (0, 0)) := HR8.out
  obtain ⟨v0, v1, v2, v3⟩ := id_cells HR9
  have y0 := blk_frozen HR9 0
  have y1 := blk_frozen HR9 1
  have y2 := blk_frozen HR9 2
  have y3 := blk_frozen HR9 3
  clear HR9
  refine wpAnyL_ready (rs := [8]) (by kernel_rfl) (by simp) (AllReadyL.cons (o := _) rfl (fun K hK => ?_) AllReadyL.nil)
  try simp only [gA,gB,gC]
  go_simp
  clear hHeld
  refine hK.out _ _ ?_ (fun hHeld => ?_)
  ·exact (HoldC.past (by kernel_rfl) HoldC.nil)
  clear hK K
  try simp only [gA,gB,gC,Act.put,gD,gE,gF]
  refine tk 9 ?_ rfl (by kernel_rfl) (fun _ _ _ h => h) (.inl ⟨by rfl, ?_⟩) hHeld ?_; rotate_left; · (intro w _; go_simp; try with_reducible rfl)
  clear hHeld; intro hHeld; try simp only [gA,gB,gC,Act.put,gD,gE,gF]
  refine wpAnyL_done (by kernel_rfl) ?_ _
  clear hHeld
  go_wp2_with fail
  have HW := LH (id_written HR8.out ⟨xc, xl, xn, xi⟩)
  refine bodyPost_ret (ret_id rfl _ rfl rfl HW.out) rfl ?_
  refine ⟨by rw [<- HX.out, <- HOK.out]; rfl, ?_⟩
  have hc := HC1.out.trans HE8.out.chg (by simp)
  exact (((hc.setCell (.inr (Nat.le_refl _)) _).setCell (.inr (Nat.le_refl _)) _).setCell (.inr (Nat.le_refl _)) _).setCell (.inr (Nat.le_refl _)) _
def REyeV (w : World) (v : Value) (g : Nat) (l : List UInt8) : Prop :=
 (l = [] /\ ∃ a cap, v = .slice a 0 cap) ∨ ∃ o cap, v = .slice (some ⟨g, o, none⟩) l.length cap /\ l.length <= cap /\ cap <= maxLen /\ g < w.heap.size /\ ∀ i, i < l.length -> w.cell? ⟨g, o + i, none⟩ = some (bv (l.getD i 0))
theorem REyeV.keepC {w w' : World} {v : Value} {g : Nat} {l : List UInt8} {S : List Nat} (h : REyeV w v g l) (hc : Chg S w w') (hn : g ∉ S) : REyeV w' v g l := by
 rcases h with h | ⟨o, cap, rfl, h1, h2, h3, hcell⟩
 ·exact .inl h
 ·exact .inr ⟨o, cap, rfl, h1, h2, Nat.lt_of_lt_of_le h3 hc.size, fun i hi => hc.cell (hcell i hi) hn⟩
theorem REyeV.slice {w : World} {v : Value} {g : Nat} {l : List UInt8} (h : REyeV w v g l) : ∃ a cap, v = .slice a l.length cap := by
 rcases h with ⟨rfl, a, cap, rfl⟩ | ⟨o, cap, rfl, _⟩
 ·exact ⟨_, _, rfl⟩
 ·exact ⟨_, _, rfl⟩
def REyeAt (w : World) (b g : Nat) (l : List UInt8) (bad : Int) : Prop :=
 ∃ v, w.heap[b]? = some (.cells #[v, .int .i64 bad] 127 (0, 0)) /\ REyeV w v g l /\ g ≠ b /\ l.length <= 1000000
theorem REyeAt.keep {w w' : World} {b g : Nat} {l : List UInt8} {bad : Int} {S : List Nat} (h : REyeAt w b g l bad) (hc : Chg S w w') (hb : b ∉ S) (hg : g ∉ S) : REyeAt w' b g l bad := by
 obtain ⟨v, h1, h2, h3, h4⟩ := h
 exact ⟨v, hc.keep h1 hb, h2.keepC hc hg, h3, h4⟩
theorem REyeV.dropped {w : World} {g o cap n : Nat} {l : List UInt8} (hl : l.length <= cap) (hc : cap <= maxLen) (hg : g < w.heap.size) (hcell : ∀ i, i < l.length -> w.cell? ⟨g, o + i, none⟩ = some (bv (l.getD i 0))) (hn : n <= l.length) :
  REyeV w (.slice (some ⟨g, if cap = n then o else o + n, none⟩) (l.length - n) (cap - n)) g (l.drop n) := by
 right
 have hdl : (l.drop n).length = l.length - n := List.length_drop ..
 refine ⟨if cap = n then o else o + n, cap - n, by rw [hdl], by omega, by omega, hg, fun i hi => ?_⟩
 have h2 : ¬ (cap = n) := by omega
 rw [if_neg h2, getD_drop, Nat.add_assoc]
 exact hcell (n + i) (by omega)
theorem rnum_ok (b g o cap : Nat) (l : List UInt8) (n : Nat) (w : World) (h : w.heap[b]? = some (.cells #[.slice (some ⟨g, o, none⟩) l.length cap, .int .i64 0] 127 (0, 0)))
  (hl : l.length <= cap) (hc : cap <= maxLen) (hcell : ∀ i, i < l.length -> w.cell? ⟨g, o + i, none⟩ = some (bv (l.getD i 0))) (h1 : 1 <= n) (h7 : n <= 7) (hn : n <= l.length) (hll : l.length <= 1000000) :
  Calls Tryz.prog 59 #[.pointer (some ⟨b, 0, none⟩), .int .i64 n] w fun e w' => e = .returned (.int .i64 (beNum (l.take n))) /\
   w' = w.setCell ⟨b, 0, none⟩ (.slice (some ⟨g, if cap = n then o else o + n, none⟩) (l.length - n) (cap - n)) := by
 have b0 := blk_cell h 0 _ rfl
 have b1 := blk_cell h 1 _ rfl
 have f0 := blk_frozen h 0
 have hbl := blk_lt h
 have HC := LH hcell
 have HL := LH hl
 unfold maxLen at hc
 have hcapn : n <= cap := by omega
 have hn1 : ¬ ((n : Int) < 1) := by omega
 have hn7 : ¬ ((7 : Int) < (n : Int)) := by omega
 have q1 : decide ((n : Int) < 1) = false := by simpa using hn1
 have q7 : decide ((7 : Int) < (n : Int)) = false := by simpa using hn7
 have ql : decide (l.length < n) = false := by simp; omega
 clear h hcell
 obtain rfl | hcn := Decidable.em (n = cap)
 all_goals
  try (have hcn' : ¬ (cap = n) := fun h => hcn h.symm)
  try clear hcn
  go_enter Tryz.func59, Tryz.ntmps59
  go_wp2
  go_loop [5, 6] (fun x i => ∃ k : Nat, k <= n /\ i = .int .i64 k /\ x = .int .i64 (beNum (l.take k))) (fun _ i => n - (intOf i).toNat)
  case atStart => exact ⟨0, Nat.zero_le _, rfl, rfl⟩
  case round =>
   obtain ⟨k, hk, rfl, rfl⟩ := hrel
   by_cases hlt : k < n
   ·have hcl := HC.out k (by omega)
    have hb := beNum_take_le l k (by omega)
    have hkz : (k : Int) < (n : Int) := by omega
    have hkl : (k : Int) < (l.length : Int) := by omega
    have hkz1 : (k : Int).toNat = k := by omega
    obtain ⟨c, hcc⟩ : ∃ c, c = l.getD k 0 := ⟨_, rfl⟩
    rw [<- hcc] at hcl
    have hc8 := c.toNat_lt
    have HX : Hid (beNum (l.take (k + 1)) = beNum (l.take k) * 256 + c.toNat) := LH (by rw [take_snocU l k (by omega), beNum_snoc, hcc])
    clear hcc
    obtain ⟨x, hx⟩ : ∃ x, x = beNum (l.take k) := ⟨_, rfl⟩
    rw [<- hx] at hb HX ⊢
    clear hx
    unfold bv at hcl
    have hor : bits .or .i64 ((x : Int) * 256) (c.toNat : Int) = ((x * 256 + c.toNat : Nat) : Int) := by
     have := i64_or_nat (x * 256) c.toNat (by omega) (by omega)
     rw [or_byte] at this
     simpa using this
    go_wp2
    go_round
    case rel => exact ⟨k + 1, by omega, by go_num, by rw [HX.out]; go_num⟩
    case measure => simp [intOf]; omega
   ·have hk9 : k = n := by omega
    have HK := LH hk9
    clear hk9
    go_wp2
    go_ret
    exact ⟨by rw [HK.out]; rfl, rfl⟩
theorem rnum_short (b : Nat) (a : Option Addr) (L cap : Nat) (n : Nat) (w : World) (h : w.heap[b]? = some (.cells #[.slice a L cap, .int .i64 0] 127 (0, 0)))
  (h1 : 1 <= n) (h7 : n <= 7) (hn : L < n) :
  Calls Tryz.prog 59 #[.pointer (some ⟨b, 0, none⟩), .int .i64 n] w fun e w' => e = .returned (.int .i64 0) /\ w' = w.setCell ⟨b, 1, none⟩ (.int .i64 2) := by
 have b0 := blk_cell h 0 _ rfl
 have b1 := blk_cell h 1 _ rfl
 have f1 := blk_frozen h 1
 have hbl := blk_lt h
 have q1 : decide ((n : Int) < 1) = false := by simp; omega
 have q7 : decide ((7 : Int) < (n : Int)) = false := by simp; omega
 have ql : decide (L < n) = true := by simp; omega
 clear h
 go_enter Tryz.func59, Tryz.ntmps59
 go_wp2
 go_ret
 exact ⟨rfl, rfl⟩
theorem rnum_bad (b : Nat) (v : Value) (bad n : Int) (w : World) (h : w.heap[b]? = some (.cells #[v, .int .i64 bad] 127 (0, 0))) (hb : bad ≠ 0) :
  Calls Tryz.prog 59 #[.pointer (some ⟨b, 0, none⟩), .int .i64 n] w fun e w' => e = .returned (.int .i64 0) /\ w = w' := by
 have b1 := blk_cell h 1 _ rfl
 have hbl := blk_lt h
 have q1 : (bad == 0) = false := by simp [hb]
 have q2 : (bad != 0) = true := by simp [hb]
 clear h hb
 go_enter Tryz.func59, Tryz.ntmps59
 go_wp2
 go_ret
 exact ⟨rfl, rfl⟩
theorem rnum_any (b g : Nat) (l : List UInt8) (bad : Int) (width : Int) (w : World) (h : REyeAt w b g l bad) (h1 : 1 <= width) (h7 : width <= 7) :
  Calls Tryz.prog 59 #[.pointer (some ⟨b, 0, none⟩), .int .i64 width] w fun e w' => e = .returned (.int .i64 (eyeNum l bad width.toNat).1) /\
   REyeAt w' b g (eyeNum l bad width.toNat).2.1 (eyeNum l bad width.toNat).2.2 /\ Chg [b] w w' := by
 obtain ⟨n, rfl⟩ := Int.eq_ofNat_of_zero_le (show 0 <= width by omega)
 rw [Int.toNat_natCast]
 have hE := h
 obtain ⟨v, hb, hv, hgb, hll⟩ := h
 by_cases hbad : bad = 0
 ·subst hbad
  by_cases hlen : l.length < n
  ·obtain ⟨a, cap, rfl⟩ := hv.slice
   rw [show eyeNum l 0 n = (0, l, 2) by unfold eyeNum; rw [if_neg (by simp), if_pos hlen]]
   refine (rnum_short b a _ cap n w hb (by omega) (by omega) hlen).mono ?_
   rintro e w' ⟨rfl, rfl⟩
   have hc := (Chg.refl [b] w).setCell (p := ⟨b, 1, none⟩) (.inl (by simp)) (.int .i64 2)
   exact ⟨rfl, ⟨_, set_blk hb, hv.keepC hc (by simp; exact hgb), hgb, hll⟩, hc⟩
  ·rw [show eyeNum l 0 n = ((beNum (l.take n) : Int), l.drop n, 0) by unfold eyeNum; rw [if_neg (by simp), if_neg hlen]]
   rcases hv with ⟨rfl, _⟩ | ⟨o, cap, rfl, hlc, hcm, hg, hcell⟩
   ·simp at hlen; omega
   refine (rnum_ok b g o cap l n w hb hlc hcm hcell (by omega) (by omega) (by omega) hll).mono ?_
   rintro e w' ⟨rfl, rfl⟩
   have hc := (Chg.refl [b] w).setCell (p := ⟨b, 0, none⟩) (.inl (by simp)) (.slice (some ⟨g, if cap = n then o else o + n, none⟩) (l.length - n) (cap - n))
   exact ⟨rfl, ⟨_, set_blk hb, (REyeV.dropped hlc hcm hg hcell (by omega)).keepC hc (by simp; exact hgb), hgb, by show (l.drop n).length <= _; rw [List.length_drop]; omega⟩, hc⟩
 ·rw [show eyeNum l bad n = (0, l, bad) by unfold eyeNum; rw [if_pos hbad]]
  refine (rnum_bad b v bad n w hb hbad).mono ?_
  rintro e w' ⟨rfl, rfl⟩
  exact ⟨rfl, hE, Chg.refl _ _⟩
theorem rfall_any (b g : Nat) (l : List UInt8) (bad x : Int) (w : World) (h : REyeAt w b g l bad) :
  Calls Tryz.prog 106 #[.pointer (some ⟨b, 0, none⟩), .int .i64 x] w fun e w' => e = .returned (.tuple #[]) /\ REyeAt w' b g l (if bad = 0 then x else bad) /\ Chg [b] w w' := by
 have hE := LH h
 obtain ⟨v, hb, hv, hgb, hll⟩ := h
 have b1 := blk_cell hb 1 _ rfl
 have f1 := blk_frozen hb 1
 have hbl := blk_lt hb
 by_cases hbad : bad = 0
 ·subst hbad
  have HF : Hid (REyeAt (w.setCell ⟨b, 1, none⟩ (.int .i64 x)) b g l x /\ Chg [b] w (w.setCell ⟨b, 1, none⟩ (.int .i64 x))) := by
   have hc := (Chg.refl [b] w).setCell (p := ⟨b, 1, none⟩) (.inl (by simp)) (.int .i64 x)
   exact ⟨⟨_, set_blk hb, hv.keepC hc (by simp; exact hgb), hgb, hll⟩, hc⟩
  rw [if_pos rfl]
  clear hb hv
  go_enter Tryz.func106, Tryz.ntmps106
  go_wp2
  go_end0
  exact ⟨rfl, HF.out⟩
 ·rw [if_neg hbad]
  have q1 : (bad == 0) = false := by simp [hbad]
  clear hb hv hbad
  go_enter Tryz.func106, Tryz.ntmps106
  go_wp2
  go_end0
  exact ⟨rfl, hE.out, Chg.refl _ _⟩
theorem rform_any (b g : Nat) (l : List UInt8) (bad : Int) (q : Bool) (w : World) (h : REyeAt w b g l bad) :
  Calls Tryz.prog 60 #[.pointer (some ⟨b, 0, none⟩), .bool q] w fun e w' => e = .returned (.tuple #[]) /\ REyeAt w' b g l (if q = true /\ bad = 0 then 4 else bad) /\ Chg [b] w w' := by
 have hE := LH h
 have CF := LH (rfall_any b g l bad 4 w h)
 rw [show (if q = true /\ bad = 0 then (4 : Int) else bad) = if q = true then (if bad = 0 then 4 else bad) else bad by cases q <;> simp]
 generalize (if bad = 0 then (4 : Int) else bad) = x4 at *
 clear h
 cases q
 ·rw [if_neg (by simp)]
  go_enter Tryz.func60, Tryz.ntmps60
  go_wp2
  go_end0
  exact ⟨rfl, hE.out, Chg.refl _ _⟩
 ·rw [if_pos rfl]
  go_enter Tryz.func60, Tryz.ntmps60
  go_wp2_with fail
  refine CF.out.mono ?_
  rintro e w' ⟨rfl, H⟩
  have HH := LH H
  clear H
  go_wp2
  go_end0
  exact ⟨rfl, HH.out⟩
theorem rbool_any (b g : Nat) (l : List UInt8) (bad : Int) (w : World) (h : REyeAt w b g l bad) :
  Calls Tryz.prog 67 #[.pointer (some ⟨b, 0, none⟩)] w fun e w' => e = .returned (.bool (eyeBool l bad).1) /\
   REyeAt w' b g (eyeBool l bad).2.1 (eyeBool l bad).2.2 /\ Chg [b] w w' := by
 have hE := LH h
 obtain ⟨v, hb, hv, hgb, hll⟩ := h
 have b0 := blk_cell hb 0 _ rfl
 obtain ⟨av, Lv, cv, rfl⟩ : ∃ a L cap, v = .slice a L cap := by obtain ⟨a, cap, h⟩ := hv.slice; exact ⟨a, _, cap, h⟩
 by_cases hbad : bad = 0
 ·subst hbad
  cases l with
  | nil =>
   have hL : Lv = 0 := by
    obtain ⟨a, cap, h⟩ := hv.slice
    simp at h
    exact h.2.1
   have CN := LH (rnum_short b av Lv cv 1 w hb (by omega) (by omega) (by omega))
   have HF : Hid (REyeAt (w.setCell ⟨b, 1, none⟩ (.int .i64 2)) b g [] 2 /\ Chg [b] w (w.setCell ⟨b, 1, none⟩ (.int .i64 2))) := by
    have hc := (Chg.refl [b] w).setCell (p := ⟨b, 1, none⟩) (.inl (by simp)) (.int .i64 2)
    exact ⟨⟨_, set_blk hb, hv.keepC hc (by simp; exact hgb), hgb, hll⟩, hc⟩
   have HR : Hid (eyeBool [] 0 = (false, [], 2)) := LH rfl
   rw [HR.out]
   have b1 := blk_cell (set_blk (j := 1) (u := .int .i64 2) hb) 1 _ rfl
   clear hb hv hL
   go_enter Tryz.func67, Tryz.ntmps67
   go_wp2_with fail
   refine CN.out.mono ?_
   rintro e w' ⟨rfl, rfl⟩
   go_wp2
   go_ret
   exact ⟨rfl, HF.out⟩
  | cons c l =>
   rcases hv with ⟨h0, _⟩ | ⟨o, cap, hs, hlc, hcm, hg, hcell⟩
   ·cases h0
   obtain ⟨rfl, rfl, rfl⟩ : av = some ⟨g, o, none⟩ /\ Lv = (c :: l).length /\ cv = cap := by simpa using hs
   have CN := rnum_ok b g o cv (c :: l) 1 w hb hlc hcm hcell (by omega) (by omega) (by simp) hll
   have hc := (Chg.refl [b] w).setCell (p := ⟨b, 0, none⟩) (.inl (by simp)) (.slice (some ⟨g, if cv = 1 then o else o + 1, none⟩) ((c :: l).length - 1) (cv - 1))
   have hb1 := set_blk (j := 0) (u := .slice (some ⟨g, if cv = 1 then o else o + 1, none⟩) ((c :: l).length - 1) (cv - 1)) hb
   have hd := (REyeV.dropped (n := 1) hlc hcm hg hcell (by simp)).keepC hc (by simp; exact hgb)
   generalize w.setCell ⟨b, 0, none⟩ (.slice (some ⟨g, if cv = 1 then o else o + 1, none⟩) ((c :: l).length - 1) (cv - 1)) = w1 at *
   have hnum : beNum ((c :: l).take 1) = c.toNat := by simp [beNum]
   rw [hnum] at CN
   have HCN := LH CN
   have d0 := blk_cell hb1 0 _ rfl
   have d1 := blk_cell hb1 1 _ rfl
   have e0 := blk_frozen hb1 0
   have e1 := blk_frozen hb1 1
   have l1 := blk_lt hb1
   by_cases hc1 : 1 < c.toNat
   ·have HR : Hid (eyeBool (c :: l) 0 = (false, c :: l, 4)) := LH (by unfold eyeBool; simp [hc1])
    rw [HR.out]
    have q1 : decide ((1 : Int) < (c.toNat : Int)) = true := by simp; omega
    have HF : Hid (REyeAt ((w1.setCell ⟨b, 1, none⟩ (.int .i64 4)).setCell ⟨b, 0, none⟩ (.slice (some ⟨g, o, none⟩) (c :: l).length cv)) b g (c :: l) 4 /\ Chg [b] w ((w1.setCell ⟨b, 1, none⟩ (.int .i64 4)).setCell ⟨b, 0, none⟩ (.slice (some ⟨g, o, none⟩) (c :: l).length cv))) := by
     have hc2 := (hc.setCell (p := ⟨b, 1, none⟩) (.inl (by simp)) (.int .i64 4)).setCell (p := ⟨b, 0, none⟩) (.inl (by simp)) (.slice (some ⟨g, o, none⟩) (c :: l).length cv)
     refine ⟨⟨_, set_blk (set_blk hb1), ?_, hgb, hll⟩, hc2⟩
     exact REyeV.keepC (S := [b]) (.inr ⟨o, cv, rfl, hlc, hcm, hg, hcell⟩) hc2 (by simp; exact hgb)
    clear hb hb1 hd hc hcell hnum CN hs hlc hcm hc1
    go_enter Tryz.func67, Tryz.ntmps67
    go_wp2_with fail
    refine HCN.out.mono ?_
    rintro e w' ⟨rfl, rfl⟩
    go_wp2
    go_ret
    exact ⟨rfl, HF.out⟩
   ·have HR : Hid (eyeBool (c :: l) 0 = (c.toNat == 1, l, 0)) := LH (by unfold eyeBool; simp [hc1])
    rw [HR.out]
    have q1 : decide ((1 : Int) < (c.toNat : Int)) = false := by simp; omega
    have hbq : ((c.toNat : Int) == 1) = (c.toNat == 1) := by
     rw [Bool.eq_iff_iff, beq_iff_eq, beq_iff_eq]; omega
    have HF : Hid (REyeAt w1 b g l 0 /\ Chg [b] w w1) := by
     refine ⟨⟨_, hb1, hd, hgb, ?_⟩, hc⟩
     simp at hll; omega
    clear hb hb1 hd hc hcell hnum CN hs hlc hcm hc1
    go_enter Tryz.func67, Tryz.ntmps67
    go_wp2_with fail
    refine HCN.out.mono ?_
    rintro e w' ⟨rfl, rfl⟩
    go_wp2
    go_ret
    exact ⟨rfl, HF.out⟩
 ·have HR : Hid (eyeBool l bad = (false, l, bad)) := LH (by unfold eyeBool; rw [if_pos hbad])
  rw [HR.out]
  have CN := LH (rnum_bad b _ bad 1 w hb hbad)
  have b1 := blk_cell hb 1 _ rfl
  have q1 : (bad == 0) = false := by simp [hbad]
  clear hb hv hbad
  go_enter Tryz.func67, Tryz.ntmps67
  go_wp2_with fail
  refine CN.out.mono ?_
  rintro e w' ⟨rfl, rfl⟩
  go_wp2
  go_ret
  exact ⟨rfl, hE.out, Chg.refl _ _⟩
def RRawLeft (w : World) (b g : Nat) (r : List UInt8 × List UInt8 × Int) (e : Ending) (w' : World) : Prop :=
 ∃ v, e = .returned v /\ BRow w' v r.1 /\ (∀ k, v.ownBlock = some k -> w.heap.size <= k) /\ REyeAt w' b g r.2.1 r.2.2 /\ Chg [b] w w'
theorem rraw_any (b g : Nat) (l : List UInt8) (bad : Int) (most : Nat) (w : World) (h : REyeAt w b g l bad) (hmo : most <= 1000000) :
  Calls Tryz.prog 62 #[.pointer (some ⟨b, 0, none⟩), .int .i64 (most : Int)] w (RRawLeft w b g (eyeRaw l bad most)) := by
 have CN := LH (rnum_any b g l bad 2 w h (by omega) (by omega))
 have HE := LH h
 obtain ⟨v, hb, hv, hgb, hll⟩ := h
 have b0 := blk_cell hb 0 _ rfl
 have b1 := blk_cell hb 1 _ rfl
 have hbl := blk_lt hb
 have HV := LH hv
 obtain ⟨a, cap, rfl⟩ := hv.slice
 rw [show (2 : Int).toNat = 2 from rfl] at CN
 have hmz : ¬ ((most : Nat) : Int) < 0 := by omega
 have hmd : decide (((most : Nat) : Int) < 0) = false := decide_eq_false hmz
 -- it fails with error x, the bytes as they were
 have hfail : ∀ (x y : Int) (v2 : Value) (w2 : World), eyeRaw l bad most = ([], l, x) -> w2.heap[b]? = some (.cells #[v2, .int .i64 y] 127 (0, 0)) -> Chg [b] w w2 ->
   Hid (RRawLeft w b g (eyeRaw l bad most) (.returned (.slice none 0 0)) ((w2.setCell ⟨b, 1, none⟩ (.int .i64 x)).setCell ⟨b, 0, none⟩ (.slice a l.length cap))) /\
   (y = x -> Hid (RRawLeft w b g (eyeRaw l bad most) (.returned (.slice none 0 0)) (w2.setCell ⟨b, 0, none⟩ (.slice a l.length cap)))) := by
  intro x y v2 w2 hr h2 hc
  have hc1 : Chg [b] w ((w2.setCell ⟨b, 1, none⟩ (.int .i64 x)).setCell ⟨b, 0, none⟩ (.slice a l.length cap)) := (hc.setCell (.inl (by simp)) _).setCell (.inl (by simp)) _
  have hc2 : Chg [b] w (w2.setCell ⟨b, 0, none⟩ (.slice a l.length cap)) := hc.setCell (.inl (by simp)) _
  refine ⟨LH ?_, fun hyx => LH ?_⟩
  ·rw [hr]
   exact ⟨_, rfl, BRow.nil _, by simp [Value.ownBlock], ⟨_, set_blk (set_blk h2), hv.keepC hc1 (by simp; exact hgb), hgb, hll⟩, hc1⟩
  ·rw [hr]
   subst hyx
   exact ⟨_, rfl, BRow.nil _, by simp [Value.ownBlock], ⟨_, set_blk h2, hv.keepC hc2 (by simp; exact hgb), hgb, hll⟩, hc2⟩
 have HFAIL := LH hfail
 clear hfail hv
 by_cases hbad : bad = 0
 ·subst hbad
  by_cases hlen : l.length < 2
  ·have hr : eyeRaw l 0 most = ([], l, 2) := by unfold eyeRaw; rw [if_neg (by simp), if_pos hlen]
   rw [show eyeNum l 0 2 = (0, l, 2) by unfold eyeNum; rw [if_neg (by simp), if_pos hlen]] at CN
   have HR := LH hr
   clear hb hr HE
   go_enter Tryz.func62, Tryz.ntmps62
   go_wp2_with fail
   refine CN.out.mono ?_
   rintro e w2 ⟨rfl, ⟨v2, hb2, hv2, _, _⟩, hc2⟩
   have HF := (HFAIL.out 2 2 v2 w2 HR.out hb2 hc2).2 rfl
   obtain ⟨a2, c2, rfl⟩ := hv2.slice
   have b02 := blk_cell hb2 0 _ rfl
   have b12 := blk_cell hb2 1 _ rfl
   have f02 := blk_frozen hb2 0
   have hbl2 := blk_lt hb2
   clear hb2 hv2 hc2 CN HFAIL
   go_wp2
   go_ret
   exact HF.out
  ·rw [show eyeNum l 0 2 = ((beNum (l.take 2) : Int), l.drop 2, 0) by unfold eyeNum; rw [if_neg (by simp), if_neg hlen]] at CN
   have hbn := beNum_take_le l 2 (by omega)
   have hrr : eyeRaw l 0 most = if most < beNum (l.take 2) then ([], l, 3) else if (l.drop 2).length < beNum (l.take 2) then ([], l, 2) else ((l.drop 2).take (beNum (l.take 2)), (l.drop 2).drop (beNum (l.take 2)), 0) := by
    unfold eyeRaw; rw [if_neg (by simp), if_neg hlen]
   have hdl : (l.drop 2).length = l.length - 2 := List.length_drop ..
   generalize beNum (l.take 2) = n at *
   generalize l.drop 2 = l2 at *
   have HDL := LH hdl
   have hl2 : l2.length <= 1000000 := by omega
   by_cases hlong : most < n
   ·have hr : eyeRaw l 0 most = ([], l, 3) := by rw [hrr, if_pos hlong]
    have HR := LH hr
    have hz : ((most : Nat) : Int) < (n : Int) := by omega
    clear hb hr hrr HE hdl
    go_enter Tryz.func62, Tryz.ntmps62
    go_wp2_with fail
    refine CN.out.mono ?_
    rintro e w2 ⟨rfl, ⟨v2, hb2, hv2, _, _⟩, hc2⟩
    have HF := (HFAIL.out 3 0 v2 w2 HR.out hb2 hc2).1
    obtain ⟨a2, c2, rfl⟩ := hv2.slice
    have b02 := blk_cell hb2 0 _ rfl
    have b12 := blk_cell hb2 1 _ rfl
    have f02 := blk_frozen hb2 0
    have f12 := blk_frozen hb2 1
    have hbl2 := blk_lt hb2
    clear hb2 hv2 hc2 CN HFAIL
    go_wp2
    go_ret
    exact HF.out
   ·have hz : ¬ ((most : Nat) : Int) < (n : Int) := by omega
    by_cases hsh : l2.length < n
    ·have hr : eyeRaw l 0 most = ([], l, 2) := by rw [hrr, if_neg hlong, if_pos hsh]
     have HR := LH hr
     have hsz : (l2.length : Int) < (n : Int) := by omega
     clear hb hr hrr HE hdl
     go_enter Tryz.func62, Tryz.ntmps62
     go_wp2_with fail
     refine CN.out.mono ?_
     rintro e w2 ⟨rfl, ⟨v2, hb2, hv2, _, _⟩, hc2⟩
     have HF := (HFAIL.out 2 0 v2 w2 HR.out hb2 hc2).1
     obtain ⟨a2, c2, rfl⟩ := hv2.slice
     have b02 := blk_cell hb2 0 _ rfl
     have b12 := blk_cell hb2 1 _ rfl
     have f02 := blk_frozen hb2 0
     have f12 := blk_frozen hb2 1
     have hbl2 := blk_lt hb2
     clear hb2 hv2 hc2 CN HFAIL
     go_wp2
     go_ret
     exact HF.out
    ·have hr : eyeRaw l 0 most = (l2.take n, l2.drop n, 0) := by rw [hrr, if_neg hlong, if_neg hsh]
     have HR := LH hr
     have hsz : ¬ (l2.length : Int) < (n : Int) := by omega
     have hsz2 : n <= l2.length := by omega
     clear hb hr hrr HE hdl HFAIL
     go_enter Tryz.func62, Tryz.ntmps62
     go_wp2_with fail
     refine CN.out.mono ?_
     rintro e w2 ⟨rfl, ⟨v2, hb2, hv2, _, _⟩, hc2⟩
     rcases hv2 with ⟨rfl, a2, c2, rfl⟩ | ⟨o2, c2, rfl, h21, h22, h23, hcell⟩
     ·obtain rfl : n = 0 := by simpa using hsz2
      have b02 := blk_cell hb2 0 _ rfl
      have b12 := blk_cell hb2 1 _ rfl
      have hbl2 := blk_lt hb2
      have HB2 := LH hb2
      have HC2 := LH hc2
      have hfin : ∀ (w3 : World) (v3 : Value) (a9 : Option Addr) (c9 : Nat), Chg [] w2 w3 -> BRow w3 v3 [] -> (∀ k, v3.ownBlock = some k -> w2.heap.size <= k) -> Hid (RRawLeft w b g (eyeRaw l 0 most) (.returned v3) (w3.setCell ⟨b, 0, none⟩ (.slice a9 0 c9))) := by
       intro w3 v3 a9 c9 hc3 hr3 hn3
       refine LH ?_
       rw [HR.out]
       have hs : Chg [b] w2 (w3.setCell ⟨b, 0, none⟩ (.slice a9 0 c9)) := (hc3.mono (by simp)).setCell (.inl (by simp)) _
       exact ⟨_, rfl, hr3.keep (fun k hk => Below.heap_setCell w3 _ _ k (fun e => by have h9 := hn3 k hk; have e2 : k = b := e; omega)), fun k hk => Nat.le_trans HC2.out.size (hn3 k hk), ⟨_, set_blk (hc3.keep HB2.out (by simp)), .inl ⟨rfl, a9, c9, rfl⟩, hgb, by simp⟩, HC2.out.trans hs (fun x hx => .inl hx)⟩
      have HFIN := LH hfin
      have f02 := blk_frozen hb2 0
      clear hb2 hc2 hfin CN hl2 HDL
      cases a2 with
      | none =>
       go_wp2_with fail
       refine (rcopy_zero _ _ _).mono ?_
       rintro e w3 ⟨rfl, rfl⟩
       go_wp2
       go_ret
       exact (HFIN.out w2 _ _ _ (Chg.refl _ _) (BRow.nil _) (by simp [Value.ownBlock])).out
      | some x =>
       by_cases hc0 : c2 = 0
       ·subst hc0
        go_wp2_with fail
        refine (rcopy_zero _ _ _).mono ?_
        rintro e w3 ⟨rfl, rfl⟩
        go_wp2
        go_ret
        exact (HFIN.out w2 _ _ _ (Chg.refl _ _) (BRow.nil _) (by simp [Value.ownBlock])).out
       ·have hc1 : 0 < c2 := by omega
        go_wp2_with fail
        refine (rcopy_zero _ _ _).mono ?_
        rintro e w3 ⟨rfl, rfl⟩
        go_wp2
        go_ret
        exact (HFIN.out w2 _ _ _ (Chg.refl _ _) (BRow.nil _) (by simp [Value.ownBlock])).out
     ·have b02 := blk_cell hb2 0 _ rfl
      have b12 := blk_cell hb2 1 _ rfl
      have hbl2 := blk_lt hb2
      have HB2 := LH hb2
      have HC2 := LH hc2
      have hlt2 : (l2.take n).length = n := by rw [List.length_take]; omega
      have hB : BytesAt w2 (.slice (some ⟨g, o2, none⟩) n c2) (l2.take n) := by
       refine ⟨_, c2, by rw [hlt2], by omega, h22, .inr ⟨g, o2, rfl, fun i hi => ?_⟩⟩
       rw [hlt2] at hi
       rw [getD_take _ _ _ hi]
       exact hcell i (by omega)
      have CC := LH (rcopy_any _ _ w2 hB (by omega))
      have HCL := LH hcell
      have HL2 := LH hlt2
      have h22b := h22
      unfold maxLen at h22b
      clear hb2 hc2 hB hcell hlt2 CN
      go_wp2_with fail
      refine CC.out.mono ?_
      rintro e w3 ⟨v3, rfl, hr3, hn3, hc3⟩
      have hb3 := hc3.keep HB2.out (by simp)
      have b03 := blk_cell hb3 0 _ rfl
      have b13 := blk_cell hb3 1 _ rfl
      have f03 := blk_frozen hb3 0
      have hbl3 := blk_lt hb3
      obtain ⟨a3, c3, he3, _⟩ := hr3.bytes
      rw [HL2.out] at he3
      obtain rfl := he3
      have HR3 := LH hr3
      have HN3 := LH hn3
      have HC3 := LH hc3
      have HB3 := LH hb3
      clear hr3 hn3 hc3 hb3 CC
      have hset : ∀ u, Chg [b] w2 (w3.setCell ⟨b, 0, none⟩ u) := fun u => (HC3.out.mono (by simp)).setCell (.inl (by simp)) _
      have hdn : (l2.drop n).length = l2.length - n := List.length_drop ..
      have hgw2 : g < w2.heap.size := h23
      have hfin : ∀ o3, (n < l2.length -> o3 = o2 + n) -> Hid (RRawLeft w b g (eyeRaw l 0 most) (.returned (.slice a3 n c3)) (w3.setCell ⟨b, 0, none⟩ (.slice (some ⟨g, o3, none⟩) (l2.length - n) (c2 - n)))) := by
       intro o3 ho3
       have hs := hset (.slice (some ⟨g, o3, none⟩) (l2.length - n) (c2 - n))
       have hgk : (w3.setCell ⟨b, 0, none⟩ (.slice (some ⟨g, o3, none⟩) (l2.length - n) (c2 - n))).heap[g]? = w2.heap[g]? := hs.block g hgw2 (by simp; exact hgb)
       refine LH ?_
       rw [HR.out]
       refine ⟨_, rfl, HR3.out.keep (fun k hk => Below.heap_setCell w3 _ _ k (fun e => by have h9 := HN3.out k hk; have e2 : k = b := e; omega)), fun k hk => Nat.le_trans HC2.out.size (HN3.out k hk), ⟨_, set_blk HB3.out, .inr ⟨o3, c2 - n, by rw [hdn], by (show (l2.drop n).length <= _; rw [hdn]; omega), by omega, Nat.lt_of_lt_of_le hgw2 hs.size, fun i hi => ?_⟩, hgb, by show (l2.drop n).length <= 1000000; rw [hdn]; omega⟩, HC2.out.trans hs (fun x hx => .inl hx)⟩
       rw [hdn] at hi
       obtain rfl := ho3 (by omega)
       rw [getD_drop, Nat.add_assoc]
       exact (World.cell?_of_block (w := w2) (a := ⟨g, o2 + (n + i), none⟩) hgk).trans (HCL.out (n + i) (by omega))
      have HFIN := LH hfin
      clear hfin hset hdn
      by_cases hcn : c2 = n
      ·subst hcn
       go_wp2
       go_ret
       have h9 := (HFIN.out o2 (fun h => by omega)).out
       rw [Nat.sub_self, show l2.length - c2 = 0 by omega] at h9
       exact h9
      ·go_wp2
       go_ret
       exact (HFIN.out (o2 + n) (fun h => rfl)).out
 ·have hr : eyeRaw l bad most = ([], l, bad) := by unfold eyeRaw; rw [if_pos hbad]
  rw [show eyeNum l bad 2 = (0, l, bad) by unfold eyeNum; rw [if_pos hbad]] at CN
  have HR := LH hr
  have q1 : (bad == 0) = false := by simp [hbad]
  have q2 : (bad != 0) = true := by simp [hbad]
  clear hb hr HE hbad
  go_enter Tryz.func62, Tryz.ntmps62
  go_wp2_with fail
  refine CN.out.mono ?_
  rintro e w2 ⟨rfl, ⟨v2, hb2, hv2, _, _⟩, hc2⟩
  have HF := (HFAIL.out bad bad v2 w2 HR.out hb2 hc2).2 rfl
  obtain ⟨a2, c2, rfl⟩ := hv2.slice
  have b02 := blk_cell hb2 0 _ rfl
  have b12 := blk_cell hb2 1 _ rfl
  have f02 := blk_frozen hb2 0
  have hbl2 := blk_lt hb2
  clear hb2 hv2 hc2 CN HFAIL
  go_wp2
  go_ret
  exact HF.out
end Go.Proofs.YtdkhmfcfihbjeaaGreatDoor.W
