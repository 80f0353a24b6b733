/- Texts laid together. -/
import Derived.Test.YtnbhanmpmjjkkaaGreatDoorFZ2
import Derived.Laws.CopyOwn
import Derived.Laws.MakeOwn
import Derived.Test.YtnbhanmpmjjkkaaGreatDoorFZ1
import Derived.Maps.OwnSet
import Derived.Maps.RangeWalk
import Derived.DeepKeys4
import Derived.Laws.ResultCell
import Derived.Laws.Rows
set_option linter.unusedVariables false
set_option linter.unusedSimpArgs false
set_option maxHeartbeats 64000000
set_option maxRecDepth 100000
namespace Go.Proofs.YtnbhanmpmjjkkaaGreatDoor.W
open Go.RowKit
def pad (m : List UInt8) : List UInt8 := m.take 64 ++ zeros (64 - (m.take 64).length)
theorem pad_len (m : List UInt8) : (pad m).length = 64 := by
 unfold pad zeros
 rw [List.length_append, List.length_replicate, List.length_take]
 omega
def Z64 : Array Value := (bvs (zeros 64)).toArray
theorem facts_u8 : (Tryz.prog.info? 5).map (fun i => (i.zero, i.size, i.bytes)) = some (some (.int .u8 0), 1, 1) := by kernel_rfl
theorem make_64 (w : World) : (Instr.makeSlice 22 (.int .i64 64) (.int .i64 64)).run Tryz.prog w = .ok (.slice (some ⟨w.heap.size, 0, none⟩) 64 64) (w.alloc (.cells Z64 5)) := by
 obtain ⟨i, hi, h1, h2, h3⟩ := info_parts facts_u8
 have h := run_make (P := Tryz.prog) w 22 5 i _ Tryz.underlying22 hi h1 .i64 .i64 64 64 (by omega) (Int.le_refl _) (by rw [h3]; omega) (by omega)
 rw [h2] at h
 have hz : madeCells (Value.int .u8 0).cells ((64 : Int).toNat * 1) = Z64 := by kernel_rfl
 rw [hz] at h
 exact h
theorem row_of_block {w : World} {N : Nat} {l : List UInt8} (h : w.heap[N]? = some (.cells (bvs l).toArray 5 (0, 0))) (hl : l.length <= maxLen) : BRow w (.slice (some ⟨N, 0, none⟩) l.length l.length) l := by
 refine ⟨by simp [bvs_len], .inr ⟨N, l.length, (bvs l).toArray, rfl, Nat.zero_le _, h, Nat.le_refl _, hl, by simp [bvs_len], ?_⟩⟩
 rw [Nat.mul_one, List.take_of_length_le (by simp [bvs_len])]
theorem wpList_pad {w : World} {ops : Array Oper} {rest : List Oper} {o : Oper} {a : Act} {Q : Exit -> Act -> World -> Prop} (hgd : o.guard = none) (d s : Operand)
  (ho : o.op = .call { callee := .builtin .copy, args := #[d, s], argTypes := #[22, 22] }) (N : Nat) (hd : a.eval d = .slice (some ⟨N, 0, none⟩) 64 64) (u : Value) (hs : a.eval s = u) (m : List UInt8) (hm : BytesAt w u m)
  (hN : w.heap[N]? = some (.cells Z64 5 (0, 0)))
  (h : ∀ w' n, BRow w' (.slice (some ⟨N, 0, none⟩) 64 64) (pad m) -> Below N w w' -> N < w'.heap.size -> wpList Tryz.prog ops Q rest (a.put o.dst n) w') : wpList Tryz.prog ops Q (o :: rest) a w := by
 obtain ⟨au, cap, rfl, h1, h2, h3⟩ := hm
 have hlen : (m.take 64).length = Nat.min m.length 64 := by rw [List.length_take]; exact Nat.min_comm _ _
 have hle : Nat.min m.length 64 <= 64 := Nat.min_le_right _ _
 refine wpList_copy_splice hgd d s 22 22 ho 5 Tryz.underlying22 (by kernel_rfl) (some ⟨N, 0, none⟩) au 64 64 m.length cap hd hs N 0 (bvs (zeros 64)) 5 hN (bvs (m.take 64)) (by rw [bvs_len, hlen]) ?_ (by rw [bvs_len, bvs_len, hlen]; simp [zeros]; omega) (bvs_one _) N w (Below.refl _ _) (Nat.le_refl _) ?_
 ·intro hpos
  refine ⟨rfl, ?_⟩
  rcases h3 with ⟨rfl, _⟩ | ⟨g, o', rfl, hc⟩
  ·simp [bvs] at hpos
  ·refine ⟨_, rfl, fun j v hv => ?_⟩
   have hj : j < (m.take 64).length := by
    have := (List.getElem?_eq_some_iff.1 hv).1
    rwa [bvs_len] at this
   rw [bvs_at _ j hj] at hv
   cases hv
   rw [add_none, hc j (by rw [List.length_take] at hj; omega), getD_take _ _ _ (by rw [List.length_take] at hj; omega)]
 ·intro w' hw' hb
  have hsp : splice (bvs (zeros 64)) 0 (bvs (m.take 64)) = bvs (pad m) := by
   unfold splice pad
   rw [List.take_zero, List.nil_append, Nat.zero_add, bvs_len]
   unfold bvs
   rw [List.map_append]
   congr 1
   rw [<- List.map_drop]
   congr 1
   unfold zeros
   rw [List.drop_replicate]
  have hw2 := hw'.out
  rw [hsp] at hw2
  have hr := row_of_block hw2 (by rw [pad_len]; unfold maxLen; omega)
  rw [pad_len] at hr
  exact h w' _ hr hb (blk_lt hw2)
theorem bytes_drop {w : World} {g o cap k : Nat} {l : List UInt8} (h : BytesAt w (.slice (some ⟨g, o, none⟩) l.length cap) l) (hk : k <= l.length) (o2 : Nat) (ho : k < l.length -> o2 = o + k) : BytesAt w (.slice (some ⟨g, o2, none⟩) (l.length - k) (cap - k)) (l.drop k) := by
 have h1 := BytesAt.tail h (List.drop_suffix k l) o2 (fun hne => by
  rw [List.length_drop]
  have : 0 < (l.drop k).length := List.length_pos_iff.2 hne
  rw [List.length_drop] at this
  rw [ho (by omega)]
  show o + k = o + _
  omega)
 rw [List.length_drop, show l.length - (l.length - k) = k by omega] at h1
 exact h1
theorem chg_pad {w w1 w2 : World} (h : Chg [] w w1) (hb : Below w.heap.size w1 w2) : Chg [] w w2 := Chg.of_below ((Chg.below h (by simp)).trans hb)
theorem DS.write_ok (d : DS) (k : Int) (b : List UInt8) : (d.write k b).2.n = d.n /\ (d.write k b).2.ops <= d.ops + 1 /\ (d.write k b).2.since.length <= d.since.length + 1 := by
 unfold DS.write DS.op
 split
 ·exact ⟨rfl, Nat.le_succ _, Nat.le_succ _⟩
 ·split
  ·by_cases hf : d.fuse = 0
   ·simp [hf]
   ·simp [hf]
  ·exact ⟨rfl, Nat.le_succ _, Nat.le_succ _⟩
theorem DS.sync_ok (d : DS) : (d.sync).2.n = d.n /\ (d.sync).2.ops <= d.ops + 1 /\ (d.sync).2.since.length <= d.since.length := by
 unfold DS.sync DS.op
 split
 ·exact ⟨rfl, Nat.le_succ _, Nat.le_refl _⟩
 ·by_cases hf : d.fuse = 0
  ·simp [hf]
  ·simp [hf]
theorem DS.lay_ok (pos : Nat) (b : List UInt8) : ∀ (k j : Nat) (d : DS), (d.lay pos b k j).2.n = d.n /\ (d.lay pos b k j).2.ops <= d.ops + k + 1 /\ (d.lay pos b k j).2.since.length <= d.since.length + k
 | 0, j, d => by
  obtain ⟨h1, h2, h3⟩ := d.sync_ok
  exact ⟨h1, by simpa [DS.lay] using h2, by simpa [DS.lay] using h3⟩
 | k + 1, j, d => by
  obtain ⟨h1, h2, h3⟩ := d.write_ok (pos + j : Nat) (secAt b j)
  obtain ⟨g1, g2, g3⟩ := DS.lay_ok pos b k (j + 1) (d.write (pos + j : Nat) (secAt b j)).2
  unfold DS.lay
  split
  ·exact ⟨h1, by omega, by omega⟩
  ·exact ⟨by rw [g1, h1], by omega, by omega⟩
theorem SlotsAt.did {w w' : World} {q p : Nat} {S U : List Nat} {s : SS} {rv : Value} {R : List (SRow × Value)} {d' : DS} (h : SlotsOk w q p S U s rv R) (hd : Did w w' p S d') (hn : d'.n = s.d.n) : Sid w w' q p U { s with d := d' } := by
 obtain ⟨S', h1, h2, h3⟩ := hd
 have hlim := h.obj.lim
 refine ⟨U ++ S', ⟨S', rv, R, h.obj.keep h3 h.sep, h1, h.rows, fun x hx hm => ?_, fun x hx => ?_, fun x hx => List.mem_append_right _ hx, fun x hx => List.mem_append_left _ (h.uB x hx), fun x hx => ?_, ⟨by rw [show ({ s with d := d' } : SS).d.n = s.d.n from hn]; exact h.ok.room, h.ok.rows⟩⟩, fun x hx => ?_, h3.mono (fun x hx => .inl (h.uS x hx))⟩
 ·rcases h2 x hm with h4 | h4
  ·exact h.sep x hx h4
  ·have := hlim x hx; omega
 ·obtain ⟨k1, k2⟩ := h.keys x hx
  refine ⟨k1.chg h3 (fun k hk hm => (k2 k hk).2 (h.uS k hm)), fun g hg => ⟨Nat.lt_of_lt_of_le (k2 g hg).1 h3.size, fun hm => ?_⟩⟩
  rcases List.mem_append.1 hm with hm | hm
  ·exact (k2 g hg).2 hm
  ·rcases h2 g hm with h4 | h4
   ·exact (k2 g hg).2 (h.uS g h4)
   ·have := (k2 g hg).1; omega
 ·rcases List.mem_append.1 hx with hx | hx
  ·exact Nat.lt_of_lt_of_le (h.uL x hx) h3.size
  ·exact h1.lim x hx
 ·rcases List.mem_append.1 hx with hx | hx
  ·exact .inl hx
  ·rcases h2 x hx with h4 | h4
   ·exact .inl (h.uS x h4)
   ·exact .inr h4
theorem Sid.glue {w w1 w2 : World} {q p : Nat} {U U1 : List Nat} {s2 : SS} (hs : ∀ x ∈ U1, x ∈ U ∨ w.heap.size <= x) (hc : Chg U w w1) (h : Sid w1 w2 q p U1 s2) : Sid w w2 q p U s2 := by
 obtain ⟨U2, b1, b2, b3⟩ := h
 refine ⟨U2, b1, fun x hx => ?_, hc.trans b3 hs⟩
 rcases b2 x hx with h | h
 ·exact hs x h
 ·exact .inr (Nat.le_trans hc.size h)
theorem Sid.pre {w0 w w' : World} {q p : Nat} {U : List Nat} {s : SS} (hc : Chg [] w0 w) (h : Sid w w' q p U s) : Sid w0 w' q p U s := Sid.glue (fun x hx => .inl hx) (hc.mono (by simp)) h
theorem slay_any (q p : Nat) (U : List Nat) (s : SS) (pos : Nat) (v : Value) (b : List UInt8) (w : World) (h : SlotsAt w q p U s) (hb : BytesAt w v b) (hbU : b ≠ [] -> ∀ k, v.ownBlock = some k -> k ∉ U) (hpos : pos + nsec b.length <= s.d.n) (hbl : b.length <= 1000000)
  (ho : s.d.ops + nsec b.length + 1 <= 1000000000) (hw : s.d.since.length + nsec b.length <= 1000000) :
  Calls Tryz.prog 138 #[.pointer (some ⟨q, 0, none⟩), .int .i64 (pos : Int), v] w fun e w' => e = .returned (.int .i64 (s.d.lays pos b).1) /\ Sid w w' q p U { s with d := (s.d.lays pos b).2 } := by
 have CS := LH (ssec_any b.length w (by omega))
 obtain ⟨m, hm⟩ : ∃ m, m = nsec b.length := ⟨_, rfl⟩
 rw [<- hm] at CS hpos ho hw
 have HM := LH hm
 have hpn : s.d.n <= 4160 := by
  obtain ⟨S, rv, R, H⟩ := h
  obtain ⟨gn, gl, cn, cl, v, hd⟩ := H.disk
  exact hd.few
 have hmb : (0 < m -> (m - 1) * 64 < b.length) /\ m <= 4160 := by
  rw [hm]; unfold nsec; rw [hm] at hpos; unfold nsec at hpos; omega
 have HB := LH hb
 have HBU := LH hbU
 have HS := LH h
 have hmk := make_64
 obtain ⟨av, cv, rfl⟩ := hb.slice
 have hcv : b.length <= cv /\ cv <= 9223372036854775807 := by
  obtain ⟨a', c', he, h1, h2, _⟩ := hb
  have : cv = c' := (Value.slice.inj he).2.2
  unfold maxLen at h2
  omega
 clear hm hb hbU h
 go_enter Tryz.func138, Tryz.ntmps138
 go_wp2_with (go_at_call 136; refine CS.out.mono ?_; rintro e w' ⟨rfl, hq⟩; subst hq)
 go_loopg [13] m (fun g' s13 wr => ∃ (j : Nat) (dj : DS), s13 = .int .i64 j /\ j <= m /\ m <= j + g' /\ Hid (Sid w wr q p U { s with d := dj } /\ dj.n = s.d.n /\ dj.ops <= s.d.ops + j /\ dj.since.length <= s.d.since.length + j /\ s.d.lay pos b m 0 = dj.lay pos b (m - j) j))
 case atStart => exact ⟨0, s.d, rfl, by omega, by omega, LH ⟨Sid.same HS.out, rfl, by omega, by omega, rfl⟩⟩
 case round =>
  obtain ⟨j, dj, rfl, hj, hjg, HJ⟩ := hrel
  obtain ⟨⟨Uj, ⟨S, rv, R, H⟩, hUj, hCj⟩, hjn, hjo, hjs, hjl⟩ := HJ.out
  have HUj := LH hUj
  have HCj := LH hCj
  have c0 : wr.cell? ⟨q, 0, none⟩ = some (.pointer (some ⟨p, 0, none⟩)) := blk_cell H.obj.head 0 _ rfl
  have HH := LH H
  have HJL := LH hjl
  clear H hUj hCj hjl HJ
  have hbUr : b ≠ [] -> ∀ k, (Value.slice av b.length cv).ownBlock = some k -> k ∉ U := HBU.out
  have hBr : BytesAt wr (.slice av b.length cv) b := HB.out.chgW HCj.out hbUr
  have HBr := LH hBr
  clear hBr hbUr
  by_cases hlt : j < m
  ·obtain ⟨w1, hw1⟩ : ∃ w1, w1 = wr.alloc (.cells Z64 5) := ⟨_, rfl⟩
   have hc1 : Chg [] wr w1 := by rw [hw1]; exact (Chg.refl _ _).alloc _
   have hN1 : Hid (w1.heap[wr.heap.size]? = some (.cells Z64 5 (0, 0))) := LH (by rw [hw1]; exact heap_alloc_new wr _)
   have hjb : j * 64 < b.length := by
    have h1 : j <= m - 1 := by omega
    have h2 := Nat.mul_le_mul_right 64 h1
    have h3 := hmb.1 (by omega)
    omega
   obtain ⟨g, o, rfl⟩ : ∃ g o, av = some ⟨g, o, none⟩ := by
    obtain ⟨a', c', he, _, _, h3⟩ := HBr.out
    obtain rfl : av = a' := (Value.slice.inj he).1
    rcases h3 with ⟨rfl, _⟩ | ⟨g, o, e, _⟩
    ·simp at hjb
    ·exact ⟨g, o, e⟩
   have hB1 : BytesAt w1 (.slice (some ⟨g, o + j * 64, none⟩) (b.length - j * 64) (cv - j * 64)) (b.drop (j * 64)) := bytes_drop (HBr.out.chg hc1 (by simp)) (by omega) _ (fun _ => rfl)
   have HB1 := LH hB1
   have HC1 := LH hc1
   have HW1 := LH hw1
   have hcj : j * 64 < cv := by omega
   have hcj2 : ¬ cv = j * 64 := by omega
   have hjz : (j : Int) < (m : Int) := by omega
   have hj64 : ((j : Int) * 64) = ((j * 64 : Nat) : Int) := by push_cast; rfl
   have hmj : m - j = (m - (j + 1)) + 1 := by omega
   have HLS : Hid (s.d.lays pos b = if (dj.write (pos + j : Nat) (secAt b j)).1 ≠ 0 then dj.write (pos + j : Nat) (secAt b j) else (dj.write (pos + j : Nat) (secAt b j)).2.lay pos b (m - (j + 1)) (j + 1)) := LH (by
    unfold DS.lays
    rw [<- HM.out, HJL.out, hmj]
    rfl)
   clear hB1 hw1 hc1 hj64 hmj
   go_wp2_with (rw [<- HW1.out]; refine wpList_pad (by rfl) (.tmp 17) (.tmp 21) (by rfl) wr.heap.size (by rfl) _ (by rfl) (b.drop (j * 64)) HB1.out hN1.out ?_; intro w2 np hr2 hb2 hl2
                have hc2 := chg_pad HC1.out hb2
                have c02 := hc2.cell c0 (by simp)
                have HR2 := LH hr2
                have HC2 := LH hc2
                clear hr2 hb2 hc2)
   have hpj : ((pos + j : Nat) : Int) = (pos : Int) + (j : Int) := by push_cast; rfl
   rw [hpj] at HLS
   have CW := LH (dwrite_any p S dj ((pos : Int) + (j : Int)) _ (secAt b j) w2 (HH.out.disk.keep HC2.out (by simp)) (by omega) (by omega) ⟨by omega, by omega⟩ (secAt_len b j) HR2.out.bytes)
   have hwok := dj.write_ok ((pos : Int) + (j : Int)) (secAt b j)
   generalize dj.write ((pos : Int) + (j : Int)) (secAt b j) = r at *
   obtain ⟨r1, d1⟩ := r
   dsimp only at CW HLS hwok
   have HPJ := LH hpj
   clear hpj
   refine CW.out.mono ?_
   rintro e w3 ⟨rfl, hd3⟩
   have HD3 := LH (Did.pre HC2.out hd3)
   clear hd3 CW
   have hsid : Sid w w3 q p U { s with d := d1 } := Sid.glue HUj.out HCj.out (SlotsAt.did (s := { s with d := dj }) HH.out HD3.out hwok.1)
   have HSID := LH hsid
   clear hsid
   by_cases hr0 : r1 = 0
   ·subst hr0
    have HL2 : Hid (s.d.lay pos b m 0 = d1.lay pos b (m - (j + 1)) (j + 1)) := LH (by
     have h1 := HLS.out
     rw [if_neg (by simp)] at h1
     rw [<- h1]
     unfold DS.lays
     rw [<- HM.out])
    go_wp2
    go_roundg (gk - 1)
    case measure => omega
    case rel => exact ⟨j + 1, d1, by go_num, by omega, by omega, LH ⟨HSID.out, by rw [hwok.1, hjn], by omega, by omega, HL2.out⟩⟩
   ·have HL2 : Hid (s.d.lays pos b = (r1, d1)) := LH (by rw [HLS.out, if_pos hr0])
    have q1 : (r1 != 0) = true := by simp [hr0]
    clear hr0
    go_wp2
    go_ret
    rw [HL2.out]
    exact ⟨rfl, HSID.out⟩
  ·have hjm : j = m := by omega
   have HL2 : Hid (s.d.lays pos b = dj.sync) := LH (by
    unfold DS.lays
    rw [<- HM.out, HJL.out, hjm, Nat.sub_self]
    rfl)
   have hsok := dj.sync_ok
   have CY := LH (dsync_any p S dj wr HH.out.disk (by omega) (by omega))
   clear hjm
   go_wp2_with fail
   refine CY.out.mono ?_
   rintro e w3 ⟨rfl, hd3⟩
   have HSID : Hid (Sid w w3 q p U { s with d := (dj.sync).2 }) := LH (Sid.glue HUj.out HCj.out (SlotsAt.did (s := { s with d := dj }) HH.out hd3 hsok.1))
   clear hd3 CY
   go_wp2
   go_ret
   rw [HL2.out]
   exact ⟨rfl, HSID.out⟩
def GetPost (r : List UInt8 × Int) (w : World) (e : Ending) (w' : World) : Prop := (∃ v, e = .returned (.tuple #[v, .int .i64 r.2]) /\ BytesAt w' v r.1 /\ ∀ k, v.ownBlock = some k -> w.heap.size <= k) /\ Chg [] w w'
theorem GetPost.nil {c : Int} {w w' : World} (hc : Chg [] w w') : GetPost ([], c) w (.returned (.tuple #[.slice none 0 0, .int .i64 c])) w' := ⟨⟨_, rfl, BytesAt.nil _, by simp [Value.ownBlock]⟩, hc⟩
theorem sget_any (q p : Nat) (U : List Nat) (s : SS) (i : Int) (w : World) (h : SlotsAt w q p U s) : Calls Tryz.prog 101 #[.pointer (some ⟨q, 0, none⟩), .int .i64 i] w (GetPost (s.get i) w) := by
 have CH := LH (shas_any q p U s i w h)
 have HS := LH h
 obtain ⟨S, rv, R, H⟩ := h
 have c0 : w.cell? ⟨q, 0, none⟩ = some (.pointer (some ⟨p, 0, none⟩)) := blk_cell H.obj.head 0 _ rfl
 by_cases hi : s.has i
 ·rw [decide_eq_true hi] at CH
  have hi' := hi
  obtain ⟨h0, h1⟩ := hi'
  obtain ⟨j, rfl⟩ := Int.eq_ofNat_of_zero_le h0
  have hjl : j < s.rows.length := by omega
  obtain ⟨g, cap, kv, hrv, hcap, hcm, hR, k0, k1, k2, k3, k4⟩ := H.at j hjl
  have c2 : w.cell? ⟨q, 2, none⟩ = some rv := blk_cell H.obj.head 2 _ rfl
  have hfew := H.few
  have hrow : s.row (j : Int) = s.rows.getD j noRow := rfl
  have hn448 : (s.rows.getD j noRow).n <= 448 := by
   rw [List.getD_eq_getElem?_getD, List.getElem?_eq_getElem hjl]
   exact (H.ok.rows _ (List.getElem_mem _)).1
  have hroom := H.ok.room
  by_cases hu : (s.row (j : Int)).used = false
  ·have hg : s.get (j : Int) = ([], 6) := by unfold SS.get; rw [if_neg (by simpa using hi), if_pos hu]
   have HP := LH (fun (w' : World) (hc : Chg [] w w') => GetPost.nil (c := 6) hc)
   have HG := LH hg
   rw [HG.out]
   rw [hrow] at hu
   rw [hu] at k0
   subst hrv
   generalize s.rows.getD j noRow = r at *
   generalize s.rows.length = n at *
   have hjz : (j : Int) < (n : Int) := by omega
   have hjz1 : (j : Int).toNat = j := by omega
   clear H hR k1 k2 k3 k4 hu hg hi hrow hroom
   go_enter Tryz.func101, Tryz.ntmps101
   go_wp2_with (go_at_call 129; refine CH.out.mono ?_; rintro e w' ⟨rfl, hq⟩; subst hq)
   go_ret2
   exact HP.out _ (Chg.refl _ _)
  ·have hu' : (s.rows.getD j noRow).used = true := by rw [<- hrow]; simpa using hu
   have hg : s.get (j : Int) = if s.d.dead then ([], 14) else (s.data (j : Int), 0) := by
    unfold SS.get; rw [if_neg (by simpa using hi), if_neg hu]
   have hdat : s.data (j : Int) = (flat (nsec (s.rows.getD j noRow).n) (fun k => s.d.now (s.pos j + 1 + k))).take (s.rows.getD j noRow).n := rfl
   have hpos : s.pos (j : Int) = s.first + 8 * j := rfl
   rw [hu'] at k0
   have CA := LH (fun w' (h' : SlotsAt w' q p U s) => sat_any q p U s j w' h' (by omega))
   have CSec := LH (ssec_any (s.rows.getD j noRow).n w (by omega))
   have CD := LH (ddead_any p S s.d w H.disk)
   have hm7 : nsec (s.rows.getD j noRow).n <= 7 := by unfold nsec; omega
   have hmn : (s.rows.getD j noRow).n <= nsec (s.rows.getD j noRow).n * 64 := by unfold nsec; omega
   have HDK := LH H.disk
   have hlen64 : Hid (∀ k, k < s.d.n -> (s.d.now k).length = 64) := LH (by
    obtain ⟨gn, gl, cn, cl, v, hd⟩ := H.disk
    exact fun k hk => hd.now.len k hk)
   subst hrv
   have HG := LH hg
   have HDAT := LH hdat
   generalize hrr : s.rows.getD j noRow = r at *
   have hpl : s.pos (j : Int) + 8 <= s.d.n := by rw [hpos]; omega
   generalize s.pos (j : Int) = pos at *
   generalize hrl : s.rows.length = n at *
   have hjz : (j : Int) < (n : Int) := by omega
   have hjz1 : (j : Int).toNat = j := by omega
   obtain ⟨m, hm⟩ : ∃ m, m = nsec r.n := ⟨_, rfl⟩
   rw [<- hm] at CSec hm7 hmn
   have HM := LH hm
   obtain ⟨rn, hrn⟩ : ∃ rn, rn = r.n := ⟨_, rfl⟩
   rw [<- hrn] at CSec hmn k1 hn448
   have HRN := LH hrn
   have hnd : s.d.n <= 4160 := by
    obtain ⟨gn, gl, cn, cl, v, hd⟩ := H.disk
    exact hd.few
   have hwr : Hid (IntKind.i64.wrap (IntKind.i64.wrap ((pos : Int) + 1)) = (pos : Int) + 1) := LH (by rw [IntWalk.i64_in ((pos : Int) + 1) ⟨by omega, by omega⟩, IntWalk.i64_in _ ⟨by omega, by omega⟩])
   clear H hR k2 k3 k4 hu' hg hi hrow hdat hroom hm hrn hrr hrl hu hfew hpos
   by_cases hd : s.d.dead = true
   ·have HP := LH (fun (w' : World) (hc : Chg [] w w') => GetPost.nil (c := 14) hc)
    have HGG : Hid (s.get (j : Int) = ([], 14)) := LH (by rw [HG.out, if_pos hd])
    rw [HGG.out]
    rw [hd] at CD
    have HDD := LH hd
    clear hd
    go_enter Tryz.func101, Tryz.ntmps101
    go_wp2_with (first
     | (go_at_call 129; refine CH.out.mono ?_; rintro e w' ⟨rfl, hq⟩; subst hq)
     | (go_at_call 136; refine CSec.out.mono ?_; rintro e w' ⟨rfl, hq⟩; subst hq))
    go_loopg [6, 44] 0 (fun g' s6 s44 wr => s6 = .slice none 0 0 /\ s44 = .int .i64 0 /\ wr = w)
    case atStart => exact ⟨rfl, rfl, rfl⟩
    case round =>
     obtain ⟨rfl, rfl, rfl⟩ := hrel
     by_cases hm0 : 0 < m
     ·have hmz : (0 : Int) < (m : Int) := by omega
      have CR := LH (dread_any p S s.d ((pos : Int) + 1) wr.drew (by
       obtain ⟨gn, gl, cn, cl, v, hd⟩ := HDK.out
       exact ⟨gn, gl, cn, cl, v, hd.drew⟩))
      go_wp2_with fail
      refine wp_region_L [(10, fun w' => w'.cell? ⟨q, 0, none⟩ = some (.pointer (some ⟨p, 0, none⟩)))] (by kernel_rfl) ?_ (fun hHeld => ?_)
      ·exact (HoldC.cons (c0) HoldC.nil)
      refine tk 0 ?_ rfl (by kernel_rfl) (fun _ _ _ h => h) (.inl ⟨by rfl, ?_⟩) hHeld ?_; rotate_left; · (intro w _; go_simp; try with_reducible rfl)
      clear hHeld; intro hHeld; try simp only [gA,gB,gC,Act.put,gD,gE,gF]
      refine tk 1 ?_ rfl (by kernel_rfl) (fun _ _ _ h => h) (.inl ⟨by rfl, ?_⟩) hHeld ?_; rotate_left; · (intro w _; go_simp; try with_reducible rfl)
      clear hHeld; intro hHeld; try simp only [gA,gB,gC,Act.put,gD,gE,gF]
      refine tk 2 ?_ rfl (by kernel_rfl) (fun _ _ _ h => h) (.inl ⟨by rfl, ?_⟩) hHeld ?_; rotate_left; · (intro w _; go_simp; try with_reducible rfl)
      clear hHeld; intro hHeld; try simp only [gA,gB,gC,Act.put,gD,gE,gF]
      refine ld 0 3 ?_ rfl rfl (by kernel_rfl) (fun _ _ _ h => h) (.inl ⟨by rfl, ?_⟩) hHeld ?_; rotate_left; · (intro w hSw; (try dsimp only at hSw); go_simp; try with_reducible rfl)
      clear hHeld; intro hHeld; try simp only [gA,gB,gC,Act.put,gD,gE,gF]
      refine tk 4 ?_ rfl (by kernel_rfl) (fun _ _ _ h => h) (.inl ⟨by rfl, ?_⟩) hHeld ?_; rotate_left; · (intro w _; go_simp; try with_reducible rfl)
      clear hHeld; intro hHeld; try simp only [gA,gB,gC,Act.put,gD,gE,gF]
      refine tk 5 ?_ rfl (by kernel_rfl) (fun _ _ _ h => h) (.inl ⟨by rfl, ?_⟩) hHeld ?_; rotate_left; · (intro w _; go_simp; try with_reducible rfl)
      clear hHeld; intro hHeld; try simp only [gA,gB,gC,Act.put,gD,gE,gF]
      refine tk 8 ?_ rfl (by kernel_rfl) (fun _ _ _ h => h) (.inl ⟨by rfl, ?_⟩) hHeld ?_; rotate_left; · (intro w _; go_simp; try with_reducible rfl)
      clear hHeld; intro hHeld; try simp only [gA,gB,gC,Act.put,gD,gE,gF]
      refine wpAnyL_ready (rs := [6]) (by kernel_rfl) (by simp) (AllReadyL.cons (o := _) rfl (fun K hK => ?_) AllReadyL.nil)
      try simp only [gA,gB,gC]
      go_simp
      refine (CA.out _ (HS.out.keep0 (by exact (Chg.refl _ _).drew))).mono ?_
      rintro e w' ⟨rfl, hq⟩
      subst hq
      try go_wp2_with fail
      clear hHeld
      refine hK.out _ _ ?_ (fun hHeld => ?_)
      ·exact (HoldC.cons (c0) HoldC.nil)
      clear hK K
      try simp only [gA,gB,gC,Act.put,gD,gE,gF]
      refine tk 7 ?_ rfl (by kernel_rfl) (fun _ _ _ h => h) (.inl ⟨by rfl, ?_⟩) hHeld ?_; rotate_left; · (intro w _; go_simp; try with_reducible rfl)
      clear hHeld; intro hHeld; try simp only [gA,gB,gC,Act.put,gD,gE,gF]
      refine tk 9 ?_ rfl (by kernel_rfl) (fun _ _ _ h => h) (.inl ⟨by rfl, ?_⟩) hHeld ?_; rotate_left; · (intro w _; go_simp; try with_reducible rfl)
      clear hHeld; intro hHeld; try simp only [gA,gB,gC,Act.put,gD,gE,gF]
      refine wpAnyL_ready (rs := [10]) (by kernel_rfl) (by simp) (AllReadyL.cons (o := _) rfl (fun K hK => ?_) AllReadyL.nil)
      try simp only [gA,gB,gC]
      go_simp
      try rw [hwr.out]
      try rw [hwr2.out]
      refine CR.out.mono ?_
      rintro e w3 ⟨he, hc3⟩
      rw [if_pos HDD.out] at he
      subst he
      have HC3 : Hid (Chg [] wr w3) := LH ((by exact (Chg.refl [] wr).drew : Chg [] wr wr.drew).trans hc3 (by simp))
      clear hc3 CR
      try go_wp2_with fail
      clear hHeld
      refine hK.out _ _ ?_ (fun hHeld => ?_)
      ·exact (HoldC.past (by kernel_rfl) HoldC.nil)
      clear hK K
      try simp only [gA,gB,gC,Act.put,gD,gE,gF]
      refine tk 11 ?_ rfl (by kernel_rfl) (fun _ _ _ h => h) (.inl ⟨by rfl, ?_⟩) hHeld ?_; rotate_left; · (intro w _; go_simp; try with_reducible rfl)
      clear hHeld; intro hHeld; try simp only [gA,gB,gC,Act.put,gD,gE,gF]
      refine tk 12 ?_ rfl (by kernel_rfl) (fun _ _ _ h => h) (.inl ⟨by rfl, ?_⟩) hHeld ?_; rotate_left; · (intro w _; go_simp; try with_reducible rfl)
      clear hHeld; intro hHeld; try simp only [gA,gB,gC,Act.put,gD,gE,gF]
      refine tk 13 ?_ rfl (by kernel_rfl) (fun _ _ _ h => h) (.inl ⟨by rfl, ?_⟩) hHeld ?_; rotate_left; · (intro w _; go_simp; try with_reducible rfl)
      clear hHeld; intro hHeld; try simp only [gA,gB,gC,Act.put,gD,gE,gF]
      refine tk 14 ?_ rfl (by kernel_rfl) (fun _ _ _ h => h) (.inl ⟨by rfl, ?_⟩) hHeld ?_; rotate_left; · (intro w _; go_simp; try with_reducible rfl)
      clear hHeld; intro hHeld; try simp only [gA,gB,gC,Act.put,gD,gE,gF]
      refine tk 15 ?_ rfl (by kernel_rfl) (fun _ _ _ h => h) (.inl ⟨by rfl, ?_⟩) hHeld ?_; rotate_left; · (intro w _; go_simp; try with_reducible rfl)
      clear hHeld; intro hHeld; try simp only [gA,gB,gC,Act.put,gD,gE,gF]
      refine wpAnyL_done (by kernel_rfl) ?_ _
      clear hHeld
      go_wp2
      go_ret2
      exact HP.out _ HC3.out
     ·obtain rfl : m = 0 := by omega
      go_wp2_with (go_at_call 34; refine CD.out.mono ?_; rintro e w' ⟨rfl, hq⟩; subst hq)
      go_ret2
      exact HP.out _ (Chg.refl _ _)
   ·have hd' : s.d.dead = false := by simpa using hd
    have HGG : Hid (s.get (j : Int) = (s.data (j : Int), 0)) := LH (by rw [HG.out, if_neg hd])
    rw [HGG.out]
    rw [hd'] at CD
    have HDD := LH hd'
    have HK1 := LH k1
    have HC2 := LH c2
    have HC0 := LH c0
    have hkl := World.block_lt_of_cell? w _ k1
    clear hd hd'
    go_enter Tryz.func101, Tryz.ntmps101
    go_wp2_with (first
     | (go_at_call 129; refine CH.out.mono ?_; rintro e w' ⟨rfl, hq⟩; subst hq)
     | (go_at_call 136; refine CSec.out.mono ?_; rintro e w' ⟨rfl, hq⟩; subst hq))
    go_loopg [6, 44] m (fun g' s6 s44 wr => ∃ (k : Nat) (a6 : Option Addr) (c6 : Nat), s6 = .slice a6 (k * 64) c6 /\ s44 = .int .i64 k /\ k <= m /\ m <= k + g' /\ Hid (BRow wr s6 (flat k (fun k => s.d.now (pos + 1 + k))) /\ (∀ g, s6.ownBlock = some g -> w.heap.size <= g) /\ Chg [] w wr))
    case atStart => exact ⟨0, none, 0, rfl, rfl, by omega, by omega, LH ⟨BRow.nil _, by simp [Value.ownBlock], Chg.refl _ _⟩⟩
    case round =>
     obtain ⟨k, a6, c6, rfl, rfl, hk, hkg, HR⟩ := hrel
     obtain ⟨s6, hs6⟩ : ∃ s6, s6 = Value.slice a6 (k * 64) c6 := ⟨_, rfl⟩
     have HS6 := LH hs6
     rw [<- hs6] at HR
     clear hs6 c0 c2 k0 k1
     have c0 := HR.out.2.2.cell HC0.out (by simp)
     by_cases hlt : k < m
     ·have hkz : (k : Int) < (m : Int) := by omega
      have hkz1 : (k : Int).toNat = k := by omega
      have hcd : Chg [] w wr.drew := HR.out.2.2.drew
      have CR := LH (dread_any p S s.d ((pos : Int) + 1 + (k : Int)) wr.drew (HDK.out.keep hcd (by simp)))
      have HSd := LH (HS.out.keep0 hcd)
      have hwr2 : Hid (IntKind.i64.wrap (IntKind.i64.wrap ((pos : Int) + 1) + (k : Int)) = (pos : Int) + 1 + (k : Int)) := LH (by rw [IntWalk.i64_in ((pos : Int) + 1) ⟨by omega, by omega⟩, IntWalk.i64_in _ ⟨by omega, by omega⟩])
      have hpk : ((pos : Int) + 1 + (k : Int)).toNat = pos + 1 + k := by omega
      have hl1 := hlen64.out (pos + 1 + k) (by omega)
      have HL1 := LH hl1
      have HPK := LH hpk
      clear hcd hpk hl1
      go_wp2_with fail
      refine wp_region_L [(10, fun w' => w'.cell? ⟨q, 0, none⟩ = some (.pointer (some ⟨p, 0, none⟩)))] (by kernel_rfl) ?_ (fun hHeld => ?_)
      ·exact (HoldC.cons (c0) HoldC.nil)
      refine tk 0 ?_ rfl (by kernel_rfl) (fun _ _ _ h => h) (.inl ⟨by rfl, ?_⟩) hHeld ?_; rotate_left; · (intro w _; go_simp; try with_reducible rfl)
      clear hHeld; intro hHeld; try simp only [gA,gB,gC,Act.put,gD,gE,gF]
      refine tk 1 ?_ rfl (by kernel_rfl) (fun _ _ _ h => h) (.inl ⟨by rfl, ?_⟩) hHeld ?_; rotate_left; · (intro w _; go_simp; try with_reducible rfl)
      clear hHeld; intro hHeld; try simp only [gA,gB,gC,Act.put,gD,gE,gF]
      refine tk 2 ?_ rfl (by kernel_rfl) (fun _ _ _ h => h) (.inl ⟨by rfl, ?_⟩) hHeld ?_; rotate_left; · (intro w _; go_simp; try with_reducible rfl)
      clear hHeld; intro hHeld; try simp only [gA,gB,gC,Act.put,gD,gE,gF]
      refine ld 0 3 ?_ rfl rfl (by kernel_rfl) (fun _ _ _ h => h) (.inl ⟨by rfl, ?_⟩) hHeld ?_; rotate_left; · (intro w hSw; (try dsimp only at hSw); go_simp; try with_reducible rfl)
      clear hHeld; intro hHeld; try simp only [gA,gB,gC,Act.put,gD,gE,gF]
      refine tk 4 ?_ rfl (by kernel_rfl) (fun _ _ _ h => h) (.inl ⟨by rfl, ?_⟩) hHeld ?_; rotate_left; · (intro w _; go_simp; try with_reducible rfl)
      clear hHeld; intro hHeld; try simp only [gA,gB,gC,Act.put,gD,gE,gF]
      refine tk 5 ?_ rfl (by kernel_rfl) (fun _ _ _ h => h) (.inl ⟨by rfl, ?_⟩) hHeld ?_; rotate_left; · (intro w _; go_simp; try with_reducible rfl)
      clear hHeld; intro hHeld; try simp only [gA,gB,gC,Act.put,gD,gE,gF]
      refine tk 8 ?_ rfl (by kernel_rfl) (fun _ _ _ h => h) (.inl ⟨by rfl, ?_⟩) hHeld ?_; rotate_left; · (intro w _; go_simp; try with_reducible rfl)
      clear hHeld; intro hHeld; try simp only [gA,gB,gC,Act.put,gD,gE,gF]
      refine wpAnyL_ready (rs := [6]) (by kernel_rfl) (by simp) (AllReadyL.cons (o := _) rfl (fun K hK => ?_) AllReadyL.nil)
      try simp only [gA,gB,gC]
      go_simp
      refine (CA.out _ HSd.out).mono ?_
      rintro e w' ⟨rfl, hq⟩
      subst hq
      try go_wp2_with fail
      clear hHeld
      refine hK.out _ _ ?_ (fun hHeld => ?_)
      ·exact (HoldC.cons (c0) HoldC.nil)
      clear hK K
      try simp only [gA,gB,gC,Act.put,gD,gE,gF]
      refine tk 7 ?_ rfl (by kernel_rfl) (fun _ _ _ h => h) (.inl ⟨by rfl, ?_⟩) hHeld ?_; rotate_left; · (intro w _; go_simp; try with_reducible rfl)
      clear hHeld; intro hHeld; try simp only [gA,gB,gC,Act.put,gD,gE,gF]
      refine tk 9 ?_ rfl (by kernel_rfl) (fun _ _ _ h => h) (.inl ⟨by rfl, ?_⟩) hHeld ?_; rotate_left; · (intro w _; go_simp; try with_reducible rfl)
      clear hHeld; intro hHeld; try simp only [gA,gB,gC,Act.put,gD,gE,gF]
      refine wpAnyL_ready (rs := [10]) (by kernel_rfl) (by simp) (AllReadyL.cons (o := _) rfl (fun K hK => ?_) AllReadyL.nil)
      try simp only [gA,gB,gC]
      go_simp
      try rw [hwr.out]
      try rw [hwr2.out]
      refine CR.out.mono ?_
      rintro e w3 ⟨he, hc3⟩
      rw [if_neg (by rw [HDD.out]; simp), if_pos ⟨by omega, by omega⟩] at he
      obtain ⟨v3, rfl, hr3, hn3⟩ := he
      rw [HPK.out] at hr3
      have HC3 : Hid (Chg [] wr w3) := LH ((by exact (Chg.refl [] wr).drew : Chg [] wr wr.drew).trans hc3 (by simp))
      have HR3 := LH (HR.out.1.keep (fun g hg => HC3.out.block g (HR.out.1.lt g hg) (by simp)))
      have HB3 := LH hr3.bytes
      obtain ⟨a3, c3, hv3⟩ := hr3.bytes.slice
      rw [HL1.out] at hv3
      subst hv3
      have hsz : Hid ((flat k (fun k => s.d.now (pos + 1 + k))).length + (s.d.now (pos + 1 + k)).length <= 140737488355328) := LH (by
       rw [flat_len k _ (fun i hi => hlen64.out _ (by omega)), HL1.out]; omega)
      clear hc3 CR hr3 hn3
      try go_wp2_with fail
      clear hHeld
      refine hK.out _ _ ?_ (fun hHeld => ?_)
      ·exact (HoldC.past (by kernel_rfl) HoldC.nil)
      clear hK K
      try simp only [gA,gB,gC,Act.put,gD,gE,gF]
      refine tk 11 ?_ rfl (by kernel_rfl) (fun _ _ _ h => h) (.inl ⟨by rfl, ?_⟩) hHeld ?_; rotate_left; · (intro w _; go_simp; try with_reducible rfl)
      clear hHeld; intro hHeld; try simp only [gA,gB,gC,Act.put,gD,gE,gF]
      refine tk 12 ?_ rfl (by kernel_rfl) (fun _ _ _ h => h) (.inl ⟨by rfl, ?_⟩) hHeld ?_; rotate_left; · (intro w _; go_simp; try with_reducible rfl)
      clear hHeld; intro hHeld; try simp only [gA,gB,gC,Act.put,gD,gE,gF]
      refine tk 13 ?_ rfl (by kernel_rfl) (fun _ _ _ h => h) (.inl ⟨by rfl, ?_⟩) hHeld ?_; rotate_left; · (intro w _; go_simp; try with_reducible rfl)
      clear hHeld; intro hHeld; try simp only [gA,gB,gC,Act.put,gD,gE,gF]
      refine tk 14 ?_ rfl (by kernel_rfl) (fun _ _ _ h => h) (.inl ⟨by rfl, ?_⟩) hHeld ?_; rotate_left; · (intro w _; go_simp; try with_reducible rfl)
      clear hHeld; intro hHeld; try simp only [gA,gB,gC,Act.put,gD,gE,gF]
      refine tk 15 ?_ rfl (by kernel_rfl) (fun _ _ _ h => h) (.inl ⟨by rfl, ?_⟩) hHeld ?_; rotate_left; · (intro w _; go_simp; try with_reducible rfl)
      clear hHeld; intro hHeld; try simp only [gA,gB,gC,Act.put,gD,gE,gF]
      refine wpAnyL_done (by kernel_rfl) ?_ _
      clear hHeld
      go_wp2_with (at_builtin; refine wpList_appB rfl (.tmp 64) (.tmp 65) rfl s6 (flat k (fun k => s.d.now (pos + 1 + k))) HS6.out.symm HR3.out _ (s.d.now (pos + 1 + k)) (by rfl) HB3.out hsz.out ?_; intro v4 w4 ho4 hg4 hat4)
      have HO4 := LH ho4
      have HG4 := LH hg4
      have HA4 := LH hat4
      clear ho4 hg4 hat4
      go_roundg (gk - 1)
      case measure => omega
      case rel =>
       have hr : BRow w4 v4 (flat (k + 1) (fun k => s.d.now (pos + 1 + k))) := by rw [flat_succ]; exact HO4.out
       obtain ⟨a, c4, he, _⟩ := hr.bytes
       rw [flat_len (k + 1) _ (fun i hi => hlen64.out _ (by omega))] at he
       refine ⟨k + 1, a, c4, he, by go_num, by omega, by omega, LH ⟨hr, fun g hg => ?_, (HR.out.2.2.trans HC3.out (by simp)).grown HG4.out (fun g hg => .inr (HR.out.2.1 g hg))⟩⟩
       rcases HA4.out with h | h
       ·exact HR.out.2.1 g (by rw [<- h]; exact hg)
       ·rw [h] at hg
        have h1 := HR.out.2.2.size
        have h3 := HC3.out.size
        have h2 : w3.heap.size = g := by simpa using hg
        omega
     ·have hkm : k = m := by omega
      obtain rfl := hkm.symm
      have c2 := HR.out.2.2.cell HC2.out (by simp)
      have k1 := HR.out.2.2.cell HK1.out (by simp)
      have CD2 := LH (ddead_any p S s.d wr (HDK.out.keep HR.out.2.2 (by simp)))
      rw [HDD.out] at CD2
      have hcb : m * 64 <= c6 := by
       obtain ⟨_, c, he, h1, _⟩ := HR.out.1.bytes
       rw [HS6.out] at he
       have e1 := (Value.slice.inj he).2.1
       have e2 := (Value.slice.inj he).2.2
       omega
      have hrz : (rn : Int) <= (c6 : Int) := by omega
      have hrz1 : (rn : Int).toNat = rn := by omega
      have hfin : ∀ w', Chg [] wr w' -> Hid (GetPost (s.data (j : Int), 0) w (.returned (.tuple #[.slice a6 rn c6, .int .i64 0])) w') := fun w' hc => LH (by
       refine ⟨⟨_, rfl, ?_, ?_⟩, HR.out.2.2.trans hc (by simp)⟩
       ·have hb := HR.out.1.bytes.chg hc (by simp)
        obtain ⟨a, c, he, h1, h2, h3⟩ := hb
        rw [HS6.out] at he
        obtain rfl := (Value.slice.inj he).1
        obtain rfl := (Value.slice.inj he).2.2
        rw [HDAT.out, <- HM.out, <- HRN.out]
        have hfl := flat_len m (fun k => s.d.now (pos + 1 + k)) (fun i hi => hlen64.out _ (by omega))
        have hlt : ((flat m (fun k => s.d.now (pos + 1 + k))).take rn).length = rn := by rw [List.length_take]; omega
        refine ⟨a6, c6, by dsimp only; rw [hlt], by dsimp only; rw [hlt]; omega, h2, ?_⟩
        rcases h3 with ⟨h3, h4⟩ | ⟨g, o, e, hcell⟩
        ·left
         exact ⟨by rw [h3]; simp, h4⟩
        ·right
         refine ⟨g, o, e, fun x hx => ?_⟩
         rw [hlt] at hx
         rw [getD_take _ _ _ hx]
         exact hcell x (by omega)
       ·intro g hg
        refine HR.out.2.1 g ?_
        rw [HS6.out]
        cases a6 <;> exact hg)
      have HFIN := LH hfin
      clear hfin
      go_wp2_with (go_at_call 34; refine CD2.out.mono ?_; rintro e w' ⟨rfl, hq⟩; subst hq)
      go_ret2
      exact (HFIN.out _ (Chg.refl _ _)).out
 ·have hg : s.get i = ([], 1) := by unfold SS.get; rw [if_pos (by simpa using hi)]
  have HP := LH (fun (w' : World) (hc : Chg [] w w') => GetPost.nil (c := 1) hc)
  rw [decide_eq_false hi] at CH
  have HG := LH hg
  rw [HG.out]
  clear H hi hg
  go_enter Tryz.func101, Tryz.ntmps101
  go_wp2_with (go_at_call 129; refine CH.out.mono ?_; rintro e w' ⟨rfl, hq⟩; subst hq)
  go_ret2
  exact HP.out _ (Chg.refl _ _)
theorem Chg.grownBy {g : Nat} {w w' : World} (h : Chg [g] w w') : w.grownBy w' (some g) := ⟨h.os, h.tape, h.output, h.size, fun k hk hn => h.block k hk (by simpa using fun e : k = g => hn (by rw [e]))⟩
theorem SlotsOk.row {w : World} {q p : Nat} {S U : List Nat} {s : SS} {rv : Value} {R : List (SRow × Value)} (h : SlotsOk w q p S U s rv R) : w.ownsRow 0 186 3 rv R.length (rcells R) := h.obj.rows _ (List.mem_singleton.2 rfl)
theorem SlotsOk.there {w : World} {q p : Nat} {S U : List Nat} {s : SS} {rv : Value} {R : List (SRow × Value)} (h : SlotsOk w q p S U s rv R) (i : Nat) (hi : i < s.rows.length) (g cap : Nat) (hrv : rv = .slice (some ⟨g, 0, none⟩) s.rows.length cap) : w.there g (i * 3) 3 := by
 have hl := h.len
 rcases h.row.2 with ⟨h1, h2⟩ | ⟨g', cap', cur, h1, _, hb, h3, h4, h5, _⟩
 ·omega
 ·rw [hrv] at h1
  obtain ⟨rfl, -, rfl⟩ : g = g' /\ s.rows.length = R.length /\ cap = cap' := by simpa using h1
  intro j hj
  have hlt : i * 3 + j < cur.size := by
   have : (i + 1) * 3 <= cap * 3 := Nat.mul_le_mul_right _ (by omega)
   omega
  exact ⟨by rw [blk_cell hb _ _ (Array.getElem?_eq_getElem hlt)]; rfl, blk_frozen hb _⟩
theorem SlotsOk.setRow {w : World} {q p : Nat} {S U : List Nat} {s : SS} {rv : Value} {R : List (SRow × Value)} (h : SlotsOk w q p S U s rv R) (i : Nat) (hi : i < s.rows.length) (g cap : Nat) (hrv : rv = .slice (some ⟨g, 0, none⟩) s.rows.length cap)
  (r : SRow) (kv : Value) (hk : KeyAt w kv r.key) (hkU : ∀ k, kv.ownBlock = some k -> k < w.heap.size /\ k ∉ U) (hr : r.n <= 448 /\ r.key.length <= 40) :
  Sid w (w.setCells g (i * 3) [.bool r.used, .int .i64 (r.n : Int), kv]) q p U { s with rows := s.rows.set i r } := by
 have hl := h.len
 have hC : Chg [g] w (w.setCells g (i * 3) [.bool r.used, .int .i64 (r.n : Int), kv]) := (Chg.refl _ _).setCells (.inl (by simp)) _
 have hob : rv.ownBlock = some g := by rw [hrv]; rfl
 have hgb : g ∈ blks q [rowD rv R] := blks_row (r := rowD rv R) (List.mem_singleton.2 rfl) hob
 have hgU := h.uB g hgb
 have hrow := h.row
 have hR' : (rowD rv (R.set i (r, kv))).At (w.setCells g (i * 3) [.bool r.used, .int .i64 (r.n : Int), kv]) := by
  show (w.setCells g (i * 3) [.bool r.used, .int .i64 (r.n : Int), kv]).ownsRow 0 186 3 rv (R.set i (r, kv)).length (rcells (R.set i (r, kv)))
  rw [List.length_set, rcells_set R i _ (by omega)]
  rw [hrv, <- hl] at hrow ⊢
  exact row_set (row_set (row_set hrow (i * 3) _ (by omega)) (i * 3 + 1) _ (by omega)) (i * 3 + 2) _ (by omega)
 have hgr := ObjAt.grow (a := []) (b := []) h.obj (r' := rowD rv (R.set i (r, kv))) (by rw [show (rowD rv R).v.ownBlock = some g from hob]; exact hC.grownBy) hR' (fun k hk => .inl hk)
 generalize w.setCells g (i * 3) [.bool r.used, .int .i64 (r.n : Int), kv] = W at *
 have hgu : ∀ x ∈ [g], x ∈ U := fun x hx => (List.mem_singleton.1 hx) ▸ hgU
 have hnot : ∀ k, k ∉ U -> k ∉ [g] := fun k hk hm => hk (hgu k hm)
 refine ⟨U, ⟨S, rv, R.set i (r, kv), hgr.1, h.disk.keep hC (fun x hx hm => ?_), ?_, h.sep, fun x hx => ?_, h.uS, h.uB, fun x hx => Nat.lt_of_lt_of_le (h.uL x hx) hC.size, ⟨?_, fun x hx => ?_⟩⟩, fun x hx => .inl hx, hC.mono (fun x hx => .inl (hgu x hx))⟩
 ·exact h.sep _ hgb (by rw [<- List.mem_singleton.1 hm]; exact hx)
 ·rw [List.map_set, h.rows]
 ·rcases List.mem_or_eq_of_mem_set hx with hx | rfl
  ·obtain ⟨k1, k2⟩ := h.keys x hx
   exact ⟨k1.chg hC (fun k hk => hnot k (k2 k hk).2), fun g' hg' => ⟨Nat.lt_of_lt_of_le (k2 g' hg').1 hC.size, (k2 g' hg').2⟩⟩
  ·exact ⟨hk.chg hC (fun k hk => hnot k (hkU k hk).2), fun g' hg' => ⟨Nat.lt_of_lt_of_le (hkU g' hg').1 hC.size, (hkU g' hg').2⟩⟩
 ·show s.first + 8 * (s.rows.set i r).length <= s.d.n
  rw [List.length_set]
  exact h.ok.room
 ·rcases List.mem_or_eq_of_mem_set hx with hx | rfl
  ·exact h.ok.rows x hx
  ·exact hr
def h1 : List UInt8 × Int := penNum [] 0 1 1
def h2 (n : Nat) : List UInt8 × Int := penNum h1.1 h1.2 n 2
def h3 (n : Nat) (key : List UInt8) : List UInt8 × Int := penRaw (h2 n).1 (h2 n).2 key
theorem h1_eq : h1 = ([1], 0) := rfl
theorem h2_eq (n : Nat) (hn : n <= 448) : h2 n = ([1] ++ beBytes 2 n, 0) := by
 unfold h2
 rw [h1_eq]
 unfold penNum
 dsimp only
 rw [if_neg (by simp), if_neg (by omega)]
 unfold penAdd
 rw [if_neg (by simp), if_neg (by simp [beBytes_len]), Int.toNat_natCast]
theorem h3_eq (n : Nat) (key : List UInt8) (hn : n <= 448) (hk : key.length <= 40) : h3 n key = ([1] ++ beBytes 2 n ++ (beBytes 2 key.length ++ key), 0) := by
 unfold h3
 rw [h2_eq n hn]
 unfold penRaw
 rw [if_neg (by simp), if_neg (by omega)]
 unfold penAdd
 rw [if_neg (by simp), if_neg (by simp [beBytes_len]; omega)]
theorem head_h3 (n : Nat) (key : List UInt8) : headBytes n key = (h3 n key).1 := rfl
theorem headBytes_len (n : Nat) (key : List UInt8) (hn : n <= 448) (hk : key.length <= 40) : (headBytes n key).length = 5 + key.length := by
 rw [head_h3, h3_eq n key hn hk]
 simp [beBytes_len]; omega
theorem DS.lays_ok (d : DS) (pos : Nat) (b : List UInt8) : (d.lays pos b).2.n = d.n /\ (d.lays pos b).2.ops <= d.ops + nsec b.length + 1 /\ (d.lays pos b).2.since.length <= d.since.length + nsec b.length := DS.lay_ok _ _ _ _ _
def SidPost (w : World) (q p : Nat) (U : List Nat) (r : Int × SS) (e : Ending) (w' : World) : Prop := e = .returned (.int .i64 r.1) /\ Sid w w' q p U r.2
theorem SidPost.same {w : World} {q p : Nat} {U : List Nat} {s : SS} {c : Int} (h : SlotsAt w q p U s) : SidPost w q p U (c, s) (.returned (.int .i64 c)) w := ⟨rfl, Sid.same h⟩
theorem SlotsOk.keep0 {w w' : World} {q p : Nat} {S U : List Nat} {s : SS} {rv : Value} {R : List (SRow × Value)} (h : SlotsOk w q p S U s rv R) (hc : Chg [] w w') : SlotsOk w' q p S U s rv R :=
 ⟨h.obj.keep hc (by simp), h.disk.keep hc (by simp), h.rows, h.sep, fun x hx => ⟨(h.keys x hx).1.chg hc (by simp), fun g hg => ⟨Nat.lt_of_lt_of_le ((h.keys x hx).2 g hg).1 hc.size, ((h.keys x hx).2 g hg).2⟩⟩, h.uS, h.uB, fun x hx => Nat.lt_of_lt_of_le (h.uL x hx) hc.size, h.ok⟩
theorem sput_any (q p : Nat) (U : List Nat) (s : SS) (i : Int) (kv bv : Value) (key b : List UInt8) (w : World) (h : SlotsAt w q p U s) (hk : BytesAt w kv key) (hkU : key ≠ [] -> ∀ k, kv.ownBlock = some k -> k ∉ U) (hb : BytesAt w bv b) (hbU : b ≠ [] -> ∀ k, bv.ownBlock = some k -> k ∉ U)
  (hkl : key.length <= 1000000) (hbl : b.length <= 1000000) (ho : s.d.ops <= 900000000) (hw : s.d.since.length <= 900000) :
  Calls Tryz.prog 104 #[.pointer (some ⟨q, 0, none⟩), .int .i64 i, kv, bv] w (SidPost w q p U (s.put i key b)) := by
 have CH := LH (shas_any q p U s i w h)
 have HS := LH h
 have HK := LH hk
 have HB := LH hb
 obtain ⟨S, rv, R, H⟩ := h
 have c0 : w.cell? ⟨q, 0, none⟩ = some (.pointer (some ⟨p, 0, none⟩)) := blk_cell H.obj.head 0 _ rfl
 have c2 : w.cell? ⟨q, 2, none⟩ = some rv := blk_cell H.obj.head 2 _ rfl
 obtain ⟨ka, kc, rfl⟩ := hk.slice
 obtain ⟨ba, bc, rfl⟩ := hb.slice
 by_cases hi : s.has i
 ·rw [decide_eq_true hi] at CH
  have hi' := hi
  obtain ⟨h0, h1⟩ := hi'
  obtain ⟨j, rfl⟩ := Int.eq_ofNat_of_zero_le h0
  have hjl : j < s.rows.length := by omega
  by_cases hlong : 40 < key.length ∨ 448 < b.length
  ·have hg : s.put (j : Int) key b = (3, s) := by unfold SS.put; rw [if_neg (by simpa using hi), if_pos hlong]
   have HP := LH (SidPost.same (c := 3) HS.out)
   have HG := LH hg
   rw [HG.out]
   clear H hi hg hk hb hkU hbU c2
   by_cases hk40 : 40 < key.length
   ·have hz : (40 : Int) < (key.length : Int) := by omega
    clear hlong hk40
    go_enter Tryz.func104, Tryz.ntmps104
    go_wp2_with (go_at_call 129; refine CH.out.mono ?_; rintro e w' ⟨rfl, hq⟩; subst hq)
    go_ret
    exact HP.out
   ·have hz : ¬ (40 : Int) < (key.length : Int) := by omega
    have hz2 : (448 : Int) < (b.length : Int) := by omega
    clear hlong hk40
    go_enter Tryz.func104, Tryz.ntmps104
    go_wp2_with (go_at_call 129; refine CH.out.mono ?_; rintro e w' ⟨rfl, hq⟩; subst hq)
    go_ret
    exact HP.out
  ·obtain ⟨hk40, hb448⟩ : key.length <= 40 /\ b.length <= 448 := by omega
   obtain ⟨g, cap, kv0, hrv, hcap, hcm, hR, k0, k1, k2, k3, k4⟩ := H.at j hjl
   have hfew := H.few
   have hrow : s.row (j : Int) = s.rows.getD j noRow := rfl
   have hz1 : ¬ (40 : Int) < (key.length : Int) := by omega
   have hz2 : ¬ (448 : Int) < (b.length : Int) := by omega
   by_cases hu : (s.row (j : Int)).used = true
   ·have hg : s.put (j : Int) key b = (7, s) := by unfold SS.put; rw [if_neg (by simpa using hi), if_neg hlong, if_pos hu]
    have HP := LH (SidPost.same (c := 7) HS.out)
    have HG := LH hg
    rw [HG.out]
    rw [hrow] at hu
    rw [hu] at k0
    subst hrv
    generalize s.rows.getD j noRow = r at *
    generalize s.rows.length = n at *
    have hjz : (j : Int) < (n : Int) := by omega
    have hjz1 : (j : Int).toNat = j := by omega
    clear H hR k1 k2 k3 k4 hu hg hi hrow hlong hk hb hkU hbU
    go_enter Tryz.func104, Tryz.ntmps104
    go_wp2_with (go_at_call 129; refine CH.out.mono ?_; rintro e w' ⟨rfl, hq⟩; subst hq)
    go_ret
    exact HP.out
   ·have hu' : (s.rows.getD j noRow).used = false := by rw [<- hrow]; simpa using hu
    have hg : s.put (j : Int) key b = if (s.d.lays (s.pos j + 1) b).1 ≠ 0 then ((s.d.lays (s.pos j + 1) b).1, { s with d := (s.d.lays (s.pos j + 1) b).2 }) else
      if ((s.d.lays (s.pos j + 1) b).2.lays (s.pos j) (headBytes b.length key)).1 ≠ 0 then (((s.d.lays (s.pos j + 1) b).2.lays (s.pos j) (headBytes b.length key)).1, { s with d := ((s.d.lays (s.pos j + 1) b).2.lays (s.pos j) (headBytes b.length key)).2 }) else
      (0, { s with d := ((s.d.lays (s.pos j + 1) b).2.lays (s.pos j) (headBytes b.length key)).2, rows := s.rows.set j ⟨true, b.length, key⟩ }) := by
     unfold SS.put
     rw [if_neg (by simpa using hi), if_neg hlong, if_neg hu]
     rfl
    rw [hu'] at k0
    have hpos : s.pos (j : Int) = s.first + 8 * j := rfl
    have hroom := H.ok.room
    have hns : nsec b.length <= 7 := by unfold nsec; omega
    have hns2 : nsec (headBytes b.length key).length = 1 := by rw [headBytes_len _ _ hb448 hk40]; unfold nsec; omega
    have CA := LH (sat_any q p U s j w HS.out (by omega))
    have CL1 := LH (slay_any q p U s (s.pos j + 1) _ b w HS.out HB.out hbU (by omega) (by omega) (by omega) (by omega))
    have CA2 : Hid (∀ U' d' w', SlotsAt w' q p U' { s with d := d' } -> Calls Tryz.prog 137 #[.pointer (some ⟨q, 0, none⟩), .int .i64 (j : Int)] w' fun e w'' => e = .returned (.int .i64 ((s.pos (j : Int) : Nat) : Int)) /\ w' = w'') := LH (fun U' d' w' h' => sat_any q p U' { s with d := d' } j w' h' (by omega))
    have CL2 := LH (fun U' d' v w' (h' : SlotsAt w' q p U' { s with d := d' }) (hn : d'.n = s.d.n) (hv : BytesAt w' v (headBytes b.length key)) hvU ho' hw' => slay_any q p U' { s with d := d' } (s.pos j) v (headBytes b.length key) w' h' hv hvU (by rw [hns2]; show _ <= d'.n; omega) (by rw [headBytes_len _ _ hb448 hk40]; omega) ho' hw')
    have hok1 := s.d.lays_ok (s.pos j + 1) b
    have hok2 := (s.d.lays (s.pos j + 1) b).2.lays_ok (s.pos j) (headBytes b.length key)
    rw [hns2] at hok2
    obtain ⟨Z, hZ⟩ : ∃ Z, Z = s.put (j : Int) key b := ⟨_, rfl⟩
    rw [<- hZ] at hg ⊢
    have HKU := LH hkU
    have HBU := LH hbU
    have HN2 := LH hns2
    have hjz : (j : Int) < (s.rows.length : Int) := by omega
    have hjz1 : (j : Int).toNat = j := by omega
    have hpl : s.pos (j : Int) <= 4160 := by omega
    subst hrv
    have H3 : Hid ((h2 b.length).2 = 0 /\ (h3 b.length key).2 = 0) := LH ⟨by rw [h2_eq _ hb448], by rw [h3_eq _ _ hb448 hk40]⟩
    clear H hR k1 k2 k3 k4 hu hu' hi hrow hlong hk hb hkU hbU hpos hroom hns2 hZ
    generalize s.d.lays (s.pos j + 1) b = z1 at *
    obtain ⟨r1, d1⟩ := z1
    dsimp only at CL1 CL2 hok1 hok2 hg
    obtain ⟨pos, hps⟩ : ∃ pos, pos = s.pos (j : Int) := ⟨_, rfl⟩
    rw [<- hps] at CL1 CL2 CA CA2 hpl hok2 hg
    have HG := LH hg
    clear hg
    have HPS := LH hps
    obtain ⟨n, hn⟩ : ∃ n, n = s.rows.length := ⟨_, rfl⟩
    rw [<- hn] at c2 hjz hcap hjl
    have HN := LH hn
    clear hps hn h1 hfew
    go_enter Tryz.func104, Tryz.ntmps104
    go_wp2_with (first
     | (go_at_call 129; refine CH.out.mono ?_; rintro e w' ⟨rfl, hq⟩; subst hq)
     | (go_at_call 137; refine CA.out.mono ?_; rintro e w' ⟨rfl, hq⟩; subst hq))
    refine CL1.out.mono ?_
    rintro e w1 ⟨rfl, hs1⟩
    by_cases hr1 : r1 = 0
    ·subst hr1
     have HG1 := LH HG.out
     rw [if_neg (show ¬ (0 : Int) ≠ 0 by simp)] at HG1
     obtain ⟨U1, hS1, hU1, hC1⟩ := hs1
     obtain ⟨w2, hw2⟩ : ∃ w2, w2 = w1.alloc (.cells #[.slice none 0 0, .int .i64 0] 194) := ⟨_, rfl⟩
     have hc2 : Chg [] w1 w2 := by rw [hw2]; exact (Chg.refl _ _).alloc _
     have hp2 : PenAt 194 w2 w1.heap.size none [] 0 := ⟨.slice none 0 0, by rw [hw2]; exact heap_alloc_new w1 _, BRow.nil _, rfl, by simp, by simp⟩
     have HS1 := LH hS1
     have HU1 := LH hU1
     have HC1 := LH hC1
     have HW2 := LH hw2
     have CN1 := LH (pnum_any w1.heap.size none [] 0 1 1 w2 hp2 (by omega) (by omega))
     rw [show penNum [] 0 1 (1 : Int).toNat = h1 from rfl] at CN1
     have HC2 := LH hc2
     clear hS1 hU1 hC1 hw2 hp2 hc2 CL1
     go_wp2_with fail
     rw [<- HW2.out]
     refine CN1.out.mono ?_
     rintro e w3 ⟨rfl, hw3⟩
     obtain ⟨g3, hp3, hg3, hc3⟩ := hw3
     have HC3 : Hid (Chg [] w1 w3) := LH (HC2.out.trans hc3 (fun x hx => .inr (by
      have : x = w1.heap.size := by simpa using hx
      omega)))
     have hge3 : ∀ k, g3 = some k -> w1.heap.size <= k := by
      intro k hk
      rcases hg3 with rfl | ⟨k', rfl, h'⟩
      ·cases hk
      ·obtain rfl : k' = k := by simpa using hk
       exact Nat.le_trans HC2.out.size h'
     have CN2 := LH (pnum_any w1.heap.size g3 h1.1 h1.2 (b.length : Int) 2 w3 hp3 (by omega) (by omega))
     rw [show penNum h1.1 h1.2 (b.length : Int) (2 : Int).toNat = h2 b.length from rfl] at CN2
     have HGE3 := LH hge3
     clear hp3 hg3 hc3 hge3 CN1
     go_wp2_with fail
     refine CN2.out.mono ?_
     rintro e w4 ⟨rfl, hw4⟩
     obtain ⟨g4, hp4, hg4, hc4⟩ := hw4
     have HC4 : Hid (Chg [] w1 w4) := LH (HC3.out.trans hc4 (fun x hx => .inr (by
      rcases List.mem_cons.1 hx with rfl | hx
      ·exact Nat.le_refl _
      ·exact HGE3.out x (by simpa using hx))))
     have hge4 : ∀ k, g4 = some k -> w1.heap.size <= k := by
      intro k hk
      rcases hg4 with rfl | ⟨k', rfl, h'⟩
      ·exact HGE3.out k hk
      ·obtain rfl : k' = k := by simpa using hk
       exact Nat.le_trans HC3.out.size h'
     have hkey4 : BytesAt w4 (.slice ka key.length kc) key := (HK.out.chgW HC1.out HKU.out).chg HC4.out (by simp)
     have CR := LH (praw_any w1.heap.size g4 (h2 b.length).1 (h2 b.length).2 _ key w4 hp4 hkey4 (by omega))
     rw [show penRaw (h2 b.length).1 (h2 b.length).2 key = h3 b.length key from rfl] at CR
     have HGE4 := LH hge4
     clear hp4 hg4 hc4 hge4 CN2 hkey4
     go_wp2_with fail
     refine CR.out.mono ?_
     rintro e w5 ⟨rfl, hw5⟩
     obtain ⟨g5, hp5, hg5, hc5⟩ := hw5
     have HC5 : Hid (Chg [] w1 w5) := LH (HC4.out.trans hc5 (fun x hx => .inr (by
      rcases List.mem_cons.1 hx with rfl | hx
      ·exact Nat.le_refl _
      ·exact HGE4.out x (by simpa using hx))))
     rw [H3.out.2] at hp5
     have CB := LH (pbytes_any w1.heap.size g5 (h3 b.length key).1 w5 hp5)
     rw [<- head_h3] at CB
     clear hp5 hg5 hc5 CR
     go_wp2_with fail
     refine CB.out.mono ?_
     rintro e w6 ⟨v6, rfl, hr6, ho6, hc6⟩
     have HC6 : Hid (Chg [] w1 w6) := LH (HC5.out.trans hc6 (by simp))
     have hS6 : SlotsAt w6 q p U1 { s with d := d1 } := HS1.out.keep0 HC6.out
     have hv6 : headBytes b.length key ≠ [] -> ∀ k, v6.ownBlock = some k -> k ∉ U1 := fun _ k hk hm => by
      have a1 := ho6 k hk
      obtain ⟨_, _, _, H1⟩ := HS1.out
      have a2 := H1.uL k hm
      have a3 := HC5.out.size
      omega
     have CAT := LH (CA2.out U1 d1 w6 hS6)
     have CL := LH (CL2.out U1 d1 v6 w6 hS6 hok1.1 hr6.bytes hv6 (by rw [HN2.out]; show d1.ops + 1 + 1 <= _; omega) (by rw [HN2.out]; show d1.since.length + 1 <= _; omega))
     clear CL2 CA2 hS6 hv6 hr6 ho6 hc6 CB
     generalize d1.lays pos (headBytes b.length key) = z2 at *
     obtain ⟨r2, d2⟩ := z2
     dsimp only at CL hok2 HG1
     go_wp2_with (go_at_call 137; refine CAT.out.mono ?_; rintro e w' ⟨rfl, hq⟩; subst hq)
     refine CL.out.mono ?_
     rintro e w7 ⟨rfl, hs7⟩
     have hs7' := Sid.glue HU1.out HC1.out (Sid.pre HC6.out hs7)
     by_cases hr2 : r2 = 0
     ·subst hr2
      rw [if_neg (show ¬ (0 : Int) ≠ 0 by simp)] at HG1
      obtain ⟨U7, ⟨S7, rv7, R7, H7⟩, hU7, hC7⟩ := hs7'
      have c07 : w7.cell? ⟨q, 0, none⟩ = some (.pointer (some ⟨p, 0, none⟩)) := blk_cell H7.obj.head 0 _ rfl
      obtain ⟨g7, cap7, kv7, hrv7, hcap7, hcm7, hR7, _, _, _, _, _⟩ := H7.at j (by rw [HN.out] at hjl; exact hjl)
      have c27 : w7.cell? ⟨q, 2, none⟩ = some rv7 := blk_cell H7.obj.head 2 _ rfl
      rw [show ({ s with d := d2 } : SS).rows.length = s.rows.length from rfl, <- HN.out] at hrv7 hcap7
      have CC := LH (clone_any _ key w7.drew ((HK.out.chgW hC7 HKU.out).chg (by exact (Chg.refl [] w7).drew) (by simp)) (by omega))
      have HH7 := LH H7
      have HU7 := LH hU7
      have HC7 := LH hC7
      have HRV : Hid (∃ x, x = rv7 /\ x = .slice (some ⟨g7, 0, none⟩) n cap7) := LH ⟨rv7, rfl, hrv7⟩
      subst hrv7
      clear H7 hU7 hC7 hs7 hR7 CL CAT
      go_wp2_with fail
      refine wp_region_L [(11, fun w' => w'.cell? ⟨q, 2, none⟩ = some (.slice (some ⟨g7, 0, none⟩) n cap7))] (by kernel_rfl) ?_ (fun hHeld => ?_)
      ·exact (HoldC.cons (c27) HoldC.nil)
      refine tk 0 ?_ rfl (by kernel_rfl) (fun _ _ _ h => h) (.inl ⟨by rfl, ?_⟩) hHeld ?_; rotate_left; · (intro w _; go_simp; try with_reducible rfl)
      clear hHeld; intro hHeld; try simp only [gA,gB,gC,Act.put,gD,gE,gF]
      refine tk 1 ?_ rfl (by kernel_rfl) (fun _ _ _ h => h) (.inl ⟨by rfl, ?_⟩) hHeld ?_; rotate_left; · (intro w _; go_simp; try with_reducible rfl)
      clear hHeld; intro hHeld; try simp only [gA,gB,gC,Act.put,gD,gE,gF]
      refine tk 2 ?_ rfl (by kernel_rfl) (fun _ _ _ h => h) (.inl ⟨by rfl, ?_⟩) hHeld ?_; rotate_left; · (intro w _; go_simp; try with_reducible rfl)
      clear hHeld; intro hHeld; try simp only [gA,gB,gC,Act.put,gD,gE,gF]
      refine ld 0 3 ?_ rfl rfl (by kernel_rfl) (fun _ _ _ h => h) (.inl ⟨by rfl, ?_⟩) hHeld ?_; rotate_left; · (intro w hSw; (try dsimp only at hSw); go_simp; try with_reducible rfl)
      clear hHeld; intro hHeld; try simp only [gA,gB,gC,Act.put,gD,gE,gF]
      refine tk 4 ?_ rfl (by kernel_rfl) (fun _ _ _ h => h) (.inl ⟨by rfl, ?_⟩) hHeld ?_; rotate_left; · (intro w _; go_simp; try with_reducible rfl)
      clear hHeld; intro hHeld; try simp only [gA,gB,gC,Act.put,gD,gE,gF]
      refine tk 5 ?_ rfl (by kernel_rfl) (fun _ _ _ h => h) (.inl ⟨by rfl, ?_⟩) hHeld ?_; rotate_left; · (intro w _; go_simp; try with_reducible rfl)
      clear hHeld; intro hHeld; try simp only [gA,gB,gC,Act.put,gD,gE,gF]
      refine tk 6 ?_ rfl (by kernel_rfl) (fun _ _ _ h => h) (.inl ⟨by rfl, ?_⟩) hHeld ?_; rotate_left; · (intro w _; go_simp; try with_reducible rfl)
      clear hHeld; intro hHeld; try simp only [gA,gB,gC,Act.put,gD,gE,gF]
      refine tk 7 ?_ rfl (by kernel_rfl) (fun _ _ _ h => h) (.inl ⟨by rfl, ?_⟩) hHeld ?_; rotate_left; · (intro w _; go_simp; try with_reducible rfl)
      clear hHeld; intro hHeld; try simp only [gA,gB,gC,Act.put,gD,gE,gF]
      refine wpAnyL_ready (rs := [8]) (by kernel_rfl) (by simp) (AllReadyL.cons (o := _) rfl (fun K hK => ?_) AllReadyL.nil)
      try simp only [gA,gB,gC]
      go_simp
      refine CC.out.mono ?_
      rintro e w8 ⟨v8, rfl, hr8, ho8, hc8⟩
      have HC8 : Hid (Chg [] w7 w8) := LH ((by exact (Chg.refl [] w7).drew : Chg [] w7 w7.drew).trans hc8 (by simp))
      obtain ⟨a8, c8, rfl⟩ := hr8.bytes.slice
      have H8 := HH7.out.keep0 HC8.out
      have HSR := LH (H8.setRow j (by rw [HN.out] at hjl; exact hjl) g7 cap7 (by rw [HN.out]) ⟨true, b.length, key⟩ _ hr8.keyAt (fun k hk => ⟨hr8.lt k hk, fun hm => by
       have a1 := ho8 k hk
       have a2 := HH7.out.uL k hm
       have a3 : w7.drew.heap.size = w7.heap.size := rfl
       omega⟩) ⟨hb448, hk40⟩)
      have TH := LH (H8.there j (by rw [HN.out] at hjl; exact hjl) g7 cap7 (by rw [HN.out]))
      clear H8 hr8 ho8 hc8 CC
      have c28 := HC8.out.cell c27 (by simp)
      try go_wp2_with fail
      clear hHeld
      refine hK.out _ _ ?_ (fun hHeld => ?_)
      ·exact (HoldC.cons (c28) HoldC.nil)
      clear hK K
      try simp only [gA,gB,gC,Act.put,gD,gE,gF]
      refine tk 9 ?_ rfl (by kernel_rfl) (fun _ _ _ h => h) (.inl ⟨by rfl, ?_⟩) hHeld ?_; rotate_left; · (intro w _; go_simp; try with_reducible rfl)
      clear hHeld; intro hHeld; try simp only [gA,gB,gC,Act.put,gD,gE,gF]
      refine tk 10 ?_ rfl (by kernel_rfl) (fun _ _ _ h => h) (.inl ⟨by rfl, ?_⟩) hHeld ?_; rotate_left; · (intro w _; go_simp; try with_reducible rfl)
      clear hHeld; intro hHeld; try simp only [gA,gB,gC,Act.put,gD,gE,gF]
      refine wpAnyL_ready (rs := [11]) (by kernel_rfl) (by simp) (AllReadyL.cons (o := _) rfl (fun K hK => ?_) AllReadyL.nil)
      try simp only [gA,gB,gC]
      rw [if_pos (by rfl)]
      refine wp_store_mid 186 (.tmp 92) (.tmp 91) (by rfl) g7 (j * 3) #[.bool true, .int .i64 (b.length : Int), .slice a8 key.length c8] (by rfl) (by rfl) TH.out (by kernel_rfl) (by simp [Value.oneCell']) ?_
      clear hHeld
      refine hK.out _ _ ?_ (fun hHeld => ?_)
      ·exact (HoldC.past (by kernel_rfl) HoldC.nil)
      clear hK K
      try simp only [gA,gB,gC,Act.put,gD,gE,gF]
      refine wpAnyL_done (by kernel_rfl) ?_ _
      clear hHeld
      go_wp2
      go_ret
      rw [HG1.out]
      exact ⟨rfl, Sid.glue HU7.out HC7.out (Sid.pre HC8.out HSR.out)⟩
     ·have q2 : (r2 != 0) = true := by simp [hr2]
      have HG2 : Hid (Z = (r2, { s with d := d2 })) := LH (by rw [HG1.out, if_pos hr2])
      have HS7 := LH hs7'
      clear hs7' hs7 hr2
      go_wp2
      go_ret
      rw [HG2.out]
      exact ⟨rfl, HS7.out⟩
    ·have q1 : (r1 != 0) = true := by simp [hr1]
     have HG1 : Hid (Z = (r1, { s with d := d1 })) := LH (by rw [HG.out, if_pos hr1])
     have HS1 := LH hs1
     clear hs1 CL1 CL2 hr1
     go_wp2
     go_ret
     rw [HG1.out]
     exact ⟨rfl, HS1.out⟩
 ·have hg : s.put i key b = (1, s) := by unfold SS.put; rw [if_pos (by simpa using hi)]
  have HP := LH (SidPost.same (c := 1) HS.out)
  rw [decide_eq_false hi] at CH
  have HG := LH hg
  rw [HG.out]
  clear H hi hg hk hb hkU hbU c2
  go_enter Tryz.func104, Tryz.ntmps104
  go_wp2_with (go_at_call 129; refine CH.out.mono ?_; rintro e w' ⟨rfl, hq⟩; subst hq)
  go_ret
  exact HP.out
theorem sclear_any (q p : Nat) (U : List Nat) (s : SS) (i : Int) (w : World) (h : SlotsAt w q p U s) (ho : s.d.ops <= 900000000) (hw : s.d.since.length <= 900000) :
  Calls Tryz.prog 106 #[.pointer (some ⟨q, 0, none⟩), .int .i64 i] w (SidPost w q p U (s.clear i)) := by
 have CH := LH (shas_any q p U s i w h)
 have HS := LH h
 obtain ⟨S, rv, R, H⟩ := h
 have c0 : w.cell? ⟨q, 0, none⟩ = some (.pointer (some ⟨p, 0, none⟩)) := blk_cell H.obj.head 0 _ rfl
 have c2 : w.cell? ⟨q, 2, none⟩ = some rv := blk_cell H.obj.head 2 _ rfl
 by_cases hi : s.has i
 ·rw [decide_eq_true hi] at CH
  have hi' := hi
  obtain ⟨h0, h1⟩ := hi'
  obtain ⟨j, rfl⟩ := Int.eq_ofNat_of_zero_le h0
  have hjl : j < s.rows.length := by omega
  obtain ⟨g, cap, kv0, hrv, hcap, hcm, hR, k0, k1, k2, k3, k4⟩ := H.at j hjl
  have hfew := H.few
  have hrow : s.row (j : Int) = s.rows.getD j noRow := rfl
  by_cases hu : (s.row (j : Int)).used = false
  ·have hg : s.clear (j : Int) = (6, s) := by unfold SS.clear; rw [if_neg (by simpa using hi), if_pos hu]
   have HP := LH (SidPost.same (c := 6) HS.out)
   have HG := LH hg
   rw [HG.out]
   rw [hrow] at hu
   rw [hu] at k0
   subst hrv
   generalize s.rows.getD j noRow = r at *
   generalize s.rows.length = n at *
   have hjz : (j : Int) < (n : Int) := by omega
   have hjz1 : (j : Int).toNat = j := by omega
   clear H hR k1 k2 k3 k4 hu hg hi hrow
   go_enter Tryz.func106, Tryz.ntmps106
   go_wp2_with (go_at_call 129; refine CH.out.mono ?_; rintro e w' ⟨rfl, hq⟩; subst hq)
   go_ret
   exact HP.out
  ·have hu' : (s.rows.getD j noRow).used = true := by rw [<- hrow]; simpa using hu
   have hg : s.clear (j : Int) = if (s.d.lays (s.pos j) (zeros 64)).1 ≠ 0 then ((s.d.lays (s.pos j) (zeros 64)).1, { s with d := (s.d.lays (s.pos j) (zeros 64)).2 }) else
         (0, { s with d := (s.d.lays (s.pos j) (zeros 64)).2, rows := s.rows.set j noRow }) := by
    unfold SS.clear
    rw [if_neg (by simpa using hi), if_neg hu]
    rfl
   rw [hu'] at k0
   have hpos : s.pos (j : Int) = s.first + 8 * j := rfl
   have hroom := H.ok.room
   have hns : nsec (zeros 64).length = 1 := rfl
   have hzl : (zeros 64).length = 64 := rfl
   have CA : Hid (∀ w', SlotsAt w' q p U s -> Calls Tryz.prog 137 #[.pointer (some ⟨q, 0, none⟩), .int .i64 (j : Int)] w' fun e w'' => e = .returned (.int .i64 ((s.pos (j : Int) : Nat) : Int)) /\ w' = w'') := LH (fun w' h' => sat_any q p U s j w' h' (by omega))
   have CL : Hid (∀ w', SlotsAt w' q p U s -> ∀ N, w'.heap[N]? = some (.cells Z64 5 (0, 0)) -> N ∉ U -> Calls Tryz.prog 138 #[.pointer (some ⟨q, 0, none⟩), .int .i64 ((s.pos (j : Int) : Nat) : Int), .slice (some ⟨N, 0, none⟩) 64 64] w' fun e w'' => e = .returned (.int .i64 (s.d.lays (s.pos j) (zeros 64)).1) /\ Sid w' w'' q p U { s with d := (s.d.lays (s.pos j) (zeros 64)).2 }) := LH (fun w' h' N hN hNU => by
    have hr : BRow w' (.slice (some ⟨N, 0, none⟩) (zeros 64).length (zeros 64).length) (zeros 64) := row_of_block hN (by rw [hzl]; unfold maxLen; omega)
    rw [hzl] at hr
    exact slay_any q p U s (s.pos j) _ (zeros 64) w' h' hr.bytes (fun _ k hk => by
     obtain rfl : N = k := by simpa [Value.ownBlock] using hk
     exact hNU) (by rw [hns]; omega) (by rw [hzl]; omega) (by rw [hns]; omega) (by rw [hns]; omega))
   have hok1 := s.d.lays_ok (s.pos j) (zeros 64)
   obtain ⟨Z, hZ⟩ : ∃ Z, Z = s.clear (j : Int) := ⟨_, rfl⟩
   rw [<- hZ] at hg ⊢
   have hjz : (j : Int) < (s.rows.length : Int) := by omega
   have hjz1 : (j : Int).toNat = j := by omega
   have hpl : s.pos (j : Int) <= 4160 := by omega
   subst hrv
   have HUL := LH H.uL
   clear H hR k1 k2 k3 k4 hu hu' hi hrow hpos hroom hns hzl hZ
   generalize s.d.lays (s.pos j) (zeros 64) = z1 at *
   obtain ⟨r1, d1⟩ := z1
   dsimp only at CL hok1 hg
   obtain ⟨pos, hps⟩ : ∃ pos, pos = s.pos (j : Int) := ⟨_, rfl⟩
   rw [<- hps] at CL CA hpl
   have HG := LH hg
   obtain ⟨n, hn⟩ : ∃ n, n = s.rows.length := ⟨_, rfl⟩
   rw [<- hn] at c2 hjz hcap hjl
   have HN := LH hn
   have hmk := make_64
   have HC0 := LH c0
   have HC2 := LH c2
   clear hps hn h1 hfew hg
   go_enter Tryz.func106, Tryz.ntmps106
   go_wp2_with (go_at_call 129; refine CH.out.mono ?_; rintro e w' ⟨rfl, hq⟩; subst hq)
   have HSD := LH (HS.out.keep0 (by exact (Chg.refl [] w).drew))
   have HC6 : Hid (Chg [] w (w.drew.alloc (.cells Z64 5))) := LH (by exact ((Chg.refl [] w).drew).alloc _)
   have HSA := LH (HS.out.keep0 HC6.out)
   have CL1 := LH (CL.out _ HSA.out w.drew.heap.size (heap_alloc_new w.drew _) (fun hm => by
    have a1 := HUL.out _ hm
    have a2 : w.drew.heap.size = w.heap.size := rfl
    omega))
   go_wp2_with fail
   refine wp_region_L [] (by kernel_rfl) ?_ (fun hHeld => ?_)
   ·exact HoldC.nil
   refine tk 0 ?_ rfl (by kernel_rfl) (fun _ _ _ h => h) (.inl ⟨by rfl, ?_⟩) hHeld ?_; rotate_left; · (intro w _; go_simp; try with_reducible rfl)
   clear hHeld; intro hHeld; try simp only [gA,gB,gC,Act.put,gD,gE,gF]
   refine tk 1 ?_ rfl (by kernel_rfl) (fun _ _ _ h => h) (.inl ⟨by rfl, ?_⟩) hHeld ?_; rotate_left; · (intro w _; go_simp; try with_reducible rfl)
   clear hHeld; intro hHeld; try simp only [gA,gB,gC,Act.put,gD,gE,gF]
   refine tk 2 ?_ rfl (by kernel_rfl) (fun _ _ _ h => h) (.inl ⟨by rfl, ?_⟩) hHeld ?_; rotate_left; · (intro w _; go_simp; try with_reducible rfl)
   clear hHeld; intro hHeld; try simp only [gA,gB,gC,Act.put,gD,gE,gF]
   refine wpAnyL_ready (rs := [3, 4]) (by kernel_rfl) (by simp) ?_
   refine AllReadyL.cons (o := _) rfl (fun K hK => ?_) (AllReadyL.cons (o := _) rfl (fun K hK => ?_) AllReadyL.nil)
   ·try simp only [gA,gB,gC]
    go_simp
    refine (CA.out w.drew HSD.out).mono ?_
    rintro e w' ⟨rfl, hq⟩
    subst hq
    try go_wp2_with fail
    clear hHeld
    refine hK.out _ _ ?_ (fun hHeld => ?_)
    ·exact HoldC.nil
    clear hK K
    try simp only [gA,gB,gC,Act.put,gD,gE,gF]
    refine wpAnyL_ready (rs := [4]) (by kernel_rfl) (by simp) (AllReadyL.cons (o := _) rfl (fun K hK => ?_) AllReadyL.nil)
    try simp only [gA,gB,gC]
    go_simp
    clear hHeld
    refine hK.out _ _ ?_ (fun hHeld => ?_)
    ·exact HoldC.nil
    clear hK K
    try simp only [gA,gB,gC,Act.put,gD,gE,gF]
    refine wpAnyL_ready (rs := [5]) (by kernel_rfl) (by simp) (AllReadyL.cons (o := _) rfl (fun K hK => ?_) AllReadyL.nil)
    try simp only [gA,gB,gC]
    go_simp
    refine CL1.out.mono ?_
    rintro e w7 ⟨rfl, hs7⟩
    have hs7' := Sid.pre HC6.out hs7
    try go_wp2_with fail
    clear hHeld
    refine hK.out _ _ ?_ (fun hHeld => ?_)
    ·exact HoldC.nil
    clear hK K
    try simp only [gA,gB,gC,Act.put,gD,gE,gF]
    refine tk 6 ?_ rfl (by kernel_rfl) (fun _ _ _ h => h) (.inl ⟨by rfl, ?_⟩) hHeld ?_; rotate_left; · (intro w _; go_simp; try with_reducible rfl)
    clear hHeld; intro hHeld; try simp only [gA,gB,gC,Act.put,gD,gE,gF]
    refine wpAnyL_done (by kernel_rfl) ?_ _
    clear hHeld
    by_cases hr1 : r1 = 0
    ·subst hr1
     have HG1 := LH HG.out
     rw [if_neg (show ¬ (0 : Int) ≠ 0 by simp)] at HG1
     obtain ⟨U7, ⟨S7, rv7, R7, H7⟩, hU7, hC7⟩ := hs7'
     have c27 : w7.cell? ⟨q, 2, none⟩ = some rv7 := blk_cell H7.obj.head 2 _ rfl
     obtain ⟨g7, cap7, kv7, hrv7, hcap7, hcm7, hR7, _, _, _, _, _⟩ := H7.at j (by rw [HN.out] at hjl; exact hjl)
     rw [show ({ s with d := d1 } : SS).rows.length = s.rows.length from rfl, <- HN.out] at hrv7 hcap7
     have HSR := LH (H7.setRow j (by rw [HN.out] at hjl; exact hjl) g7 cap7 (by rw [hrv7, HN.out]) noRow (.slice none 0 0) (KeyAt.nil _) (by simp [Value.ownBlock]) ⟨by decide, by decide⟩)
     have TH := LH (H7.there j (by rw [HN.out] at hjl; exact hjl) g7 cap7 (by rw [hrv7, HN.out]))
     have HU7 := LH hU7
     have HC7 := LH hC7
     subst hrv7
     clear H7 hU7 hC7 hs7 hR7 CL CL1
     go_wp2_with (refine wpList_store_mid (by rfl) 186 (.tmp 46) (.tmp 45) (by rfl) g7 (j * 3) #[.bool false, .int .i64 0, .slice none 0 0] (by rfl) (by rfl) TH.out (by kernel_rfl) (by simp [Value.oneCell']) ?_)
     go_ret
     rw [HG1.out]
     exact ⟨rfl, Sid.glue HU7.out HC7.out HSR.out⟩
    ·have q1 : (r1 != 0) = true := by simp [hr1]
     have HG1 : Hid (Z = (r1, { s with d := d1 })) := LH (by rw [HG.out, if_pos hr1])
     have HS7 := LH hs7'
     clear hs7' hs7 hr1 CL CL1
     go_wp2
     go_ret
     rw [HG1.out]
     exact ⟨rfl, HS7.out⟩
   ·try simp only [gA,gB,gC]
    go_simp
    clear hHeld
    refine hK.out _ _ ?_ (fun hHeld => ?_)
    ·exact HoldC.nil
    clear hK K
    try simp only [gA,gB,gC,Act.put,gD,gE,gF]
    refine wpAnyL_ready (rs := [3]) (by kernel_rfl) (by simp) (AllReadyL.cons (o := _) rfl (fun K hK => ?_) AllReadyL.nil)
    try simp only [gA,gB,gC]
    go_simp
    refine (CA.out _ HSA.out).mono ?_
    rintro e w' ⟨rfl, hq⟩
    subst hq
    try go_wp2_with fail
    clear hHeld
    refine hK.out _ _ ?_ (fun hHeld => ?_)
    ·exact HoldC.nil
    clear hK K
    try simp only [gA,gB,gC,Act.put,gD,gE,gF]
    refine wpAnyL_ready (rs := [5]) (by kernel_rfl) (by simp) (AllReadyL.cons (o := _) rfl (fun K hK => ?_) AllReadyL.nil)
    try simp only [gA,gB,gC]
    go_simp
    refine CL1.out.mono ?_
    rintro e w7 ⟨rfl, hs7⟩
    have hs7' := Sid.pre HC6.out hs7
    try go_wp2_with fail
    clear hHeld
    refine hK.out _ _ ?_ (fun hHeld => ?_)
    ·exact HoldC.nil
    clear hK K
    try simp only [gA,gB,gC,Act.put,gD,gE,gF]
    refine tk 6 ?_ rfl (by kernel_rfl) (fun _ _ _ h => h) (.inl ⟨by rfl, ?_⟩) hHeld ?_; rotate_left; · (intro w _; go_simp; try with_reducible rfl)
    clear hHeld; intro hHeld; try simp only [gA,gB,gC,Act.put,gD,gE,gF]
    refine wpAnyL_done (by kernel_rfl) ?_ _
    clear hHeld
    by_cases hr1 : r1 = 0
    ·subst hr1
     have HG1 := LH HG.out
     rw [if_neg (show ¬ (0 : Int) ≠ 0 by simp)] at HG1
     obtain ⟨U7, ⟨S7, rv7, R7, H7⟩, hU7, hC7⟩ := hs7'
     have c27 : w7.cell? ⟨q, 2, none⟩ = some rv7 := blk_cell H7.obj.head 2 _ rfl
     obtain ⟨g7, cap7, kv7, hrv7, hcap7, hcm7, hR7, _, _, _, _, _⟩ := H7.at j (by rw [HN.out] at hjl; exact hjl)
     rw [show ({ s with d := d1 } : SS).rows.length = s.rows.length from rfl, <- HN.out] at hrv7 hcap7
     have HSR := LH (H7.setRow j (by rw [HN.out] at hjl; exact hjl) g7 cap7 (by rw [hrv7, HN.out]) noRow (.slice none 0 0) (KeyAt.nil _) (by simp [Value.ownBlock]) ⟨by decide, by decide⟩)
     have TH := LH (H7.there j (by rw [HN.out] at hjl; exact hjl) g7 cap7 (by rw [hrv7, HN.out]))
     have HU7 := LH hU7
     have HC7 := LH hC7
     subst hrv7
     clear H7 hU7 hC7 hs7 hR7 CL CL1
     go_wp2_with (refine wpList_store_mid (by rfl) 186 (.tmp 46) (.tmp 45) (by rfl) g7 (j * 3) #[.bool false, .int .i64 0, .slice none 0 0] (by rfl) (by rfl) TH.out (by kernel_rfl) (by simp [Value.oneCell']) ?_)
     go_ret
     rw [HG1.out]
     exact ⟨rfl, Sid.glue HU7.out HC7.out HSR.out⟩
    ·have q1 : (r1 != 0) = true := by simp [hr1]
     have HG1 : Hid (Z = (r1, { s with d := d1 })) := LH (by rw [HG.out, if_pos hr1])
     have HS7 := LH hs7'
     clear hs7' hs7 hr1 CL CL1
     go_wp2
     go_ret
     rw [HG1.out]
     exact ⟨rfl, HS7.out⟩
 ·have hg : s.clear i = (1, s) := by unfold SS.clear; rw [if_pos (by simpa using hi)]
  have HP := LH (SidPost.same (c := 1) HS.out)
  rw [decide_eq_false hi] at CH
  have HG := LH hg
  rw [HG.out]
  clear H hi hg c2
  go_enter Tryz.func106, Tryz.ntmps106
  go_wp2_with (go_at_call 129; refine CH.out.mono ?_; rintro e w' ⟨rfl, hq⟩; subst hq)
  go_ret
  exact HP.out
end Go.Proofs.YtnbhanmpmjjkkaaGreatDoor.W
/- Package slot: what Open makes. -/
namespace Go.Proofs.YtnbhanmpmjjkkaaGreatDoor.W
open Go.RowKit
theorem assertB_nil (w : World) : (Instr.typeAssert .nilIface 20 179 true).run Tryz.prog w = .ok (.tuple #[.agg #[.int .i64 0], .bool false]) w := by kernel_rfl
theorem assertB_give (x : Int) (w : World) : (Instr.typeAssert (.iface 179 (.agg #[.int .i64 x])) 20 179 true).run Tryz.prog w = .ok (.tuple #[.agg #[.int .i64 x], .bool true]) w := by kernel_rfl
theorem catchB_idle (pa pb : Value) (w : World) :
  CallsD Tryz.prog 126 #[pa, pb] .returning w fun e u' w' => e = .returned (.tuple #[]) /\ u' = .returning /\ w' = w.alloc (.cells #[.int .i64 0] 179) := by
 have hta := assertB_nil
 refine callsD_of_wpS Tryz.func126 rfl fun c₀ cs hu => ?_
 rw [Tryz.ntmps126]
 change Code.wpS Tryz.prog _ _ ⟨#[pa, pb, undef, undef, undef, undef, undef, undef, undef, undef, undef, undef, undef, undef, undef], []⟩ _ _
 apply wpS_seq
 apply wpS_region
 simp [wpOpsS, go_sem, recoverD, hu, Exit.thenS, hta]
 apply wpS_seq
 apply wpS_region
 simp [wpOpsS, go_sem, Exit.thenS]
 refine wpS_cond (t := false) (by simp [Act.eval]) ?_
 simp only [Bool.false_eq_true, if_false]
 refine wpS_of_wp (wp_skip ?_)
 cases c₀
 simp_all [bodyPostS, results, Tryz.results126]
theorem catchB_14 (pa pb : Nat) (v1 v2 : Value) (older : List PanicEntry) (w : World) (ha : w.heap[pa]? = some (.cells #[v1] 106 (0, 0))) (hb : w.heap[pb]? = some (.cells #[v2] 31 (0, 0))) (hne : pa ≠ pb) :
  CallsD Tryz.prog 126 #[.pointer (some ⟨pa, 0, none⟩), .pointer (some ⟨pb, 0, none⟩)] (.panicking ({ v := .iface 179 (.agg #[.int .i64 14]), recovered := false } :: older)) w fun e u' w' =>
   e = .returned (.tuple #[]) /\ u' = .panicking ({ v := .iface 179 (.agg #[.int .i64 14]), recovered := true } :: older) /\ Chg [pa, pb] w w' /\ w'.heap[pa]? = some (.cells #[.pointer none] 106 (0, 0)) /\ w'.heap[pb]? = some (.cells #[.int .i64 14] 31 (0, 0)) := by
 have hta := assertB_give 14
 have ha0 := blk_cell ha 0 _ rfl
 have hb0 := blk_cell hb 0 _ rfl
 have fa0 := blk_frozen ha 0
 have fb0 := blk_frozen hb 0
 have l1 := blk_lt ha
 have l2 := blk_lt hb
 have l3 : ¬ (pa = w.heap.size) := Nat.ne_of_lt l1
 have l4 : ¬ (pb = w.heap.size) := Nat.ne_of_lt l2
 have l5 : ¬ (w.heap.size = pa) := fun e => l3 e.symm
 have l6 : ¬ (w.heap.size = pb) := fun e => l4 e.symm
 have l7 : ¬ (pb = pa) := fun e => hne e.symm
 have HA := LH ha
 have HB := LH hb
 clear ha hb
 refine callsD_of_wpS Tryz.func126 rfl fun c₀ cs hu => ?_
 rw [Tryz.ntmps126]
 change Code.wpS Tryz.prog _ _ ⟨#[_, _, undef, undef, undef, undef, undef, undef, undef, undef, undef, undef, undef, undef, undef], []⟩ _ _
 apply wpS_seq
 apply wpS_region
 simp [wpOpsS, go_sem, recoverD, hu, Exit.thenS, hta]
 apply wpS_seq
 apply wpS_region
 simp [wpOpsS, go_sem, Exit.thenS]
 refine wpS_cond (t := true) (by simp [Act.eval]) ?_
 simp only [if_true]
 refine wpS_of_wp ?_
 go_wp2
 refine ⟨rfl, _, rfl, .tuple #[], by simp [results, Tryz.results126], rfl, rfl, ?_, ?_, ?_⟩
 ·exact ((((Chg.refl [pa, pb] w).setCell (p := ⟨pa, 0, none⟩) (.inl (by simp)) _).setCell (p := ⟨pb, 0, none⟩) (.inl (by simp)) _).setCell (p := ⟨pb, 0, none⟩) (.inl (by simp)) _).alloc _
 ·exact blk_alloc (blk_sets (blk_sets (set_blk HA.out) hne) hne)
 ·exact blk_alloc (set_blk (set_blk (blk_sets HB.out l7)))
theorem catchB_x (pa pb : Nat) (x : Int) (hx : x ≠ 14) (v1 v2 : Value) (older : List PanicEntry) (w : World) (ha : w.heap[pa]? = some (.cells #[v1] 106 (0, 0))) (hb : w.heap[pb]? = some (.cells #[v2] 31 (0, 0))) (hne : pa ≠ pb) :
  CallsD Tryz.prog 126 #[.pointer (some ⟨pa, 0, none⟩), .pointer (some ⟨pb, 0, none⟩)] (.panicking ({ v := .iface 179 (.agg #[.int .i64 x]), recovered := false } :: older)) w fun e u' w' =>
   e = .returned (.tuple #[]) /\ u' = .panicking ({ v := .iface 179 (.agg #[.int .i64 x]), recovered := true } :: older) /\ Chg [pa, pb] w w' /\ w'.heap[pa]? = some (.cells #[.pointer none] 106 (0, 0)) /\ w'.heap[pb]? = some (.cells #[.int .i64 4] 31 (0, 0)) := by
 have hta := assertB_give x
 have q14 : (x == 14) = false := by simp [hx]
 have ha0 := blk_cell ha 0 _ rfl
 have hb0 := blk_cell hb 0 _ rfl
 have fa0 := blk_frozen ha 0
 have fb0 := blk_frozen hb 0
 have l1 := blk_lt ha
 have l2 := blk_lt hb
 have l3 : ¬ (pa = w.heap.size) := Nat.ne_of_lt l1
 have l4 : ¬ (pb = w.heap.size) := Nat.ne_of_lt l2
 have l5 : ¬ (w.heap.size = pa) := fun e => l3 e.symm
 have l6 : ¬ (w.heap.size = pb) := fun e => l4 e.symm
 have l7 : ¬ (pb = pa) := fun e => hne e.symm
 have HA := LH ha
 have HB := LH hb
 clear ha hb hx
 refine callsD_of_wpS Tryz.func126 rfl fun c₀ cs hu => ?_
 rw [Tryz.ntmps126]
 change Code.wpS Tryz.prog _ _ ⟨#[_, _, undef, undef, undef, undef, undef, undef, undef, undef, undef, undef, undef, undef, undef], []⟩ _ _
 apply wpS_seq
 apply wpS_region
 simp [wpOpsS, go_sem, recoverD, hu, Exit.thenS, hta]
 apply wpS_seq
 apply wpS_region
 simp [wpOpsS, go_sem, Exit.thenS]
 refine wpS_cond (t := true) (by simp [Act.eval]) ?_
 simp only [if_true]
 refine wpS_of_wp ?_
 go_wp2
 refine ⟨rfl, _, rfl, .tuple #[], by simp [results, Tryz.results126], rfl, rfl, ?_, ?_, ?_⟩
 ·exact (((Chg.refl [pa, pb] w).setCell (p := ⟨pa, 0, none⟩) (.inl (by simp)) _).setCell (p := ⟨pb, 0, none⟩) (.inl (by simp)) _).alloc _
 ·exact blk_alloc (blk_sets (set_blk HA.out) hne)
 ·exact blk_alloc (set_blk (blk_sets HB.out l7))
end Go.Proofs.YtnbhanmpmjjkkaaGreatDoor.W
namespace Go.Proofs.YtnbhanmpmjjkkaaGreatDoor.W
open Go.RowKit
def rowsFrom (d : DS) (first : Nat) : Nat -> Nat -> Option (List SRow)
 | 0, _ => some []
 | m + 1, k => match headOf (d.now (first + 8 * k)) with
  | none => none
  | some r => (rowsFrom d first m (k + 1)).map (r :: ·)
def DS.slots (d : DS) (first : Int) : Int × Option SS :=
 if first < 0 ∨ (d.n : Int) < first then (1, none) else if d.dead = true ∨ d.n = 0 then (14, none) else
 match rowsFrom d first.toNat ((d.n - first.toNat) / 8) 0 with
 | none => (4, none)
 | some rows => (0, some ⟨d, first.toNat, rows⟩)
def OpenPost (p : Nat) (S : List Nat) (w : World) (r : Int × Option SS) (e : Ending) (w' : World) : Prop := Chg [] w w' /\ match r with
 | (c, none) => e = .returned (.tuple #[.pointer none, .int .i64 c])
 | (c, some s) => ∃ q U, e = .returned (.tuple #[.pointer (some ⟨q, 0, none⟩), .int .i64 c]) /\ SlotsAt w' q p U s /\ ∀ x ∈ U, x ∈ S ∨ w.heap.size <= x
theorem headOf_ok {b : List UInt8} {r : SRow} (h : headOf b = some r) : r.n <= 448 /\ r.key.length <= 40 := by
 unfold headOf at h
 split at h
 ·obtain rfl := Option.some.inj h
  exact ⟨by decide, by decide⟩
 ·split at h
  ·cases h
  ·rename_i hn
   obtain rfl := Option.some.inj h
   have hn0 := eyeNum_nonneg (eyeNum b 0 1).2.1 (eyeNum b 0 1).2.2 2
   refine ⟨by dsimp only; omega, ?_⟩
   dsimp only
   unfold eyeRaw
   split
   ·simp
   ·split
    ·simp
    ·split
     ·simp
     ·split
      ·simp
      ·rw [List.length_take]; omega
theorem rowsFrom_len {d : DS} {first : Nat} : ∀ (m k : Nat) (rows : List SRow), rowsFrom d first m k = some rows -> rows.length = m /\ ∀ r ∈ rows, r.n <= 448 /\ r.key.length <= 40 := by
 intro m
 induction m with
 | zero => intro k rows h; obtain rfl := Option.some.inj h; simp
 | succ m ih =>
  intro k rows h
  unfold rowsFrom at h
  cases hh : headOf (d.now (first + 8 * k)) with
  | none => rw [hh] at h; cases h
  | some r =>
   rw [hh] at h
   dsimp only at h
   obtain ⟨t, h1, rfl⟩ := Option.map_eq_some_iff.1 h
   obtain ⟨h2, h3⟩ := ih _ _ h1
   refine ⟨by simp [h2], fun x hx => ?_⟩
   rcases List.mem_cons.1 hx with rfl | hx
   ·exact headOf_ok hh
   ·exact h3 x hx
structure OpenAt (w wr : World) (pa pb q p : Nat) (first : Nat) (rv : Value) (R : List (SRow × Value)) : Prop where
 chg : Chg [] w wr
 lo : w.heap.size <= pa /\ w.heap.size <= pb
 ca : wr.heap[pa]? = some (.cells #[.pointer (some ⟨q, 0, none⟩)] 106 (0, 0))
 cb : wr.heap[pb]? = some (.cells #[.int .i64 0] 31 (0, 0))
 obj : ObjAt wr q 183 #[.pointer (some ⟨p, 0, none⟩), .int .i64 (first : Int), rv] [rowD rv R]
 new : ∀ x ∈ blks q [rowD rv R], w.heap.size <= x /\ x ≠ pa /\ x ≠ pb
 keys : ∀ x ∈ R, KeyAt wr x.2 x.1.key /\ ∀ g, x.2.ownBlock = some g -> g < wr.heap.size /\ w.heap.size <= g /\ g ∉ blks q [rowD rv R] /\ g ≠ pa /\ g ≠ pb
theorem OpenAt.keep {w wr w' : World} {pa pb q p first : Nat} {rv : Value} {R : List (SRow × Value)} (h : OpenAt w wr pa pb q p first rv R) (hc : Chg [] wr w') : OpenAt w w' pa pb q p first rv R :=
 ⟨h.chg.trans hc (by simp), h.lo, hc.keep h.ca (by simp), hc.keep h.cb (by simp), h.obj.keep hc (by simp), h.new, fun x hx => ⟨(h.keys x hx).1.chg hc (by simp), fun g hg => ⟨Nat.lt_of_lt_of_le ((h.keys x hx).2 g hg).1 hc.size, ((h.keys x hx).2 g hg).2⟩⟩⟩
theorem OpenAt.more {w wr w2 : World} {pa pb q p first : Nat} {rv rv' : Value} {R : List (SRow × Value)} (h : OpenAt w wr pa pb q p first rv R) (x : SRow × Value) (hg : wr.grownBy w2 rv.ownBlock) (hrow : w2.ownsRow 0 186 3 rv' (R.length + 1) (rcells R ++ rcell x))
  (hat : ∀ k, rv'.ownBlock = some k -> rv.ownBlock = some k ∨ (wr.heap.size <= k)) (hx : KeyAt wr x.2 x.1.key) (hxU : ∀ g, x.2.ownBlock = some g -> g < wr.heap.size /\ w.heap.size <= g /\ g ∉ blks q [rowD rv R] /\ g ≠ pa /\ g ≠ pb) :
  OpenAt w (w2.setCell ⟨q, 2, none⟩ rv') pa pb q p first rv' (R ++ [x]) := by
 have hR' : (rowD rv' (R ++ [x])).At w2 := by
  show w2.ownsRow 0 186 3 rv' (R ++ [x]).length (rcells (R ++ [x]))
  rw [List.length_append, rcells_app]
  exact hrow
 obtain ⟨g1, g2, g3⟩ := ObjAt.grow (a := []) (b := []) h.obj hg hR' hat
 simp only [List.nil_append] at g1 g2 g3
 have g4 := g1.setHead 2 rv'
 have hne := h.new
 have hpa : pa ∉ blks q [rowD rv R] := fun hm => (hne pa hm).2.1 rfl
 have hpb : pb ∉ blks q [rowD rv R] := fun hm => (hne pb hm).2.2 rfl
 have hqa : pa ≠ q := fun e => (hne q blks_head).2.1 e.symm
 have hqb : pb ≠ q := fun e => (hne q blks_head).2.2 e.symm
 have hc : Chg (blks q [rowD rv R]) wr (w2.setCell ⟨q, 2, none⟩ rv') := g3.setCell (p := ⟨q, 2, none⟩) (.inl blks_head) rv'
 have hbw : ∀ x ∈ blks q [rowD rv R], w.heap.size <= x := fun x hx => (hne x hx).1
 have hla := blk_lt h.ca
 have hlb := blk_lt h.cb
 refine ⟨h.chg.trans hc (fun x hx => .inr (hbw x hx)), h.lo, hc.keep h.ca hpa, hc.keep h.cb hpb, g4, fun x hx => ?_, fun y hy => ?_⟩
 ·rcases g2 x hx with h1 | h1
  ·exact hne x h1
  ·exact ⟨Nat.le_trans h.chg.size h1, fun e => by rw [e] at h1; omega, fun e => by rw [e] at h1; omega⟩
 ·have hout : ∀ g, g < wr.heap.size -> g ∉ blks q [rowD rv R] -> g ∉ blks q [rowD rv' (R ++ [x])] := fun g h1 h2 hm => by
   rcases g2 g hm with h3 | h3
   ·exact h2 h3
   ·omega
  rcases List.mem_append.1 hy with hy | hy
  ·obtain ⟨k1, k2⟩ := h.keys y hy
   exact ⟨k1.chg hc (fun k hk => (k2 k hk).2.2.1), fun g hg => ⟨Nat.lt_of_lt_of_le (k2 g hg).1 hc.size, (k2 g hg).2.1, hout g (k2 g hg).1 (k2 g hg).2.2.1, (k2 g hg).2.2.2⟩⟩
  ·obtain rfl : y = x := by simpa using hy
   exact ⟨hx.chg hc (fun k hk => (hxU k hk).2.2.1), fun g hg => ⟨Nat.lt_of_lt_of_le (hxU g hg).1 hc.size, (hxU g hg).2.1, hout g (hxU g hg).1 (hxU g hg).2.2.1, (hxU g hg).2.2.2⟩⟩
theorem OpenAt.done {w wr : World} {pa pb q p first : Nat} {S : List Nat} {d : DS} {rv : Value} {R : List (SRow × Value)} (h : OpenAt w wr pa pb q p first rv R) (hd : DiskAt w p S d) (hok : SS.Ok ⟨d, first, R.map (·.1)⟩) :
  ∀ w', Chg [pa, pb] wr w' -> Chg [] w w' /\ SlotsAt w' q p (S ++ blks q [rowD rv R]) ⟨d, first, R.map (·.1)⟩ /\ ∀ x ∈ S ++ blks q [rowD rv R], x ∈ S ∨ w.heap.size <= x := fun w' hc => by
 have hlim : ∀ x ∈ S, x < w.heap.size := by
  obtain ⟨gn, gl, cn, cl, v, H⟩ := hd
  exact H.lim
 have hnp : ∀ x ∈ blks q [rowD rv R], x ∉ [pa, pb] := fun x hx hm => by
  rcases List.mem_cons.1 hm with h1 | h1
  ·exact (h.new x hx).2.1 h1
  ·exact (h.new x hx).2.2 (by simpa using h1)
 have hcw : Chg [] w w' := h.chg.trans hc (fun x hx => .inr (by
  rcases List.mem_cons.1 hx with h1 | h1
  ·rw [h1]; exact h.lo.1
  ·rw [show x = pb by simpa using h1]; exact h.lo.2))
 refine ⟨hcw, ⟨S, rv, R, h.obj.keep hc hnp, hd.keep hcw (by simp), rfl, fun x hx hm => ?_, fun x hx => ?_, fun x hx => List.mem_append_left _ hx, fun x hx => List.mem_append_right _ hx, fun x hx => ?_, hok⟩, fun x hx => ?_⟩
 ·have a1 := (h.new x hx).1
  have a2 := hlim x hm
  omega
 ·obtain ⟨k1, k2⟩ := h.keys x hx
  refine ⟨k1.chg hc (fun k hk hm => ?_), fun g hg => ⟨Nat.lt_of_lt_of_le (k2 g hg).1 hc.size, fun hm => ?_⟩⟩
  ·obtain ⟨_, _, _, k3, k4⟩ := k2 k hk
   rcases List.mem_cons.1 hm with h1 | h1
   ·exact k3 h1
   ·exact k4 (by simpa using h1)
  ·obtain ⟨_, k3, k4, _⟩ := k2 g hg
   rcases List.mem_append.1 hm with hm | hm
   ·have := hlim g hm; omega
   ·exact k4 hm
 ·rcases List.mem_append.1 hx with hx | hx
  ·exact Nat.lt_of_lt_of_le (hlim x hx) hcw.size
  ·exact Nat.lt_of_lt_of_le (h.obj.lim x hx) hc.size
 ·rcases List.mem_append.1 hx with hx | hx
  ·exact .inl hx
  ·exact .inr (h.new x hx).1
theorem facts_row : (Tryz.prog.info? 186).map (fun i => (i.zero.map (·.cells.size), i.size, i.bytes)) = some (some 3, 3, 40) := by kernel_rfl
end Go.Proofs.YtnbhanmpmjjkkaaGreatDoor.W
namespace Go.Proofs.YtnbhanmpmjjkkaaGreatDoor.W
open Go.RowKit
theorem sopen_bad (p : Nat) (S : List Nat) (d : DS) (first : Int) (w : World) (h : DiskAt w p S d) (hb : first < 0 ∨ (d.n : Int) < first) :
  Calls Tryz.prog 91 #[.pointer (some ⟨p, 0, none⟩), .int .i64 first] w (OpenPost p S w (d.slots first)) := by
 have hg : d.slots first = (1, none) := by unfold DS.slots; rw [if_pos hb]
 rw [hg]
 have CS := LH (fun w' (hc : Chg [] w w') => dsectors_any p S d w' (h.keep hc (by simp)))
 clear h hg
 by_cases h0 : first < 0
 ·clear hb
  go_enter_defers Tryz.func91, Tryz.ntmps91
  go_wp2_with fail
  exact ⟨.tuple #[.pointer none, .int .i64 1], by simp [results, Tryz.results91, go_sem], ((Chg.refl _ _).alloc _).alloc _, rfl⟩
 ·have h1 : (d.n : Int) < first := by omega
  clear hb
  go_enter_defers Tryz.func91, Tryz.ntmps91
  go_wp2_with (go_at_call 65; refine (CS.out _ ?_).mono ?_; first | exact ((Chg.refl _ _).alloc _).alloc _ | skip; rintro e w' ⟨rfl, hq⟩; subst hq)
  exact ⟨.tuple #[.pointer none, .int .i64 1], by simp [results, Tryz.results91, go_sem], ((Chg.refl _ _).alloc _).alloc _, rfl⟩
theorem sopen_dead (p : Nat) (S : List Nat) (d : DS) (first : Int) (w : World) (h : DiskAt w p S d) (hb : ¬ (first < 0 ∨ (d.n : Int) < first)) (hd : d.dead = true ∨ d.n = 0) :
  Calls Tryz.prog 91 #[.pointer (some ⟨p, 0, none⟩), .int .i64 first] w (OpenPost p S w (d.slots first)) := by
 have hg : d.slots first = (14, none) := by unfold DS.slots; rw [if_neg hb, if_pos hd]
 rw [hg]
 obtain ⟨w2, hw2⟩ : ∃ w2, w2 = (w.alloc (.cells #[.pointer none] 106)).alloc (.cells #[.int .i64 0] 31) := ⟨_, rfl⟩
 have hc2 : Chg [] w w2 := by rw [hw2]; exact ((Chg.refl _ _).alloc _).alloc _
 have CS := LH (dsectors_any p S d w2 (h.keep hc2 (by simp)))
 have CD := LH (ddead_any p S d w2 (h.keep hc2 (by simp)))
 have hpa : w2.heap[w.heap.size]? = some (.cells #[.pointer none] 106 (0, 0)) := by rw [hw2]; exact blk_alloc (heap_alloc_new w _)
 have hpb : w2.heap[w.heap.size + 1]? = some (.cells #[.int .i64 0] 31 (0, 0)) := by
  rw [hw2]
  have := heap_alloc_new (w.alloc (.cells #[.pointer none] 106)) (.cells #[.int .i64 0] 31)
  simpa using this
 have CP := LH (catchB_14 w.heap.size (w.heap.size + 1) _ _ [] w2 hpa hpb (by omega))
 have h0 : ¬ first < 0 := by omega
 have h1 : ¬ (d.n : Int) < first := by omega
 have hmf : ∀ (fn : Fn) (first cap : Array Value) (w : World), (Instr.makeFunc fn first cap).run Tryz.prog w = .ok (.func fn first cap) w := fun _ _ _ _ => rfl
 have HW2 := LH hw2
 have HC2 := LH hc2
 clear h hg hb hpa hpb hw2 hc2
 by_cases hdd : d.dead = true
 ·rw [hdd] at CD
  clear hd hdd
  go_enter_defers Tryz.func91, Tryz.ntmps91
  go_wp2_with (first
   | (go_at_call 65; rw [<- HW2.out]; refine CS.out.mono ?_; rintro e w' ⟨rfl, hq⟩; subst hq)
   | (go_at_call 65; refine CS.out.mono ?_; rintro e w' ⟨rfl, hq⟩; subst hq)
   | (go_at_call 34; refine CD.out.mono ?_; rintro e w' ⟨rfl, hq⟩; subst hq))
  refine leaves_cons (f := 126) (args := #[.pointer (some ⟨w.heap.size, 0, none⟩), .pointer (some ⟨w.heap.size + 1, 0, none⟩)]) (by simp) (by simp [go_sem]) ?_
  refine CP.out.mono ?_
  rintro e u' w'' ⟨rfl, rfl, hc, ha, hb⟩
  exact ⟨.tuple #[.pointer none, .int .i64 14], by simp [results, Tryz.results91, go_sem, blk_cell ha 0 _ rfl, blk_cell hb 0 _ rfl], HC2.out.trans hc (fun x hx => .inr (by simp at hx; omega)), rfl⟩
 ·have hdn : d.n = 0 := hd.resolve_left hdd
  have hdf : d.dead = false := by simpa using hdd
  rw [hdf] at CD
  have HDN := LH hdn
  rw [hdn] at CS h1
  clear hd hdd hdn hdf
  go_enter_defers Tryz.func91, Tryz.ntmps91
  go_wp2_with (first
   | (go_at_call 65; rw [<- HW2.out]; refine CS.out.mono ?_; rintro e w' ⟨rfl, hq⟩; subst hq)
   | (go_at_call 65; refine CS.out.mono ?_; rintro e w' ⟨rfl, hq⟩; subst hq)
   | (go_at_call 34; refine CD.out.mono ?_; rintro e w' ⟨rfl, hq⟩; subst hq))
  refine leaves_cons (f := 126) (args := #[.pointer (some ⟨w.heap.size, 0, none⟩), .pointer (some ⟨w.heap.size + 1, 0, none⟩)]) (by simp) (by simp [go_sem]) ?_
  refine CP.out.mono ?_
  rintro e u' w'' ⟨rfl, rfl, hc, ha, hb⟩
  exact ⟨.tuple #[.pointer none, .int .i64 14], by simp [results, Tryz.results91, go_sem, blk_cell ha 0 _ rfl, blk_cell hb 0 _ rfl], HC2.out.trans hc (fun x hx => .inr (by simp at hx; omega)), rfl⟩
theorem wp_app_row {o : Oper} {a : Act} {K : Act -> World -> Prop} {Q : Exit -> Act -> World -> Prop} (s y : Operand) (ho : o.op = .call { callee := .builtin .append, args := #[s, y], argTypes := #[181, 181] })
  {w wr : World} {pa pb q p first : Nat} {rv : Value} {R : List (SRow × Value)} (h : OpenAt w wr pa pb q p first rv R) (x : SRow × Value) (hx : KeyAt wr x.2 x.1.key) (hxU : ∀ g, x.2.ownBlock = some g -> g < wr.heap.size /\ w.heap.size <= g /\ g ∉ blks q [rowD rv R] /\ g ≠ pa /\ g ≠ pb)
  (hl : R.length <= 1000000) (hs : a.eval s = rv) (hy : a.eval y = .slice (some ⟨wr.heap.size, 0, none⟩) 1 1)
  (hk : ∀ g cap w2, w2.cell? ⟨pa, 0, none⟩ = some (.pointer (some ⟨q, 0, none⟩)) -> w2.cell? ⟨q, 2, none⟩ = some rv -> w2.frozen? ⟨q, 2, none⟩ = false -> q < w2.heap.size -> Hid (OpenAt w (w2.setCell ⟨q, 2, none⟩ (.slice (some ⟨g, 0, none⟩) (R.length + 1) cap)) pa pb q p first (.slice (some ⟨g, 0, none⟩) (R.length + 1) cap) (R ++ [x])) -> K (a.put o.dst (.slice (some ⟨g, 0, none⟩) (R.length + 1) cap)) w2) :
  Oper.wp Tryz.prog o a (wr.alloc (.cells (rcell x).toArray 186)) K Q := by
 obtain ⟨i, z, hi, hz, h1, h2, h3⟩ := info_three facts_row
 have hrow : wr.ownsRow 0 186 3 rv R.length (rcells R) := h.obj.rows _ (List.mem_singleton.2 rfl)
 obtain ⟨ka, kc, hkv⟩ := hx.1.slice
 have hrow' : (wr.alloc (.cells (rcell x).toArray 186)).ownsRow 0 186 3 rv R.length (rcells R) := hrow.alloc _
 refine wp_append_lies _ s y 181 ho 0 186 i z 3 40 Tryz.underlying181 hi hz h2 h3 h1 (by omega) rv R.length (rcells R) hs hrow' ⟨wr.heap.size, 0, none⟩ 1 1 (rcell x) hy rfl
  (fun j u hj => by rw [add_none, Nat.zero_add]; exact blk_cell (heap_alloc_new wr _) j u (by simpa using hj)) (fun u hu => by
   unfold rcell at hu
   rw [hkv] at hu
   rcases List.mem_cons.1 hu with rfl | hu
   ·rfl
   ·rcases List.mem_cons.1 hu with rfl | hu
    ·rfl
    ·obtain rfl := List.mem_singleton.1 hu
     rfl) (by omega) (by unfold maxLen; omega) (by omega) (Nat.zero_le _) _ rfl ?_
 intro g cap w2 hrow hg hat hlt
 have hg' : wr.grownBy w2 rv.ownBlock := grownBy_trans (World.grownBy_alloc wr _ _) hg
 have hkeep : ∀ k, k < wr.heap.size -> rv.ownBlock ≠ some k -> w2.heap[k]? = wr.heap[k]? := fun k h1 h2 => hg'.block k h1 (fun e => h2 e.symm)
 have hrb : ∀ k, rv.ownBlock = some k -> k ∈ blks q [rowD rv R] := fun k hk => blks_row (r := rowD rv R) (List.mem_singleton.2 rfl) hk
 have hq := (hkeep q (blk_lt h.obj.head) (fun e => (h.obj.row_ne (r := rowD rv R) (List.mem_singleton.2 rfl) e) rfl)).trans h.obj.head
 have hpa := (hkeep pa (blk_lt h.ca) (fun e => (h.new _ (hrb _ e)).2.1 rfl)).trans h.ca
 refine hk g cap w2 (blk_cell hpa 0 _ rfl) (blk_cell hq 2 _ rfl) (blk_frozen hq 2) (blk_lt hq) (LH (h.more x hg' hrow (fun k hk => ?_) hx hxU))
 obtain rfl : g = k := by simpa [Value.ownBlock] using hk
 rcases hat with h4 | h4
 ·exact .inl h4
 ·exact .inr (by rw [h4]; simp)
theorem leaves_put {P : Program} {fn : Func} {R : Ending -> World -> Prop} (i : Nat) (v : Value) (hres : ∀ t : Array Value, results fn (t.setIfInBounds i v) = results fn t) :
  ∀ (ds : List Deferred) (u : FrameMode) (w : World) (t : Array Value), Leaves P fn (t.setIfInBounds i v) R ds u w -> Leaves P fn t R ds u w := by
 intro ds
 induction ds with
 | nil =>
  intro u w t h
  cases u with
  | run => exact h
  | returning =>
   obtain ⟨x, h1, h2⟩ := h
   exact ⟨x, by rw [hres] at h1; exact h1, h2⟩
  | panicking c => exact h
 | cons d ds ih =>
  intro u w t h
  obtain ⟨h0, fv, cap, f, args, h1, h2, h3⟩ := h
  refine ⟨h0, fv, cap, f, args, h1, h2, h3.mono ?_⟩
  intro e u' w' hr
  cases e with
  | returned x => exact ih _ _ _ hr
  | panicked c => exact ih _ _ _ hr
  | outgrown => exact hr
theorem open_res (i : Nat) (v : Value) (h4 : i ≠ 4) (h5 : i ≠ 5) (t : Array Value) : results Tryz.f91 (t.setIfInBounds i v) = results Tryz.f91 t := by
 unfold results
 rw [Tryz.results91]
 simp [Array.getElem?_setIfInBounds_ne h4, Array.getElem?_setIfInBounds_ne h5]
theorem openQ {R : Ending -> World -> Prop} (i : Nat) (v : Value) (h4 : i ≠ 4) (h5 : i ≠ 5) (c : List PanicEntry) (a : Act) (w : World) (h : bodyPostD Tryz.prog Tryz.f91 R (.panic c) (a.put (some i) v) w) : bodyPostD Tryz.prog Tryz.f91 R (.panic c) a w :=
 leaves_put i v (open_res i v h4 h5) _ _ _ _ h
theorem sopen_live (p : Nat) (S : List Nat) (d : DS) (first : Nat) (w : World) (h : DiskAt w p S d) (hb : first <= d.n) (hd : d.dead = false) (hn : d.n ≠ 0) :
  Calls Tryz.prog 91 #[.pointer (some ⟨p, 0, none⟩), .int .i64 (first : Int)] w (OpenPost p S w (d.slots first)) := by
 have hg : d.slots first = match rowsFrom d first ((d.n - first) / 8) 0 with
   | none => (4, none)
   | some rows => (0, some ⟨d, first, rows⟩) := by
  unfold DS.slots
  rw [if_neg (by omega), if_neg (by simp [hd, hn])]
  rfl
 obtain ⟨w2, hw2⟩ : ∃ w2, w2 = (w.alloc (.cells #[.pointer none] 106)).alloc (.cells #[.int .i64 0] 31) := ⟨_, rfl⟩
 obtain ⟨w3, hw3⟩ : ∃ w3, w3 = (w2.setCell ⟨w.heap.size, 0, none⟩ (.pointer (some ⟨w.heap.size + 2, 0, none⟩))).alloc (.cells #[.pointer (some ⟨p, 0, none⟩), .int .i64 (first : Int), .slice none 0 0] 183) := ⟨_, rfl⟩
 have hc2 : Chg [] w w2 := by rw [hw2]; exact ((Chg.refl _ _).alloc _).alloc _
 have CS := LH (fun w' (hc : Chg [] w w') => dsectors_any p S d w' (h.keep hc (by simp)))
 have CD := LH (ddead_any p S d w2 (h.keep hc2 (by simp)))
 have CR := LH (fun k w' (hc : Chg [] w w') => dread_any p S d k w' (h.keep hc (by simp)))
 have hs2 : w2.heap.size = w.heap.size + 2 := by rw [hw2]; simp
 have hpa : w2.heap[w.heap.size]? = some (.cells #[.pointer none] 106 (0, 0)) := by rw [hw2]; exact blk_alloc (heap_alloc_new w _)
 have hpb : w2.heap[w.heap.size + 1]? = some (.cells #[.int .i64 0] 31 (0, 0)) := by
  rw [hw2]
  have := heap_alloc_new (w.alloc (.cells #[.pointer none] 106)) (.cells #[.int .i64 0] 31)
  simpa using this
 have hs2' : (w2.setCell ⟨w.heap.size, 0, none⟩ (.pointer (some ⟨w.heap.size + 2, 0, none⟩))).heap.size = w.heap.size + 2 := by rw [<- hs2]; simp [World.setCell]
 have hq2 : ((w2.setCell ⟨w.heap.size, 0, none⟩ (.pointer (some ⟨w.heap.size + 2, 0, none⟩))).alloc (.cells #[.pointer (some ⟨p, 0, none⟩), .int .i64 (first : Int), .slice none 0 0] 183)).heap[w.heap.size + 2]? = some (.cells #[.pointer (some ⟨p, 0, none⟩), .int .i64 (first : Int), .slice none 0 0] 183 (0, 0)) := by
  have h1 := heap_alloc_new (w2.setCell ⟨w.heap.size, 0, none⟩ (.pointer (some ⟨w.heap.size + 2, 0, none⟩))) (.cells #[.pointer (some ⟨p, 0, none⟩), .int .i64 (first : Int), .slice none 0 0] 183)
  rw [hs2'] at h1
  exact h1
 have HO3 : Hid (OpenAt w w3 w.heap.size (w.heap.size + 1) (w.heap.size + 2) p first (.slice none 0 0) []) := LH (by
  rw [hw3]
  refine ⟨((hc2.setCell (p := ⟨w.heap.size, 0, none⟩) (.inr (Nat.le_refl _)) _).alloc _), ⟨Nat.le_refl _, by omega⟩, blk_alloc (set_blk hpa), blk_alloc (blk_sets hpb (by omega)), ⟨hq2, fun r hr => ?_, by simp [blks, rowD, Value.ownBlock]⟩, fun x hx => ?_, fun x hx => by cases hx⟩
  ·obtain rfl : r = rowD (.slice none 0 0) [] := by simpa using hr
   exact ⟨rfl, .inl ⟨rfl, rfl⟩⟩
  ·have : x = w.heap.size + 2 := by simpa [blks, rowD, Value.ownBlock] using hx
   omega)
 have hfew : d.n <= 4160 := by
  obtain ⟨gn, gl, cn, cl, v, hd⟩ := h
  exact hd.few
 have hlen64 : Hid (∀ k, k < d.n -> (d.now k).length = 64) := LH (by
  obtain ⟨gn, gl, cn, cl, v, hd⟩ := h
  exact fun k hk => hd.now.len k hk)
 have h0 : ¬ (first : Int) < 0 := by omega
 have h1 : ¬ (d.n : Int) < (first : Int) := by omega
 have hnz : ¬ (d.n : Int) = 0 := by omega
 have hnz1 : ((d.n : Int) == 0) = false := by simp [hn]
 have hmf : ∀ (fn : Fn) (first cap : Array Value) (w : World), (Instr.makeFunc fn first cap).run Tryz.prog w = .ok (.func fn first cap) w := fun _ _ _ _ => rfl
 have HDK := LH h
 have HW2 := LH hw2
 have HW3 := LH hw3
 have HC2 := LH hc2
 have f0 := blk_frozen hpa 0
 have a0 := blk_cell hpa 0 _ rfl
 have l0 := blk_lt hpa
 have hw2z := hs2
 have HG := LH hg
 rw [hd] at CD
 have HD := LH hd
 have HPA := LH hpa
 have HPB := LH hpb
 obtain ⟨Z, hZ⟩ : ∃ Z, Z = d.slots first := ⟨_, rfl⟩
 rw [<- hZ] at HG ⊢
 obtain ⟨m, hm⟩ : ∃ m, m = (d.n - first) / 8 := ⟨_, rfl⟩
 rw [<- hm] at HG
 obtain ⟨n, hnn⟩ : ∃ n, n = d.n := ⟨_, rfl⟩
 have HN := LH hnn
 rw [<- hnn] at h1 hnz hnz1 hfew hb CS hm
 have hm8 : first + 8 * m <= n /\ n < first + 8 * m + 8 := by omega
 clear h hg hw2 hw3 hc2 hpa hpb hq2 hs2' hd hZ hn hnn hm
 go_enter_defers Tryz.func91, Tryz.ntmps91
 go_wp2_with (first
   | (go_at_call 65; rw [<- HW2.out]; refine (CS.out _ HC2.out).mono ?_; rintro e w' ⟨rfl, hq⟩; subst hq)
   | (go_at_call 65; refine (CS.out _ HC2.out).mono ?_; rintro e w' ⟨rfl, hq⟩; subst hq)
   | (go_at_call 34; refine CD.out.mono ?_; rintro e w' ⟨rfl, hq⟩; subst hq))
 rw [<- HW3.out]
 go_loopg [6] m (fun g' s6 wr => ∃ (k : Nat) (rv : Value) (R : List (SRow × Value)), s6 = .int .i64 ((first + 8 * k : Nat) : Int) /\ k <= m /\ m <= k + g' /\ Hid (OpenAt w wr w.heap.size (w.heap.size + 1) (w.heap.size + 2) p first rv R /\ R.length = k /\ rowsFrom d first m 0 = (rowsFrom d first (m - k) k).map (R.map (·.1) ++ ·)))
 case atStart => exact ⟨0, .slice none 0 0, [], by simp, by omega, by omega, LH ⟨HO3.out, rfl, by simp⟩⟩
 case round =>
  obtain ⟨k, rv, R, rfl, hk, hkg, HR⟩ := hrel
  obtain ⟨hO, hRl, hrows⟩ := HR.out
  have HO := LH hO
  have HROWS := LH hrows
  have CSr := LH (CS.out wr hO.chg)
  clear hO hrows f0 a0 l0 HR
  have hk8 : first + 8 * k <= 4160 := by omega
  have hwr : Hid (IntKind.i64.wrap (((first + 8 * k : Nat) : Int) + 8) = ((first + 8 * k + 8 : Nat) : Int)) := LH (by rw [IntWalk.i64_in _ ⟨by omega, by omega⟩]; push_cast; omega)
  by_cases hlt : k < m
  ·have hle : (first : Int) + 8 * (k : Int) + 8 <= (n : Int) := by omega
   go_wp2_with (go_at_call 65; refine CSr.out.mono ?_; rintro e w' ⟨rfl, hq⟩; subst hq)
   have hlen := hlen64.out (first + 8 * k) (by rw [<- HN.out]; omega)
   have HLEN := LH hlen
   refine (CR.out _ wr HO.out.chg).mono ?_
   rintro e w4 ⟨he, hc4⟩
   rw [if_neg (by rw [HD.out]; simp), if_pos ⟨by omega, by rw [<- HN.out]; omega⟩] at he
   obtain ⟨v4, rfl, hr4, hn4⟩ := he
   rw [show ((first : Int) + 8 * (k : Int)).toNat = first + 8 * k by omega] at hr4
   have HO4 := LH (HO.out.keep hc4)
   have CH := LH (head_any v4 (d.now (first + 8 * k)) w4.drew (hr4.bytes.chg (by exact (Chg.refl [] w4).drew) (by simp)) (by rw [hlen]; omega))
   obtain ⟨a4, c4, hv4⟩ := hr4.bytes.slice
   rw [hlen] at hv4
   obtain ⟨b4, hb4⟩ : ∃ b4, b4 = d.now (first + 8 * k) := ⟨_, rfl⟩
   have HB4 := LH hb4
   rw [<- hb4] at CH
   subst hv4
   clear hlen hr4 hn4 hc4 hb4
   have a0 := blk_cell HO4.out.ca 0 _ rfl
   have a1 := blk_cell HO4.out.obj.head 2 _ rfl
   go_wp2_with (go_at_call 127; refine (must_ok _).mono ?_; rintro e w' ⟨rfl, hq⟩; subst hq)
   refine wp_region_L [(11, fun w' => w'.cell? ⟨w.heap.size, 0, none⟩ = some (.pointer (some ⟨w.heap.size + 2, 0, none⟩))), (11, fun w' => w'.cell? ⟨w.heap.size + 2, 2, none⟩ = some rv)] (by kernel_rfl) ?_ (fun hHeld => ?_)
   ·exact (HoldC.cons (a0) (HoldC.cons (a1) HoldC.nil))
   refine ld 0 0 ?_ rfl rfl (by kernel_rfl) (by intro c a w hq; refine openQ _ _ ?_ ?_ c a w hq <;> decide) (.inl ⟨by rfl, ?_⟩) hHeld ?_; rotate_left; · (intro w hSw; (try dsimp only at hSw); go_simp; try with_reducible rfl)
   clear hHeld; intro hHeld; try simp only [gA,gB,gC,Act.put,gD,gE,gF]
   refine ld 0 1 ?_ rfl rfl (by kernel_rfl) (by intro c a w hq; refine openQ _ _ ?_ ?_ c a w hq <;> decide) (.inl ⟨by rfl, ?_⟩) hHeld ?_; rotate_left; · (intro w hSw; (try dsimp only at hSw); go_simp; try with_reducible rfl)
   clear hHeld; intro hHeld; try simp only [gA,gB,gC,Act.put,gD,gE,gF]
   refine tk 2 ?_ rfl (by kernel_rfl) (by intro c a w hq; refine openQ _ _ ?_ ?_ c a w hq <;> decide) (.inl ⟨by rfl, ?_⟩) hHeld ?_; rotate_left; · (intro w _; go_simp; try with_reducible rfl)
   clear hHeld; intro hHeld; try simp only [gA,gB,gC,Act.put,gD,gE,gF]
   refine tk 3 ?_ rfl (by kernel_rfl) (by intro c a w hq; refine openQ _ _ ?_ ?_ c a w hq <;> decide) (.inl ⟨by rfl, ?_⟩) hHeld ?_; rotate_left; · (intro w _; go_simp; try with_reducible rfl)
   clear hHeld; intro hHeld; try simp only [gA,gB,gC,Act.put,gD,gE,gF]
   refine ld 1 4 ?_ rfl rfl (by kernel_rfl) (by intro c a w hq; refine openQ _ _ ?_ ?_ c a w hq <;> decide) (.inl ⟨by rfl, ?_⟩) hHeld ?_; rotate_left; · (intro w hSw; (try dsimp only at hSw); go_simp; try with_reducible rfl)
   clear hHeld; intro hHeld; try simp only [gA,gB,gC,Act.put,gD,gE,gF]
   refine tk 5 ?_ rfl (by kernel_rfl) (by intro c a w hq; refine openQ _ _ ?_ ?_ c a w hq <;> decide) (.inl ⟨by rfl, ?_⟩) hHeld ?_; rotate_left; · (intro w _; go_simp; try with_reducible rfl)
   clear hHeld; intro hHeld; try simp only [gA,gB,gC,Act.put,gD,gE,gF]
   refine wpAnyL_ready (rs := [6]) (by kernel_rfl) (by simp) (AllReadyL.cons (o := _) rfl (fun K hK => ?_) AllReadyL.nil)
   try simp only [gA,gB,gC]
   go_simp
   refine CH.out.mono ?_
   rintro e w5 ⟨hc5, hh⟩
   have HO5 := LH (HO4.out.keep ((by exact (Chg.refl [] w4).drew : Chg [] w4 w4.drew).trans hc5 (by simp)))
   have hc5' : Chg [] w4 w5 := (by exact (Chg.refl [] w4).drew : Chg [] w4 w4.drew).trans hc5 (by simp)
   cases hhd : headOf b4 with
   | none =>
    rw [hhd] at hh
    obtain ⟨x, rfl, hx⟩ := hh
    have HZ : Hid (Z = (4, none)) := LH (by
     rw [HG.out, HROWS.out, show m - k = (m - (k + 1)) + 1 by omega]
     unfold rowsFrom
     rw [<- HB4.out, hhd]
     rfl)
    have CP := LH (catchB_x w.heap.size (w.heap.size + 1) x hx _ _ [] w5 HO5.out.ca HO5.out.cb (by omega))
    unfold broke
    refine leaves_cons (f := 126) (args := #[.pointer (some ⟨w.heap.size, 0, none⟩), .pointer (some ⟨w.heap.size + 1, 0, none⟩)]) (by simp) (by simp [go_sem]) ?_
    refine CP.out.mono ?_
    rintro e u' w'' ⟨rfl, rfl, hc, ha, hb⟩
    refine ⟨.tuple #[.pointer none, .int .i64 4], by simp [results, Tryz.results91, go_sem, blk_cell ha 0 _ rfl, blk_cell hb 0 _ rfl], ?_⟩
    rw [HZ.out]
    exact ⟨HO5.out.chg.trans hc (fun x hx => .inr (by simp at hx; omega)), rfl⟩
   | some r =>
    rw [hhd] at hh
    obtain ⟨kv, rfl, hr5, ho5⟩ := hh
    have hxU : ∀ g, kv.ownBlock = some g -> g < w5.heap.size /\ w.heap.size <= g /\ g ∉ blks (w.heap.size + 2) [rowD rv R] /\ g ≠ w.heap.size /\ g ≠ w.heap.size + 1 := fun g hg => by
     have e1 := ho5 g hg
     have e2 : w4.drew.heap.size = w4.heap.size := rfl
     have e3 := blk_lt HO4.out.cb
     have e4 := HO4.out.chg.size
     refine ⟨hr5.lt g hg, by omega, fun hm => ?_, by omega, by omega⟩
     have := HO4.out.obj.lim g hm
     omega
    have HXU := LH hxU
    have HBX := LH hr5.keyAt
    obtain ⟨iw, zw, hiw, hzw1, hzw2, hzw3, hzw4⟩ := info_three facts_row
    have HIW := LH hiw
    have HZ1 := LH hzw1
    have HZ3 : Hid (iw.size = (rcell (r, kv)).toArray.size) := LH (by rw [hzw3]; rfl)
    have HWS : Hid ((rcell (r, kv)).toArray.size = 3) := LH rfl
    have HRC : Hid (rowsFrom d first m 0 = (rowsFrom d first (m - (k + 1)) (k + 1)).map ((R ++ [(r, kv)]).map (·.1) ++ ·)) := LH (by
     rw [HROWS.out, show m - k = (m - (k + 1)) + 1 by omega]
     conv => lhs; unfold rowsFrom
     rw [<- HB4.out, hhd]
     dsimp only
     rw [Option.map_map]
     congr 1
     funext t
     simp)
    clear hhd hxU hr5 ho5 hc5 hc5' hiw hzw1 hzw2 hzw3 hzw4 CH HB4 HLEN
    have a5 := blk_cell HO5.out.ca 0 _ rfl
    have b5 := blk_cell HO5.out.obj.head 2 _ rfl
    try go_wp2_with fail
    clear hHeld
    refine hK.out _ _ ?_ (fun hHeld => ?_)
    ·exact (HoldC.cons (a5) (HoldC.cons (b5) HoldC.nil))
    clear hK K
    try simp only [gA,gB,gC,Act.put,gD,gE,gF]
    refine wpAnyL_ready (rs := [7]) (by kernel_rfl) (by simp) (AllReadyL.cons (o := _) rfl (fun K hK => ?_) AllReadyL.nil)
    try simp only [gA,gB,gC]
    rw [if_pos (by rfl)]
    refine wp_slice1 181 186 (.tmp 57) (by rfl) (rcell (r, kv)).toArray (by rfl) iw zw Tryz.underlying181 HIW.out HZ1.out HZ3.out (by rw [HWS.out]; omega) (by rw [HWS.out]; omega) ?_
    clear hHeld
    refine hK.out _ _ ?_ (fun hHeld => ?_)
    ·exact (HoldC.cons ((blk_cell (blk_alloc HO5.out.ca) 0 _ rfl)) (HoldC.cons ((blk_cell (blk_alloc HO5.out.obj.head) 2 _ rfl)) HoldC.nil))
    clear hK K
    try simp only [gA,gB,gC,Act.put,gD,gE,gF]
    refine wpAnyL_ready (rs := [8]) (by kernel_rfl) (by simp) (AllReadyL.cons (o := _) rfl (fun K hK => ?_) AllReadyL.nil)
    try simp only [gA,gB,gC]
    rw [if_pos (by rfl)]
    refine wp_app_row (.tmp 55) (.tmp 58) (by rfl) HO5.out (r, kv) HBX.out HXU.out (by omega) (by rfl) (by rfl) ?_
    intro g2 cap2 w6 ea eb ef el HO6
    clear hHeld
    refine hK.out _ _ ?_ (fun hHeld => ?_)
    ·exact (HoldC.cons (ea) (HoldC.cons (eb) HoldC.nil))
    clear hK K
    try simp only [gA,gB,gC,Act.put,gD,gE,gF]
    refine tk 9 ?_ rfl (by kernel_rfl) (by intro c a w hq; refine openQ _ _ ?_ ?_ c a w hq <;> decide) (.inl ⟨by rfl, ?_⟩) hHeld ?_; rotate_left; · (intro w _; go_simp; try with_reducible rfl)
    clear hHeld; intro hHeld; try simp only [gA,gB,gC,Act.put,gD,gE,gF]
    refine tk 10 ?_ rfl (by kernel_rfl) (by intro c a w hq; refine openQ _ _ ?_ ?_ c a w hq <;> decide) (.inl ⟨by rfl, ?_⟩) hHeld ?_; rotate_left; · (intro w _; go_simp; try with_reducible rfl)
    clear hHeld; intro hHeld; try simp only [gA,gB,gC,Act.put,gD,gE,gF]
    refine wpAnyL_ready (rs := [11]) (by kernel_rfl) (by simp) (AllReadyL.cons (o := _) rfl (fun K hK => ?_) AllReadyL.nil)
    try simp only [gA,gB,gC]
    go_simp
    clear hHeld
    refine hK.out _ _ ?_ (fun hHeld => ?_)
    ·exact (HoldC.past (by kernel_rfl) (HoldC.past (by kernel_rfl) HoldC.nil))
    clear hK K
    try simp only [gA,gB,gC,Act.put,gD,gE,gF]
    refine wpAnyL_done (by kernel_rfl) ?_ _
    clear hHeld
    rw [hRl] at HO6
    generalize w6.setCell ⟨w.heap.size + 2, 2, none⟩ (.slice (some ⟨g2, 0, none⟩) (k + 1) cap2) = w7 at *
    clear ea eb ef el a0 a1 a5 b5
    have hw8 : IntKind.i64.wrap ((first : Int) + 8 * (k : Int) + 8) = ((first + 8 * (k + 1) : Nat) : Int) := by rw [IntWalk.i64_in _ ⟨by omega, by omega⟩]; push_cast; omega
    have HW8 := LH hw8
    clear hw8
    go_wp2
    go_roundg (gk - 1)
    case measure => omega
    case rel => exact ⟨k + 1, _, R ++ [(r, kv)], by first | rfl | rw [HW8.out] | (push_cast; congr 1; omega), by omega, by omega, LH ⟨HO6.out, by simp [hRl], HRC.out⟩⟩
  ·have hkm : k = m := by omega
   have hle : ¬ (first : Int) + 8 * (m : Int) + 8 <= (n : Int) := by omega
   obtain rfl := hkm.symm
   have HZ : Hid (Z = (0, some ⟨d, first, R.map (·.1)⟩)) := LH (by
    rw [HG.out, HROWS.out, Nat.sub_self]
    simp [rowsFrom])
   have HROK : Hid (rowsFrom d first m 0 = some (R.map (·.1))) := LH (by rw [HROWS.out, Nat.sub_self]; simp [rowsFrom])
   have a0 := blk_cell HO.out.ca 0 _ rfl
   have f0 := blk_frozen HO.out.ca 0
   have b0 := blk_cell HO.out.cb 0 _ rfl
   have g0 := blk_frozen HO.out.cb 0
   have l0 := blk_lt HO.out.ca
   have l1 := blk_lt HO.out.cb
   have l2 : ¬ (w.heap.size = w.heap.size + 1) := by omega
   have HD1 := LH (HO.out.done HDK.out ⟨by show first + 8 * (R.map (·.1)).length <= d.n; rw [List.length_map, hRl, <- HN.out]; omega, (rowsFrom_len _ _ _ HROK.out).2⟩)
   clear hkm hRl
   go_wp2_with (go_at_call 65; refine CSr.out.mono ?_; rintro e w' ⟨rfl, hq⟩; subst hq)
   refine leaves_cons (f := 126) (args := #[.pointer (some ⟨w.heap.size, 0, none⟩), .pointer (some ⟨w.heap.size + 1, 0, none⟩)]) (by simp) (by simp [go_sem]) ?_
   refine (catchB_idle _ _ _).mono ?_
   rintro e u' w'' ⟨rfl, rfl, rfl⟩
   obtain ⟨w9, hw9⟩ : ∃ w9, w9 = (wr.setCell ⟨w.heap.size, 0, none⟩ (.pointer (some ⟨w.heap.size + 2, 0, none⟩))).setCell ⟨w.heap.size + 1, 0, none⟩ (.int .i64 0) := ⟨_, rfl⟩
   have hc9 : Chg [w.heap.size, w.heap.size + 1] wr w9 := by rw [hw9]; exact ((Chg.refl _ wr).setCell (p := ⟨w.heap.size, 0, none⟩) (.inl (by simp)) _).setCell (p := ⟨w.heap.size + 1, 0, none⟩) (.inl (by simp)) _
   have ca9 : w9.heap[w.heap.size]? = some (.cells #[.pointer (some ⟨w.heap.size + 2, 0, none⟩)] 106 (0, 0)) := by rw [hw9]; exact blk_sets (set_blk HO.out.ca) (by omega)
   have cb9 : w9.heap[w.heap.size + 1]? = some (.cells #[.int .i64 0] 31 (0, 0)) := by rw [hw9]; exact set_blk (blk_sets HO.out.cb (by omega))
   rw [<- hw9]
   obtain ⟨k1, k2, k3⟩ := HD1.out _ (hc9.alloc (.cells #[.int .i64 0] 179))
   refine ⟨.tuple #[.pointer (some ⟨w.heap.size + 2, 0, none⟩), .int .i64 0], by simp [results, Tryz.results91, go_sem, blk_cell (blk_alloc (o' := .cells #[.int .i64 0] 179) ca9) 0 _ rfl, blk_cell (blk_alloc (o' := .cells #[.int .i64 0] 179) cb9) 0 _ rfl], ?_⟩
   rw [HZ.out]
   exact ⟨k1, _, _, rfl, k2, k3⟩
theorem sopen_any (p : Nat) (S : List Nat) (d : DS) (first : Int) (w : World) (h : DiskAt w p S d) : Calls Tryz.prog 91 #[.pointer (some ⟨p, 0, none⟩), .int .i64 first] w (OpenPost p S w (d.slots first)) := by
 by_cases hb : first < 0 ∨ (d.n : Int) < first
 ·exact sopen_bad p S d first w h hb
 ·by_cases hd : d.dead = true ∨ d.n = 0
  ·exact sopen_dead p S d first w h hb hd
  ·obtain ⟨f, rfl⟩ := Int.eq_ofNat_of_zero_le (show 0 <= first by omega)
   exact sopen_live p S d f w h (by omega) (by simpa using fun h => hd (.inl h)) (fun h => hd (.inr h))
def DS.Live (d : DS) : Prop := d.dead = false /\ d.fuse < 0
theorem DS.write_live {d : DS} (hd : d.Live) (k : Nat) (b : List UInt8) (hk : k < d.n) (hb : b.length = 64) : (d.write (k : Int) b).1 = 0 /\ (d.write (k : Int) b).2.Live /\ (d.write (k : Int) b).2.n = d.n /\ (d.write (k : Int) b).2.now = upd d.now k b := by
 obtain ⟨h1, h2⟩ := hd
 have h3 : ¬ d.fuse = 0 := by omega
 have h4 : ¬ (0 : Int) < d.fuse := by omega
 unfold DS.write DS.op
 simp [h1, h3, h4, hb, hk, DS.Live]
 omega
theorem DS.sync_live {d : DS} (hd : d.Live) : (d.sync).1 = 0 /\ (d.sync).2.Live /\ (d.sync).2.n = d.n /\ (d.sync).2.now = d.now /\ (d.sync).2.since = [] := by
 obtain ⟨h1, h2⟩ := hd
 have h3 : ¬ d.fuse = 0 := by omega
 have h4 : ¬ (0 : Int) < d.fuse := by omega
 unfold DS.sync DS.op
 simp [h1, h3, h4, DS.Live]
 omega
theorem beNum_two (n : Nat) (hn : n < 65536) : beNum (beBytes 2 n) = n := by
 simp [beBytes, beNum, UInt8.toNat_ofNat']
 omega
theorem allZ_zeros (n : Nat) : allZ (zeros n) = true := by simp [allZ, zeros]
theorem head_back (n : Nat) (key : List UInt8) (hn : n <= 448) (hk : key.length <= 40) : headOf (secAt (headBytes n key) 0) = some ⟨true, n, key⟩ := by
 have hl := headBytes_len n key hn hk
 have hs : secAt (headBytes n key) 0 = 1 :: (beBytes 2 n ++ (beBytes 2 key.length ++ (key ++ zeros (64 - (5 + key.length))))) := by
  unfold secAt
  rw [Nat.zero_mul, List.drop_zero, List.take_of_length_le (by omega), hl, head_h3, h3_eq n key hn hk]
  simp
 obtain ⟨z, hz⟩ : ∃ z, z = zeros (64 - (5 + key.length)) := ⟨_, rfl⟩
 have hzz : allZ z = true := by rw [hz]; exact allZ_zeros _
 rw [hs, <- hz]
 have e1 : eyeNum (1 :: (beBytes 2 n ++ (beBytes 2 key.length ++ (key ++ z)))) 0 1 = (1, beBytes 2 n ++ (beBytes 2 key.length ++ (key ++ z)), 0) := by
  unfold eyeNum
  rw [if_neg (by simp), if_neg (by simp)]
  rfl
 have e2 : eyeNum (beBytes 2 n ++ (beBytes 2 key.length ++ (key ++ z))) 0 2 = ((n : Int), beBytes 2 key.length ++ (key ++ z), 0) := by
  unfold eyeNum
  rw [if_neg (by simp), if_neg (by simp [beBytes_len]), List.take_left' (beBytes_len 2 n), List.drop_left' (beBytes_len 2 n), beNum_two n (by omega)]
 have e3 : eyeRaw (beBytes 2 key.length ++ (key ++ z)) 0 40 = (key, z, 0) := by
  unfold eyeRaw
  rw [if_neg (by simp), if_neg (by simp [beBytes_len]), List.take_left' (beBytes_len 2 _), List.drop_left' (beBytes_len 2 _), beNum_two _ (by omega), if_neg (by omega), if_neg (by simp), List.take_left' rfl, List.drop_left' rfl]
 unfold headOf
 rw [if_neg (by simp [allZ]), e1]
 dsimp only
 rw [e2]
 dsimp only
 rw [e3]
 dsimp only
 rw [if_neg (by simp [hzz]; omega)]
 simp
theorem head_none : headOf (secAt (zeros 64) 0) = some noRow := by rfl
theorem flat_full (b : List UInt8) : ∀ m, m * 64 <= b.length -> flat m (secAt b) = b.take (m * 64) := by
 intro m
 induction m with
 | zero => intro _; simp [flat]
 | succ m ih =>
  intro h
  rw [flat_succ, ih (by omega)]
  unfold secAt
  have hl : ((b.drop (m * 64)).take 64).length = 64 := by rw [List.length_take, List.length_drop]; omega
  rw [hl]
  simp only [zeros, Nat.sub_self, List.replicate_zero, List.append_nil]
  rw [show (m + 1) * 64 = m * 64 + 64 by omega, List.take_add]
theorem flat_back (b : List UInt8) : (flat (nsec b.length) (secAt b)).take b.length = b := by
 by_cases h : b.length % 64 = 0
 ·have hm : nsec b.length * 64 = b.length := by unfold nsec; omega
  rw [flat_full b _ (by omega), hm, List.take_length, List.take_length]
 ·obtain ⟨m, hm⟩ : ∃ m, nsec b.length = m + 1 := ⟨nsec b.length - 1, by unfold nsec; omega⟩
  have hm1 : m * 64 <= b.length /\ b.length < (m + 1) * 64 := by unfold nsec at hm; omega
  rw [hm, flat_succ, flat_full b m hm1.1]
  unfold secAt
  have hl : (b.drop (m * 64)).take 64 = b.drop (m * 64) := List.take_of_length_le (by rw [List.length_drop]; omega)
  rw [hl, <- List.append_assoc, List.take_append_drop, List.take_left' rfl]
theorem flat_congr (m : Nat) (f g : Nat -> List UInt8) (h : ∀ k, k < m -> f k = g k) : flat m f = flat m g := by
 induction m with
 | zero => rfl
 | succ m ih => rw [flat_succ, flat_succ, ih (fun k hk => h k (by omega)), h m (by omega)]
structure Told (s : SS) (u : Nat -> Bool) (v : Nat -> List UInt8) : Prop where
 live : s.d.Live
 room : s.first + 8 * s.rows.length <= s.d.n
 head : ∀ k, k < s.rows.length -> headOf (s.d.now (s.first + 8 * k)) = some (s.rows.getD k noRow)
 used : ∀ k, k < s.rows.length -> (s.rows.getD k noRow).used = u k
 data : ∀ k, k < s.rows.length -> u k = true -> s.data (k : Int) = v k
theorem set_getD (l : List SRow) (k j : Nat) (x : SRow) (hk : k < l.length) : (l.set k x).getD j noRow = if j = k then x else l.getD j noRow := by
 rw [List.getD_eq_getElem?_getD, List.getElem?_set, List.getD_eq_getElem?_getD]
 by_cases h : k = j
 ·subst h; simp [hk]
 ·rw [if_neg h, if_neg (fun e => h e.symm)]
theorem rowsFrom_told {d : DS} {first : Nat} {rows : List SRow} : ∀ (m k : Nat), k + m = rows.length -> (∀ j, k <= j -> j < rows.length -> headOf (d.now (first + 8 * j)) = some (rows.getD j noRow)) -> rowsFrom d first m k = some (rows.drop k) := by
 intro m
 induction m with
 | zero => intro k hk _; unfold rowsFrom; rw [List.drop_eq_nil_of_le (by omega)]
 | succ m ih =>
  intro k hk h
  unfold rowsFrom
  rw [h k (Nat.le_refl _) (by omega)]
  dsimp only
  rw [ih (k + 1) (by omega) (fun j h1 h2 => h j (by omega) h2)]
  have hlt : k < rows.length := by omega
  rw [Option.map_some, List.drop_eq_getElem_cons hlt, List.getD_eq_getElem?_getD, List.getElem?_eq_getElem hlt]
  rfl
def leftAt (ch : List UInt8) (i : Nat) : Bool := decide (ch.length <= i) || decide ((ch.getD i 0) &&& 1 = 1)
def chosen (ch : List UInt8) : List (Nat × List UInt8) -> Nat -> List (Nat × List UInt8)
 | [], _ => []
 | x :: l, i => if leftAt ch i then x :: chosen ch l (i + 1) else chosen ch l (i + 1)
theorem chosen_mem {ch : List UInt8} {x : Nat × List UInt8} : ∀ (l : List (Nat × List UInt8)) (i : Nat), x ∈ chosen ch l i -> x ∈ l
 | [], i, h => by cases h
 | y :: l, i, h => by
  unfold chosen at h
  split at h
  ·rcases List.mem_cons.1 h with rfl | h
   ·exact List.mem_cons_self ..
   ·exact List.mem_cons_of_mem _ (chosen_mem l _ h)
  ·exact List.mem_cons_of_mem _ (chosen_mem l _ h)
def DS.crash (d : DS) (ch : List UInt8) : DS :=
 { n := d.n, now := applied (chosen ch d.since 0) d.lasts, lasts := applied (chosen ch d.since 0) d.lasts, since := [], fuse := -1, ops := 0, dead := false }
structure DS.Rest (d : DS) : Prop where
 alive : d.dead = false
 none : d.since = []
 same : ∀ i, d.lasts i = d.now i
def DS.Fell (d0 d : DS) (pos : Nat) (b : List UInt8) (j k : Nat) : Prop :=
 d.dead = true /\ d.n = d0.n /\ d.lasts = d0.lasts /\ ∃ ws, d.since = d0.since ++ ws /\ ∀ x ∈ ws, ∃ i, j <= i /\ i < j + k /\ x = (pos + i, secAt b i)
theorem DS.write_may {d : DS} (hd : d.dead = false) (k : Nat) (b : List UInt8) (hk : k < d.n) (hb : b.length = 64) :
  ((d.write (k : Int) b).1 = 0 /\ (d.write (k : Int) b).2.dead = false /\ (d.write (k : Int) b).2.n = d.n /\ (d.write (k : Int) b).2.now = upd d.now k b /\ (d.write (k : Int) b).2.lasts = d.lasts /\ (d.write (k : Int) b).2.since = d.since ++ [(k, b)]) ∨
  ((d.write (k : Int) b).1 = 14 /\ (d.write (k : Int) b).2.dead = true /\ (d.write (k : Int) b).2.n = d.n /\ (d.write (k : Int) b).2.lasts = d.lasts /\ (d.write (k : Int) b).2.since = d.since ++ [(k, b)]) := by
 have hk' : 0 <= (k : Int) /\ (k : Int) < d.n /\ b.length = 64 := ⟨by omega, by omega, hb⟩
 by_cases hf : d.fuse = 0
 ·right
  unfold DS.write DS.op
  simp only [hd, Bool.false_eq_true, if_false]
  rw [if_pos hk']
  simp [hf]
 ·left
  unfold DS.write DS.op
  simp only [hd, Bool.false_eq_true, if_false]
  rw [if_pos hk']
  simp [hf, hd]
theorem DS.sync_may {d : DS} (hd : d.dead = false) :
  ((d.sync).1 = 0 /\ (d.sync).2.dead = false /\ (d.sync).2.n = d.n /\ (d.sync).2.now = d.now /\ (d.sync).2.lasts = applied d.since d.lasts /\ (d.sync).2.since = []) ∨
  ((d.sync).1 = 14 /\ (d.sync).2.dead = true /\ (d.sync).2.n = d.n /\ (d.sync).2.lasts = d.lasts /\ (d.sync).2.since = d.since) := by
 by_cases hf : d.fuse = 0
 ·right
  unfold DS.sync DS.op
  simp [hd, hf]
 ·left
  unfold DS.sync DS.op
  simp [hd, hf]
theorem DS.lay_may (pos : Nat) (b : List UInt8) : ∀ (k j : Nat) (d : DS), d.dead = false -> (∀ i, applied d.since d.lasts i = d.now i) -> pos + j + k <= d.n ->
  ((d.lay pos b k j).1 = 0 /\ (d.lay pos b k j).2.Rest /\ (d.lay pos b k j).2.n = d.n /\ ∀ i, (d.lay pos b k j).2.now i = if pos + j <= i /\ i < pos + j + k then secAt b (i - pos) else d.now i) ∨
  ((d.lay pos b k j).1 = 14 /\ DS.Fell d (d.lay pos b k j).2 pos b j k) := by
 intro k
 induction k with
 | zero =>
  intro j d hd hs hn
  rcases d.sync_may hd with ⟨h1, h2, h3, h4, h5, h6⟩ | ⟨h1, h2, h3, h4, h5⟩
  ·exact .inl ⟨h1, ⟨h2, h6, fun i => by show (d.sync).2.lasts i = (d.sync).2.now i; rw [h5, h4, hs]⟩, h3, fun i => by rw [if_neg (by omega)]; show (d.sync).2.now i = _; rw [h4]⟩
  ·exact .inr ⟨h1, h2, h3, h4, [], by show (d.sync).2.since = _; rw [h5]; simp, by simp⟩
 | succ k ih =>
  intro j d hd hs hn
  unfold DS.lay
  rcases DS.write_may hd (pos + j) (secAt b j) (by omega) (secAt_len b j) with ⟨h1, h2, h3, h4, h5, h6⟩ | ⟨h1, h2, h3, h4, h5⟩
  ·rw [if_neg (by rw [h1]; simp)]
   generalize (d.write ((pos + j : Nat) : Int) (secAt b j)).2 = d2 at *
   have hs2 : ∀ i, applied d2.since d2.lasts i = d2.now i := fun i => by
    have := hs
    rw [h6, h5, h4]
    unfold applied at *
    rw [List.foldl_append]
    show upd (List.foldl _ d.lasts d.since) (pos + j) (secAt b j) i = upd d.now (pos + j) (secAt b j) i
    unfold upd
    split
    ·rfl
    ·exact hs i
   rcases ih (j + 1) d2 h2 hs2 (by rw [h3]; omega) with ⟨i1, i2, i3, i4⟩ | ⟨i1, i2, i3, i4, ws, i5, i6⟩
   ·refine .inl ⟨i1, i2, by rw [i3, h3], fun i => ?_⟩
    rw [i4, h4]
    unfold upd
    by_cases hi : i = pos + j
    ·subst hi
     rw [if_neg (by omega), if_pos rfl, if_pos (by omega)]
     congr 1
     omega
    ·rw [if_neg hi]
     by_cases hm : pos + (j + 1) <= i /\ i < pos + (j + 1) + k
     ·rw [if_pos hm, if_pos (by omega)]
     ·rw [if_neg hm, if_neg (by omega)]
   ·refine .inr ⟨i1, i2, by rw [i3, h3], by rw [i4, h5], (pos + j, secAt b j) :: ws, by rw [i5, h6]; simp, fun x hx => ?_⟩
    rcases List.mem_cons.1 hx with rfl | hx
    ·exact ⟨j, by omega, by omega, rfl⟩
    ·obtain ⟨i, a1, a2, a3⟩ := i6 x hx
     exact ⟨i, by omega, by omega, a3⟩
  ·rw [if_pos (by rw [h1]; simp)]
   exact .inr ⟨h1, h2, h3, h4, [(pos + j, secAt b j)], h5, fun x hx => by
    rw [List.mem_singleton.1 hx]
    exact ⟨j, by omega, by omega, rfl⟩⟩
theorem DS.lays_may {d : DS} (pos : Nat) (b : List UInt8) (hd : d.Rest) (hn : pos + nsec b.length <= d.n) :
  ((d.lays pos b).1 = 0 /\ (d.lays pos b).2.Rest /\ (d.lays pos b).2.n = d.n /\ ∀ i, (d.lays pos b).2.now i = if pos <= i /\ i < pos + nsec b.length then secAt b (i - pos) else d.now i) ∨
  ((d.lays pos b).1 = 14 /\ (d.lays pos b).2.dead = true /\ (d.lays pos b).2.n = d.n /\ (d.lays pos b).2.lasts = d.lasts /\ ∀ x ∈ (d.lays pos b).2.since, ∃ i, i < nsec b.length /\ x = (pos + i, secAt b i)) := by
 rcases DS.lay_may pos b (nsec b.length) 0 d hd.alive (fun i => by rw [hd.none]; exact hd.same i) hn with h | ⟨h1, h2, h3, h4, ws, h5, h6⟩
 ·exact .inl h
 ·refine .inr ⟨h1, h2, h3, h4, fun x hx => ?_⟩
  have hx : x ∈ (d.lay pos b (nsec b.length) 0).2.since := hx
  rw [h5, hd.none, List.nil_append] at hx
  obtain ⟨i, a1, a2, a3⟩ := h6 x hx
  exact ⟨i, by omega, a3⟩
theorem applied_far (i : Nat) : ∀ (l : List (Nat × List UInt8)) (f : Nat -> List UInt8), (∀ x ∈ l, x.1 ≠ i) -> applied l f i = f i
 | [], f, h => rfl
 | x :: l, f, h => by
  show applied l (upd f x.1 x.2) i = f i
  rw [applied_far i l _ (fun y hy => h y (List.mem_cons_of_mem _ hy))]
  unfold upd
  rw [if_neg (fun e => h x (List.mem_cons_self ..) e.symm)]
theorem applied_same (i : Nat) (s : List UInt8) : ∀ (l : List (Nat × List UInt8)) (f : Nat -> List UInt8), (∀ x ∈ l, x = (i, s)) -> applied l f i = f i ∨ applied l f i = s
 | [], f, h => .inl rfl
 | x :: l, f, h => by
  show applied l (upd f x.1 x.2) i = f i ∨ applied l (upd f x.1 x.2) i = s
  obtain rfl := h x (List.mem_cons_self ..)
  have hu : upd f i s i = s := by unfold upd; rw [if_pos rfl]
  rcases applied_same i s l (upd f i s) (fun y hy => h y (List.mem_cons_of_mem _ hy)) with h1 | h1
  ·exact .inr (by rw [h1, hu])
  ·exact .inr h1
structure ToldR (s : SS) (u : Nat -> Bool) (v : Nat -> List UInt8) : Prop where
 rest : s.d.Rest
 room : s.first + 8 * s.rows.length <= s.d.n
 head : ∀ k, k < s.rows.length -> headOf (s.d.now (s.first + 8 * k)) = some (s.rows.getD k noRow)
 used : ∀ k, k < s.rows.length -> (s.rows.getD k noRow).used = u k
 data : ∀ k, k < s.rows.length -> u k = true -> s.data (k : Int) = v k
theorem ToldR.small {s : SS} {u : Nat -> Bool} {v : Nat -> List UInt8} (h : ToldR s u v) (k : Nat) (hk : k < s.rows.length) : (s.rows.getD k noRow).n <= 448 := (headOf_ok (h.head k hk)).1
theorem ToldR.get {s : SS} {u : Nat -> Bool} {v : Nat -> List UInt8} (h : ToldR s u v) (k : Nat) (hk : k < s.rows.length) : s.get (k : Int) = if u k then (v k, 0) else ([], 6) := by
 unfold SS.get
 have hh : s.has (k : Int) := ⟨by omega, by omega⟩
 have hr : s.row (k : Int) = s.rows.getD k noRow := rfl
 rw [if_neg (by simpa using hh), hr, h.used k hk]
 cases hu : u k with
 | false => simp
 | true =>
  rw [if_neg (by simp), h.rest.alive]
  simp [h.data k hk hu]
theorem ToldR.of_now {s : SS} {u : Nat -> Bool} {v : Nat -> List UInt8} (h : ToldR s u v) (d2 : DS) (hr : d2.Rest) (hn : d2.n = s.d.n) (k : Nat) (hk : k < s.rows.length) (r : SRow) (hh : headOf (d2.now (s.first + 8 * k)) = some r)
  (hfar : ∀ j i, j < s.rows.length -> j ≠ k -> i < 8 -> d2.now (s.first + 8 * j + i) = s.d.now (s.first + 8 * j + i)) (b : List UInt8)
  (hb : r.used = true -> (flat (nsec r.n) (fun i => d2.now (s.first + 8 * k + 1 + i))).take r.n = b) :
  ToldR { s with d := d2, rows := s.rows.set k r } (fun j => if j = k then r.used else u j) (fun j => if j = k then b else v j) := by
 refine ⟨hr, ?_, fun j hj => ?_, fun j hj => ?_, fun j hj huj => ?_⟩
 ·show s.first + 8 * (s.rows.set k r).length <= d2.n
  rw [List.length_set, hn]
  exact h.room
 ·replace hj : j < s.rows.length := by simpa using hj
  show headOf (d2.now (s.first + 8 * j)) = some ((s.rows.set k r).getD j noRow)
  rw [set_getD _ _ _ _ hk]
  by_cases hjk : j = k
  ·subst hjk
   rw [if_pos rfl]
   exact hh
  ·rw [if_neg hjk, <- h.head j hj]
   have := hfar j 0 hj hjk (by omega)
   rw [Nat.add_zero] at this
   rw [this]
 ·replace hj : j < s.rows.length := by simpa using hj
  show ((s.rows.set k r).getD j noRow).used = _
  rw [set_getD _ _ _ _ hk]
  by_cases hjk : j = k
  ·rw [if_pos hjk, if_pos hjk]
  ·rw [if_neg hjk, if_neg hjk]
   exact h.used j hj
 ·replace hj : j < s.rows.length := by simpa using hj
  show (flat (nsec ((s.rows.set k r).getD j noRow).n) (fun i => d2.now (s.first + 8 * j + 1 + i))).take ((s.rows.set k r).getD j noRow).n = _
  rw [set_getD _ _ _ _ hk]
  try dsimp only at huj
  by_cases hjk : j = k
  ·subst hjk
   rw [if_pos rfl] at huj
   rw [if_pos rfl, if_pos rfl]
   exact hb huj
  ·rw [if_neg hjk] at huj
   rw [if_neg hjk, if_neg hjk]
   have hsm := h.small j hj
   rw [flat_congr _ _ (fun i => s.d.now (s.first + 8 * j + 1 + i)) (fun i hi => by
    have : i < 7 := by unfold nsec at hi; omega
    have := hfar j (1 + i) hj hjk (by omega)
    rw [<- Nat.add_assoc] at this
    exact this)]
   exact h.data j hj huj
theorem set_self (l : List SRow) (k : Nat) (hk : k < l.length) : l.set k (l.getD k noRow) = l := by
 rw [List.getD_eq_getElem?_getD, List.getElem?_eq_getElem hk, Option.getD_some]
 exact List.set_getElem_self hk
def Lost (s : SS) (d2 : DS) (u : Nat -> Bool) (v : Nat -> List UInt8) (k : Nat) (q : Bool) (b : List UInt8) : Prop :=
 d2.dead = true /\ d2.n = s.d.n /\ ∀ ch, ∃ rows, rows.length = s.rows.length /\ (ToldR { s with d := d2.crash ch, rows := rows } u v ∨ ToldR { s with d := d2.crash ch, rows := rows } (fun j => if j = k then q else u j) (fun j => if j = k then b else v j))
theorem crash_rest (d : DS) (ch : List UInt8) : (d.crash ch).Rest := ⟨rfl, rfl, fun i => rfl⟩
theorem crash_now {d : DS} {ch : List UInt8} (i : Nat) : (d.crash ch).now i = applied (chosen ch d.since 0) d.lasts i := rfl
theorem ToldR.again {s : SS} {u : Nat -> Bool} {v : Nat -> List UInt8} (h : ToldR s u v) (d2 : DS) (hr : d2.Rest) (hn : d2.n = s.d.n) (k : Nat) (hk : k < s.rows.length) (hu : u k = false) (hh : d2.now (s.first + 8 * k) = s.d.now (s.first + 8 * k))
  (hfar : ∀ j i, j < s.rows.length -> j ≠ k -> i < 8 -> d2.now (s.first + 8 * j + i) = s.d.now (s.first + 8 * j + i)) : ToldR { s with d := d2 } u v := by
 have h1 := h.of_now d2 hr hn k hk (s.rows.getD k noRow) (by rw [hh]; exact h.head k hk) hfar (v k) (fun e => by
  rw [h.used k hk, hu] at e; cases e)
 rw [set_self _ _ hk, h.used k hk] at h1
 have e1 : (fun j => if j = k then u k else u j) = u := by funext j; split <;> simp_all
 have e2 : (fun j => if j = k then v k else v j) = v := by funext j; split <;> simp_all
 rw [e1, e2] at h1
 exact h1
theorem ToldR.anew {s : SS} {u : Nat -> Bool} {v : Nat -> List UInt8} (h : ToldR s u v) (hn : (s.d.n - s.first) / 8 = s.rows.length) (hz : s.d.n ≠ 0) : s.d.slots (s.first : Int) = (0, some s) := by
 have hroom := h.room
 unfold DS.slots
 rw [if_neg (by omega), if_neg (by rw [h.rest.alive]; simp [hz]), Int.toNat_natCast, hn, rowsFrom_told s.rows.length 0 (by omega) (fun j _ hj => h.head j hj)]
 rfl
section
open Go.RowKit
open Go.Maps (Keyed)
def hv (v : Value) : Option (DataW Value × List MemPlace) := some (.held v, [])
structure KE (k : TypeId) {κ : Type} (kv : κ -> Value) (kl : κ -> Lit) (ok : κ -> Prop) : Prop where
 law : Keyed Tryz.prog k
 of : ∀ x, ok x -> keyOf Tryz.prog k (kv x) = some (kl x)
 inj : ∀ x y, ok x -> ok y -> kl x = kl y -> x = y
 inv : ∀ v l, keyOf Tryz.prog k v = some l -> ∃ x, ok x /\ v = kv x /\ l = kl x
variable {κ : Type} {k : TypeId} {kv : κ -> Value} {kl : κ -> Lit} {ok : κ -> Prop}
def MapF (k : TypeId) (kl : κ -> Lit) (ok : κ -> Prop) (w : World) (b : Nat) (φ : κ -> Option Value) (N : Nat) : Prop :=
 ∃ D : DataW Value, w.ownsMap Tryz.prog k hv b N D /\ Maps.size D = N /\ ∀ x, ok x -> Maps.has D (kl x) = (φ x).isSome /\ ∀ v, φ x = some v -> ∀ z, D.atKey (kl x) z = .held v
theorem MapF.lt {w : World} {b N : Nat} {φ : κ -> Option Value} (h : MapF k kl ok w b φ N) : b < w.heap.size := by obtain ⟨D, h, _⟩ := h; exact h.lt
theorem MapF.keep {w w' : World} {b N : Nat} {φ : κ -> Option Value} (h : MapF k kl ok w b φ N) (hb : w'.heap[b]? = w.heap[b]?) : MapF k kl ok w' b φ N := by
 obtain ⟨D, ⟨es, clock, h1, r⟩, h2⟩ := h
 exact ⟨D, ⟨es, clock, hb.trans h1, r⟩, h2⟩
theorem MapF.chg {S : List Nat} {w w' : World} {b N : Nat} {φ : κ -> Option Value} (h : MapF k kl ok w b φ N) (hc : Chg S w w') (hb : b ∉ S) : MapF k kl ok w' b φ N := h.keep (hc.block b h.lt hb)
theorem MapF.obj {w : World} {b N : Nat} {φ : κ -> Option Value} (h : MapF k kl ok w b φ N) : ∃ es clock, w.heap[b]? = some (.map es clock) := by
 obtain ⟨D, ⟨es, clock, h1, r⟩, h2⟩ := h
 exact ⟨es, clock, h1⟩
theorem MapF.made (w : World) : MapF k kl ok (w.alloc (.map #[] 0)) w.heap.size (fun _ => none) 0 := ⟨.map [], World.ownsMap_made _ _ _ _, rfl, fun x hx => ⟨rfl, fun v h => by cases h⟩⟩
theorem atKey_held (E : KE k kv kl ok) {w : World} {b N : Nat} {φ : κ -> Option Value} {D : DataW Value} (hf : ∀ x, ok x -> Maps.has D (kl x) = (φ x).isSome /\ ∀ v, φ x = some v -> ∀ z, D.atKey (kl x) z = .held v)
  {x : κ} (hx : ok x) (z : Value) : D.atKey (kl x) (.held z) = .held ((φ x).getD z) := by
 cases hφ : φ x with
 | none =>
  have := (hf x hx).1
  rw [hφ] at this
  rw [Maps.atKey_of_not_has this]; rfl
 | some u => rw [(hf x hx).2 u hφ]; rfl
theorem hv_inj {v u : Value} {ps : List MemPlace} (h : hv v = some (.held u, ps)) : v = u := by
 simp only [hv, Option.some.injEq, Prod.mk.injEq, DataW.held.injEq] at h
 exact h.1
theorem MapF.look (E : KE k kv kl ok) {w : World} {b N : Nat} {φ : κ -> Option Value} (h : MapF k kl ok w b φ N) {t e : TypeId} (ht : Tryz.prog.underlying t = some (.map k e)) {z : Value} (hz : ∀ w, (zeroValue e).run Tryz.prog w = .ok z w) {x : κ} (hx : ok x) :
  (Instr.lookup t (.map (some b)) (kv x) false).run Tryz.prog w = .ok ((φ x).getD z) w := by
 obtain ⟨D, ho, hs, hf⟩ := h
 obtain ⟨v, ps, hrun, hv'⟩ := ho.lookup E.law ht (hz w) (zd := .held z) (zp := []) rfl (E.of x hx)
 rw [atKey_held E (w := w) (b := b) (N := N) hf hx z] at hv'
 rw [hrun, hv_inj hv']
noncomputable def updF (φ : κ -> Option Value) (x : κ) (v : Value) : κ -> Option Value := open Classical in fun y => if y = x then some v else φ y
noncomputable def delF (φ : κ -> Option Value) (x : κ) : κ -> Option Value := open Classical in fun y => if y = x then none else φ y
theorem updF_self (φ : κ -> Option Value) (x : κ) (v : Value) : updF φ x v x = some v := by unfold updF; rw [if_pos rfl]
theorem updF_other (φ : κ -> Option Value) {x y : κ} (v : Value) (h : y ≠ x) : updF φ x v y = φ y := by unfold updF; rw [if_neg h]
theorem delF_self (φ : κ -> Option Value) (x : κ) : delF φ x x = none := by unfold delF; rw [if_pos rfl]
theorem delF_other (φ : κ -> Option Value) {x y : κ} (h : y ≠ x) : delF φ x y = φ y := by unfold delF; rw [if_neg h]
theorem own_mono {w : World} {b n m : Nat} {D : DataW Value} (h : w.ownsMap Tryz.prog k hv b n D) (hm : Maps.size D = m) : w.ownsMap Tryz.prog k hv b m D := by
 obtain ⟨es, clock, h1, F, h3, rfl⟩ := h
 have : es.size = m := by simpa [Maps.size, length_sorted] using hm
 exact ⟨es, clock, h1, F, by omega, rfl⟩
theorem turned_chg {w w' : World} {b : Nat} (h : w.mapTurned w' b) : Chg [b] w w' /\ w'.heap.size = w.heap.size := by
 refine ⟨(Chg.refl _ _).grown h.grown (by simp), ?_⟩
 obtain ⟨es, clock, es', clock', hb, rfl⟩ := h
 simp [ChangeMaps.setBlock]
theorem MapF.store (E : KE k kv kl ok) {w : World} {b N : Nat} {φ : κ -> Option Value} (h : MapF k kl ok w b φ N) {t e : TypeId} (ht : Tryz.prog.underlying t = some (.map k e)) {x : κ} (hx : ok x) (v : Value) (hN : N < maxLen) :
  ∃ w', (Instr.mapUpdate t (.map (some b)) (kv x) v).run Tryz.prog w = .ok () w' /\ MapF k kl ok w' b (updF φ x v) (if (φ x).isSome then N else N + 1) /\ Chg [b] w w' /\ w'.heap.size = w.heap.size := by
 obtain ⟨D, ho, hs, hf⟩ := h
 obtain ⟨w', hrun, h1, h2⟩ := ho.store E.law ht hN (E.of x hx) (d := .held v) (ps := []) rfl
 have hT := ho.tidy E.law
 have hk : WideAt.IsKeyLit (kl x) := E.law.key (E.of x hx)
 refine ⟨w', hrun, ⟨D.put (kl x) (.held v), own_mono h1 ?_, ?_, fun y hy => ?_⟩, turned_chg h2⟩
 ·rw [Maps.size_put hT, (hf x hx).1, hs]
 ·rw [Maps.size_put hT, (hf x hx).1, hs]
 ·by_cases e : y = x
  ·subst e
   rw [updF_self]
   refine ⟨Maps.has_put_same hT.isMap hk _, fun u hu z => ?_⟩
   cases hu
   exact Maps.atKey_put_same hT.isMap hk _ _
  ·have hne : kl y ≠ kl x := fun h => e (E.inj y x hy hx h)
   rw [updF_other _ _ e, Maps.has_put_other hne]
   refine ⟨(hf y hy).1, fun u hu z => ?_⟩
   rw [Maps.atKey_put_other hne]
   exact (hf y hy).2 u hu z
theorem MapF.drop (E : KE k kv kl ok) {w : World} {b N : Nat} {φ : κ -> Option Value} (h : MapF k kl ok w b φ N) {t e : TypeId} (ht : Tryz.prog.underlying t = some (.map k e)) {x : κ} (hx : ok x) (ty : TypeId) :
  ∃ w', (Builtin.delete_ #[t, k] ty #[.map (some b), kv x]).run Tryz.prog w = .ok (.tuple #[]) w' /\ MapF k kl ok w' b (delF φ x) (if (φ x).isSome then N - 1 else N) /\ Chg [b] w w' /\ w'.heap.size = w.heap.size := by
 obtain ⟨D, ho, hs, hf⟩ := h
 obtain ⟨w', hrun, h1, h2⟩ := ho.drop E.law ht (E.of x hx) ty
 have hT := ho.tidy E.law
 have hsz := Maps.size_del (k := kl x) hT
 rw [(hf x hx).1, hs] at hsz
 have hsz' : Maps.size (D.del (kl x)) = if (φ x).isSome then N - 1 else N := by
  cases hφ : (φ x).isSome <;> simp [hφ] at hsz ⊢ <;> omega
 refine ⟨w', hrun, ⟨D.del (kl x), own_mono h1 hsz', hsz', fun y hy => ?_⟩, turned_chg h2⟩
 by_cases e : y = x
 ·subst e
  rw [delF_self]
  exact ⟨Maps.has_del_same, fun u hu => by cases hu⟩
 ·have hne : kl y ≠ kl x := fun h => e (E.inj y x hy hx h)
  rw [delF_other _ e, Maps.has_del_other hne]
  refine ⟨(hf y hy).1, fun u hu z => ?_⟩
  rw [Maps.atKey_del_other hne]
  exact (hf y hy).2 u hu z
def Rng (k : TypeId) (kl : κ -> Lit) (ok : κ -> Prop) (w : World) (b r : Nat) (φ : κ -> Option Value) (N : Nat) (left : κ -> Bool) (cnt : Nat) : Prop :=
 ∃ (D : DataW Value) (lf : Lit -> Bool), w.ranges Tryz.prog k hv b r N D lf cnt /\ Maps.size D = N /\ (∀ x, ok x -> lf (kl x) = left x) /\ ∀ x, ok x -> Maps.has D (kl x) = (φ x).isSome /\ ∀ v, φ x = some v -> ∀ z, D.atKey (kl x) z = .held v
theorem Rng.kept {S : List Nat} {w w' : World} {b r N cnt : Nat} {φ : κ -> Option Value} {left : κ -> Bool} (h : Rng k kl ok w b r φ N left cnt) (hc : Chg S w w') (hb : b ∉ S) (hr : r ∉ S) : Rng k kl ok w' b r φ N left cnt := by
 obtain ⟨D, lf, h1, h2, h3, h4⟩ := h
 refine ⟨D, lf, ?_, h2, h3, h4⟩
 have hbl := h1.owns.lt
 have hrl := h1.lt
 obtain ⟨es, clock, since, seen, c0, e1, F, e2, e3, e4, rest⟩ := h1
 exact ⟨es, clock, since, seen, c0, (hc.block b hbl hb).trans e1, F, e2, e3, (hc.block r hrl hr).trans e4, rest⟩
theorem wpList_rng (E : KE k kv kl ok) (w : World) {ops : Array Oper} {rest : List Oper} {o : Oper} {a : Act} {Q : Exit -> Act -> World -> Prop} (hg : o.guard = none) (m : Operand) (t : TypeId) (hop : o.op = Op.range t m) (e : TypeId)
  (ht : Tryz.prog.underlying t = some (.map k e)) (b N : Nat) (φ : κ -> Option Value) (hm : a.eval m = .map (some b)) (h : MapF k kl ok w b φ N)
  (hK : ∀ w', Rng k kl ok w' b w.heap.size φ N (fun x => (φ x).isSome) N -> Chg [] w w' -> w'.heap.size = w.heap.size + 1 -> wpList Tryz.prog ops Q rest (a.put o.dst (.pointer (some ⟨w.heap.size, 0, none⟩))) w') :
  wpList Tryz.prog ops Q (o :: rest) a w := by
 obtain ⟨D, ho, hs, hf⟩ := h
 refine wpList_range_own w hg m t hop k e E.law ht hv b N D hm ho fun w' h1 h2 h3 => hK w' ⟨D, _, by rw [<- hs] at h1 ⊢; exact h1, hs, fun x hx => (hf x hx).1, hf⟩ ?_ h3
 exact (Chg.refl _ _).grown h2 (by simp)
theorem wpList_nxt (E : KE k kv kl ok) (w : World) {ops : Array Oper} {rest : List Oper} {o : Oper} {a : Act} {Q : Exit -> Act -> World -> Prop} (hg : o.guard = none) (it : Operand) (hop : o.op = Op.next it false) (b r N : Nat) (φ : κ -> Option Value) (left : κ -> Bool) (cnt : Nat)
  (hit : a.eval it = .pointer (some ⟨r, 0, none⟩)) (h : Rng k kl ok w b r φ N left cnt)
  (hDone : cnt = 0 -> (∀ x, ok x -> left x = false) -> wpList Tryz.prog ops Q rest (a.put o.dst (.tuple #[.bool false])) w)
  (hMore : ∀ (x : κ) (v : Value) (w' : World) (cnt' : Nat), ok x -> left x = true -> φ x = some v -> (∀ left', (∀ y, ok y -> (y = x -> left' y = false) /\ (y ≠ x -> left' y = left y)) -> Rng k kl ok w' b r φ N left' cnt') -> cnt' < cnt -> Chg [r] w w' -> w'.heap.size = w.heap.size ->
   (Instr.entry (.pointer (some ⟨r, 0, none⟩))).run Tryz.prog w' = .ok (.tuple #[kv x, v]) w' -> wpList Tryz.prog ops Q rest (a.put o.dst (.tuple #[.bool true, kv x, v])) w') :
  wpList Tryz.prog ops Q (o :: rest) a w := by
 obtain ⟨D, lf, h1, hs, hl, hf⟩ := h
 refine wpList_next_ranges (α := κ) (β := Value) w hg it hop k E.law hv kv id (fun key l hk => by obtain ⟨x, _, hx, _⟩ := E.inv key l hk; exact ⟨x, hx⟩) (fun v y _ => ⟨v, rfl⟩) b r N D lf cnt hit h1 (fun h0 hno => hDone h0 fun x hx => by rw [<- hl x hx]; exact hno _) ?_
 intro x c l y w' cnt' hkey hlk hvy hat hrg hlt hg2 hsz hen
 obtain ⟨x', hx', e1, rfl⟩ := E.inv _ _ hkey
 have hkx : kv x = kv x' := e1
 have hphi : φ x' = some c := by
  have hx1 := hf x' hx'
  have hy : y.1 = .held c := by
   simp only [hv, id, Option.some.injEq] at hvy
   rw [<- hvy]
  cases hφ : φ x' with
  | none =>
   rw [hφ] at hx1
   have h2 := Maps.atKey_of_not_has hx1.1 (.nil)
   rw [hat .nil, hy] at h2
   cases h2
  | some u =>
   have h2 := hx1.2 u hφ .nil
   rw [hat .nil, hy] at h2
   rw [<- (DataW.held.injEq c u ▸ h2 : c = u)]
 have hen' := hen
 rw [hkx] at hen' ⊢
 refine hMore x' c w' cnt' hx' (by rw [<- hl x' hx']; exact hlk) hphi (fun left' hleft => ⟨D, _, hrg, hs, fun y hy => ?_, hf⟩) hlt ((Chg.refl _ _).grown hg2 (by simp)) hsz hen'
 by_cases e : y = x'
 ·subst e
  rw [(hleft y hy).1 rfl, WideAt.sameKey_self (E.law.key (E.of y hx'))]; simp
 ·rw [(hleft y hy).2 e, hl y hy, Maps.sameKey_ne (fun h => e (E.inj y x' hy hx' h))]; simp
end
section
open Go.RowKit
open Go.Maps (Keyed)
def okW (a : Int) : Prop := (Lit.int .i64 a).wf = true
instance (a : Int) : Decidable (okW a) := inferInstanceAs (Decidable (_ = _))
def okD (x : Id) : Prop := okW x.c /\ okW x.l /\ okW x.n /\ okW x.i
instance (x : Id) : Decidable (okD x) := inferInstanceAs (Decidable (_ /\ _))
def klD (x : Id) : Lit := .string (keyBytes [.int .i64 x.c, .int .i64 x.l, .int .i64 x.n, .int .i64 x.i])
theorem laidD : laidOutB Tryz.prog = true := by kernel_rfl
theorem keId_law : Keyed Tryz.prog 45 := Keyed.of_law (deep_law_laid laidD (m := 4) (by decide) (of_decide_eq_true (by kernel_rfl)) (by kernel_rfl) (by rw [Tryz.underlying45]))
theorem keyType_id : Tryz.prog.keyType 45 = true := by kernel_rfl
theorem cells_id : Tryz.prog.cellsOf 45 = 4 := by kernel_rfl
theorem cells_stripe : Tryz.prog.cellsOf 26 = 3 := by kernel_rfl
theorem cells_intD : Tryz.prog.cellsOf 3 = 1 := by kernel_rfl
def litI (v : Value) : Option (List Lit) := match v with | .int .i64 a => if okW a then some [.int .i64 a] else none | _ => none
theorem litI_ok {a : Int} (h : okW a) : litI (.int .i64 a) = some [.int .i64 a] := by simp [litI, h]
theorem litI_inv {v : Value} {l : List Lit} (h : litI v = some l) : ∃ a, okW a /\ v = .int .i64 a /\ l = [.int .i64 a] := by
 unfold litI at h
 split at h
 ·rename_i a
  by_cases ha : okW a
  ·rw [if_pos ha] at h; exact ⟨a, ha, rfl, (Option.some.inj h).symm⟩
  ·rw [if_neg ha] at h; cases h
 ·cases h
theorem lits_int (m : Nat) (v : Value) : Tryz.prog.keyLits (m + 1) 3 [v] = litI v := by
 unfold Program.keyLits litI okW
 simp only [Tryz.underlying3]
 cases v <;> simp
 rename_i k1 a
 by_cases e1 : k1 = .i64
 ·subst e1; by_cases h : (Lit.int .i64 a).wf = true <;> simp [h]
 ·simp [e1]
theorem lits_stripe (m : Nat) (u v y : Value) : Tryz.prog.keyLits (m + 2) 26 [u, v, y] = (litI u).bind fun a => (litI v).bind fun b => (litI y).bind fun c => some (a ++ (b ++ c)) := by
 unfold Program.keyLits
 simp only [Tryz.underlying26, cells_stripe]
 rw [if_pos ⟨rfl, by kernel_rfl⟩]
 simp only [List.mapM_cons, List.mapM_nil, cells_intD, List.drop_zero, List.drop_succ_cons, List.take_succ_cons, List.take_zero, lits_int]
 generalize litI u = a
 generalize litI v = b
 generalize litI y = c
 cases a <;> cases b <;> cases c <;> simp
def litD (c : List Value) : Option (List Lit) := match c with
 | [x, y, z, u] => (litI x).bind fun a => (litI y).bind fun b => (litI z).bind fun c => (litI u).bind fun d => some (a ++ (b ++ (c ++ d)))
 | _ => none
theorem lits_id (c : List Value) : Tryz.prog.keyLits (Tryz.prog.types.size + 1) 45 c = litD c := by
 obtain ⟨m, hm⟩ : ∃ m, Tryz.prog.types.size = m + 2 := ⟨Tryz.prog.types.size - 2, by have : 2 <= Tryz.prog.types.size := of_decide_eq_true (by kernel_rfl); omega⟩
 rw [hm]
 unfold Program.keyLits
 simp only [Tryz.underlying45, cells_id]
 match c with
 | [] => simp [litD]
 | [x] => simp [litD]
 | [x, y] => simp [litD]
 | [x, y, z] => simp [litD]
 | x :: y :: z :: u :: v :: r => simp [litD]
 | [x, y, z, u] =>
  rw [if_pos ⟨rfl, by kernel_rfl⟩]
  simp only [List.mapM_cons, List.mapM_nil, cells_intD, cells_stripe, List.drop_zero, List.drop_succ_cons, List.take_succ_cons, List.take_zero, lits_int, lits_stripe, litD]
  generalize litI x = a
  generalize litI y = b
  generalize litI z = c
  generalize litI u = d
  cases a <;> cases b <;> cases c <;> cases d <;> simp
theorem litD_inv {c : List Value} {ls : List Lit} (h : litD c = some ls) : ∃ x : Id, okD x /\ c = (idC x).toList /\ ls = [.int .i64 x.c, .int .i64 x.l, .int .i64 x.n, .int .i64 x.i] := by
 unfold litD at h
 split at h
 ·rename_i u v y z
  cases h1 : litI u with
  | none => rw [h1] at h; cases h
  | some a =>
   cases h2 : litI v with
   | none => rw [h1, h2] at h; cases h
   | some b =>
    cases h3 : litI y with
    | none => rw [h1, h2, h3] at h; cases h
    | some c =>
     cases h4 : litI z with
     | none => rw [h1, h2, h3, h4] at h; cases h
     | some d =>
      rw [h1, h2, h3, h4] at h
      obtain ⟨a', k1, rfl, rfl⟩ := litI_inv h1
      obtain ⟨b', k2, rfl, rfl⟩ := litI_inv h2
      obtain ⟨c', k3, rfl, rfl⟩ := litI_inv h3
      obtain ⟨d', k4, rfl, rfl⟩ := litI_inv h4
      exact ⟨⟨a', b', c', d'⟩, ⟨k1, k2, k3, k4⟩, rfl, (Option.some.inj h).symm⟩
 ·cases h
theorem of_id (x : Id) (h : okD x) : keyOf Tryz.prog 45 (idV x) = some (klD x) := by
 unfold keyOf
 rw [Tryz.underlying45]
 obtain ⟨h1, h2, h3, h4⟩ := h
 simp only [keyType_id, Value.formed, Tryz.underlying45, cells_id, Value.cells, lits_id]
 simp [litD, litI_ok h1, litI_ok h2, litI_ok h3, litI_ok h4, klD]
theorem keId : KE 45 idV klD okD where
 law := keId_law
 of := of_id
 inj x y hx hy h := by
  have e1 := of_id x hx
  have e2 := of_id y hy
  rw [h] at e1
  have := keId_law.inj e1 e2
  obtain ⟨a, b, c, d⟩ := x
  obtain ⟨a', b', c', d'⟩ := y
  simp at this
  obtain ⟨rfl, rfl, rfl, rfl⟩ := this
  rfl
 inv v l h := by
  have hk : keyOf Tryz.prog 45 v = if v.formed Tryz.prog 45 = true then (Tryz.prog.keyLits (Tryz.prog.types.size + 1) 45 v.cells.toList).map fun ls => .string (keyBytes ls) else none := by
   unfold keyOf
   rw [Tryz.underlying45]
   simp only [keyType_id, Bool.true_and]
  rw [hk] at h
  clear hk
  by_cases hf : v.formed Tryz.prog 45 = true
  ·rw [if_pos hf] at h
   cases v with
   | agg cs =>
    obtain ⟨ls, h2, h3⟩ := Option.map_eq_some_iff.1 h
    rw [lits_id] at h2
    simp only [Value.cells] at h2
    obtain ⟨x, hx, hc, hl⟩ := litD_inv h2
    refine ⟨x, hx, ?_, ?_⟩
    ·have : cs = idC x := Array.ext' hc
     rw [this]
    ·rw [<- h3, hl]; rfl
   | _ => simp [Value.formed, Tryz.underlying45] at hf
  ·rw [if_neg hf] at h; cases h
end
structure PenNew (w0 w : World) (b : Nat) (g : Option Nat) (l : List UInt8) : Prop where
 pen : PenAt 194 w b g l 0
 chg : Chg [] w0 w
 own : w0.heap.size <= b
 ownG : ∀ k, g = some k -> w0.heap.size <= k
theorem PenNew.wrote {w0 w w' : World} {b : Nat} {g : Option Nat} {l l' : List UInt8} (h : PenNew w0 w b g l) (hw : Wrote 194 w w' b g (l', 0)) : ∃ g', PenNew w0 w' b g' l' := by
 obtain ⟨g', h1, h2, h3⟩ := hw
 refine ⟨g', h1, h.chg.trans h3 (fun x hx => .inr ?_), h.own, fun k hk => ?_⟩
 ·rcases List.mem_cons.1 hx with rfl | hx
  ·exact h.own
  ·exact h.ownG x (by simpa using hx)
 ·rcases h2 with rfl | ⟨k', rfl, h4⟩
  ·exact h.ownG k hk
  ·obtain rfl : k' = k := by simpa using hk
   exact Nat.le_trans h.chg.size h4
theorem PenNew.num {w0 w : World} {b : Nat} {g : Option Nat} {l : List UInt8} (h : PenNew w0 w b g l) (x : Int) (n : Nat) (h1 : 1 <= n) (h7 : n <= 7) (hx0 : 0 <= x) (hx : x < ((256 ^ n : Nat) : Int)) (hl : l.length <= 1000) :
  Calls Tryz.prog 134 #[.pointer (some ⟨b, 0, none⟩), .int .i64 x, .int .i64 n] w fun e w' => e = .returned (.tuple #[]) /\ ∃ g', PenNew w0 w' b g' (l ++ beBytes n x.toNat) := by
 obtain ⟨y, rfl⟩ := Int.eq_ofNat_of_zero_le hx0
 refine (pnum_ok b g l 0 y n w h.pen h1 h7 (by omega)).mono ?_
 rintro e w' ⟨rfl, hw⟩
 refine ⟨rfl, h.wrote ?_⟩
 have e1 : penAdd l 0 (beBytes n y) = (l ++ beBytes n y, 0) := by
  unfold penAdd
  rw [if_neg (by simp), if_neg (by rw [beBytes_len]; omega)]
 rw [e1] at hw
 exact hw
theorem PenNew.fresh {w0 w : World} (hc : Chg [] w0 w) : PenNew w0 (w.alloc (.cells #[.slice none 0 0, .int .i64 0] 194)) w.heap.size none [] :=
 ⟨⟨.slice none 0 0, heap_alloc_new w _, BRow.nil _, rfl, by simp, by simp⟩, hc.alloc _, hc.size, fun k hk => by cases hk⟩
theorem id_cells {w : World} {b t : Nat} {a c d e : Int} (h : w.heap[b]? = some (.cells (idC ⟨a, c, d, e⟩) t (0, 0))) : w.cell? ⟨b, 0, none⟩ = some (.int .i64 a) /\ w.cell? ⟨b, 1, none⟩ = some (.int .i64 c) /\ w.cell? ⟨b, 2, none⟩ = some (.int .i64 d) /\ w.cell? ⟨b, 3, none⟩ = some (.int .i64 e) :=
 ⟨blk_cell h 0 _ rfl, blk_cell h 1 _ rfl, blk_cell h 2 _ rfl, blk_cell h 3 _ rfl⟩
def KeyPost (x : Id) (w : World) (e : Ending) (w' : World) : Prop := Chg [] w w' /\ if mayId x = true then ∃ v, e = .returned (.tuple #[v, .int .i64 0]) /\ BRow w' v (idKey x) /\ ∀ k, v.ownBlock = some k -> w.heap.size <= k else e = .returned (.tuple #[.slice none 0 0, .int .i64 1])
theorem stkey_any (x : Id) (w : World) : Calls Tryz.prog 100 #[idV x] w (KeyPost x w) := by
 obtain ⟨w1, hw1⟩ : ∃ w1, w1 = w.alloc (.cells (idC x) 45) := ⟨_, rfl⟩
 have CM := LH (mayid_any x w1)
 have hc1 : Chg [] w w1 := by rw [hw1]; exact (Chg.refl [] w).alloc _
 have hb1 : w1.heap[w.heap.size]? = some (.cells (idC x) 45 (0, 0)) := by rw [hw1]; exact heap_alloc_new w _
 have HB := LH hb1
 have HC1 := LH hc1
 have HW1 := LH hw1
 unfold KeyPost
 by_cases hm : mayId x = true
 ·rw [hm] at CM
  simp only [hm, if_true]
  obtain ⟨⟨a0, a1⟩, ⟨b0, b1⟩, ⟨c0, c1⟩, d0, d1⟩ := may_bounds hm
  obtain ⟨xc, xl, xn, xi⟩ := x
  dsimp only at *
  clear hm hw1 hb1 hc1
  go_enter Tryz.func100, Tryz.ntmps100
  go_wp2_with fail
  rw [<- HW1.out]
  refine CM.out.mono ?_
  rintro e w2 ⟨rfl, hc2⟩
  have HC2 := LH hc2
  clear hc2 CM
  have hp := PenNew.fresh HC2.out
  obtain ⟨w3, hw3⟩ : ∃ w3, w3 = w2.alloc (.cells #[.slice none 0 0, .int .i64 0] 194) := ⟨_, rfl⟩
  rw [<- hw3] at hp
  have HW3 := LH hw3
  have hl2 : w.heap.size < w2.heap.size := Nat.lt_of_lt_of_le (blk_lt HB.out) HC2.out.size
  have hC3 : Chg [] w1 w3 := by rw [hw3]; exact HC2.out.alloc _
  have k0 := (id_cells (hC3.keep HB.out (by simp))).1
  rw [hw3] at k0
  have CN := LH (hp.num xc 1 (by omega) (by omega) a0 (by omega) (by simp))
  have HP := LH hp
  have HCC3 := LH hC3
  clear hw3 hp hC3
  go_wp2_with fail
  rw [<- HW3.out]
  refine CN.out.mono ?_
  rintro e w4 ⟨rfl, g4, hp4⟩
  obtain ⟨k0, k1, k2, k3⟩ := id_cells (hp4.chg.keep HB.out (by simp))
  have CN4 := LH (hp4.num xl 3 (by omega) (by omega) b0 (by omega) (by simp [beBytes_len]))
  clear hp4 CN
  go_wp2_with fail
  refine CN4.out.mono ?_
  rintro e w5 ⟨rfl, g5, hp5⟩
  obtain ⟨k0, k1, k2, k3⟩ := id_cells (hp5.chg.keep HB.out (by simp))
  have CN5 := LH (hp5.num xn 4 (by omega) (by omega) c0 (by omega) (by simp [beBytes_len]))
  clear hp5 CN4
  go_wp2_with fail
  refine CN5.out.mono ?_
  rintro e w6 ⟨rfl, g6, hp6⟩
  obtain ⟨k0, k1, k2, k3⟩ := id_cells (hp6.chg.keep HB.out (by simp))
  have CN6 := LH (hp6.num xi 1 (by omega) (by omega) d0 (by omega) (by simp [beBytes_len]))
  clear hp6 CN5
  go_wp2_with fail
  refine CN6.out.mono ?_
  rintro e w7 ⟨rfl, g7, hp7⟩
  have CB := LH (pbytes_any _ _ _ w7 hp7.pen)
  have HP7 := LH hp7
  clear hp7 CN6
  go_wp2_with fail
  refine CB.out.mono ?_
  rintro e w8 ⟨v8, rfl, hr8, ho8, hc8⟩
  have HR := LH (And.intro hr8 (And.intro ho8 hc8))
  clear hr8 ho8 hc8 CB
  go_wp2
  go_ret2
  have e9 : [] ++ beBytes 1 xc.toNat ++ beBytes 3 xl.toNat ++ beBytes 4 xn.toNat ++ beBytes 1 xi.toNat = idKey ⟨xc, xl, xn, xi⟩ := by simp [idKey]
  refine ⟨HC1.out.trans (HP7.out.chg.trans HR.out.2.2 (by simp)) (by simp), _, rfl, by rw [<- e9]; exact HR.out.1, fun k hk => ?_⟩
  have := HR.out.2.1 k hk
  have := HP7.out.chg.size
  have := HC1.out.size
  omega
 ·have hm' : mayId x = false := by simpa using hm
  rw [hm'] at CM
  simp only [hm]
  obtain ⟨xc, xl, xn, xi⟩ := x
  clear hm hm' hw1 hb1 hc1
  go_enter Tryz.func100, Tryz.ntmps100
  go_wp2_with fail
  rw [<- HW1.out]
  refine CM.out.mono ?_
  rintro e w2 ⟨rfl, hc2⟩
  have HC2 := LH (HC1.out.trans hc2 (by simp))
  clear hc2 CM
  go_wp2
  go_ret2
  exact ⟨HC2.out, rfl⟩
def endOf (l : List UInt8) (bad : Int) : Int := if bad ≠ 0 then bad else if l = [] then 0 else 3
theorem eend_any (b g : Nat) (l : List UInt8) (bad : Int) (w : World) (h : EyeAt w b g l bad) :
  Calls Tryz.prog 130 #[.pointer (some ⟨b, 0, none⟩)] w fun e w' => e = .returned (.int .i64 (endOf l bad)) /\ w = w' := by
 have CF := LH (efail_any b g l bad w h)
 obtain ⟨v, hb, hv, _, _, _⟩ := h
 obtain ⟨a, cap, rfl⟩ := hv.slice
 have h1 := blk_cell hb 1 _ rfl
 unfold endOf
 clear hb hv
 by_cases hbad : bad = 0
 ·subst hbad
  rw [if_neg (by simp)]
  by_cases hl : l = []
  ·subst hl
   rw [if_pos rfl]
   go_enter Tryz.func130, Tryz.ntmps130
   go_wp2_with (go_at_call 114; refine CF.out.mono ?_; rintro e w' ⟨rfl, hq⟩; subst hq)
   go_ret
   exact ⟨rfl, rfl⟩
  ·rw [if_neg hl]
   have hp : 0 < l.length := List.length_pos_iff.2 hl
   clear hl
   go_enter Tryz.func130, Tryz.ntmps130
   go_wp2_with (go_at_call 114; refine CF.out.mono ?_; rintro e w' ⟨rfl, hq⟩; subst hq)
   go_ret
   exact ⟨rfl, rfl⟩
 ·rw [if_pos hbad]
  have q : (bad != 0) = true := by simp [hbad]
  clear hbad
  go_enter Tryz.func130, Tryz.ntmps130
  go_wp2_with (go_at_call 114; refine CF.out.mono ?_; rintro e w' ⟨rfl, hq⟩; subst hq)
  go_ret
  exact ⟨rfl, rfl⟩
theorem EyeAt.pick {w : World} {b g : Nat} {l : List UInt8} {bad : Int} (h : EyeAt w b g l bad) (M : Nat) (hM : M ≠ b) : ∃ g', EyeAt w b g' l bad /\ (g' = g /\ g < w.heap.size ∨ g' = M) := by
 obtain ⟨v, hb, hv, hgb, hg, hl⟩ := h
 rcases hg with hg | hg
 ·exact ⟨g, ⟨v, hb, hv, hgb, .inl hg, hl⟩, .inl ⟨rfl, hg⟩⟩
 ·subst hg
  have hv' : l = [] := by
   rcases hv with ⟨_, h⟩ | ⟨o, cap, h, _⟩
   ·exact h
   ·cases h
  exact ⟨M, ⟨_, hb, .inl ⟨rfl, hv'⟩, by first | exact hM | exact hM.symm, .inr rfl, hl⟩, .inr rfl⟩
structure EyeNew (w0 w : World) (b g N : Nat) (x : Id) (r : Int × List UInt8 × Int) : Prop where
 eye : EyeAt w b g r.2.1 r.2.2
 chg : Chg [] w0 w
 own : w0.heap.size <= b
 blk : w.heap[N]? = some (.cells (idC x) 45 (0, 0))
 own2 : w0.heap.size <= N
 ne : N ≠ b /\ N ≠ g
theorem EyeNew.num {w0 w : World} {b g N : Nat} {x : Id} {r : Int × List UInt8 × Int} (h : EyeNew w0 w b g N x r) (n : Nat) (h1 : 1 <= n) (h7 : n <= 7) (r' : Int × List UInt8 × Int) (hr : r' = eyeNum r.2.1 r.2.2 n) :
  Calls Tryz.prog 112 #[.pointer (some ⟨b, 0, none⟩), .int .i64 n] w fun e w' => e = .returned (.int .i64 r'.1) /\ EyeNew w0 w' b g N x r' := by
 subst hr
 refine (enum_any b g r.2.1 r.2.2 n w h.eye (by omega) (by omega)).mono ?_
 rintro e w' ⟨rfl, h2, h3⟩
 refine ⟨rfl, h2, h.chg.trans h3 (fun x hx => .inr ?_), h.own, h3.keep h.blk (by simpa using h.ne.1), h.own2, h.ne⟩
 rw [List.mem_singleton.1 hx]; exact h.own
theorem EyeNew.set {w0 w : World} {b g N : Nat} {x y : Id} {r : Int × List UInt8 × Int} (h : EyeNew w0 w b g N x r) (j : Nat) (u : Value) (hy : (idC x).setIfInBounds j u = idC y) : EyeNew w0 (w.setCell ⟨N, j, none⟩ u) b g N y r := by
 have hc : Chg [N] w (w.setCell ⟨N, j, none⟩ u) := (Chg.refl [N] w).setCell (p := ⟨N, j, none⟩) (.inl (by simp)) u
 refine ⟨h.eye.keep hc (by simpa using Ne.symm h.ne.1) (by simpa using Ne.symm h.ne.2), h.chg.setCell (p := ⟨N, j, none⟩) (.inr h.own2) u, h.own, ?_, h.own2, h.ne⟩
 rw [<- hy]; exact set_blk h.blk
theorem EyeNew.cells {w0 w : World} {b g N : Nat} {a c d e : Int} {r : Int × List UInt8 × Int} (h : EyeNew w0 w b g N ⟨a, c, d, e⟩ r) : (w.cell? ⟨N, 0, none⟩ = some (.int .i64 a) /\ w.cell? ⟨N, 1, none⟩ = some (.int .i64 c) /\ w.cell? ⟨N, 2, none⟩ = some (.int .i64 d) /\ w.cell? ⟨N, 3, none⟩ = some (.int .i64 e)) /\
  w.frozen? ⟨N, 0, none⟩ = false /\ w.frozen? ⟨N, 1, none⟩ = false /\ w.frozen? ⟨N, 2, none⟩ = false /\ w.frozen? ⟨N, 3, none⟩ = false :=
 ⟨id_cells h.blk, blk_frozen h.blk 0, blk_frozen h.blk 1, blk_frozen h.blk 2, blk_frozen h.blk 3⟩
theorem idSize : (Tryz.prog.info? 45).map (·.size) = some 4 := by kernel_rfl
theorem ret_id {fn : Func} {p u : Tmp} (h : fn.results = #[.cell p 45, .tmp u]) (tmps : Array Value) {w : World} {b t : Nat} {x : Id} {q : Value} (hp : tmps.getD p undef = .pointer (some ⟨b, 0, none⟩)) (hu : tmps.getD u undef = q) (hb : w.heap[b]? = some (.cells (idC x) t (0, 0))) :
  (results fn tmps).run Tryz.prog w = .ok (.tuple #[idV x, q]) w := by
 have hl := run_loadVar_row (P := Tryz.prog) w b t 45 (idC x) (0, 0) _ hb Tryz.underlying45 rfl (by rw [idSize]; rfl)
 rw [results_cell_tmp h, hp, hu]
 simp only [asAddr, Sem.run_pure, Result.andThen_ok, hl]
theorem id_written {w : World} {b t : Nat} {y : Id} (h : w.heap[b]? = some (.cells (idC y) t (0, 0))) (x : Id) :
  ((((w.setCell ⟨b, 0, none⟩ (.int .i64 x.c)).setCell ⟨b, 1, none⟩ (.int .i64 x.l)).setCell ⟨b, 2, none⟩ (.int .i64 x.n)).setCell ⟨b, 3, none⟩ (.int .i64 x.i)).heap[b]? = some (.cells (idC x) t (0, 0)) :=
 set_blk (set_blk (set_blk (set_blk h)))
theorem stread_any (v : Value) (l : List UInt8) (w : World) (h : BytesAt w v l) (hl : l.length <= 100000) :
  Calls Tryz.prog 94 #[v] w fun e w' => e = .returned (.tuple #[idV (unId l), .bool (unOk l)]) /\ Chg [] w w' := by
 obtain ⟨w1, hw1⟩ : ∃ w1, w1 = w.alloc (.cells (idC ⟨0, 0, 0, 0⟩) 45) := ⟨_, rfl⟩
 have hc1 : Chg [] w w1 := by rw [hw1]; exact (Chg.refl [] w).alloc _
 have hb1 : w1.heap[w.heap.size]? = some (.cells (idC ⟨0, 0, 0, 0⟩) 45 (0, 0)) := by rw [hw1]; exact heap_alloc_new w _
 have CE := LH (neweye_any v l w1 (h.chg hc1 (by simp)) (by omega))
 have HB := LH hb1
 have HC1 := LH hc1
 have HW1 := LH hw1
 obtain ⟨a, cap, hv⟩ := h.slice
 subst hv
 have HU : Hid (unId l = ⟨(un1 l).1, (un2 l).1, (un3 l).1, (un4 l).1⟩ /\ unOk l = (decide (endOf (un4 l).2.1 (un4 l).2.2 = 0) && mayId (unId l))) := LH ⟨rfl, by
  unfold unOk endOf
  by_cases h1 : (un4 l).2.2 = 0
  ·by_cases h2 : (un4 l).2.1 = [] <;> simp [h1, h2]
  ·simp [h1]⟩
 clear h hw1 hb1 hc1
 go_enter Tryz.func94, Tryz.ntmps94
 go_wp2_with fail
 rw [<- HW1.out]
 refine CE.out.mono ?_
 rintro e w2 ⟨b, g0, rfl, he0, hb2, hg2, hc2⟩
 have hw1s : w1.heap.size = w.heap.size + 1 := by rw [HW1.out]; simp
 obtain ⟨g, he2, hgg⟩ := he0.pick 0 (by omega)
 obtain ⟨w3, hw3⟩ : ∃ w3, w3 = w2.alloc (.cells (idC ⟨0, 0, 0, 0⟩) 45) := ⟨_, rfl⟩
 have hb3 : b < w2.heap.size := by obtain ⟨v, hb, _⟩ := he2; exact blk_lt hb
 have hc3 : Chg [] w2 w3 := by rw [hw3]; exact (Chg.refl [] w2).alloc _
 have hen : EyeNew w1 w3 b g w2.heap.size ⟨0, 0, 0, 0⟩ (0, l, 0) := ⟨he2.keep hc3 (by simp) (by simp), hc2.trans hc3 (by simp), hb2, by rw [hw3]; exact heap_alloc_new w2 _, hc2.size, by omega, by
  have := hc2.size
  rcases hgg with ⟨rfl, h⟩ | rfl <;> omega⟩
 have HB2 := LH ((hc2.trans hc3 (by simp)).keep HB.out (by simp))
 have hlt : w.heap.size < w2.heap.size := by have := hc2.size; omega
 have CN := LH (hen.num 1 (by omega) (by omega) (un1 l) rfl)
 have HW3 := LH hw3
 clear he2 hb2 hg2 hc2 CE hw3 hc3 hen he0 hgg
 go_wp2_with fail
 rw [<- HW3.out]
 refine CN.out.mono ?_
 rintro e w4 ⟨rfl, h4⟩
 obtain ⟨⟨m0, m1, m2, m3⟩, f0, f1, f2, f3⟩ := h4.cells
 have h4' := h4.set 0 (.int .i64 (un1 l).1) (y := ⟨(un1 l).1, 0, 0, 0⟩) rfl
 have CN4 := LH (h4'.num 3 (by omega) (by omega) (un2 l) rfl)
 clear h4 h4' CN HW3
 go_wp2_with fail
 refine CN4.out.mono ?_
 rintro e w5 ⟨rfl, h5⟩
 obtain ⟨⟨m0, m1, m2, m3⟩, f0, f1, f2, f3⟩ := h5.cells
 have h5' := h5.set 1 (.int .i64 (un2 l).1) (y := ⟨(un1 l).1, (un2 l).1, 0, 0⟩) rfl
 have CN5 := LH (h5'.num 4 (by omega) (by omega) (un3 l) rfl)
 clear h5 h5' CN4
 go_wp2_with fail
 refine CN5.out.mono ?_
 rintro e w6 ⟨rfl, h6⟩
 obtain ⟨⟨m0, m1, m2, m3⟩, f0, f1, f2, f3⟩ := h6.cells
 have h6' := h6.set 2 (.int .i64 (un3 l).1) (y := ⟨(un1 l).1, (un2 l).1, (un3 l).1, 0⟩) rfl
 have CN6 := LH (h6'.num 1 (by omega) (by omega) (un4 l) rfl)
 clear h6 h6' CN5
 go_wp2_with fail
 refine CN6.out.mono ?_
 rintro e w7 ⟨rfl, h7⟩
 obtain ⟨⟨m0, m1, m2, m3⟩, f0, f1, f2, f3⟩ := h7.cells
 have h7' := h7.set 3 (.int .i64 (un4 l).1) (y := ⟨(un1 l).1, (un2 l).1, (un3 l).1, (un4 l).1⟩) rfl
 rw [<- HU.out.1] at h7'
 have HE := LH h7'
 have HUI := LH HU.out.2
 clear h7 h7' CN6 HU
 generalize un4 l = z4 at *
 obtain ⟨x, hx⟩ : ∃ x, x = unId l := ⟨_, rfl⟩
 obtain ⟨ok, hok⟩ : ∃ ok, ok = unOk l := ⟨_, rfl⟩
 rw [<- hx] at HE HUI
 rw [<- hok] at HUI
 have HX := LH hx
 have HOK := LH hok
 clear hx hok
 go_wp2_with fail
 obtain ⟨xc, xl, xn, xi⟩ := x
 generalize hw8 : w7.setCell _ _ = w8 at *
 have HE8 := LH (show EyeNew w1 w8.drew b g w2.heap.size _ z4 from ⟨HE.out.eye.keep ((Chg.refl [] _).drew) (by simp) (by simp), HE.out.chg.drew, HE.out.own, HE.out.blk, HE.out.own2, HE.out.ne⟩)
 have HR8 := LH (HE8.out.chg.keep HB.out (by simp))
 have CF := LH (eend_any b g _ _ _ HE8.out.eye)
 have mm := id_cells HE8.out.blk
 obtain ⟨r, hr⟩ : ∃ r, r = endOf z4.2.1 z4.2.2 := ⟨_, rfl⟩
 rw [<- hr] at CF HUI
 clear hr HE hw8 m0 m1 m2 m3 f0 f1 f2 f3
 by_cases hr0 : r = 0
 ·subst hr0
  have CM := LH (mayid_any ⟨xc, xl, xn, xi⟩ w8.drew)
  have hk : ok = mayId ⟨xc, xl, xn, xi⟩ := by simpa using HUI.out
  subst hk
  refine wp_region_L [(8, fun w' => (w'.cell? ⟨w2.heap.size, 0, none⟩ = some (.int .i64 xc) /\ w'.cell? ⟨w2.heap.size, 1, none⟩ = some (.int .i64 xl) /\ w'.cell? ⟨w2.heap.size, 2, none⟩ = some (.int .i64 xn) /\ w'.cell? ⟨w2.heap.size, 3, none⟩ = some (.int .i64 xi))), (6, fun w' => (w'.cell? ⟨w2.heap.size, 0, none⟩ = some (.int .i64 xc) /\ w'.cell? ⟨w2.heap.size, 1, none⟩ = some (.int .i64 xl) /\ w'.cell? ⟨w2.heap.size, 2, none⟩ = some (.int .i64 xn) /\ w'.cell? ⟨w2.heap.size, 3, none⟩ = some (.int .i64 xi)))] (by kernel_rfl) ?_ (fun hHeld => ?_)
  ·exact (HoldC.cons (mm) (HoldC.cons (mm) HoldC.nil))
  refine ld 0 0 ?_ rfl rfl (by kernel_rfl) (fun _ _ _ h => h) (.inl ⟨by rfl, ?_⟩) hHeld ?_; rotate_left; · (intro w hSw; (try dsimp only at hSw); go_simp; try with_reducible rfl)
  clear hHeld; intro hHeld; try simp only [gA,gB,gC,Act.put,gD,gE,gF]
  refine tk 1 ?_ rfl (by kernel_rfl) (fun _ _ _ h => h) (.inl ⟨by rfl, ?_⟩) hHeld ?_; rotate_left; · (intro w _; go_simp; try with_reducible rfl)
  clear hHeld; intro hHeld; try simp only [gA,gB,gC,Act.put,gD,gE,gF]
  refine wpAnyL_ready (rs := [2]) (by kernel_rfl) (by simp) (AllReadyL.cons (o := _) rfl (fun K hK => ?_) AllReadyL.nil)
  try simp only [gA,gB,gC]
  go_simp
  refine (CF.out).mono ?_
  rintro e w9 ⟨rfl, hw9⟩
  subst hw9
  clear hHeld
  refine hK.out _ _ ?_ (fun hHeld => ?_)
  ·exact (HoldC.cons (mm) (HoldC.cons (mm) HoldC.nil))
  clear hK K
  try simp only [gA,gB,gC,Act.put,gD,gE,gF]
  refine tk 3 ?_ rfl (by kernel_rfl) (fun _ _ _ h => h) (.inl ⟨by rfl, ?_⟩) hHeld ?_; rotate_left; · (intro w _; go_simp; try with_reducible rfl)
  clear hHeld; intro hHeld; try simp only [gA,gB,gC,Act.put,gD,gE,gF]
  refine tk 4 ?_ rfl (by kernel_rfl) (fun _ _ _ h => h) (.inl ⟨by rfl, ?_⟩) hHeld ?_; rotate_left; · (intro w _; go_simp; try with_reducible rfl)
  clear hHeld; intro hHeld; try simp only [gA,gB,gC,Act.put,gD,gE,gF]
  refine ld 1 5 ?_ rfl rfl (by kernel_rfl) (fun _ _ _ h => h) (.inl ⟨by rfl, ?_⟩) hHeld ?_; rotate_left; · (intro w hSw; (try dsimp only at hSw); go_simp; try with_reducible rfl)
  clear hHeld; intro hHeld; try simp only [gA,gB,gC,Act.put,gD,gE,gF]
  refine wpAnyL_ready (rs := [6]) (by kernel_rfl) (by simp) (AllReadyL.cons (o := _) rfl (fun K hK => ?_) AllReadyL.nil)
  try simp only [gA,gB,gC]
  go_simp
  refine CM.out.mono ?_
  rintro e w10 ⟨rfl, hc10⟩
  have HC10 := LH hc10
  have mm := id_cells (hc10.keep HE8.out.blk (by simp))
  clear hc10
  clear hHeld
  refine hK.out _ _ ?_ (fun hHeld => ?_)
  ·exact (HoldC.cons (mm) (HoldC.past (by kernel_rfl) HoldC.nil))
  clear hK K
  try simp only [gA,gB,gC,Act.put,gD,gE,gF]
  refine tk 7 ?_ rfl (by kernel_rfl) (fun _ _ _ h => h) (.inl ⟨by rfl, ?_⟩) hHeld ?_; rotate_left; · (intro w _; go_simp; try with_reducible rfl)
  clear hHeld; intro hHeld; try simp only [gA,gB,gC,Act.put,gD,gE,gF]
  obtain ⟨v0, v1, v2, v3⟩ := id_cells (HC10.out.keep HR8.out (by simp))
  have y0 := blk_frozen (HC10.out.keep HR8.out (by simp)) 0
  have y1 := blk_frozen (HC10.out.keep HR8.out (by simp)) 1
  have y2 := blk_frozen (HC10.out.keep HR8.out (by simp)) 2
  have y3 := blk_frozen (HC10.out.keep HR8.out (by simp)) 3
  refine wpAnyL_ready (rs := [8]) (by kernel_rfl) (by simp) (AllReadyL.cons (o := _) rfl (fun K hK => ?_) AllReadyL.nil)
  try simp only [gA,gB,gC]
  go_simp
  clear hHeld
  refine hK.out _ _ ?_ (fun hHeld => ?_)
  ·exact (HoldC.past (by kernel_rfl) (HoldC.past (by kernel_rfl) HoldC.nil))
  clear hK K
  try simp only [gA,gB,gC,Act.put,gD,gE,gF]
  refine tk 9 ?_ rfl (by kernel_rfl) (fun _ _ _ h => h) (.inl ⟨by rfl, ?_⟩) hHeld ?_; rotate_left; · (intro w _; go_simp; try with_reducible rfl)
  clear hHeld; intro hHeld; try simp only [gA,gB,gC,Act.put,gD,gE,gF]
  refine wpAnyL_done (by kernel_rfl) ?_ _
  clear hHeld
  go_wp2_with fail
  have HW := LH (id_written (HC10.out.keep HR8.out (by simp)) ⟨xc, xl, xn, xi⟩)
  refine bodyPost_ret (ret_id rfl _ rfl rfl HW.out) rfl ?_
  refine ⟨by rw [<- HX.out, <- HOK.out]; rfl, ?_⟩
  have hc := (HC1.out.trans (HE8.out.chg.trans HC10.out (by simp)) (by simp))
  exact (((hc.setCell (.inr (Nat.le_refl _)) _).setCell (.inr (Nat.le_refl _)) _).setCell (.inr (Nat.le_refl _)) _).setCell (.inr (Nat.le_refl _)) _
 ·have hk : ok = false := by simpa [hr0] using HUI.out
  subst hk
  have qr : (r == 0) = false := by simpa using hr0
  refine wp_region_L [(8, fun w' => (w'.cell? ⟨w2.heap.size, 0, none⟩ = some (.int .i64 xc) /\ w'.cell? ⟨w2.heap.size, 1, none⟩ = some (.int .i64 xl) /\ w'.cell? ⟨w2.heap.size, 2, none⟩ = some (.int .i64 xn) /\ w'.cell? ⟨w2.heap.size, 3, none⟩ = some (.int .i64 xi)))] (by kernel_rfl) ?_ (fun hHeld => ?_)
  ·exact (HoldC.cons (mm) HoldC.nil)
  refine ld 0 0 ?_ rfl rfl (by kernel_rfl) (fun _ _ _ h => h) (.inl ⟨by rfl, ?_⟩) hHeld ?_; rotate_left; · (intro w hSw; (try dsimp only at hSw); go_simp; try with_reducible rfl)
  clear hHeld; intro hHeld; try simp only [gA,gB,gC,Act.put,gD,gE,gF]
  refine tk 1 ?_ rfl (by kernel_rfl) (fun _ _ _ h => h) (.inl ⟨by rfl, ?_⟩) hHeld ?_; rotate_left; · (intro w _; go_simp; try with_reducible rfl)
  clear hHeld; intro hHeld; try simp only [gA,gB,gC,Act.put,gD,gE,gF]
  refine wpAnyL_ready (rs := [2]) (by kernel_rfl) (by simp) (AllReadyL.cons (o := _) rfl (fun K hK => ?_) AllReadyL.nil)
  try simp only [gA,gB,gC]
  go_simp
  refine (CF.out).mono ?_
  rintro e w9 ⟨rfl, hw9⟩
  subst hw9
  clear hHeld
  refine hK.out _ _ ?_ (fun hHeld => ?_)
  ·exact (HoldC.cons (mm) HoldC.nil)
  clear hK K
  try simp only [gA,gB,gC,Act.put,gD,gE,gF]
  refine tk 3 ?_ rfl (by kernel_rfl) (fun _ _ _ h => h) (.inl ⟨by rfl, ?_⟩) hHeld ?_; rotate_left; · (intro w _; go_simp; try with_reducible rfl)
  clear hHeld; intro hHeld; try simp only [gA,gB,gC,Act.put,gD,gE,gF]
  refine tk 4 ?_ rfl (by kernel_rfl) (fun _ _ _ h => h) (.inl ⟨by rfl, ?_⟩) hHeld ?_; rotate_left; · (intro w _; go_simp; try with_reducible rfl)
  clear hHeld; intro hHeld; try simp only [gA,gB,gC,Act.put,gD,gE,gF]
  refine wpAnyL_take (i := 5) (oi := _) (v := _) rfl (by kernel_rfl) (by kernel_rfl) (by kernel_rfl) (by kernel_rfl) (by kernel_rfl) (fun _ _ _ h => h) (Or.inr ⟨by rfl, rfl⟩) (by assumption) (fun hNew => ?_)
  clear hHeld
  have hHeld := hNew
  clear hNew
  try simp only [gA,gB,gC,Act.put,gD,gE,gF]
  refine wpAnyL_take (i := 6) (oi := _) (v := _) rfl (by kernel_rfl) (by kernel_rfl) (by kernel_rfl) (by kernel_rfl) (by kernel_rfl) (fun _ _ _ h => h) (Or.inr ⟨by rfl, rfl⟩) (by assumption) (fun hNew => ?_)
  clear hHeld
  have hHeld := hNew
  clear hNew
  try simp only [gA,gB,gC,Act.put,gD,gE,gF]
  refine tk 7 ?_ rfl (by kernel_rfl) (fun _ _ _ h => h) (.inl ⟨by rfl, ?_⟩) hHeld ?_; rotate_left; · (intro w _; go_simp; try with_reducible rfl)
  clear hHeld; intro hHeld; try simp only [gA,gB,gC,Act.put,gD,gE,gF]
  have HR9 : w8.heap[w.heap.size]? = some (.cells (idC ⟨0, 0, 0, 0⟩) 45 (0, 0)) := HR8.out
  obtain ⟨v0, v1, v2, v3⟩ := id_cells HR9
  have y0 := blk_frozen HR9 0
  have y1 := blk_frozen HR9 1
  have y2 := blk_frozen HR9 2
  have y3 := blk_frozen HR9 3
  clear HR9
  refine wpAnyL_ready (rs := [8]) (by kernel_rfl) (by simp) (AllReadyL.cons (o := _) rfl (fun K hK => ?_) AllReadyL.nil)
  try simp only [gA,gB,gC]
  go_simp
  clear hHeld
  refine hK.out _ _ ?_ (fun hHeld => ?_)
  ·exact (HoldC.past (by kernel_rfl) HoldC.nil)
  clear hK K
  try simp only [gA,gB,gC,Act.put,gD,gE,gF]
  refine tk 9 ?_ rfl (by kernel_rfl) (fun _ _ _ h => h) (.inl ⟨by rfl, ?_⟩) hHeld ?_; rotate_left; · (intro w _; go_simp; try with_reducible rfl)
  clear hHeld; intro hHeld; try simp only [gA,gB,gC,Act.put,gD,gE,gF]
  refine wpAnyL_done (by kernel_rfl) ?_ _
  clear hHeld
  go_wp2_with fail
  have HW := LH (id_written HR8.out ⟨xc, xl, xn, xi⟩)
  refine bodyPost_ret (ret_id rfl _ rfl rfl HW.out) rfl ?_
  refine ⟨by rw [<- HX.out, <- HOK.out]; rfl, ?_⟩
  have hc := HC1.out.trans HE8.out.chg (by simp)
  exact (((hc.setCell (.inr (Nat.le_refl _)) _).setCell (.inr (Nat.le_refl _)) _).setCell (.inr (Nat.le_refl _)) _).setCell (.inr (Nat.le_refl _)) _
def DS.sign (d : DS) (n : UInt8) : Int × DS := if (d.write 0 (n :: zeros 63)).1 ≠ 0 then d.write 0 (n :: zeros 63) else (d.write 0 (n :: zeros 63)).2.sync
theorem DS.sign_ok (d : DS) (n : UInt8) : (d.sign n).2.n = d.n /\ (d.sign n).2.ops <= d.ops + 2 /\ (d.sign n).2.since.length <= d.since.length + 1 := by
 obtain ⟨h1, h2, h3⟩ := d.write_ok 0 (n :: zeros 63)
 obtain ⟨g1, g2, g3⟩ := (d.write 0 (n :: zeros 63)).2.sync_ok
 unfold DS.sign
 split
 ·exact ⟨h1, by omega, by omega⟩
 ·exact ⟨by rw [g1, h1], by omega, by omega⟩
theorem mark_cells (n : UInt8) : Z64.setIfInBounds 0 (bv n) = (bvs (n :: zeros 63)).toArray := by
 unfold Z64
 rfl
theorem sign_any (p : Nat) (S : List Nat) (d : DS) (n : UInt8) (w : World) (h : DiskAt w p S d) (hn : 1 <= d.n) (ho : d.ops <= 900000000) (hw : d.since.length <= 900000) :
  Calls Tryz.prog 68 #[.pointer (some ⟨p, 0, none⟩), bv n] w fun e w' => e = .returned (.int .i64 (d.sign n).1) /\ Did w w' p S (d.sign n).2 := by
 have hmk := make_64
 obtain ⟨w1, hw1⟩ : ∃ w1, w1 = w.alloc (.cells (Z64.setIfInBounds 0 (bv n)) 5) := ⟨_, rfl⟩
 have hb0 : (w.alloc (.cells Z64 5)).heap[w.heap.size]? = some (.cells Z64 5 (0, 0)) := heap_alloc_new w _
 have c0 : (w.alloc (.cells Z64 5)).cell? ⟨w.heap.size, 0, none⟩ = some (bv 0) := blk_cell hb0 0 _ rfl
 have f0 := blk_frozen hb0 0
 have hb1 : w1.heap[w.heap.size]? = some (.cells (bvs (n :: zeros 63)).toArray 5 (0, 0)) := by
  rw [hw1, <- mark_cells]
  exact heap_alloc_new w _
 have hc1 : Chg [] w w1 := by rw [hw1]; exact (Chg.refl [] w).alloc _
 have hr1 := row_of_block hb1 (by simp [zeros, maxLen])
 have hlen : (n :: zeros 63).length = 64 := by simp [zeros]
 rw [hlen] at hr1
 have HW1 := LH hw1
 have hd1 := h.keep hc1 (by simp)
 have CW := LH (dwrite_any p S d 0 _ (n :: zeros 63) w1 hd1 (by omega) (by omega) ⟨by omega, by omega⟩ hlen hr1.bytes)
 have HG : Hid (d.sign n = if (d.write 0 (n :: zeros 63)).1 ≠ 0 then d.write 0 (n :: zeros 63) else (d.write 0 (n :: zeros 63)).2.sync) := LH rfl
 obtain ⟨h1, h2, h3⟩ := d.write_ok 0 (n :: zeros 63)
 generalize d.sign n = r at *
 generalize d.write 0 (n :: zeros 63) = r1 at *
 obtain ⟨e1, d1⟩ := r1
 dsimp only at *
 have HC1 := LH hc1
 have hv : bv n = .int .u8 (n.toNat : Int) := rfl
 have hv0 : bv 0 = .int .u8 0 := rfl
 rw [hv0] at c0
 rw [hv] at HW1 ⊢
 clear hb0 hb1 hc1 hr1 hw1 hd1 hlen hv hv0 h
 go_enter Tryz.func68, Tryz.ntmps68
 go_wp2_with fail
 rw [<- HW1.out]
 refine CW.out.mono ?_
 rintro e w2 ⟨rfl, hd2⟩
 have HD2 := LH (Did.pre HC1.out hd2)
 clear hd2 CW
 by_cases he : e1 = 0
 ·subst he
  have HR : Hid (r = d1.sync) := LH (by rw [HG.out, if_neg (by simp)])
  obtain ⟨S2, hs1, hs2, hs3⟩ := HD2.out
  have CY := LH (dsync_any p S2 d1 w2 hs1 (by omega) (by omega))
  have HS2 := LH (And.intro hs2 hs3)
  clear hs1 hs2 hs3
  go_wp2_with fail
  refine CY.out.mono ?_
  rintro e w3 ⟨rfl, hd3⟩
  have HD3 := LH (Did.glue HS2.out.1 HS2.out.2 hd3)
  clear hd3 CY
  go_wp2
  go_ret
  rw [HR.out]
  exact ⟨rfl, HD3.out⟩
 ·have HR : Hid (r = (e1, d1)) := LH (by rw [HG.out, if_pos he])
  have q : (e1 != 0) = true := by simp [he]
  clear he
  go_wp2
  go_ret
  rw [HR.out]
  exact ⟨rfl, HD2.out⟩
end Go.Proofs.YtnbhanmpmjjkkaaGreatDoor.W
