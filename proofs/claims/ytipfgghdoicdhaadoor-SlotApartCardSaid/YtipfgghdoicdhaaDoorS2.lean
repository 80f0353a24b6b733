/- Package slot: lay. -/
import Derived.Test.YtipfgghdoicdhaaDoorS1
import Derived.Test.YtipfgghdoicdhaaDoorD6
import Derived.Laws.CopyOwn
import Derived.Laws.MakeOwn
namespace Go.Proofs.YtipfgghdoicdhaaDoor.W
open Go.RowKit
set_option linter.unusedVariables false
set_option linter.unusedSimpArgs false

/-! ### Memory of 64 bytes, and what is copied into it -/
def pad (m : List UInt8) : List UInt8 := m.take 64 ++ zeros (64 - (m.take 64).length)
theorem pad_len (m : List UInt8) : (pad m).length = 64 := by
  unfold pad zeros
  rw [List.length_append, List.length_replicate, List.length_take]
  omega
theorem secAt_pad (b : List UInt8) (k : Nat) : secAt b k = pad (b.drop (k * 64)) := rfl
def Z64 : Array Value := (bvs (zeros 64)).toArray
theorem facts_u8 : (Tryd.prog.info? 5).map (fun i => (i.zero, i.size, i.bytes)) = some (some (.int .u8 0), 1, 1) := by kernel_rfl
theorem make_64 (w : World) : (Instr.makeSlice 31 (.int .i64 64) (.int .i64 64)).run Tryd.prog w = .ok (.slice (some ⟨w.heap.size, 0, none⟩) 64 64) (w.alloc (.cells Z64 5)) := by
  obtain ⟨i, hi, h1, h2, h3⟩ := info_parts facts_u8
  have h := run_make (P := Tryd.prog) w 31 5 i _ Tryd.underlying31 hi h1 .i64 .i64 64 64 (by omega) (Int.le_refl _) (by rw [h3]; omega) (by omega)
  rw [h2] at h
  have hz : madeCells (Value.int .u8 0).cells ((64 : Int).toNat * 1) = Z64 := by kernel_rfl
  rw [hz] at h
  exact h
theorem row_of_block {w : World} {N : Nat} {l : List UInt8} (h : w.heap[N]? = some (.cells (bvs l).toArray 5 (0, 0))) (hl : l.length ≤ maxLen) : BRow w (.slice (some ⟨N, 0, none⟩) l.length l.length) l := by
  refine ⟨by simp [bvs_len], .inr ⟨N, l.length, (bvs l).toArray, rfl, Nat.zero_le _, h, Nat.le_refl _, hl, by simp [bvs_len], ?_⟩⟩
  rw [Nat.mul_one, List.take_of_length_le (by simp [bvs_len])]
/-- 'copy(p, src)' into 64 noughts. -/
theorem wpList_pad {w : World} {ops : Array Oper} {rest : List Oper} {o : Oper} {a : Act} {Q : Exit → Act → World → Prop} (hgd : o.guard = none) (d s : Operand)
    (ho : o.op = .call { callee := .builtin .copy, args := #[d, s], argTypes := #[31, 31] }) (N : Nat) (hd : a.eval d = .slice (some ⟨N, 0, none⟩) 64 64) (u : Value) (hs : a.eval s = u) (m : List UInt8) (hm : BytesAt w u m)
    (hN : w.heap[N]? = some (.cells Z64 5 (0, 0)))
    (h : ∀ w' n, BRow w' (.slice (some ⟨N, 0, none⟩) 64 64) (pad m) → Below N w w' → N < w'.heap.size → wpList Tryd.prog ops Q rest (a.put o.dst n) w') : wpList Tryd.prog ops Q (o :: rest) a w := by
  obtain ⟨au, cap, rfl, h1, h2, h3⟩ := hm
  have hlen : (m.take 64).length = Nat.min m.length 64 := by rw [List.length_take]; exact Nat.min_comm _ _
  have hle : Nat.min m.length 64 ≤ 64 := Nat.min_le_right _ _
  refine wpList_copy_splice hgd d s 31 31 ho 5 Tryd.underlying31 (by kernel_rfl) (some ⟨N, 0, none⟩) au 64 64 m.length cap hd hs N 0 (bvs (zeros 64)) 5 hN (bvs (m.take 64)) (by rw [bvs_len, hlen]) ?_ (by rw [bvs_len, bvs_len, hlen]; simp [zeros]; omega) (bvs_one _) N w (Below.refl _ _) (Nat.le_refl _) ?_
  · intro hpos
    refine ⟨rfl, ?_⟩
    rcases h3 with ⟨rfl, _⟩ | ⟨g, o', rfl, hc⟩
    · simp [bvs] at hpos
    · refine ⟨_, rfl, fun j v hv => ?_⟩
      have hj : j < (m.take 64).length := by
        have := (List.getElem?_eq_some_iff.1 hv).1
        rwa [bvs_len] at this
      rw [bvs_at _ j hj] at hv
      cases hv
      rw [add_none, hc j (by rw [List.length_take] at hj; omega), getD_take _ _ _ (by rw [List.length_take] at hj; omega)]
  · intro w' hw' hb
    have hsp : splice (bvs (zeros 64)) 0 (bvs (m.take 64)) = bvs (pad m) := by
      unfold splice pad
      rw [List.take_zero, List.nil_append, Nat.zero_add, bvs_len]
      unfold bvs
      rw [List.map_append]
      congr 1
      rw [← List.map_drop]
      congr 1
      unfold zeros
      rw [List.drop_replicate]
    have hw2 := hw'.out
    rw [hsp] at hw2
    have hr := row_of_block hw2 (by rw [pad_len]; unfold maxLen; omega)
    rw [pad_len] at hr
    exact h w' _ hr hb (blk_lt hw2)

theorem bytes_drop {w : World} {g o cap k : Nat} {l : List UInt8} (h : BytesAt w (.slice (some ⟨g, o, none⟩) l.length cap) l) (hk : k ≤ l.length) (o2 : Nat) (ho : k < l.length → o2 = o + k) : BytesAt w (.slice (some ⟨g, o2, none⟩) (l.length - k) (cap - k)) (l.drop k) := by
  have h1 := BytesAt.tail h (List.drop_suffix k l) o2 (fun hne => by
    rw [List.length_drop]
    have : 0 < (l.drop k).length := List.length_pos_iff.2 hne
    rw [List.length_drop] at this
    rw [ho (by omega)]
    show o + k = o + _
    omega)
  rw [List.length_drop, show l.length - (l.length - k) = k by omega] at h1
  exact h1

theorem chg_pad {w w1 w2 : World} (h : Chg [] w w1) (hb : Below w.heap.size w1 w2) : Chg [] w w2 := Chg.of_below ((Chg.below h (by simp)).trans hb)

/-! ### Laying -/
theorem DS.write_ok (d : DS) (k : Int) (b : List UInt8) : (d.write k b).2.n = d.n ∧ (d.write k b).2.ops ≤ d.ops + 1 ∧ (d.write k b).2.since.length ≤ d.since.length + 1 := by
  unfold DS.write DS.op
  split
  · exact ⟨rfl, Nat.le_succ _, Nat.le_succ _⟩
  · split
    · by_cases hf : d.fuse = 0
      · simp [hf]
      · simp [hf]
    · exact ⟨rfl, Nat.le_succ _, Nat.le_succ _⟩
theorem DS.sync_ok (d : DS) : (d.sync).2.n = d.n ∧ (d.sync).2.ops ≤ d.ops + 1 ∧ (d.sync).2.since.length ≤ d.since.length := by
  unfold DS.sync DS.op
  split
  · exact ⟨rfl, Nat.le_succ _, Nat.le_refl _⟩
  · by_cases hf : d.fuse = 0
    · simp [hf]
    · simp [hf]
theorem DS.lay_ok (pos : Nat) (b : List UInt8) : ∀ (k j : Nat) (d : DS), (d.lay pos b k j).2.n = d.n ∧ (d.lay pos b k j).2.ops ≤ d.ops + k + 1 ∧ (d.lay pos b k j).2.since.length ≤ d.since.length + k
  | 0, j, d => by
    obtain ⟨h1, h2, h3⟩ := d.sync_ok
    exact ⟨h1, by simpa [DS.lay] using h2, by simpa [DS.lay] using h3⟩
  | k + 1, j, d => by
    obtain ⟨h1, h2, h3⟩ := d.write_ok (pos + j : Nat) (secAt b j)
    obtain ⟨g1, g2, g3⟩ := DS.lay_ok pos b k (j + 1) (d.write (pos + j : Nat) (secAt b j)).2
    unfold DS.lay
    split
    · exact ⟨h1, by omega, by omega⟩
    · exact ⟨by rw [g1, h1], by omega, by omega⟩

/-- The disk goes on under the slots. -/
theorem SlotsAt.did {w w' : World} {q p : Nat} {S U : List Nat} {s : SS} {rv : Value} {R : List (SRow × Value)} {d' : DS} (h : SlotsOk w q p S U s rv R) (hd : Did w w' p S d') (hn : d'.n = s.d.n) : Sid w w' q p U { s with d := d' } := by
  obtain ⟨S', h1, h2, h3⟩ := hd
  have hlim := h.obj.lim
  refine ⟨U ++ S', ⟨S', rv, R, h.obj.keep h3 h.sep, h1, h.rows, fun x hx hm => ?_, fun x hx => ?_, fun x hx => List.mem_append_right _ hx, fun x hx => List.mem_append_left _ (h.uB x hx), fun x hx => ?_, ⟨by rw [show ({ s with d := d' } : SS).d.n = s.d.n from hn]; exact h.ok.room, h.ok.rows⟩⟩, fun x hx => ?_, h3.mono (fun x hx => .inl (h.uS x hx))⟩
  · rcases h2 x hm with h4 | h4
    · exact h.sep x hx h4
    · have := hlim x hx; omega
  · obtain ⟨k1, k2⟩ := h.keys x hx
    refine ⟨k1.chg h3 (fun k hk hm => (k2 k hk).2 (h.uS k hm)), fun g hg => ⟨Nat.lt_of_lt_of_le (k2 g hg).1 h3.size, fun hm => ?_⟩⟩
    rcases List.mem_append.1 hm with hm | hm
    · exact (k2 g hg).2 hm
    · rcases h2 g hm with h4 | h4
      · exact (k2 g hg).2 (h.uS g h4)
      · have := (k2 g hg).1; omega
  · rcases List.mem_append.1 hx with hx | hx
    · exact Nat.lt_of_lt_of_le (h.uL x hx) h3.size
    · exact h1.lim x hx
  · rcases List.mem_append.1 hx with hx | hx
    · exact .inl hx
    · rcases h2 x hx with h4 | h4
      · exact .inl (h.uS x h4)
      · exact .inr h4
theorem Sid.trans {w w1 w2 : World} {q p : Nat} {U : List Nat} {s1 s2 : SS} (h1 : Sid w w1 q p U s1) (h2 : ∀ U1, SlotsAt w1 q p U1 s1 → Sid w1 w2 q p U1 s2) : Sid w w2 q p U s2 := by
  obtain ⟨U1, a1, a2, a3⟩ := h1
  obtain ⟨U2, b1, b2, b3⟩ := h2 U1 a1
  refine ⟨U2, b1, fun x hx => ?_, a3.trans b3 a2⟩
  rcases b2 x hx with h | h
  · exact a2 x h
  · exact .inr (Nat.le_trans a3.size h)
theorem Sid.glue {w w1 w2 : World} {q p : Nat} {U U1 : List Nat} {s2 : SS} (hs : ∀ x ∈ U1, x ∈ U ∨ w.heap.size ≤ x) (hc : Chg U w w1) (h : Sid w1 w2 q p U1 s2) : Sid w w2 q p U s2 := by
  obtain ⟨U2, b1, b2, b3⟩ := h
  refine ⟨U2, b1, fun x hx => ?_, hc.trans b3 hs⟩
  rcases b2 x hx with h | h
  · exact hs x h
  · exact .inr (Nat.le_trans hc.size h)
theorem Sid.pre {w0 w w' : World} {q p : Nat} {U : List Nat} {s : SS} (hc : Chg [] w0 w) (h : Sid w w' q p U s) : Sid w0 w' q p U s := Sid.glue (fun x hx => .inl hx) (hc.mono (by simp)) h

set_option maxHeartbeats 4000000 in
set_option maxRecDepth 100000 in
theorem slay_any (q p : Nat) (U : List Nat) (s : SS) (pos : Nat) (v : Value) (b : List UInt8) (w : World) (h : SlotsAt w q p U s) (hb : BytesAt w v b) (hbU : b ≠ [] → ∀ k, v.ownBlock = some k → k ∉ U) (hpos : pos + nsec b.length ≤ s.d.n) (hbl : b.length ≤ 1000000)
    (ho : s.d.ops + nsec b.length + 1 ≤ 1000000000) (hw : s.d.since.length + nsec b.length ≤ 1000000) :
    Calls Tryd.prog 50 #[.pointer (some ⟨q, 0, none⟩), .int .i64 (pos : Int), v] w fun e w' => e = .returned (.int .i64 (s.d.lays pos b).1) ∧ Sid w w' q p U { s with d := (s.d.lays pos b).2 } := by
  have CS := Lib.hid (ssec_any b.length w (by omega))
  obtain ⟨m, hm⟩ : ∃ m, m = nsec b.length := ⟨_, rfl⟩
  rw [← hm] at CS hpos ho hw
  have HM := Lib.hid hm
  have hpn : s.d.n ≤ 4160 := by
    obtain ⟨S, rv, R, H⟩ := h
    obtain ⟨gn, gl, cn, cl, v, hd⟩ := H.disk
    exact hd.few
  have hmb : (0 < m → (m - 1) * 64 < b.length) ∧ m ≤ 4160 := by
    rw [hm]; unfold nsec; rw [hm] at hpos; unfold nsec at hpos; omega
  have HB := Lib.hid hb
  have HBU := Lib.hid hbU
  have HS := Lib.hid h
  have hmk := make_64
  obtain ⟨av, cv, rfl⟩ := hb.slice
  have hcv : b.length ≤ cv ∧ cv ≤ 9223372036854775807 := by
    obtain ⟨a', c', he, h1, h2, _⟩ := hb
    have : cv = c' := (Value.slice.inj he).2.2
    unfold maxLen at h2
    omega
  clear hm hb hbU h
  go_enter Tryd.func50, Tryd.ntmps50
  go_wp2_with (go_at_call 56; refine CS.out.mono ?_; rintro e w' ⟨rfl, hq⟩; subst hq)
  go_loopg [13] m (fun g' s13 wr => ∃ (j : Nat) (dj : DS), s13 = .int .i64 j ∧ j ≤ m ∧ m ≤ j + g' ∧ Hid (Sid w wr q p U { s with d := dj } ∧ dj.n = s.d.n ∧ dj.ops ≤ s.d.ops + j ∧ dj.since.length ≤ s.d.since.length + j ∧ s.d.lay pos b m 0 = dj.lay pos b (m - j) j))
  case atStart => exact ⟨0, s.d, rfl, by omega, by omega, Lib.hid ⟨Sid.same HS.out, rfl, by omega, by omega, rfl⟩⟩
  case round =>
    obtain ⟨j, dj, rfl, hj, hjg, HJ⟩ := hrel
    obtain ⟨⟨Uj, ⟨S, rv, R, H⟩, hUj, hCj⟩, hjn, hjo, hjs, hjl⟩ := HJ.out
    have HUj := Lib.hid hUj
    have HCj := Lib.hid hCj
    have c0 : wr.cell? ⟨q, 0, none⟩ = some (.pointer (some ⟨p, 0, none⟩)) := blk_cell H.obj.head 0 _ rfl
    have HH := Lib.hid H
    have HJL := Lib.hid hjl
    clear H hUj hCj hjl HJ
    have hbUr : b ≠ [] → ∀ k, (Value.slice av b.length cv).ownBlock = some k → k ∉ U := HBU.out
    have hBr : BytesAt wr (.slice av b.length cv) b := HB.out.chgW HCj.out hbUr
    have HBr := Lib.hid hBr
    clear hBr hbUr
    by_cases hlt : j < m
    · obtain ⟨w1, hw1⟩ : ∃ w1, w1 = wr.alloc (.cells Z64 5) := ⟨_, rfl⟩
      have hc1 : Chg [] wr w1 := by rw [hw1]; exact (Chg.refl _ _).alloc _
      have hN1 : Hid (w1.heap[wr.heap.size]? = some (.cells Z64 5 (0, 0))) := Lib.hid (by rw [hw1]; exact heap_alloc_new wr _)
      have hjb : j * 64 < b.length := by
        have h1 : j ≤ m - 1 := by omega
        have h2 := Nat.mul_le_mul_right 64 h1
        have h3 := hmb.1 (by omega)
        omega
      obtain ⟨g, o, rfl⟩ : ∃ g o, av = some ⟨g, o, none⟩ := by
        obtain ⟨a', c', he, _, _, h3⟩ := HBr.out
        obtain rfl : av = a' := (Value.slice.inj he).1
        rcases h3 with ⟨rfl, _⟩ | ⟨g, o, e, _⟩
        · simp at hjb
        · exact ⟨g, o, e⟩
      have hB1 : BytesAt w1 (.slice (some ⟨g, o + j * 64, none⟩) (b.length - j * 64) (cv - j * 64)) (b.drop (j * 64)) := bytes_drop (HBr.out.chg hc1 (by simp)) (by omega) _ (fun _ => rfl)
      have HB1 := Lib.hid hB1
      have HC1 := Lib.hid hc1
      have HW1 := Lib.hid hw1
      have hcj : j * 64 < cv := by omega
      have hcj2 : ¬ cv = j * 64 := by omega
      have hjz : (j : Int) < (m : Int) := by omega
      have hj64 : ((j : Int) * 64) = ((j * 64 : Nat) : Int) := by push_cast; rfl
      have hmj : m - j = (m - (j + 1)) + 1 := by omega
      have HLS : Hid (s.d.lays pos b = if (dj.write (pos + j : Nat) (secAt b j)).1 ≠ 0 then dj.write (pos + j : Nat) (secAt b j) else (dj.write (pos + j : Nat) (secAt b j)).2.lay pos b (m - (j + 1)) (j + 1)) := Lib.hid (by
        unfold DS.lays
        rw [← HM.out, HJL.out, hmj]
        rfl)
      clear hB1 hw1 hc1 hj64 hmj
      go_wp2_with (rw [← HW1.out]; refine wpList_pad (by rfl) (.tmp 17) (.tmp 21) (by rfl) wr.heap.size (by rfl) _ (by rfl) (b.drop (j * 64)) HB1.out hN1.out ?_; intro w2 np hr2 hb2 hl2
                   have hc2 := chg_pad HC1.out hb2
                   have c02 := hc2.cell c0 (by simp)
                   have HR2 := Lib.hid hr2
                   have HC2 := Lib.hid hc2
                   clear hr2 hb2 hc2)
      have hpj : ((pos + j : Nat) : Int) = (pos : Int) + (j : Int) := by push_cast; rfl
      rw [hpj] at HLS
      have CW := Lib.hid (dwrite_any p S dj ((pos : Int) + (j : Int)) _ (secAt b j) w2 (HH.out.disk.keep HC2.out (by simp)) (by omega) (by omega) ⟨by omega, by omega⟩ (secAt_len b j) HR2.out.bytes)
      have hwok := dj.write_ok ((pos : Int) + (j : Int)) (secAt b j)
      generalize dj.write ((pos : Int) + (j : Int)) (secAt b j) = r at *
      obtain ⟨r1, d1⟩ := r
      dsimp only at CW HLS hwok
      have HPJ := Lib.hid hpj
      clear hpj
      refine CW.out.mono ?_
      rintro e w3 ⟨rfl, hd3⟩
      have HD3 := Lib.hid (Did.pre HC2.out hd3)
      clear hd3 CW
      have hsid : Sid w w3 q p U { s with d := d1 } := Sid.glue HUj.out HCj.out (SlotsAt.did (s := { s with d := dj }) HH.out HD3.out hwok.1)
      have HSID := Lib.hid hsid
      clear hsid
      by_cases hr0 : r1 = 0
      · subst hr0
        have HL2 : Hid (s.d.lay pos b m 0 = d1.lay pos b (m - (j + 1)) (j + 1)) := Lib.hid (by
          have h1 := HLS.out
          rw [if_neg (by simp)] at h1
          rw [← h1]
          unfold DS.lays
          rw [← HM.out])
        go_wp2
        go_roundg (gk - 1)
        case measure => omega
        case rel => exact ⟨j + 1, d1, by go_num, by omega, by omega, Lib.hid ⟨HSID.out, by rw [hwok.1, hjn], by omega, by omega, HL2.out⟩⟩
      · have HL2 : Hid (s.d.lays pos b = (r1, d1)) := Lib.hid (by rw [HLS.out, if_pos hr0])
        have q1 : (r1 != 0) = true := by simp [hr0]
        clear hr0
        go_wp2
        go_ret
        rw [HL2.out]
        exact ⟨rfl, HSID.out⟩
    · have hjm : j = m := by omega
      have HL2 : Hid (s.d.lays pos b = dj.sync) := Lib.hid (by
        unfold DS.lays
        rw [← HM.out, HJL.out, hjm, Nat.sub_self]
        rfl)
      have hsok := dj.sync_ok
      have CY := Lib.hid (dsync_any p S dj wr HH.out.disk (by omega) (by omega))
      clear hjm
      go_wp2_with fail
      refine CY.out.mono ?_
      rintro e w3 ⟨rfl, hd3⟩
      have HSID : Hid (Sid w w3 q p U { s with d := (dj.sync).2 }) := Lib.hid (Sid.glue HUj.out HCj.out (SlotsAt.did (s := { s with d := dj }) HH.out hd3 hsok.1))
      clear hd3 CY
      go_wp2
      go_ret
      rw [HL2.out]
      exact ⟨rfl, HSID.out⟩
end Go.Proofs.YtipfgghdoicdhaaDoor.W
