/- Texts laid together. -/
import Derived.Test.YtdkhmfcfihbjeaaGreatDoorWL3
import Derived.Test.YtdkhmfcfihbjeaaGreatDoorWL2
import Derived.Test.YtdkhmfcfihbjeaaGreatDoorWL6
import Derived.Laws.BitsLemmas
import Derived.Deep.Slices
import Derived.ChangeSlices
import Derived.Deep.DeepCutAuto
import Derived.Deep.CutBlock
/- Package disk: Crash. -/
namespace Go.Proofs.YtdkhmfcfihbjeaaGreatDoor.W
open Go.RowKit Go.Shelf
set_option linter.unusedVariables false
set_option linter.unusedSimpArgs false
attribute [local go_sem] Oper.semAt_some

theorem size_sec : (Tryz.prog.info? 103).map (·.size) = some 64 := by kernel_rfl
theorem setRow_size (w : World) (g : Nat) (cs : Array Value) : (w.setRow g cs).heap.size = w.heap.size := by
  unfold World.setRow
  simp
set_option maxRecDepth 100000 in
/-- 'copy(c.lasts, d.lasts)'. -/
theorem copy_secs {w : World} {gl gs n cl cn : Nat} {f : Nat → List UInt8} {cur : Array Value} (ty : TypeId) (hs : SecsAt w gs n f) (hg : w.heap[gl]? = some (.cells cur 103 (0, 0))) (hc : cur.size = n * 64) :
    (Builtin.copy_ #[91, 91] ty #[.slice (some ⟨gl, 0, none⟩) n cl, .slice (some ⟨gs, 0, none⟩) n cn]).run Tryz.prog w = .ok (goInt n) (w.setRow gl (bvs (flat n f)).toArray) := by
  obtain ⟨hl, hr⟩ := hs.whole
  have h := run_copy_n (P := Tryz.prog) w 91 91 ty 103 64 gl 0 n cl ⟨gs, 0, none⟩ n cn cur 103 (bvs (flat n f)) n Tryz.underlying91 size_sec hg (by simp) (by rw [bvs_len, hl])
    (fun j v hv => by rw [add_none]; exact hr j v hv) (by rw [bvs_len, hl]; omega) (bvs_one _)
  rw [h]
  congr 2
  rw [List.take_zero, List.nil_append, List.drop_eq_nil_of_le (by rw [bvs_len, hl]; simp; omega), List.append_nil]

theorem wp_copy {P : Program} {o : Oper} {a : Act} {w : World} {K : Act → World → Prop} {Q : Exit → Act → World → Prop} (x y : Operand) {t1 t2 : TypeId} (ho : o.op = .call { callee := .builtin .copy, args := #[x, y], argTypes := #[t1, t2] }) {v1 v2 : Value} (hx : a.eval x = v1) (hy : a.eval y = v2)
    {r : Value} {w' : World} (hr : (Builtin.copy_ #[t1, t2] o.type #[v1, v2]).run P w = .ok r w') (h : K (a.put o.dst r) w') : Oper.wp P o a w K Q := by
  unfold Oper.wp execOp
  simp only [ho, resolve, invoke, builtin, Sem.run_bind, Sem.run_pure, Result.andThen_ok, List.map_toArray, List.map_cons, List.map_nil, hx, hy, hr]
  exact h
theorem u8_and_lt (b : UInt8) : b &&& 1 = 0 ∨ b &&& 1 = 1 := by
  have h : (b &&& 1).toNat = b.toNat % 2 := by
    rw [UInt8.toNat_and]
    exact Nat.and_one_is_mod _
  rcases Nat.mod_two_eq_zero_or_one b.toNat with h1 | h1
  · exact .inl (UInt8.toNat_inj.1 (by rw [h, h1]; rfl))
  · exact .inr (UInt8.toNat_inj.1 (by rw [h, h1]; rfl))
theorem u8_bit (b : UInt8) : bits .and .u8 (b.toNat : Int) 1 = ((b &&& 1).toNat : Int) := by
  show IntKind.u8.wrap ((BitVec.ofInt 8 (b.toNat : Int) &&& BitVec.ofInt 8 1).toNat : Int) = _
  have h : BitVec.ofInt 8 (b.toNat : Int) = b.toBitVec := by
    rw [BitVec.ofInt_natCast]
    exact BitVec.eq_of_toNat_eq (by simp)
  rw [h]
  have h2 : (b.toBitVec &&& BitVec.ofInt 8 1).toNat = (b &&& 1).toNat := rfl
  rw [h2]
  have h3 := (b &&& 1).toNat_lt
  generalize (b &&& 1).toNat = m at *
  rw [IntKind.wrap_u8]
  omega
structure CrashAt (w W : World) (n Bi Bh pc Bc gl : Nat) (k : Nat) (cv : Value) (f : Nat → List UInt8) : Prop where
  ci : W.heap[Bi]? = some (.cells #[.int .i64 (k : Int)] 3 (0, 0))
  ch : W.heap[Bh]? = some (.cells #[cv] 30 (0, 0))
  cc : W.heap[Bc]? = some (.cells #[.pointer (some ⟨pc, 0, none⟩)] 44 (0, 0))
  obj : W.heap[pc]? = some (.cells #[.slice none 0 0, .slice (some ⟨gl, 0, none⟩) n n, .slice none 0 0, .int .i64 (-1), .int .i64 0, .bool false] 94 (0, 0))
  secs : SecsAt W gl n f
  chg : Chg [] w W
  lo : w.heap.size ≤ Bi ∧ w.heap.size ≤ Bh ∧ w.heap.size ≤ Bc ∧ w.heap.size ≤ pc ∧ w.heap.size ≤ gl
  ne : Bi ≠ Bh ∧ Bi ≠ Bc ∧ Bi ≠ pc ∧ Bi ≠ gl ∧ Bh ≠ gl ∧ Bc ≠ gl ∧ pc ≠ gl

theorem CrashAt.keep {w W W' : World} {n Bi Bh pc Bc gl k : Nat} {cv : Value} {f : Nat → List UInt8} (h : CrashAt w W n Bi Bh pc Bc gl k cv f) (hc : Chg [] W W') : CrashAt w W' n Bi Bh pc Bc gl k cv f :=
  ⟨hc.keep h.ci (by simp), hc.keep h.ch (by simp), hc.keep h.cc (by simp), hc.keep h.obj (by simp), h.secs.keep (hc.block _ h.secs.lt (by simp)), h.chg.trans hc (by simp), h.lo, h.ne⟩
theorem CrashAt.turn {w W W' : World} {row : Option Nat} {n Bi Bh pc Bc gl k : Nat} {cv : Value} {f : Nat → List UInt8} (h : CrashAt w W n Bi Bh pc Bc gl k cv f) (hg : W.grownBy W' row)
    (hr : ∀ r, row = some r → w.heap.size ≤ r ∧ ∃ o : Obj, W.heap[r]? = some o ∧ o.isCells = false) : CrashAt w W' n Bi Bh pc Bc gl k cv f := by
  have hr2 := fun r e => (hr r e).2
  obtain ⟨cs, h1, h2⟩ := h.secs
  exact ⟨(blk_turn h.ci hg hr2).trans h.ci, (blk_turn h.ch hg hr2).trans h.ch, (blk_turn h.cc hg hr2).trans h.cc, (blk_turn h.obj hg hr2).trans h.obj, h.secs.keep (blk_turn h1 hg hr2), chg_turn h.chg hg (fun r e => (hr r e).1), h.lo, h.ne⟩

set_option maxHeartbeats 4000000 in
set_option maxRecDepth 100000 in
theorem dcrash_any (p : Nat) (S : List Nat) (d : DS) (cv : Value) (ch : List UInt8) (w : World) (h : DiskAt w p S d) (hn0 : 0 < d.n) (hw : d.since.length ≤ 1000000) (hcv : BytesAt w cv ch) (hcl : ch.length ≤ 1000000) :
    Calls Tryz.prog 20 #[.pointer (some ⟨p, 0, none⟩), cv] w fun e w' => ∃ p' S', e = .returned (.pointer (some ⟨p', 0, none⟩)) ∧ Newly w w' p' S' (d.crash ch) := by
  obtain ⟨gn, gl, cn, cl, v, H⟩ := h
  have c0 : w.cell? ⟨p, 0, none⟩ = some (.slice (some ⟨gn, 0, none⟩) d.n cn) := blk_cell H.head 0 _ rfl
  have c1 : w.cell? ⟨p, 1, none⟩ = some (.slice (some ⟨gl, 0, none⟩) d.n cl) := blk_cell H.head 1 _ rfl
  have hpl := blk_lt H.head
  have HCV := Lib.hid hcv
  obtain ⟨ca, cc, hcv'⟩ := hcv.slice
  subst hcv'
  have hmk := make_secs d.n (by have := H.few; omega)
  have HH := Lib.hid H
  have hfew := H.few
  have hcapn := H.capn
  have hcapl := H.capl
  have hq : ∀ w, (binOp .eql 91 (.slice (some ⟨gn, 0, none⟩) d.n cn) (.slice none 0 0)).run Tryz.prog w = .ok (.bool false) w := fun w => Lib.run_eql_slice_nil w 91 103 (some ⟨gn, 0, none⟩) _ _ 0 0 Tryz.underlying91
  clear H hcv
  obtain ⟨n, hn⟩ : ∃ n, n = d.n := ⟨_, rfl⟩
  rw [← hn] at c0 c1 hmk hfew hcapn hcapl hq hn0
  have HN := Lib.hid hn
  clear hn
  refine (callsIn_wide (n := 5)).1 ?_
  refine callsIn_of_wp_marks Tryz.func20 rfl trivial ?_ rfl
  simp only [Tryz.ntmps20, List.size_toArray, List.length_cons, List.length_nil, Nat.reduceAdd, Nat.reduceSub, Array.replicate_succ, Array.replicate_zero, List.push_toArray, List.append_toArray, List.nil_append, List.cons_append]
  obtain ⟨w3, hw3⟩ : ∃ w3, w3 = (((w.alloc (.cells #[.slice ca ch.length cc] 30)).alloc (.cells (secZ n) 103)).alloc (.cells #[.slice none 0 0, .slice (some ⟨w.heap.size + 1, 0, none⟩) n n, .slice none 0 0, .int .i64 (-1), .int .i64 0, .bool false] 94)).alloc (.cells #[.pointer (some ⟨w.heap.size + 1 + 1, 0, none⟩)] 44) := ⟨_, rfl⟩
  have hc3 : Chg [] w w3 := by rw [hw3]; exact ((((Chg.refl _ _).alloc _).alloc _).alloc _).alloc _
  have hs3 : w3.heap.size = w.heap.size + 4 := by rw [hw3]; simp
  have hbh : w3.heap[w.heap.size]? = some (.cells #[.slice ca ch.length cc] 30 (0, 0)) := by rw [hw3]; exact blk_alloc (blk_alloc (blk_alloc (heap_alloc_new w _)))
  have hgc : w3.heap[w.heap.size + 1]? = some (.cells (secZ n) 103 (0, 0)) := by rw [hw3]; exact blk_alloc (blk_alloc (heap_at (by simp)))
  have hpc : w3.heap[w.heap.size + 2]? = some (.cells #[.slice none 0 0, .slice (some ⟨w.heap.size + 1, 0, none⟩) n n, .slice none 0 0, .int .i64 (-1), .int .i64 0, .bool false] 94 (0, 0)) := by rw [hw3]; exact blk_alloc (heap_at (by simp))
  have hbc : w3.heap[w.heap.size + 3]? = some (.cells #[.pointer (some ⟨w.heap.size + 2, 0, none⟩)] 44 (0, 0)) := by rw [hw3]; exact heap_at (by simp)
  have HW3 := Lib.hid hw3
  gi_wp2_with fail
  rw [← HW3.out]
  have e2 : w.heap.size + 1 + 1 = w.heap.size + 2 := rfl
  have e3 : w.heap.size + 1 + 1 + 1 = w.heap.size + 3 := rfl
  rw [e3, e2]
  clear hw3 e2 e3 HW3
  -- the copy
  have hls : SecsAt w3.drew gl n d.lasts := by rw [HN.out]; exact (HH.out.lasts.keep (hc3.block _ HH.out.lasts.lt (by simp))).keep rfl
  have hrun := fun ty => copy_secs (cl := n) (cn := cl) ty hls (show w3.drew.heap[w.heap.size + 1]? = some (.cells (secZ n) 103 (0, 0)) from hgc) (secZ_size n)
  have hl64 : ∀ k, k < n → (d.lasts k).length = 64 := fun k hk => hls.len k hk
  obtain ⟨w4, hw4⟩ : ∃ w4, w4 = w3.drew.setRow (w.heap.size + 1) (bvs (flat n d.lasts)).toArray := ⟨_, rfl⟩
  rw [← hw4] at hrun
  have hs4 : w4.heap.size = w.heap.size + 4 := by rw [hw4, setRow_size]; exact hs3
  have ho4 : ∀ k, k ≠ w.heap.size + 1 → w4.heap[k]? = w3.heap[k]? := fun k hk => by rw [hw4]; exact setRow_other w3.drew _ k _ hk
  have hc4 : Chg [] w w4 := ⟨by rw [hw4]; exact hc3.os, by rw [hw4]; exact hc3.tape, by rw [hw4]; exact hc3.output, by omega, fun k hk _ => (ho4 k (by omega)).trans (hc3.block k hk (by simp))⟩
  have hsec4 : SecsAt w4 (w.heap.size + 1) n d.lasts := by
    refine secs_of_cells (t := 0) (by rw [hw4]; exact setRow_heap w3.drew _ _ _ _ _ hgc) hl64 ?_
    rw [List.take_of_length_le (by simp [bvs_len]; rw [flat_len n _ hl64]; exact Nat.le_refl _)]
  obtain ⟨w5, hw5⟩ : ∃ w5, w5 = w4.alloc (.cells #[.int .i64 0] 3) := ⟨_, rfl⟩
  have hcr5 : CrashAt w w5 n (w.heap.size + 4) w.heap.size (w.heap.size + 2) (w.heap.size + 3) (w.heap.size + 1) 0 (.slice ca ch.length cc) d.lasts := by
    rw [hw5]
    exact ⟨heap_at (by omega), blk_alloc ((ho4 _ (by omega)).trans hbh), blk_alloc ((ho4 _ (by omega)).trans hbc), blk_alloc ((ho4 _ (by omega)).trans hpc), hsec4.keep (Below.heap_alloc w4 _ _ (by omega)), hc4.alloc _, ⟨by omega, by omega, by omega, by omega, by omega⟩, by omega⟩
  have hs5 : w5.heap.size = w.heap.size + 5 := by rw [hw5]; simp [hs4]
  have HW5 := Lib.hid hw5
  have HCR5 := Lib.hid hcr5
  have HS4 := Lib.hid hs4
  have k1 := blk_cell hbc 0 _ rfl
  have k2 := blk_cell hpc 1 _ rfl
  have k3 := hc3.cell c1 (by simp)
  have HRUN := Lib.hid hrun
  have HS3 := Lib.hid hs3
  clear hls hrun hw4 ho4 hc4 hsec4 hw5 hcr5 hbh hgc hpc hbc c0 c1 hmk hq hs3 hs4 hs5
  refine wpIn_region_LN (wide_w) (by kernel_rfl) [(8, fun w' => w'.cell? ⟨w.heap.size + 3, 0, none⟩ = some (.pointer (some ⟨w.heap.size + 2, 0, none⟩))), (8, fun w' => w'.cell? ⟨w.heap.size + 2, 1, none⟩ = some (.slice (some ⟨w.heap.size + 1, 0, none⟩) n n)), (8, fun w' => w'.cell? ⟨p, 1, none⟩ = some (.slice (some ⟨gl, 0, none⟩) n cl))] (by kernel_rfl) ?_ (fun hHeld => ?_)
  · exact (HoldC.cons (k1) (HoldC.cons (k2) (HoldC.cons (k3) HoldC.nil)))
  refine wpAnyL_load 0 (i := 0) (oi := _) (v := ?_) rfl rfl (by kernel_rfl) (by kernel_rfl) (by kernel_rfl) (by kernel_rfl) (by kernel_rfl) (by kernel_rfl) (fun _ _ _ h => h) (Or.inl ⟨by rfl, ?_⟩) (by assumption) (fun hNew => ?_)
  rotate_left
  · intro w hSw
    (try dsimp only at hSw)
    go_simp
    try with_reducible rfl
  clear hHeld
  have hHeld := hNew
  clear hNew
  try simp only [List.getElem_toArray, List.getElem_cons_succ, List.getElem_cons_zero, Act.put, List.setIfInBounds_toArray, List.set_cons_zero, List.set_cons_succ]
  refine wpAnyL_take (i := 1) (oi := _) (v := ?_) rfl (by kernel_rfl) (by kernel_rfl) (by kernel_rfl) (by kernel_rfl) (by kernel_rfl) (fun _ _ _ h => h) (Or.inl ⟨by rfl, ?_⟩) (by assumption) (fun hNew => ?_)
  rotate_left
  · intro w _
    go_simp
    try with_reducible rfl
  clear hHeld
  have hHeld := hNew
  clear hNew
  try simp only [List.getElem_toArray, List.getElem_cons_succ, List.getElem_cons_zero, Act.put, List.setIfInBounds_toArray, List.set_cons_zero, List.set_cons_succ]
  refine wpAnyL_take (i := 2) (oi := _) (v := ?_) rfl (by kernel_rfl) (by kernel_rfl) (by kernel_rfl) (by kernel_rfl) (by kernel_rfl) (fun _ _ _ h => h) (Or.inl ⟨by rfl, ?_⟩) (by assumption) (fun hNew => ?_)
  rotate_left
  · intro w _
    go_simp
    try with_reducible rfl
  clear hHeld
  have hHeld := hNew
  clear hNew
  try simp only [List.getElem_toArray, List.getElem_cons_succ, List.getElem_cons_zero, Act.put, List.setIfInBounds_toArray, List.set_cons_zero, List.set_cons_succ]
  refine wpAnyL_load 1 (i := 3) (oi := _) (v := ?_) rfl rfl (by kernel_rfl) (by kernel_rfl) (by kernel_rfl) (by kernel_rfl) (by kernel_rfl) (by kernel_rfl) (fun _ _ _ h => h) (Or.inl ⟨by rfl, ?_⟩) (by assumption) (fun hNew => ?_)
  rotate_left
  · intro w hSw
    (try dsimp only at hSw)
    go_simp
    try with_reducible rfl
  clear hHeld
  have hHeld := hNew
  clear hNew
  try simp only [List.getElem_toArray, List.getElem_cons_succ, List.getElem_cons_zero, Act.put, List.setIfInBounds_toArray, List.set_cons_zero, List.set_cons_succ]
  refine wpAnyL_take (i := 4) (oi := _) (v := ?_) rfl (by kernel_rfl) (by kernel_rfl) (by kernel_rfl) (by kernel_rfl) (by kernel_rfl) (fun _ _ _ h => h) (Or.inl ⟨by rfl, ?_⟩) (by assumption) (fun hNew => ?_)
  rotate_left
  · intro w _
    go_simp
    try with_reducible rfl
  clear hHeld
  have hHeld := hNew
  clear hNew
  try simp only [List.getElem_toArray, List.getElem_cons_succ, List.getElem_cons_zero, Act.put, List.setIfInBounds_toArray, List.set_cons_zero, List.set_cons_succ]
  refine wpAnyL_take (i := 5) (oi := _) (v := ?_) rfl (by kernel_rfl) (by kernel_rfl) (by kernel_rfl) (by kernel_rfl) (by kernel_rfl) (fun _ _ _ h => h) (Or.inl ⟨by rfl, ?_⟩) (by assumption) (fun hNew => ?_)
  rotate_left
  · intro w _
    go_simp
    try with_reducible rfl
  clear hHeld
  have hHeld := hNew
  clear hNew
  try simp only [List.getElem_toArray, List.getElem_cons_succ, List.getElem_cons_zero, Act.put, List.setIfInBounds_toArray, List.set_cons_zero, List.set_cons_succ]
  refine wpAnyL_take (i := 6) (oi := _) (v := ?_) rfl (by kernel_rfl) (by kernel_rfl) (by kernel_rfl) (by kernel_rfl) (by kernel_rfl) (fun _ _ _ h => h) (Or.inl ⟨by rfl, ?_⟩) (by assumption) (fun hNew => ?_)
  rotate_left
  · intro w _
    go_simp
    try with_reducible rfl
  clear hHeld
  have hHeld := hNew
  clear hNew
  try simp only [List.getElem_toArray, List.getElem_cons_succ, List.getElem_cons_zero, Act.put, List.setIfInBounds_toArray, List.set_cons_zero, List.set_cons_succ]
  refine wpAnyL_load 2 (i := 7) (oi := _) (v := ?_) rfl rfl (by kernel_rfl) (by kernel_rfl) (by kernel_rfl) (by kernel_rfl) (by kernel_rfl) (by kernel_rfl) (fun _ _ _ h => h) (Or.inl ⟨by rfl, ?_⟩) (by assumption) (fun hNew => ?_)
  rotate_left
  · intro w hSw
    (try dsimp only at hSw)
    go_simp
    try with_reducible rfl
  clear hHeld
  have hHeld := hNew
  clear hNew
  try simp only [List.getElem_toArray, List.getElem_cons_succ, List.getElem_cons_zero, Act.put, List.setIfInBounds_toArray, List.set_cons_zero, List.set_cons_succ]
  refine wpAnyL_ready (rs := [8]) (by kernel_rfl) (by simp) ?_
  refine AllReadyL.cons (o := _) rfl (fun K hK => ?_) AllReadyL.nil
  try simp only [List.getElem_toArray, List.getElem_cons_succ, List.getElem_cons_zero]
  rw [if_pos (by rfl)]
  refine wp_copy (.tmp 28) (.tmp 32) (by rfl) (by rfl) (by rfl) (HRUN.out _) ?_
  clear hHeld
  refine hK.out _ _ ?_ (fun hHeld => ?_)
  · exact (HoldC.past (by kernel_rfl) (HoldC.past (by kernel_rfl) (HoldC.past (by kernel_rfl) HoldC.nil)))
  clear hK K
  try simp only [List.getElem_toArray, List.getElem_cons_succ, List.getElem_cons_zero, Act.put, List.setIfInBounds_toArray, List.set_cons_zero, List.set_cons_succ]
  refine wpAnyL_done (by kernel_rfl) ?_ _
  clear hHeld
  simp only [Qn]
  clear k1 k2 k3 HRUN
  gi_wp2_with fail
  rw [← HW5.out]
  try rw [HS4.out]
  refine ⟨trivial, (wide_w.calls (dwaits_any p w5)).mono ?_⟩
  rintro e w6 ⟨rfl, hw6⟩
  have hc6 : Chg [] w5 w6 := by rw [hw6]; exact (Chg.refl _ _).alloc _
  have hB1 : w6.cell? ⟨w5.heap.size, 0, none⟩ = some (.pointer (some ⟨p, 0, none⟩)) := by rw [hw6]; exact blk_cell (heap_alloc_new w5 _) 0 _ rfl
  have hcr6 := HCR5.out.keep hc6
  have hcw6 : Chg [] w w6 := hcr6.chg
  have H6 : DiskOk w6 p S d gn gl cn cl v := by
    have H := HH.out
    obtain ⟨m1, m2, m3, m4⟩ := H.mem
    exact ⟨hcw6.keep H.head (by simp), H.now.keep (hcw6.block _ H.now.lt (by simp)), H.lasts.keep (hcw6.block _ H.lasts.lt (by simp)), row_keep H.since (fun g hg => hcw6.block g (World.ownsRow.lt H.since g hg).2 (by simp)),
      H.waits, H.few, H.capn, H.capl, H.fuse, H.ap, H.av, H.mem, fun x hx => Nat.lt_of_lt_of_le (H.lim x hx) hcw6.size⟩
  have h62 : w6.cell? ⟨p, 2, none⟩ = some v := blk_cell H6.head 2 _ rfl
  obtain ⟨xs, hxs⟩ := wcs_of (N := d.n) d.since (fun x hx => H6.waits x hx)
  have hxl : xs.length = d.since.length := by rw [← hxs, wcs_len]
  have hrow : w6.ownsRow 0 105 65 v xs.length (wsCells (wcs xs)) := by rw [hxs, hxl]; exact H6.since
  have hxn : xs.length ≤ 1000000 := by rw [hxl]; exact hw
  have hvl : ∀ g, v.ownBlock = some g → g < w.heap.size := fun g hg => (World.ownsRow.lt HH.out.since g hg).2
  obtain ⟨iw, zw, hiw, hzw1, hzw2, hzw3, hzw4⟩ := info_three facts_wr
  have HIW := Lib.hid hiw
  have HZ1 := Lib.hid hzw1
  have HZ2 := Lib.hid hzw2
  have HZ3 := Lib.hid hzw3
  have HXS := Lib.hid hxs
  have HXN := Lib.hid hxn
  have HROW := Lib.hid hrow
  have HVL := Lib.hid hvl
  have HCR6 := Lib.hid hcr6
  have HCW6 := Lib.hid hcw6
  have hs6 : w.heap.size + 6 ≤ w6.heap.size := by
    have h1 := blk_lt HCR5.out.ci
    have h2 := World.block_lt_of_cell? w6 _ hB1
    simp at h1 h2
    omega
  clear hw6 hc6 hcr6 H6 hxs hxl hrow hxn hvl hiw hzw1 hzw2 hzw3 hzw4 hcw6
  gi_wp2_with fail
  refine wpIn_rangeFunc_ownH rfl (by omega) (gf := 96) (lb := #[.pointer (some ⟨w5.heap.size, 0, none⟩)]) rfl trivial (enters_of Tryz.func96 (by kernel_rfl) rfl)
    (dwaits_stops 4 w5.heap.size p d.n (by omega) v xs HXN.out w6 hB1 h62 HROW.out) (fun h1 h2 g hg => (h2 g hg).trans (h1 g hg))
    (fun W l o o' hl hh _ _ g hg => World.putObj_heap_other (fun e => by have := HVL.out g hg; omega)) (Below.refl _ _) (fun _ => rfl)
    (fun pre W => CrashAt w W n (w.heap.size + 4) w.heap.size (w.heap.size + 2) (w.heap.size + 3) (w.heap.size + 1) pre.length (.slice ca ch.length cc) (applied (chosen ch (wcs pre) 0) d.lasts) ∧ w6.heap.size ≤ W.heap.size) (fun _ _ _ => False)
    (fun s A B row hs hg hr => ⟨hs.1.turn hg (fun r e => ⟨by have := (hr r e).1; omega, (hr r e).2⟩), Nat.le_trans hs.2 hg.size⟩) (fun c s A B row hs _ _ => hs)
    ⟨HCR6.out, Nat.le_refl _⟩
    (fun x a' W => ∃ Bx, w6.heap.size ≤ Bx ∧ W.heap[Bx]? = some (.cells (wcells x.1).toArray 105 (0, 0)) ∧ a' = { tmps := #[.pointer (some ⟨p, 0, none⟩), .slice ca ch.length cc, undef, .pointer (some ⟨w.heap.size, 0, none⟩), .pointer none, .pointer (some ⟨w.heap.size + 3, 0, none⟩), .pointer (some ⟨w.heap.size + 4, 0, none⟩), .pointer (some ⟨Bx, 0, none⟩), .pointer (some ⟨p, 0, none⟩), .bool false, .bool false, .pointer (some ⟨p, 0, none⟩), .pointer (some ⟨p, 0, none⟩), .pointer (some ⟨p, 0, none⟩), .slice (some ⟨gn, 0, none⟩) n cn, .bool false, .bool false, .pointer (some ⟨p, 0, none⟩), .pointer (some ⟨p, 0, none⟩), .pointer (some ⟨p, 1, none⟩), .slice (some ⟨gl, 0, none⟩) n cl, .int .i64 n, .slice (some ⟨w.heap.size + 1, 0, none⟩) n n, .agg #[.slice none 0 0, .slice (some ⟨w.heap.size + 1, 0, none⟩) n n, .slice none 0 0, .int .i64 (-1), .int .i64 0, .bool false], .pointer (some ⟨w.heap.size + 2, 0, none⟩), .pointer (some ⟨w.heap.size + 2, 0, none⟩), .pointer (some ⟨w.heap.size + 2, 0, none⟩), .pointer (some ⟨w.heap.size + 2, 1, none⟩), .slice (some ⟨w.heap.size + 1, 0, none⟩) n n, .pointer (some ⟨p, 0, none⟩), .pointer (some ⟨p, 0, none⟩), .pointer (some ⟨p, 1, none⟩), .slice (some ⟨gl, 0, none⟩) n cl, .int .i64 n, .pointer (some ⟨p, 0, none⟩), .func (.func 96) #[] #[.pointer (some ⟨w5.heap.size, 0, none⟩)], .agg (wcells x.1).toArray, undef, undef, undef, undef, undef, undef, undef, undef, undef, undef, undef, undef, undef, undef, undef, undef, undef, undef, undef, undef, undef, undef, undef, undef, undef, undef, undef, undef, undef, undef, undef, undef], defers := [] })
    (fun x a' s A B row ⟨Bx, h1, h2, h3⟩ hg hr => ⟨Bx, h1, (blk_turn h2 hg (fun r e => (hr r e).2)).trans h2, h3⟩) ?assign ?body ?done ?stop
  case stop =>
    rintro D c pre W _ _ h _
    exact h.elim
  case assign =>
    rintro l pre x W K ⟨hI, hsz3⟩ hK
    have HXL := Lib.hid (wcells_len x.1 x.2.2)
    have hone := Lib.hid (all_oneCell_toArray (wcells_one x.1))
    have HZ2b : Hid (zw.cells.size = (wcells x.1).toArray.size) := Lib.hid (by rw [HZ2.out]; simp [HXL.out])
    have HZ3b : Hid (iw.size = (wcells x.1).toArray.size) := Lib.hid (by rw [HZ3.out]; simp [HXL.out])
    have HN := Lib.hid (hK { tmps := #[.pointer (some ⟨p, 0, none⟩), .slice ca ch.length cc, undef, .pointer (some ⟨w.heap.size, 0, none⟩), .pointer none, .pointer (some ⟨w.heap.size + 3, 0, none⟩), .pointer (some ⟨w.heap.size + 4, 0, none⟩), .pointer (some ⟨W.heap.size, 0, none⟩), .pointer (some ⟨p, 0, none⟩), .bool false, .bool false, .pointer (some ⟨p, 0, none⟩), .pointer (some ⟨p, 0, none⟩), .pointer (some ⟨p, 0, none⟩), .slice (some ⟨gn, 0, none⟩) n cn, .bool false, .bool false, .pointer (some ⟨p, 0, none⟩), .pointer (some ⟨p, 0, none⟩), .pointer (some ⟨p, 1, none⟩), .slice (some ⟨gl, 0, none⟩) n cl, .int .i64 n, .slice (some ⟨w.heap.size + 1, 0, none⟩) n n, .agg #[.slice none 0 0, .slice (some ⟨w.heap.size + 1, 0, none⟩) n n, .slice none 0 0, .int .i64 (-1), .int .i64 0, .bool false], .pointer (some ⟨w.heap.size + 2, 0, none⟩), .pointer (some ⟨w.heap.size + 2, 0, none⟩), .pointer (some ⟨w.heap.size + 2, 0, none⟩), .pointer (some ⟨w.heap.size + 2, 1, none⟩), .slice (some ⟨w.heap.size + 1, 0, none⟩) n n, .pointer (some ⟨p, 0, none⟩), .pointer (some ⟨p, 0, none⟩), .pointer (some ⟨p, 1, none⟩), .slice (some ⟨gl, 0, none⟩) n cl, .int .i64 n, .pointer (some ⟨p, 0, none⟩), .func (.func 96) #[] #[.pointer (some ⟨w5.heap.size, 0, none⟩)], .agg (wcells x.1).toArray, undef, undef, undef, undef, undef, undef, undef, undef, undef, undef, undef, undef, undef, undef, undef, undef, undef, undef, undef, undef, undef, undef, undef, undef, undef, undef, undef, undef, undef, undef, undef, undef], defers := [] } (W.alloc (.cells (wcells x.1).toArray 105)) ((KeepsOthers.alloc _ _).from _)
      (fun g hg => Below.heap_alloc W _ g (Nat.lt_of_lt_of_le (HVL.out g hg) (by omega))) ⟨hI.keep ((Chg.refl _ W).alloc _), by simp; omega⟩ ⟨W.heap.size, hsz3, heap_alloc_new W _, rfl⟩)
    clear hK hI
    refine wpIn_region_lit ?_
    simp [wenc]
    (refine wpListIn_varW (wide_r l) (by rfl) (by rfl) 105 (.tmp 7) (.tmp 36) (by rfl) (by rfl) W.heap.size rfl (wcells x.1).toArray (by rfl) (by rfl) iw zw HIW.out HZ1.out HZ2b.out HZ3b.out hone.out ?_)
    exact HN.out
  case body =>
    rintro l pre x a' W hl ⟨r, hr⟩ ⟨hC, hszW⟩ ⟨Bx, hBx, bX, rfl⟩ hlt
    obtain ⟨k, hk⟩ : ∃ k, k = pre.length := ⟨_, rfl⟩
    have HKL := Lib.hid hk
    rw [← hk] at hC hlt
    have hk9 : k ≤ 1000000 := by have := HXN.out; omega
    have ci : W.cell? ⟨w.heap.size + 4, 0, none⟩ = some (.int .i64 (k : Int)) := blk_cell hC.ci 0 _ rfl
    have cb : W.cell? ⟨w.heap.size, 0, none⟩ = some (.slice ca ch.length cc) := blk_cell hC.ch 0 _ rfl
    have cp : W.cell? ⟨w.heap.size + 3, 0, none⟩ = some (.pointer (some ⟨w.heap.size + 2, 0, none⟩)) := blk_cell hC.cc 0 _ rfl
    have c1 : W.cell? ⟨w.heap.size + 2, 1, none⟩ = some (.slice (some ⟨w.heap.size + 1, 0, none⟩) n n) := blk_cell hC.obj 1 _ rfl
    have cx : W.cell? ⟨Bx, 0, none⟩ = some (.int .i64 (x.1.1 : Int)) := blk_cell bX 0 _ rfl
    have hxr : W.rangeAt Bx 0 (wcells x.1) := fun j u hu => by rw [Nat.zero_add]; exact blk_cell bX j u (by simpa using hu)
    have HXR := Lib.hid (range_tail hxr)
    have hx1 : x.1.1 < n := by rw [HN.out]; exact x.2.1
    have HXS2 := Lib.hid x.2.2
    have HCC := Lib.hid hC
    have hsnoc : ∀ q : Bool, leftAt ch k = q → applied (chosen ch (wcs (pre ++ [x])) 0) d.lasts = if q then upd (applied (chosen ch (wcs pre) 0) d.lasts) x.1.1 x.1.2 else applied (chosen ch (wcs pre) 0) d.lasts := fun q hq => by
      rw [show wcs (pre ++ [x]) = wcs pre ++ [x.1] by simp [wcs], chosen_snoc, Nat.zero_add, wcs_len, ← HKL.out, hq]
      cases q
      · simp
      · simp [applied_snoc]
    have HSN := Lib.hid hsnoc
    -- the round's end
    have hfin : ∀ W2, CrashAt w W2 n (w.heap.size + 4) w.heap.size (w.heap.size + 2) (w.heap.size + 3) (w.heap.size + 1) k (.slice ca ch.length cc) (applied (chosen ch (wcs (pre ++ [x])) 0) d.lasts) → (∀ j, j < w.heap.size ∨ w6.heap.size ≤ j → W2.heap[j]? = W.heap[j]?) → W.heap.size ≤ W2.heap.size →
        ownPostG w6.heap.size (KpRow v) (fun pre W => CrashAt w W n (w.heap.size + 4) w.heap.size (w.heap.size + 2) (w.heap.size + 3) (w.heap.size + 1) pre.length (.slice ca ch.length cc) (applied (chosen ch (wcs pre) 0) d.lasts) ∧ w6.heap.size ≤ W.heap.size) (fun _ _ _ => False) (pre ++ [x]) W Exit.normal { tmps := #[], defers := [] } (W2.setCell ⟨w.heap.size + 4, 0, none⟩ (.int .i64 ((k : Int) + 1))) := fun W2 h2 hj hsz => by
      have hne := h2.ne
      have hlo := h2.lo
      have hset : ∀ j, j ≠ w.heap.size + 4 → (W2.setCell ⟨w.heap.size + 4, 0, none⟩ (.int .i64 ((k : Int) + 1))).heap[j]? = W2.heap[j]? := fun j hj => Below.heap_setCell W2 ⟨w.heap.size + 4, 0, none⟩ _ j hj
      have hsz2 : (W2.setCell ⟨w.heap.size + 4, 0, none⟩ (.int .i64 ((k : Int) + 1))).heap.size = W2.heap.size := by simp [World.setCell]
      refine ⟨⟨by rw [hsz2]; exact hsz, fun j o h1 h3 _ => ?_⟩, fun g hg => ?_, ⟨?_, ?_, ?_, ?_, ?_, ?_, h2.lo, h2.ne⟩, by rw [hsz2]; omega⟩
      · rw [hset j (by omega), hj j (.inr h1)]; exact h3
      · have := HVL.out g hg
        rw [hset g (by omega), hj g (.inl this)]
      · have := set_blk (j := 0) (u := .int .i64 ((k : Int) + 1)) h2.ci
        rw [this, show (pre ++ [x]).length = k + 1 by simp [HKL.out]]
        rfl
      · rw [hset _ (by omega)]; exact h2.ch
      · rw [hset _ (by omega)]; exact h2.cc
      · rw [hset _ (by omega)]; exact h2.obj
      · exact h2.secs.keep (hset _ (by omega))
      · exact h2.chg.setCell (.inr (by show w.heap.size ≤ w.heap.size + 4; omega)) _
    have HFIN := Lib.hid hfin
    have hzs : Hid ((Tryz.prog.info? 103).map (·.size) = some (bvs x.1.2).length) := Lib.hid (by rw [bvs_len, HXS2.out]; kernel_rfl)
    have hzt : Hid ((Tryz.prog.info? 103).map (·.size) = some (bvs x.1.2).toArray.size) := Lib.hid (by rw [show (bvs x.1.2).toArray.size = (bvs x.1.2).length by simp]; exact hzs.out)
    have th : Hid (W.drew.there (w.heap.size + 1) (x.1.1 * 64) (bvs x.1.2).toArray.size) := Lib.hid (by
      have h1 := (hC.secs.keep (w' := W.drew) rfl).there x.1.1 hx1
      have h2 : (bvs x.1.2).toArray.size = 64 := by simp [bvs_len, HXS2.out]
      rw [h2]; exact h1)
    have hone := Lib.hid (all_oneCell_toArray (bvs_one x.1.2))
    have hjz : ((x.1.1 : Nat) : Int) < (n : Int) := by omega
    have hjz0 : (0 : Int) ≤ ((x.1.1 : Nat) : Int) := by omega
    have hjz1 : ((x.1.1 : Nat) : Int).toNat = x.1.1 := by omega
    obtain ⟨W2, hW2⟩ : ∃ W2, W2 = W.drew.setCells (w.heap.size + 1) (x.1.1 * 64) (bvs x.1.2) := ⟨_, rfl⟩
    have hleft : leftAt ch k = true → CrashAt w W2 n (w.heap.size + 4) w.heap.size (w.heap.size + 2) (w.heap.size + 3) (w.heap.size + 1) k (.slice ca ch.length cc) (applied (chosen ch (wcs (pre ++ [x])) 0) d.lasts) := fun hq => by
      have hfar : ∀ j, j ≠ w.heap.size + 1 → W2.heap[j]? = W.heap[j]? := fun j hj => by rw [hW2]; exact setCells_far _ _ _ _ hj
      rw [HSN.out true hq, if_pos rfl]
      refine ⟨(hfar _ (by omega)).trans hC.ci, (hfar _ (by omega)).trans hC.ch, (hfar _ (by omega)).trans hC.cc, (hfar _ (by omega)).trans hC.obj, ?_, ?_, hC.lo, hC.ne⟩
      · rw [hW2]; exact (hC.secs.keep (w' := W.drew) rfl).set x.1.1 x.1.2 hx1 HXS2.out
      · rw [hW2]; exact hC.chg.drew.setCells (.inr (by omega)) _
    have HLEFT := Lib.hid hleft
    have hW2s : W2.heap.size = W.heap.size := by rw [hW2, setCells_size]; rfl
    have hW2j : ∀ j, j < w.heap.size ∨ w6.heap.size ≤ j → W2.heap[j]? = W.heap[j]? := fun j hj => by rw [hW2]; exact setCells_far _ _ _ _ (by omega)
    have HW2 := Lib.hid hW2
    have HW2S := Lib.hid hW2s
    have HW2J := Lib.hid hW2j
    have HIW2 := Lib.hid (IntWalk.i64_in ((k : Int) + 1) ⟨by omega, by omega⟩)
    clear hk hsnoc hfin hleft hW2 hW2s hW2j bX hxr hr
    by_cases hkl : ch.length ≤ k
    · have hz : (ch.length : Int) ≤ (k : Int) := by omega
      have HL := Lib.hid (HLEFT.out (by unfold leftAt; rw [decide_eq_true hkl]; rfl))
      clear hC
      gi_wp2_with fail
      refine wpIn_region_L (wide_r l) (by rintro ⟨_, _, h⟩; exact h) (by kernel_rfl) [(9, fun w' => w'.cell? ⟨w.heap.size + 3, 0, none⟩ = some (.pointer (some ⟨w.heap.size + 2, 0, none⟩))), (9, fun w' => w'.cell? ⟨w.heap.size + 2, 1, none⟩ = some (.slice (some ⟨w.heap.size + 1, 0, none⟩) n n)), (9, fun w' => w'.cell? ⟨Bx, 0, none⟩ = some (.int .i64 (x.1.1 : Int))), (9, fun w' => w'.rangeAt Bx (0 + 1) (bvs x.1.2))] (by kernel_rfl) ?_ (fun hHeld => ?_)
      · exact (HoldC.cons (cp) (HoldC.cons (c1) (HoldC.cons (cx) (HoldC.cons (HXR.out) HoldC.nil))))
      refine wpAnyL_load 0 (i := 0) (oi := _) (v := ?_) rfl rfl (by kernel_rfl) (by kernel_rfl) (by kernel_rfl) (by kernel_rfl) (by kernel_rfl) (by kernel_rfl) (fun _ _ _ h => h) (Or.inl ⟨by rfl, ?_⟩) (by assumption) (fun hNew => ?_)
      rotate_left
      · intro w hSw
        (try dsimp only at hSw)
        go_simp
        try with_reducible rfl
      clear hHeld
      have hHeld := hNew
      clear hNew
      try simp only [List.getElem_toArray, List.getElem_cons_succ, List.getElem_cons_zero, Act.put, List.setIfInBounds_toArray, List.set_cons_zero, List.set_cons_succ]
      refine wpAnyL_take (i := 1) (oi := _) (v := ?_) rfl (by kernel_rfl) (by kernel_rfl) (by kernel_rfl) (by kernel_rfl) (by kernel_rfl) (fun _ _ _ h => h) (Or.inl ⟨by rfl, ?_⟩) (by assumption) (fun hNew => ?_)
      rotate_left
      · intro w _
        go_simp
        try with_reducible rfl
      clear hHeld
      have hHeld := hNew
      clear hNew
      try simp only [List.getElem_toArray, List.getElem_cons_succ, List.getElem_cons_zero, Act.put, List.setIfInBounds_toArray, List.set_cons_zero, List.set_cons_succ]
      refine wpAnyL_take (i := 2) (oi := _) (v := ?_) rfl (by kernel_rfl) (by kernel_rfl) (by kernel_rfl) (by kernel_rfl) (by kernel_rfl) (fun _ _ _ h => h) (Or.inl ⟨by rfl, ?_⟩) (by assumption) (fun hNew => ?_)
      rotate_left
      · intro w _
        go_simp
        try with_reducible rfl
      clear hHeld
      have hHeld := hNew
      clear hNew
      try simp only [List.getElem_toArray, List.getElem_cons_succ, List.getElem_cons_zero, Act.put, List.setIfInBounds_toArray, List.set_cons_zero, List.set_cons_succ]
      refine wpAnyL_load 1 (i := 3) (oi := _) (v := ?_) rfl rfl (by kernel_rfl) (by kernel_rfl) (by kernel_rfl) (by kernel_rfl) (by kernel_rfl) (by kernel_rfl) (fun _ _ _ h => h) (Or.inl ⟨by rfl, ?_⟩) (by assumption) (fun hNew => ?_)
      rotate_left
      · intro w hSw
        (try dsimp only at hSw)
        go_simp
        try with_reducible rfl
      clear hHeld
      have hHeld := hNew
      clear hNew
      try simp only [List.getElem_toArray, List.getElem_cons_succ, List.getElem_cons_zero, Act.put, List.setIfInBounds_toArray, List.set_cons_zero, List.set_cons_succ]
      refine wpAnyL_take (i := 4) (oi := _) (v := ?_) rfl (by kernel_rfl) (by kernel_rfl) (by kernel_rfl) (by kernel_rfl) (by kernel_rfl) (fun _ _ _ h => h) (Or.inl ⟨by rfl, ?_⟩) (by assumption) (fun hNew => ?_)
      rotate_left
      · intro w _
        go_simp
        try with_reducible rfl
      clear hHeld
      have hHeld := hNew
      clear hNew
      try simp only [List.getElem_toArray, List.getElem_cons_succ, List.getElem_cons_zero, Act.put, List.setIfInBounds_toArray, List.set_cons_zero, List.set_cons_succ]
      refine wpAnyL_load 2 (i := 5) (oi := _) (v := ?_) rfl rfl (by kernel_rfl) (by kernel_rfl) (by kernel_rfl) (by kernel_rfl) (by kernel_rfl) (by kernel_rfl) (fun _ _ _ h => h) (Or.inl ⟨by rfl, ?_⟩) (by assumption) (fun hNew => ?_)
      rotate_left
      · intro w hSw
        (try dsimp only at hSw)
        go_simp
        try with_reducible rfl
      clear hHeld
      have hHeld := hNew
      clear hNew
      try simp only [List.getElem_toArray, List.getElem_cons_succ, List.getElem_cons_zero, Act.put, List.setIfInBounds_toArray, List.set_cons_zero, List.set_cons_succ]
      refine wpAnyL_take (i := 6) (oi := _) (v := ?_) rfl (by kernel_rfl) (by kernel_rfl) (by kernel_rfl) (by kernel_rfl) (by kernel_rfl) (fun _ _ _ h => h) (Or.inl ⟨by rfl, ?_⟩) (by assumption) (fun hNew => ?_)
      rotate_left
      · intro w _
        go_simp
        try with_reducible rfl
      clear hHeld
      have hHeld := hNew
      clear hNew
      try simp only [List.getElem_toArray, List.getElem_cons_succ, List.getElem_cons_zero, Act.put, List.setIfInBounds_toArray, List.set_cons_zero, List.set_cons_succ]
      refine wpAnyL_load 3 (i := 7) (oi := _) (v := .agg (bvs x.1.2).toArray) rfl rfl (by kernel_rfl) (by kernel_rfl) (by kernel_rfl) (by kernel_rfl) (by kernel_rfl) (by kernel_rfl) (fun _ _ _ h => h) (yieldsIf_load_mid (by rfl) 103 (.tmp 55) (by rfl) (Bx) (0 + 1) (by rfl) (bvs x.1.2) _ (fun w hw => hw) Tryz.underlying103 rfl hzs.out) (by assumption) (fun hNew => ?_)
      clear hHeld
      have hHeld := hNew
      clear hNew
      try simp only [List.getElem_toArray, List.getElem_cons_succ, List.getElem_cons_zero, Act.put, List.setIfInBounds_toArray, List.set_cons_zero, List.set_cons_succ]
      refine wpAnyL_take (i := 8) (oi := _) (v := ?_) rfl (by kernel_rfl) (by kernel_rfl) (by kernel_rfl) (by kernel_rfl) (by kernel_rfl) (fun _ _ _ h => h) (Or.inl ⟨by rfl, ?_⟩) (by assumption) (fun hNew => ?_)
      rotate_left
      · intro w _
        go_simp
        try with_reducible rfl
      clear hHeld
      have hHeld := hNew
      clear hNew
      try simp only [List.getElem_toArray, List.getElem_cons_succ, List.getElem_cons_zero, Act.put, List.setIfInBounds_toArray, List.set_cons_zero, List.set_cons_succ]
      refine wpAnyL_ready (rs := [9]) (by kernel_rfl) (by simp) ?_
      refine AllReadyL.cons (o := _) rfl (fun K hK => ?_) AllReadyL.nil
      try simp only [List.getElem_toArray, List.getElem_cons_succ, List.getElem_cons_zero]
      rw [if_pos (by rfl)]
      refine wp_store_mid 103 (.tmp 57) (.tmp 56) (by rfl) (w.heap.size + 1) (x.1.1 * 64) (bvs x.1.2).toArray (by rfl) (by rfl) th.out hzt.out hone.out ?_
      clear hHeld
      refine hK.out _ _ ?_ (fun hHeld => ?_)
      · exact (HoldC.past (by kernel_rfl) (HoldC.past (by kernel_rfl) (HoldC.past (by kernel_rfl) (HoldC.past (by kernel_rfl) HoldC.nil))))
      clear hK K
      try simp only [List.getElem_toArray, List.getElem_cons_succ, List.getElem_cons_zero, Act.put, List.setIfInBounds_toArray, List.set_cons_zero, List.set_cons_succ]
      refine wpAnyL_done (by kernel_rfl) ?_ _
      clear hHeld
      rw [← HW2.out]
      have d1 := blk_cell HL.out.ci 0 _ rfl
      have d2 := blk_frozen HL.out.ci 0
      have d3 := blk_lt HL.out.ci
      gi_wp2
      exact HFIN.out _ HL.out HW2J.out (by rw [HW2S.out]; exact Nat.le_refl _)
    · have hz : ¬ (ch.length : Int) ≤ (k : Int) := by omega
      have hz2 : (k : Int) < (ch.length : Int) := by omega
      have hz3 : (k : Int).toNat = k := by omega
      have hz4 : (0 : Int) ≤ (k : Int) := by omega
      obtain ⟨a', cap', hs', h1', h2', h3'⟩ := HCV.out
      rcases h3' with ⟨rfl, _⟩ | ⟨g, o, rfl, hcell⟩
      · simp at hkl
      · obtain ⟨rfl, rfl⟩ : ca = some ⟨g, o, none⟩ ∧ cc = cap' := by simpa using hs'
        obtain ⟨b, hb⟩ : ∃ b, b = ch.getD k 0 := ⟨_, rfl⟩
        have cbk : W.cell? ⟨g, o + k, none⟩ = some (.int .u8 (b.toNat : Int)) := by
          have := hC.chg.cell (hcell k (by omega)) (by simp)
          rw [← hb] at this
          exact this
        have hqb := u8_bit b
        have HB := Lib.hid hb
        clear hcell hs' h1' h2' hb
        by_cases hbit : b &&& 1 = 1
        · rw [hbit] at hqb
          have hqb : bits .and .u8 (b.toNat : Int) 1 = 1 := hqb
          have HL := Lib.hid (HLEFT.out (by unfold leftAt; rw [← HB.out, decide_eq_true hbit, Bool.or_true]))
          clear hC hbit
          gi_wp2_with fail
          refine wpIn_region_L (wide_r l) (by rintro ⟨_, _, h⟩; exact h) (by kernel_rfl) [(9, fun w' => w'.cell? ⟨w.heap.size + 3, 0, none⟩ = some (.pointer (some ⟨w.heap.size + 2, 0, none⟩))), (9, fun w' => w'.cell? ⟨w.heap.size + 2, 1, none⟩ = some (.slice (some ⟨w.heap.size + 1, 0, none⟩) n n)), (9, fun w' => w'.cell? ⟨Bx, 0, none⟩ = some (.int .i64 (x.1.1 : Int))), (9, fun w' => w'.rangeAt Bx (0 + 1) (bvs x.1.2))] (by kernel_rfl) ?_ (fun hHeld => ?_)
          · exact (HoldC.cons (cp) (HoldC.cons (c1) (HoldC.cons (cx) (HoldC.cons (HXR.out) HoldC.nil))))
          refine wpAnyL_load 0 (i := 0) (oi := _) (v := ?_) rfl rfl (by kernel_rfl) (by kernel_rfl) (by kernel_rfl) (by kernel_rfl) (by kernel_rfl) (by kernel_rfl) (fun _ _ _ h => h) (Or.inl ⟨by rfl, ?_⟩) (by assumption) (fun hNew => ?_)
          rotate_left
          · intro w hSw
            (try dsimp only at hSw)
            go_simp
            try with_reducible rfl
          clear hHeld
          have hHeld := hNew
          clear hNew
          try simp only [List.getElem_toArray, List.getElem_cons_succ, List.getElem_cons_zero, Act.put, List.setIfInBounds_toArray, List.set_cons_zero, List.set_cons_succ]
          refine wpAnyL_take (i := 1) (oi := _) (v := ?_) rfl (by kernel_rfl) (by kernel_rfl) (by kernel_rfl) (by kernel_rfl) (by kernel_rfl) (fun _ _ _ h => h) (Or.inl ⟨by rfl, ?_⟩) (by assumption) (fun hNew => ?_)
          rotate_left
          · intro w _
            go_simp
            try with_reducible rfl
          clear hHeld
          have hHeld := hNew
          clear hNew
          try simp only [List.getElem_toArray, List.getElem_cons_succ, List.getElem_cons_zero, Act.put, List.setIfInBounds_toArray, List.set_cons_zero, List.set_cons_succ]
          refine wpAnyL_take (i := 2) (oi := _) (v := ?_) rfl (by kernel_rfl) (by kernel_rfl) (by kernel_rfl) (by kernel_rfl) (by kernel_rfl) (fun _ _ _ h => h) (Or.inl ⟨by rfl, ?_⟩) (by assumption) (fun hNew => ?_)
          rotate_left
          · intro w _
            go_simp
            try with_reducible rfl
          clear hHeld
          have hHeld := hNew
          clear hNew
          try simp only [List.getElem_toArray, List.getElem_cons_succ, List.getElem_cons_zero, Act.put, List.setIfInBounds_toArray, List.set_cons_zero, List.set_cons_succ]
          refine wpAnyL_load 1 (i := 3) (oi := _) (v := ?_) rfl rfl (by kernel_rfl) (by kernel_rfl) (by kernel_rfl) (by kernel_rfl) (by kernel_rfl) (by kernel_rfl) (fun _ _ _ h => h) (Or.inl ⟨by rfl, ?_⟩) (by assumption) (fun hNew => ?_)
          rotate_left
          · intro w hSw
            (try dsimp only at hSw)
            go_simp
            try with_reducible rfl
          clear hHeld
          have hHeld := hNew
          clear hNew
          try simp only [List.getElem_toArray, List.getElem_cons_succ, List.getElem_cons_zero, Act.put, List.setIfInBounds_toArray, List.set_cons_zero, List.set_cons_succ]
          refine wpAnyL_take (i := 4) (oi := _) (v := ?_) rfl (by kernel_rfl) (by kernel_rfl) (by kernel_rfl) (by kernel_rfl) (by kernel_rfl) (fun _ _ _ h => h) (Or.inl ⟨by rfl, ?_⟩) (by assumption) (fun hNew => ?_)
          rotate_left
          · intro w _
            go_simp
            try with_reducible rfl
          clear hHeld
          have hHeld := hNew
          clear hNew
          try simp only [List.getElem_toArray, List.getElem_cons_succ, List.getElem_cons_zero, Act.put, List.setIfInBounds_toArray, List.set_cons_zero, List.set_cons_succ]
          refine wpAnyL_load 2 (i := 5) (oi := _) (v := ?_) rfl rfl (by kernel_rfl) (by kernel_rfl) (by kernel_rfl) (by kernel_rfl) (by kernel_rfl) (by kernel_rfl) (fun _ _ _ h => h) (Or.inl ⟨by rfl, ?_⟩) (by assumption) (fun hNew => ?_)
          rotate_left
          · intro w hSw
            (try dsimp only at hSw)
            go_simp
            try with_reducible rfl
          clear hHeld
          have hHeld := hNew
          clear hNew
          try simp only [List.getElem_toArray, List.getElem_cons_succ, List.getElem_cons_zero, Act.put, List.setIfInBounds_toArray, List.set_cons_zero, List.set_cons_succ]
          refine wpAnyL_take (i := 6) (oi := _) (v := ?_) rfl (by kernel_rfl) (by kernel_rfl) (by kernel_rfl) (by kernel_rfl) (by kernel_rfl) (fun _ _ _ h => h) (Or.inl ⟨by rfl, ?_⟩) (by assumption) (fun hNew => ?_)
          rotate_left
          · intro w _
            go_simp
            try with_reducible rfl
          clear hHeld
          have hHeld := hNew
          clear hNew
          try simp only [List.getElem_toArray, List.getElem_cons_succ, List.getElem_cons_zero, Act.put, List.setIfInBounds_toArray, List.set_cons_zero, List.set_cons_succ]
          refine wpAnyL_load 3 (i := 7) (oi := _) (v := .agg (bvs x.1.2).toArray) rfl rfl (by kernel_rfl) (by kernel_rfl) (by kernel_rfl) (by kernel_rfl) (by kernel_rfl) (by kernel_rfl) (fun _ _ _ h => h) (yieldsIf_load_mid (by rfl) 103 (.tmp 55) (by rfl) (Bx) (0 + 1) (by rfl) (bvs x.1.2) _ (fun w hw => hw) Tryz.underlying103 rfl hzs.out) (by assumption) (fun hNew => ?_)
          clear hHeld
          have hHeld := hNew
          clear hNew
          try simp only [List.getElem_toArray, List.getElem_cons_succ, List.getElem_cons_zero, Act.put, List.setIfInBounds_toArray, List.set_cons_zero, List.set_cons_succ]
          refine wpAnyL_take (i := 8) (oi := _) (v := ?_) rfl (by kernel_rfl) (by kernel_rfl) (by kernel_rfl) (by kernel_rfl) (by kernel_rfl) (fun _ _ _ h => h) (Or.inl ⟨by rfl, ?_⟩) (by assumption) (fun hNew => ?_)
          rotate_left
          · intro w _
            go_simp
            try with_reducible rfl
          clear hHeld
          have hHeld := hNew
          clear hNew
          try simp only [List.getElem_toArray, List.getElem_cons_succ, List.getElem_cons_zero, Act.put, List.setIfInBounds_toArray, List.set_cons_zero, List.set_cons_succ]
          refine wpAnyL_ready (rs := [9]) (by kernel_rfl) (by simp) ?_
          refine AllReadyL.cons (o := _) rfl (fun K hK => ?_) AllReadyL.nil
          try simp only [List.getElem_toArray, List.getElem_cons_succ, List.getElem_cons_zero]
          rw [if_pos (by rfl)]
          refine wp_store_mid 103 (.tmp 57) (.tmp 56) (by rfl) (w.heap.size + 1) (x.1.1 * 64) (bvs x.1.2).toArray (by rfl) (by rfl) th.out hzt.out hone.out ?_
          clear hHeld
          refine hK.out _ _ ?_ (fun hHeld => ?_)
          · exact (HoldC.past (by kernel_rfl) (HoldC.past (by kernel_rfl) (HoldC.past (by kernel_rfl) (HoldC.past (by kernel_rfl) HoldC.nil))))
          clear hK K
          try simp only [List.getElem_toArray, List.getElem_cons_succ, List.getElem_cons_zero, Act.put, List.setIfInBounds_toArray, List.set_cons_zero, List.set_cons_succ]
          refine wpAnyL_done (by kernel_rfl) ?_ _
          clear hHeld
          rw [← HW2.out]
          have d1 := blk_cell HL.out.ci 0 _ rfl
          have d2 := blk_frozen HL.out.ci 0
          have d3 := blk_lt HL.out.ci
          gi_wp2
          exact HFIN.out _ HL.out HW2J.out (by rw [HW2S.out]; exact Nat.le_refl _)
        · have hq0 : (b &&& 1).toNat = 0 := by
            have h1 := u8_and_lt b
            rcases h1 with h1 | h1
            · rw [h1]; rfl
            · exact absurd h1 hbit
          rw [hq0] at hqb
          have hqb : bits .and .u8 (b.toNat : Int) 1 = 0 := hqb
          have HL : Hid (applied (chosen ch (wcs (pre ++ [x])) 0) d.lasts = applied (chosen ch (wcs pre) 0) d.lasts) := Lib.hid (by
            rw [HSN.out false (by unfold leftAt; rw [← HB.out, decide_eq_false hbit, decide_eq_false (by omega)]; rfl), if_neg (by simp)])
          have d2 := blk_frozen hC.ci 0
          have d3 := blk_lt hC.ci
          clear hC hbit hq0
          gi_wp2
          exact HFIN.out _ (by rw [HL.out]; exact HCC.out) (fun _ _ => rfl) (Nat.le_refl _)
  case done =>
    rintro D ys W hDs rfl ⟨hC, hszW⟩ hK
    rw [HXS.out] at hC
    obtain ⟨f, hf⟩ : ∃ f, f = applied (chosen ch d.since 0) d.lasts := ⟨_, rfl⟩
    rw [← hf] at hC
    have HFF := Lib.hid hf
    have cp : W.cell? ⟨w.heap.size + 3, 0, none⟩ = some (.pointer (some ⟨w.heap.size + 2, 0, none⟩)) := blk_cell hC.cc 0 _ rfl
    have c1 : W.cell? ⟨w.heap.size + 2, 1, none⟩ = some (.slice (some ⟨w.heap.size + 1, 0, none⟩) n n) := blk_cell hC.obj 1 _ rfl
    have HCC := Lib.hid hC
    have HKK := Lib.hid hK
    obtain ⟨i, z, hi, hz, hz1, hz2, hz3⟩ := info_three facts_sec
    have HI := Lib.hid hi
    have HZ := Lib.hid hz
    have HZ1 := Lib.hid hz1
    have HZ2 := Lib.hid hz2
    have HZ3 := Lib.hid hz3
    have HHH := HH
    clear hi hz hz1 hz2 hz3 hf hC hK
    gi_wp2_with fail
    refine wpIn_region_LN (wide_w) (by kernel_rfl) [(8, fun w' => w'.cell? ⟨w.heap.size + 3, 0, none⟩ = some (.pointer (some ⟨w.heap.size + 2, 0, none⟩))), (8, fun w' => w'.cell? ⟨w.heap.size + 2, 1, none⟩ = some (.slice (some ⟨w.heap.size + 1, 0, none⟩) n n))] (by kernel_rfl) ?_ (fun hHeld => ?_)
    · exact (HoldC.cons (cp) (HoldC.cons (c1) HoldC.nil))
    refine wpAnyL_load 0 (i := 0) (oi := _) (v := ?_) rfl rfl (by kernel_rfl) (by kernel_rfl) (by kernel_rfl) (by kernel_rfl) (by kernel_rfl) (by kernel_rfl) (fun _ _ _ h => h) (Or.inl ⟨by rfl, ?_⟩) (by assumption) (fun hNew => ?_)
    rotate_left
    · intro w hSw
      (try dsimp only at hSw)
      go_simp
      try with_reducible rfl
    clear hHeld
    have hHeld := hNew
    clear hNew
    try simp only [List.getElem_toArray, List.getElem_cons_succ, List.getElem_cons_zero, Act.put, List.setIfInBounds_toArray, List.set_cons_zero, List.set_cons_succ]
    refine wpAnyL_load 0 (i := 1) (oi := _) (v := ?_) rfl rfl (by kernel_rfl) (by kernel_rfl) (by kernel_rfl) (by kernel_rfl) (by kernel_rfl) (by kernel_rfl) (fun _ _ _ h => h) (Or.inl ⟨by rfl, ?_⟩) (by assumption) (fun hNew => ?_)
    rotate_left
    · intro w hSw
      (try dsimp only at hSw)
      go_simp
      try with_reducible rfl
    clear hHeld
    have hHeld := hNew
    clear hNew
    try simp only [List.getElem_toArray, List.getElem_cons_succ, List.getElem_cons_zero, Act.put, List.setIfInBounds_toArray, List.set_cons_zero, List.set_cons_succ]
    refine wpAnyL_take (i := 2) (oi := _) (v := ?_) rfl (by kernel_rfl) (by kernel_rfl) (by kernel_rfl) (by kernel_rfl) (by kernel_rfl) (fun _ _ _ h => h) (Or.inl ⟨by rfl, ?_⟩) (by assumption) (fun hNew => ?_)
    rotate_left
    · intro w _
      go_simp
      try with_reducible rfl
    clear hHeld
    have hHeld := hNew
    clear hNew
    try simp only [List.getElem_toArray, List.getElem_cons_succ, List.getElem_cons_zero, Act.put, List.setIfInBounds_toArray, List.set_cons_zero, List.set_cons_succ]
    refine wpAnyL_take (i := 3) (oi := _) (v := ?_) rfl (by kernel_rfl) (by kernel_rfl) (by kernel_rfl) (by kernel_rfl) (by kernel_rfl) (fun _ _ _ h => h) (Or.inl ⟨by rfl, ?_⟩) (by assumption) (fun hNew => ?_)
    rotate_left
    · intro w _
      go_simp
      try with_reducible rfl
    clear hHeld
    have hHeld := hNew
    clear hNew
    try simp only [List.getElem_toArray, List.getElem_cons_succ, List.getElem_cons_zero, Act.put, List.setIfInBounds_toArray, List.set_cons_zero, List.set_cons_succ]
    refine wpAnyL_load 1 (i := 4) (oi := _) (v := ?_) rfl rfl (by kernel_rfl) (by kernel_rfl) (by kernel_rfl) (by kernel_rfl) (by kernel_rfl) (by kernel_rfl) (fun _ _ _ h => h) (Or.inl ⟨by rfl, ?_⟩) (by assumption) (fun hNew => ?_)
    rotate_left
    · intro w hSw
      (try dsimp only at hSw)
      go_simp
      try with_reducible rfl
    clear hHeld
    have hHeld := hNew
    clear hNew
    try simp only [List.getElem_toArray, List.getElem_cons_succ, List.getElem_cons_zero, Act.put, List.setIfInBounds_toArray, List.set_cons_zero, List.set_cons_succ]
    refine wpAnyL_ready (rs := [5]) (by kernel_rfl) (by simp) ?_
    refine AllReadyL.cons (o := _) rfl (fun K hK => ?_) AllReadyL.nil
    try simp only [List.getElem_toArray, List.getElem_cons_succ, List.getElem_cons_zero]
    rw [if_pos (by rfl)]
    refine wp_append_lies _ (.const (.slice none 0 0)) (.tmp 64) 91 (by rfl) 0 103 i z 64 64 Tryz.underlying91 HI.out HZ.out HZ2.out HZ3.out HZ1.out (by omega) (.slice none 0 0) 0 [] (by rfl) (World.ownsRow_nil _ _ _ _) ⟨w.heap.size + 1, 0, none⟩ n n (bvs (flat n f)) (by rfl) (by rw [bvs_len, HCC.out.secs.whole.1])
      (fun j u hj => by rw [add_none]; exact HCC.out.secs.whole.2 j u hj) (bvs_one _) (by omega) (by unfold maxLen; omega) (by omega) (Nat.zero_le _) _ rfl ?_
    intro g cap w2 hrow hg hat hlt
    have hgr : Chg [] W.drew w2 := (Chg.refl _ _).grown hg (fun k hk => by simp [Value.ownBlock] at hk)
    have hc2 : Chg [] W w2 := (by exact (Chg.refl [] W).drew : Chg [] W W.drew).trans hgr (by simp)
    have cp2 := hc2.cell cp (by simp)
    have c12 := hc2.cell c1 (by simp)
    have hob := hc2.keep HCC.out.obj (by simp)
    have o0 := blk_cell hob 0 _ rfl
    have o1 := blk_frozen hob 0
    have o2 := blk_lt hob
    have hgW : g = W.heap.size := by
      rcases hat with h | h
      · simp [Value.ownBlock] at h
      · exact h
    have hKD : w2.heap[D]? = some (.deferred (some [])) := hc2.keep HKK.out (by simp)
    have hrow' : w2.ownsRow 0 103 64 (.slice (some ⟨g, 0, none⟩) n cap) n (bvs (flat n f)) := by
      have h := hrow
      rw [Nat.zero_add, List.nil_append] at h
      exact h
    obtain ⟨g', cap', he, hcap1, hcap2, hsecs⟩ := secs_of_row hrow' hn0 HCC.out.secs.len
    obtain ⟨rfl, rfl⟩ : g = g' ∧ cap = cap' := by simpa using he
    have hDpc : D ≠ w.heap.size + 2 := fun e => by
      rw [e, hob] at hKD; cases hKD
    have hfin : Newly w ((w2.setCell ⟨w.heap.size + 2, 0, none⟩ (.slice (some ⟨g, 0, none⟩) n cap)).putObj D (.deferred none)) (w.heap.size + 2) [w.heap.size + 2, g, w.heap.size + 1] (d.crash ch) := by
      have hne := HCC.out.ne
      have hlo := HCC.out.lo
      have hWs := hszW
      have hgl := HCC.out.secs.lt
      have hf0 : (d.crash ch).now = f := HFF.out.symm
      have hf1 : (d.crash ch).lasts = f := HFF.out.symm
      obtain ⟨w8, hw8⟩ : ∃ w8, w8 = w2.setCell ⟨w.heap.size + 2, 0, none⟩ (.slice (some ⟨g, 0, none⟩) n cap) := ⟨_, rfl⟩
      have h8 : ∀ j, j ≠ w.heap.size + 2 → w8.heap[j]? = w2.heap[j]? := fun j hj => by rw [hw8]; exact Below.heap_setCell w2 ⟨w.heap.size + 2, 0, none⟩ _ j hj
      have h8p : w8.heap[w.heap.size + 2]? = some (.cells #[.slice (some ⟨g, 0, none⟩) n cap, .slice (some ⟨w.heap.size + 1, 0, none⟩) n n, .slice none 0 0, .int .i64 (-1), .int .i64 0, .bool false] 94 (0, 0)) := by rw [hw8]; exact set_blk hob
      have h8s : w8.heap.size = w2.heap.size := by rw [hw8]; simp [World.setCell]
      have hc8 : Chg [] w w8 := by rw [hw8]; exact (HCC.out.chg.trans hc2 (by simp)).setCell (.inr (by show w.heap.size ≤ w.heap.size + 2; omega)) _
      rw [← hw8]
      obtain ⟨w9, hw9⟩ : ∃ w9, w9 = w8.putObj D (.deferred none) := ⟨_, rfl⟩
      have h9 : ∀ j, j ≠ D → w9.heap[j]? = w8.heap[j]? := fun j hj => by rw [hw9]; exact World.putObj_heap_other hj
      have h9s : w8.heap.size ≤ w9.heap.size := by rw [hw9]; simp [World.putObj]
      have hDg : D ≠ g := fun e => by
        obtain ⟨cs, h1, _⟩ := hsecs
        rw [e, h1] at hKD; cases hKD
      have hDl : D ≠ w.heap.size + 1 := fun e => by
        obtain ⟨cs, h1, _⟩ := HCC.out.secs
        rw [e, hc2.keep h1 (by simp)] at hKD; cases hKD
      have hgl2 : SecsAt w2 (w.heap.size + 1) n f := HCC.out.secs.keep (hc2.block _ hgl (by simp))
      have hc9 : Chg [] w w9 := by
        rw [hw9]
        exact chg_turn hc8 (grownBy_putObj' _ D (.deferred none)) (fun r e => by cases e; omega)
      have hgp : g ≠ w.heap.size + 2 := by omega
      rw [← hw9]
      refine ⟨⟨g, w.heap.size + 1, cap, n, .slice none 0 0, ⟨?_, ?_, ?_, World.ownsRow_nil _ _ _ _, by simp [DS.crash], ?_, ?_, ?_, ⟨by simp [DS.crash], by simp [DS.crash]⟩, by omega, by simp [Value.ownBlock], ⟨by simp, by simp, by simp, by simp [Value.ownBlock]⟩, ?_⟩⟩, ?_, hc9⟩
      · rw [h9 _ (fun e => hDpc e.symm), h8p]
        show _ = some (Obj.cells #[.slice (some ⟨g, 0, none⟩) d.n cap, .slice (some ⟨w.heap.size + 1, 0, none⟩) d.n n, .slice none 0 0, .int .i64 (-1), .int .i64 ((0 : Nat) : Int), .bool false] 94 (0, 0))
        rw [← HN.out]
        rfl
      · rw [hf0, show (d.crash ch).n = n from HN.out.symm]
        exact hsecs.keep ((h9 _ (fun e => hDg e.symm)).trans (h8 _ hgp))
      · rw [hf1, show (d.crash ch).n = n from HN.out.symm]
        exact hgl2.keep ((h9 _ (fun e => hDl e.symm)).trans (h8 _ (by omega)))
      · show d.n ≤ 4160
        rw [← HN.out]; exact hfew
      · show d.n ≤ cap ∧ cap ≤ maxLen
        rw [← HN.out]; exact ⟨hcap1, hcap2⟩
      · show d.n ≤ n ∧ n ≤ maxLen
        rw [← HN.out]; exact ⟨Nat.le_refl _, by omega⟩
      · intro x hx
        have hg2 := hlt
        have hs2 := hc2.size
        simp at hx
        rcases hx with rfl | rfl | rfl <;> omega
      · intro x hx
        simp at hx
        rcases hx with rfl | rfl | rfl <;> omega
    have hKD2 : (w2.setCell ⟨w.heap.size + 2, 0, none⟩ (.slice (some ⟨g, 0, none⟩) n cap)).heap[D]? = some (.deferred (some [])) := (Below.heap_setCell w2 ⟨w.heap.size + 2, 0, none⟩ _ D hDpc).trans hKD
    have cp3 : (w2.setCell ⟨w.heap.size + 2, 0, none⟩ (.slice (some ⟨g, 0, none⟩) n cap)).cell? ⟨w.heap.size + 3, 0, none⟩ = some (.pointer (some ⟨w.heap.size + 2, 0, none⟩)) := by
      have h1 := hc2.keep HCC.out.cc (by simp)
      exact blk_cell (blk_sets h1 (by omega)) 0 _ rfl
    have HFIN := Lib.hid hfin
    have HKD2 := Lib.hid hKD2
    clear hgr hc2 hob hgW hKD hrow' he hsecs hDpc hfin hKD2 hrow hg hat
    clear hHeld
    refine hK.out _ _ ?_ (fun hHeld => ?_)
    · exact (HoldC.cons (cp2) (HoldC.cons (c12) HoldC.nil))
    clear hK K
    try simp only [List.getElem_toArray, List.getElem_cons_succ, List.getElem_cons_zero, Act.put, List.setIfInBounds_toArray, List.set_cons_zero, List.set_cons_succ]
    refine wpAnyL_take (i := 6) (oi := _) (v := ?_) rfl (by kernel_rfl) (by kernel_rfl) (by kernel_rfl) (by kernel_rfl) (by kernel_rfl) (fun _ _ _ h => h) (Or.inl ⟨by rfl, ?_⟩) (by assumption) (fun hNew => ?_)
    rotate_left
    · intro w _
      go_simp
      try with_reducible rfl
    clear hHeld
    have hHeld := hNew
    clear hNew
    try simp only [List.getElem_toArray, List.getElem_cons_succ, List.getElem_cons_zero, Act.put, List.setIfInBounds_toArray, List.set_cons_zero, List.set_cons_succ]
    refine wpAnyL_take (i := 7) (oi := _) (v := ?_) rfl (by kernel_rfl) (by kernel_rfl) (by kernel_rfl) (by kernel_rfl) (by kernel_rfl) (fun _ _ _ h => h) (Or.inl ⟨by rfl, ?_⟩) (by assumption) (fun hNew => ?_)
    rotate_left
    · intro w _
      go_simp
      try with_reducible rfl
    clear hHeld
    have hHeld := hNew
    clear hNew
    try simp only [List.getElem_toArray, List.getElem_cons_succ, List.getElem_cons_zero, Act.put, List.setIfInBounds_toArray, List.set_cons_zero, List.set_cons_succ]
    refine wpAnyL_ready (rs := [8]) (by kernel_rfl) (by simp) ?_
    refine AllReadyL.cons (o := _) rfl (fun K hK => ?_) AllReadyL.nil
    try simp only [List.getElem_toArray, List.getElem_cons_succ, List.getElem_cons_zero]
    go_simp
    clear hHeld
    refine hK.out _ _ ?_ (fun hHeld => ?_)
    · exact (HoldC.past (by kernel_rfl) (HoldC.past (by kernel_rfl) HoldC.nil))
    clear hK K
    try simp only [List.getElem_toArray, List.getElem_cons_succ, List.getElem_cons_zero, Act.put, List.setIfInBounds_toArray, List.set_cons_zero, List.set_cons_succ]
    refine wpAnyL_done (by kernel_rfl) ?_ _
    clear hHeld
    simp only [Qn]
    gi_wp2
    refine ⟨by simp, .inl ⟨_, _, rfl, run_takeDeferred HKD2.out, ?_⟩⟩
    exact ⟨_, results_tmp rfl _ _ _, w.heap.size + 2, _, rfl, HFIN.out⟩
end Go.Proofs.YtdkhmfcfihbjeaaGreatDoor.W

/- Package server: a server of the law's own; New, Open, Store. -/
namespace Go.Proofs.YtdkhmfcfihbjeaaGreatDoor.W
open Go.RowKit
set_option linter.unusedVariables false
set_option linter.unusedSimpArgs false

/-- A server all of whose blocks are new since w0, beside the law's own blocks X. -/
structure OwnS (X : List Nat) (w0 w : World) (z q p : Nat) (t : Sto) : Prop where
  sv : ∃ U, SvAt X w z q p U t ∧ ∀ x ∈ U, w0.heap.size ≤ x
  chg : Chg [] w0 w
  newz : w0.heap.size ≤ z
  outz : z ∉ X
section
variable {X Y : List Nat} {w0 w w' : World} {z q p : Nat} {t t' : Sto}
theorem OwnS.gl (h : OwnS X w0 w z q p t) : ∀ x ∈ X, x < w.heap.size := by obtain ⟨U, h1, _⟩ := h.sv; exact h1.st.gl
theorem OwnS.zl (h : OwnS X w0 w z q p t) : z < w.heap.size := by obtain ⟨U, h1, _⟩ := h.sv; exact blk_lt h1.head
theorem OwnS.keep0 (h : OwnS X w0 w z q p t) (hc : Chg [] w w') : OwnS X w0 w' z q p t := by
  obtain ⟨U, h1, h2⟩ := h.sv
  exact ⟨⟨U, h1.keep0 hc, h2⟩, h.chg.trans hc (by simp), h.newz, h.outz⟩
/-- The law writes blocks of its own. -/
theorem OwnS.wrote {T : List Nat} (h : OwnS X w0 w z q p t) (hc : Chg T w w') (hT : ∀ x ∈ T, x ∈ X ∧ w0.heap.size ≤ x) (h8 : ∀ x ∈ T, NoU8 w x) (hY : ∀ x ∈ Y, (x ∈ X ∨ w.heap.size ≤ x) ∧ x < w'.heap.size) : OwnS Y w0 w' z q p t := by
  obtain ⟨U, h1, h2⟩ := h.sv
  have hzT : z ∉ T := fun hm => h.outz (hT z hm).1
  have hzl := h.zl
  refine ⟨⟨U, ⟨hc.keep h1.head hzT, h1.st.regroup hc (fun x hx => (hT x hx).1) h8 h1.far hY, h1.out, fun x hx hm => ?_⟩, h2⟩, h.chg.trans hc (fun x hx => .inr (hT x hx).2), h.newz, fun hm => ?_⟩
  · rcases (hY x hm).1 with h3 | h3
    · exact h1.far x hx h3
    · have := h1.st.lim x hx; omega
  · rcases (hY z hm).1 with h3 | h3
    · exact h.outz h3
    · omega
theorem OwnS.add (h : OwnS X w0 w z q p t) (hc : Chg [] w w') (hY : ∀ x ∈ Y, (x ∈ X ∨ w.heap.size ≤ x) ∧ x < w'.heap.size) : OwnS Y w0 w' z q p t := h.wrote hc (by simp) (by simp) hY
theorem SvAt.did {U : List Nat} (h : SvAt X w z q p U t) (hs : Std X w w' q p U t') : ∃ U', SvAt X w' z q p U' t' ∧ (∀ x ∈ U', x ∈ U ∨ w.heap.size ≤ x) ∧ Chg U w w' := by
  obtain ⟨U', a1, a2, a3⟩ := hs
  have hz := blk_lt h.head
  refine ⟨U', ⟨a3.keep h.head h.out, a1, fun hm => ?_, fun x hx hm => ?_⟩, a2, a3⟩
  · rcases a2 z hm with h3 | h3
    · exact h.out h3
    · omega
  · rcases a2 x hx with h3 | h3
    · exact h.far x h3 hm
    · have := h.st.gl x hm; omega
theorem OwnS.did (h : OwnS X w0 w z q p t) (hs : ∀ U, SvAt X w z q p U t → (∀ x ∈ U, w0.heap.size ≤ x) → Std X w w' q p U t') : OwnS X w0 w' z q p t' ∧ Kp X w w' := by
  obtain ⟨U, h1, h2⟩ := h.sv
  obtain ⟨U', b1, b2, b3⟩ := h1.did (hs U h1 h2)
  have hsz := h.chg.size
  refine ⟨⟨⟨U', b1, fun x hx => ?_⟩, h.chg.trans b3 (fun x hx => .inr (h2 x hx)), h.newz, h.outz⟩, fun x hx => b3.block x (h1.st.gl x hx) (fun hm => h1.far x hm hx)⟩
  rcases b2 x hx with h3 | h3
  · exact h2 x h3
  · omega
/-- Do. -/
def OwnDo (X : List Nat) (w0 w : World) (z q p : Nat) (r : (Rp × Int) × Sto) (e : Ending) (w' : World) : Prop := ∃ v, e = .returned (.tuple #[v, .int .i64 r.1.2]) ∧ RpAt w w' v r.1.1 ∧ OwnS X w0 w' z q p r.2 ∧ Kp X w w'
theorem own_do (h : OwnS X w0 w z q p t) (r : Rq) (bv : Value) (hx : okD r.x) (hb : BytesAt w bv r.b) (hbX : r.b ≠ [] → ∀ k, bv.ownBlock = some k → k < w0.heap.size ∨ k ∈ X) (hbl : r.b.length ≤ 1000000) (hn : 1 ≤ t.s.d.n) (ho : t.s.d.ops ≤ 800000000) (hw : t.s.d.since.length ≤ 800000) :
    Calls Tryz.prog 12 #[.pointer (some ⟨z, 0, none⟩), rqV r bv] w (OwnDo X w0 w z q p (t.run r)) := by
  obtain ⟨U, h1, h2⟩ := h.sv
  refine (svdo_any r bv w h1 hx hb (fun hne k hk hm => ?_) hbl hn ho hw).mono ?_
  · rcases hbX hne k hk with h3 | h3
    · have := h2 k hm; omega
    · exact h1.far k hm h3
  · rintro e w' ⟨v, rfl, hr, hs⟩
    obtain ⟨U', b1, b2, b3⟩ := h1.did hs
    have hsz := h.chg.size
    refine ⟨v, rfl, hr, ⟨⟨U', b1, fun x hx => ?_⟩, h.chg.trans b3 (fun x hx => .inr (h2 x hx)), h.newz, h.outz⟩, fun x hx => b3.block x (h1.st.gl x hx) (fun hm => h1.far x hm hx)⟩
    rcases b2 x hx with h3 | h3
    · exact h2 x h3
    · omega
/-- Do, its outcome told. -/
def DoIs (X : List Nat) (w0 w : World) (z q p : Nat) (o : Rp) (code : Int) (t' : Sto) (e : Ending) (w' : World) : Prop := ∃ a c a' c', e = .returned (.tuple #[.agg #[.int .i64 o.e, .slice a o.b.length c, .slice a' o.ids.length c', .int .i64 o.room, .bool o.whole], .int .i64 code]) ∧
  BytesAt w' (.slice a o.b.length c) o.b ∧ (∀ k, (Value.slice a o.b.length c).ownBlock = some k → w.heap.size ≤ k) ∧ w'.ownsRow w.heap.size 38 4 (.slice a' o.ids.length c') o.ids.length (o.ids.flatMap idE) ∧ OwnS X w0 w' z q p t' ∧ Kp X w w'
theorem own_doI {o : Rp} {code : Int} (h : OwnS X w0 w z q p t) (r : Rq) (bv : Value) (hrun : t.run r = ((o, code), t')) (hx : okD r.x) (hb : BytesAt w bv r.b) (hbX : r.b ≠ [] → ∀ k, bv.ownBlock = some k → k < w0.heap.size ∨ k ∈ X) (hbl : r.b.length ≤ 1000000) (hn : 1 ≤ t.s.d.n) (ho : t.s.d.ops ≤ 800000000) (hw : t.s.d.since.length ≤ 800000) :
    Calls Tryz.prog 12 #[.pointer (some ⟨z, 0, none⟩), .agg #[.int .i64 r.k, .int .i64 r.x.c, .int .i64 r.x.l, .int .i64 r.x.n, .int .i64 r.x.i, bv]] w (DoIs X w0 w z q p o code t') := by
  refine (own_do h r bv hx hb hbX hbl hn ho hw).mono ?_
  rw [hrun]
  rintro e w' ⟨v, rfl, ⟨bv', iv', rfl, hb', hn', hi'⟩, ho', hk'⟩
  obtain ⟨a, c, rfl⟩ := hb'.slice
  obtain ⟨a', c', rfl⟩ : ∃ a c, iv' = .slice a o.ids.length c := by
    rcases hi'.2 with ⟨h1, h2⟩ | ⟨g, cap, cur, h1, _⟩
    · exact ⟨none, 0, by rw [h1]; rw [show o.ids.length = 0 from h2]⟩
    · exact ⟨_, cap, h1⟩
  exact ⟨a, c, a', c', rfl, hb', hn', hi', ho', hk'⟩
set_option maxHeartbeats 2000000 in
theorem own_store (h : OwnS X w0 w z q p t) : Calls Tryz.prog 16 #[.pointer (some ⟨z, 0, none⟩)] w fun e w' => e = .returned (.pointer (some ⟨q, 0, none⟩)) ∧ w = w' := by
  obtain ⟨U, h1, h2⟩ := h.sv
  have c0 := blk_cell h1.head 0 _ rfl
  clear h h1 h2
  go_enter Tryz.func16, Tryz.ntmps16
  go_wp2
  go_ret
  exact ⟨rfl, rfl⟩
theorem owns_disk (h : OwnS X w0 w z q p t) : Calls Tryz.prog 17 #[.pointer (some ⟨q, 0, none⟩)] w fun e w' => e = .returned (.pointer (some ⟨p, 0, none⟩)) ∧ w = w' := by
  obtain ⟨U, h1, h2⟩ := h.sv
  exact stdisk_any w h1.st
theorem owns_whole (h : OwnS X w0 w z q p t) : Calls Tryz.prog 21 #[.pointer (some ⟨q, 0, none⟩)] w fun e w' => e = .returned (.bool t.whole) ∧ w = w' := by
  obtain ⟨U, h1, h2⟩ := h.sv
  exact stwhole_any q p U t w h1.st
theorem owns_crash (h : OwnS X w0 w z q p t) (cv : Value) (ch : List UInt8) (hn0 : 0 < t.s.d.n) (hw : t.s.d.since.length ≤ 1000000) (hcv : BytesAt w cv ch) (hcl : ch.length ≤ 1000000) :
    Calls Tryz.prog 20 #[.pointer (some ⟨p, 0, none⟩), cv] w fun e w' => ∃ p' S', e = .returned (.pointer (some ⟨p', 0, none⟩)) ∧ Newly w w' p' S' (t.s.d.crash ch) := by
  obtain ⟨U, h1, h2⟩ := h.sv
  obtain ⟨S, hd⟩ := h1.st.disk
  exact dcrash_any p S t.s.d cv ch w hd hn0 hw hcv hcl
/-- A new server. -/
def NewS (w0 : World) (t : Sto) (e : Ending) (w' : World) : Prop := ∃ z q p, e = .returned (.tuple #[.pointer (some ⟨z, 0, none⟩), .int .i64 0]) ∧ OwnS [] w0 w' z q p t
theorem ownS_of {w3 : World} (h : Own6 [] w0 w q p t) (hw3 : w3 = w.alloc (.cells #[.pointer (some ⟨q, 0, none⟩)] 87)) : OwnS [] w0 w3 w.heap.size q p t := by
  obtain ⟨U, h1, h2, h3, h4⟩ := h
  subst hw3
  refine ⟨⟨U, ⟨heap_alloc_new w _, h1.keep0 ((Chg.refl [] w).alloc _), fun hm => by have := h1.lim _ hm; omega, by simp⟩, h2⟩, h3.alloc _, h3.size, by simp⟩
set_option maxHeartbeats 4000000 in
set_option maxRecDepth 100000 in
theorem own_newS (hc : Chg [] w0 w) (n : Nat) (h9 : 9 ≤ n) (hm : n ≤ 4160) {d : DS} (hf : (DS.new n).format = ((0, some t), d)) : Calls Tryz.prog 11 #[.int .i64 (n : Int)] w (NewS w0 t) := by
  have CN := Lib.hid (own_disk n w (by omega) hm)
  have HC := Lib.hid hc
  have HF := Lib.hid hf
  clear hc hf
  go_enter Tryz.func11, Tryz.ntmps11
  go_wp2_with fail
  refine CN.out.mono ?_
  rintro e w1 ⟨p, S, rfl, hd1, hS1, hc1⟩
  have CF := Lib.hid (own_format (w0 := w0) hd1 (fun x hx => Nat.le_trans HC.out.size (hS1 x hx)) (HC.out.trans hc1 (by simp)) HF.out)
  clear hd1 hS1 hc1 CN
  go_wp2_with fail
  refine CF.out.mono ?_
  rintro e w2 ⟨q, rfl, ho2⟩
  have HO := Lib.hid (ownS_of ho2 rfl)
  clear ho2 CF
  go_wp2
  go_ret2
  exact ⟨_, q, p, rfl, HO.out⟩
/-- Open, of a disk of the law's own. -/
def OpenS (w0 w : World) (p : Nat) (t : Sto) (e : Ending) (w' : World) : Prop := ∃ z q, e = .returned (.tuple #[.pointer (some ⟨z, 0, none⟩), .int .i64 0]) ∧ OwnS [] w0 w' z q p t ∧ Chg [] w w'
set_option maxHeartbeats 4000000 in
set_option maxRecDepth 100000 in
theorem own_openS {S : List Nat} {d : DS} (hd : DiskAt w p S d) (hS : ∀ x ∈ S, w0.heap.size ≤ x) (hc : Chg [] w0 w) (hr : d.stOpen = (0, some t)) : Calls Tryz.prog 15 #[.pointer (some ⟨p, 0, none⟩)] w (OpenS w0 w p t) := by
  have CO := Lib.hid (stopen_any p S d w hd)
  rw [hr] at CO
  have HC := Lib.hid hc
  have HS := Lib.hid hS
  clear hd hS hc hr
  go_enter Tryz.func15, Tryz.ntmps15
  go_wp2_with fail
  refine CO.out.mono ?_
  rintro e w1 ⟨hc1, q, U, he, hs1, hU1⟩
  subst he
  have HO : Hid (Own6 [] w0 w1 q p t) := Lib.hid ⟨U, hs1, fun x hx => by
    have := HC.out.size
    rcases hU1 x hx with h | h
    · exact HS.out x h
    · omega, HC.out.trans hc1 (by simp), by simp⟩
  have HO2 := Lib.hid (ownS_of HO.out rfl)
  have HC1 := Lib.hid (hc1.alloc (.cells #[.pointer (some ⟨q, 0, none⟩)] 87))
  clear hc1 hs1 hU1 CO
  go_wp2
  go_ret2
  exact ⟨_, q, rfl, HO2.out, HC1.out⟩
end
end Go.Proofs.YtdkhmfcfihbjeaaGreatDoor.W

/- The law's awake of package server; Request, Small. -/
namespace Go.Proofs.YtdkhmfcfihbjeaaGreatDoor.W
open Go.RowKit
set_option linter.unusedVariables false
set_option linter.unusedSimpArgs false

structure Wake20 where
  t0 : Sto
  t1 : Sto
  d : DS
  fmt : (DS.new 25).format = ((0, some t0), d)
  lim0 : 1 ≤ t0.s.d.n ∧ t0.s.d.ops ≤ 25 ∧ t0.s.d.since.length = 0
  lim1 : 1 ≤ t1.s.d.n ∧ t1.s.d.ops ≤ 65 ∧ t1.s.d.since.length = 0
  put : t0.run ⟨1, ⟨1, 0, 5, 2⟩, [9]⟩ = ((⟨0, [], [], 0, false⟩, 0), t1)
  get : t1.run ⟨2, ⟨1, 0, 5, 2⟩, []⟩ = ((⟨0, [9], [], 0, false⟩, 0), t1)
theorem wake20_is : Nonempty Wake20 := by
  obtain ⟨t, d, h1, h2, h3, h4, h5, h6⟩ := Keep.new 25 (by omega)
  have hm : mayId ⟨1, 0, 5, 2⟩ = true := by decide
  obtain ⟨F, p1, p2, p3⟩ := h2.put ⟨1, 0, 5, 2⟩ [9]
  have hr : t.s.rows.length ≤ 20 := by have := h2.kept.full.1; omega
  have hf := step_far t ⟨1, ⟨1, 0, 5, 2⟩, [9]⟩ hr
  have hput : (t.put ⟨1, 0, 5, 2⟩ [9]).1 = 0 ∧ F = setF (fun _ => none) ⟨1, 0, 5, 2⟩ (some [9]) := by
    rcases h2.kept.put_may hm rfl (b := [9]) (by simp) (by omega) with ⟨e1, _⟩ | ⟨_, e2, _⟩
    · rcases p3 with ⟨_, _, e3, _⟩ | ⟨e3, _, _⟩
      · exact ⟨e1, e3⟩
      · exact absurd (e3 e1) (by simp)
    · rw [p1.alive] at e2; cases e2
  have hn' := hf.n
  have ho' := hf.ops
  rw [step1] at hn' ho'
  dsimp only at hn' ho'
  refine ⟨⟨t, (t.put ⟨1, 0, 5, 2⟩ [9]).2, d, h1, ⟨by omega, by omega, by rw [h2.since]; rfl⟩, ⟨by omega, by omega, by rw [p1.since]; rfl⟩, ?_, ?_⟩⟩
  · rw [h2.run, step1, hput.1]
    rfl
  · rw [p1.run, p1.gets, hput.2, setF_self, if_neg (by rw [hm]; simp)]
    rfl
set_option maxHeartbeats 8000000 in
set_option maxRecDepth 100000 in
theorem awake20_any (w : World) : Calls Tryz.prog 9 #[] w fun e w' => e = .returned (.bool true) ∧ Chg [] w w' := by
  obtain ⟨⟨t0, t1, d, hf, hl0, hl1, hp, hg⟩⟩ := wake20_is
  have CN := Lib.hid (own_newS (Chg.refl [] w) 25 (by omega) (by omega) hf)
  have HP := Lib.hid hp
  have HG := Lib.hid hg
  have HL0 := Lib.hid hl0
  have HL1 := Lib.hid hl1
  clear hf hp hg hl0 hl1
  go_enter Tryz.func9, Tryz.ntmps9
  go_wp2_with fail
  refine CN.out.mono ?_
  rintro e w1 ⟨z, q, p, rfl, ho1⟩
  have CI := Lib.hid (lawid_any 1 0 5 2 w1)
  have HO1 := Lib.hid ho1
  clear ho1 CN
  go_wp2_with fail
  refine CI.out.mono ?_
  rintro e w2 ⟨rfl, hc2⟩
  have hcA : Chg [] w2 (w2.alloc (.cells #[bv 9] 5)) := (Chg.refl _ _).alloc _
  have HO2 := Lib.hid ((HO1.out.keep0 hc2).add (Y := [w2.heap.size]) hcA (fun x hx => by rw [List.mem_singleton.1 hx]; exact ⟨.inr (Nat.le_refl _), by simp⟩))
  have CP := Lib.hid (own_doI HO2.out ⟨1, ⟨1, 0, 5, 2⟩, [9]⟩ (.slice (some ⟨w2.heap.size, 0, none⟩) 1 1) HP.out okD_c (one_byte6 w2 9) (fun _ k hk => .inr (by
    obtain rfl : w2.heap.size = k := by simpa [Value.ownBlock] using hk
    simp)) (by simp) HL0.out.1 (by have := HL0.out.2.1; omega) (by have := HL0.out.2.2; omega))
  rw [show bv 9 = .int .u8 9 from rfl] at CP
  dsimp only at CP
  clear hc2 hcA CI HO1
  go_wp2_with fail
  refine CP.out.mono ?_
  rintro e w4 ⟨a4, c4, a5, c5, he, hb4, hn4, hi4, ho4, hk4⟩
  dsimp only at he
  subst he
  have hcB : Chg [] w4 (w4.alloc (.cells #[.int .i64 0, .slice a4 0 c4, .slice a5 0 c5, .int .i64 0, .bool false] 32)) := (Chg.refl _ _).alloc _
  have HO4 := Lib.hid (ho4.add (Y := [w4.heap.size]) hcB (fun x hx => by rw [List.mem_singleton.1 hx]; exact ⟨.inr (Nat.le_refl _), by simp⟩))
  have HA4 := Lib.hid (heap_alloc_new w4 (.cells #[.int .i64 0, .slice a4 0 c4, .slice a5 0 c5, .int .i64 0, .bool false] 32))
  clear hb4 hn4 hi4 ho4 hk4 hcB CP
  have CI := Lib.hid (lawid_any 1 0 5 2 (w4.alloc (.cells #[.int .i64 0, .slice a4 0 c4, .slice a5 0 c5, .int .i64 0, .bool false] 32)))
  go_wp2_with fail
  refine CI.out.mono ?_
  rintro e w5 ⟨rfl, hc5⟩
  have HA5 := Lib.hid (hc5.keep HA4.out (by simp))
  have CG := Lib.hid (own_doI (HO4.out.keep0 hc5) ⟨2, ⟨1, 0, 5, 2⟩, []⟩ (.slice none 0 0) HG.out okD_c (BytesAt.nil _) (by simp) (by simp) HL1.out.1 (by have := HL1.out.2.1; omega) (by have := HL1.out.2.2; omega))
  dsimp only at CG
  clear hc5 CI
  go_wp2_with fail
  refine CG.out.mono ?_
  rintro e w6 ⟨a6, c6, a7, c7, he, hb6, hn6, hi6, ho6, hk6⟩
  dsimp only at he hb6
  subst he
  have HA6 := Lib.hid ((hk6 w4.heap.size (by simp)).trans HA5.out)
  have hcC : Chg [] w6 (w6.alloc (.cells #[.int .i64 0, .slice a6 1 c6, .slice a7 0 c7, .int .i64 0, .bool false] 32)) := (Chg.refl _ _).alloc _
  have HB6 := Lib.hid (hb6.chg hcC (by simp))
  have HC6 := Lib.hid (ho6.chg.trans hcC (by simp))
  have HA7 := Lib.hid (hcC.keep HA6.out (by simp))
  have HN6 := Lib.hid (heap_alloc_new w6 (.cells #[.int .i64 0, .slice a6 1 c6, .slice a7 0 c7, .int .i64 0, .bool false] 32))
  clear hb6 hn6 hi6 ho6 hk6 hcC CG
  obtain ⟨w7, hw7⟩ : ∃ w7, w7 = w6.alloc (.cells #[.int .i64 0, .slice a6 1 c6, .slice a7 0 c7, .int .i64 0, .bool false] 32) := ⟨_, rfl⟩
  rw [← hw7] at HB6 HC6 HA7 HN6
  have p0 := blk_cell HA7.out 0 _ rfl
  have p1 := blk_cell HN6.out 0 _ rfl
  have p2 := blk_cell HN6.out 1 _ rfl
  rw [hw7] at p0 p1 p2
  have HW7 := Lib.hid hw7
  have hcD : Chg [] w7 (w7.alloc (.cells #[bv 9] 5)) := (Chg.refl _ _).alloc _
  have CS := Lib.hid (same_any (.slice a6 1 c6) (.slice (some ⟨w7.heap.size, 0, none⟩) 1 1) [9] [9] (w7.alloc (.cells #[bv 9] 5)) (HB6.out.chg hcD (by simp)) (one_byte6 w7 9) (by simp) (by simp))
  rw [decide_eq_true rfl, show bv 9 = .int .u8 9 from rfl, show w7.heap.size = w6.heap.size + 1 by rw [hw7]; simp] at CS
  have HCD := Lib.hid hcD
  clear hw7 hcD
  go_wp2_with fail
  rw [← HW7.out]
  refine CS.out.mono ?_
  rintro e w8 ⟨rfl, nn, hq⟩
  have HCF : Hid (Chg [] w w8) := Lib.hid (by rw [hq]; exact (HC6.out.trans HCD.out (by simp)).drewN nn)
  clear hq
  go_wp2
  go_ret
  exact ⟨rfl, HCF.out⟩
end Go.Proofs.YtdkhmfcfihbjeaaGreatDoor.W

/- Bytes that came in. -/
namespace Go.Proofs.YtdkhmfcfihbjeaaGreatDoor.W
open Go.RowKit Go.ChangeShapes Go.WideShapes
set_option linter.unusedVariables false
set_option linter.unusedSimpArgs false

/-- Bytes that came in. -/
def Came (w : World) (v : Value) (l : List UInt8) : Prop := BytesAt w v l ∧ (l ≠ [] → ∀ k, v.ownBlock = some k → k < w.heap.size)
theorem Came.chg {w w' : World} {v : Value} {l : List UInt8} (h : Came w v l) (hc : Chg [] w w') : Came w' v l := ⟨h.1.chg hc (by simp), fun hl k hk => Nat.lt_of_lt_of_le (h.2 hl k hk) hc.size⟩
theorem toU8 (z : Int) (h : (Lit.int .u8 z).wf = true) : .int .u8 z = bv (UInt8.ofNat z.toNat) := by
  simp [Lit.wf, IntKind.min, IntKind.max, IntKind.signed, IntKind.bits] at h
  unfold bv
  rw [UInt8.toNat_ofNat']
  congr 1
  omega

section
variable {H : Type} {enc : TypeId × Value → H} {w : World} {base : Nat} {held : Bool}
/-- A slice of bytes that came in. -/
theorem open_came {fuel : Nat} {cs : List Value} {x : DataW H × List MemPlace} (h : DataW.trod enc Tryz.prog w base (fun _ => true) held fuel 30 cs = some x) : ∃ v l, cs = [v] ∧ Came w v l ∧ l.length ≤ maxLen := by
  rcases open_ints Tryz.underlying30 Tryz.underlying5 (by kernel_rfl) h with ⟨rfl, _⟩ | ⟨a, len, cap, zs, rfl, _, hl, hm, hz, _, hcell, hwf⟩
  · exact ⟨_, [], rfl, ⟨BytesAt.nil _, by simp⟩, by unfold maxLen; simp⟩
  · replace hz : zs.length = cap := by simpa using hz
    have hlen : ((zs.take len).map (fun z => UInt8.ofNat z.toNat)).length = len := by rw [List.length_map, List.length_take]; omega
    have hg : ∀ i, i < len → ((zs.take len).map (fun z => UInt8.ofNat z.toNat)).getD i 0 = UInt8.ofNat (zs.getD i 0).toNat := by
      intro i hi
      rw [List.getD_eq_getElem?_getD, List.getElem?_map, List.getElem?_take, if_pos hi, List.getD_eq_getElem?_getD, List.getElem?_eq_getElem (by omega)]
      rfl
    have hw : ∀ i, i < zs.length → (Lit.int .u8 (zs.getD i 0)).wf = true := fun i hi => hwf _ (by
      rw [List.getD_eq_getElem?_getD, List.getElem?_eq_getElem hi]
      exact List.getElem_mem hi)
    refine ⟨_, (zs.take len).map (fun z => UInt8.ofNat z.toNat), rfl, ?_, by rw [hlen]; omega⟩
    by_cases hc0 : cap = 0
    · have h0 : len = 0 := by omega
      subst hc0; subst h0
      have hnil : (zs.take 0).map (fun z => UInt8.ofNat z.toNat) = [] := by simp
      rw [hnil]
      exact ⟨⟨some a, 0, rfl, Nat.le_refl _, by unfold maxLen; omega, .inl ⟨rfl, rfl⟩⟩, fun h => absurd rfl h⟩
    · obtain ⟨g, o, spot⟩ := a
      have hc := hcell 0 (by omega)
      have hspot : spot = none := by simpa [Addr.add] using World.cell?_spot hc
      subst hspot
      have hlt : g < w.heap.size := by
        have := World.block_lt_of_cell? w _ hc
        simpa [Addr.add] using this
      refine ⟨⟨some ⟨g, o, none⟩, cap, by rw [hlen], by omega, hm, .inr ⟨g, o, rfl, fun i hi => ?_⟩⟩, fun _ k hk => ?_⟩
      · rw [hlen] at hi
        have := hcell i (by omega)
        rw [add_none] at this
        rw [this, hg i hi, ← toU8 _ (hw i (by omega))]
      · obtain rfl : g = k := by simpa [Value.ownBlock] using hk
        exact hlt
end
theorem IsRow.came {w : World} {a : Option Addr} {len cap : Nat} {zs : List Int} (h : IsRow .u8 w a len cap zs) : ∃ l, l.length = len ∧ len ≤ maxLen ∧ Came w (.slice a len cap) l := by
  rcases h with ⟨rfl, rfl, rfl, rfl⟩ | ⟨x, rfl, h1, h2, h3, h4, h5⟩
  · exact ⟨[], rfl, by unfold maxLen; omega, BytesAt.nil w, by simp⟩
  · have hlen : ((zs.take len).map (fun z => UInt8.ofNat z.toNat)).length = len := by rw [List.length_map, List.length_take]; omega
    have hg : ∀ i, i < len → ((zs.take len).map (fun z => UInt8.ofNat z.toNat)).getD i 0 = UInt8.ofNat (zs.getD i 0).toNat := by
      intro i hi
      rw [List.getD_eq_getElem?_getD, List.getElem?_map, List.getElem?_take, if_pos hi, List.getD_eq_getElem?_getD, List.getElem?_eq_getElem (by omega)]
      rfl
    have hw : ∀ i, i < zs.length → (Lit.int .u8 (zs.getD i 0)).wf = true := fun i hi => h5 _ (by
      rw [List.getD_eq_getElem?_getD, List.getElem?_eq_getElem hi]
      exact List.getElem_mem hi)
    refine ⟨_, hlen, by omega, ?_⟩
    by_cases hl0 : len = 0
    · subst hl0
      have hnil : (zs.take 0).map (fun z => UInt8.ofNat z.toNat) = [] := by simp
      rw [hnil]
      by_cases hc0 : cap = 0
      · subst hc0
        exact ⟨⟨some x, 0, rfl, Nat.le_refl _, by unfold maxLen; omega, .inl ⟨rfl, rfl⟩⟩, by simp⟩
      · obtain ⟨g, o, spot⟩ := x
        have hc := h4 0 (by omega)
        have hspot : spot = none := by simpa [Addr.add] using World.cell?_spot hc
        subst hspot
        exact ⟨⟨some ⟨g, o, none⟩, cap, rfl, by simp, h2, .inr ⟨g, o, rfl, by simp⟩⟩, by simp⟩
    · obtain ⟨g, o, spot⟩ := x
      have hc := h4 0 (by omega)
      have hspot : spot = none := by simpa [Addr.add] using World.cell?_spot hc
      subst hspot
      have hlt : g < w.heap.size := by
        have := World.block_lt_of_cell? w _ hc
        simpa [Addr.add] using this
      refine ⟨⟨some ⟨g, o, none⟩, cap, by rw [hlen], by omega, h2, .inr ⟨g, o, rfl, fun i hi => ?_⟩⟩, fun _ k hk => ?_⟩
      · rw [hlen] at hi
        have := h4 i (by omega)
        rw [add_none] at this
        rw [this, hg i hi, ← toU8 _ (hw i (by omega))]
      · obtain rfl : g = k := by simpa [Value.ownBlock] using hk
        exact hlt
end Go.Proofs.YtdkhmfcfihbjeaaGreatDoor.W

/- Requests that came in; the laws' Small and Request. -/
namespace Go.Proofs.YtdkhmfcfihbjeaaGreatDoor.W
open Go.RowKit Go.ChangeShapes Go.WideShapes
set_option linter.unusedVariables false
set_option linter.unusedSimpArgs false

structure RqIn (w : World) (r : Rq) (bv : Value) : Prop where
  came : Came w bv r.b
  long : r.b.length ≤ maxLen
  wk : okW r.k
  wx : okD r.x
instance : Inhabited (Rq × Value) := ⟨⟨0, ⟨0, 0, 0, 0⟩, []⟩, .slice none 0 0⟩
structure RqAt (w : World) (g p : Nat) (r : Rq × Value) : Prop where
  c0 : w.cell? ⟨g, p, none⟩ = some (.int .i64 r.1.k)
  c1 : w.cell? ⟨g, p + 1, none⟩ = some (.int .i64 r.1.x.c)
  c2 : w.cell? ⟨g, p + 2, none⟩ = some (.int .i64 r.1.x.l)
  c3 : w.cell? ⟨g, p + 3, none⟩ = some (.int .i64 r.1.x.n)
  c4 : w.cell? ⟨g, p + 4, none⟩ = some (.int .i64 r.1.x.i)
  c5 : w.cell? ⟨g, p + 5, none⟩ = some r.2
  inn : RqIn w r.1 r.2
def RqsAt (w : World) (a : Option Addr) (n : Nat) (f : Nat → Rq × Value) : Prop := n = 0 ∨ ∃ g o, a = some ⟨g, o, none⟩ ∧ ∀ i, i < n → RqAt w g (o + i * 6) (f i)
theorem RqIn.keep {w w' : World} {r : Rq} {bv : Value} (h : RqIn w r bv) (hc : Chg [] w w') : RqIn w' r bv := ⟨h.came.chg hc, h.long, h.wk, h.wx⟩
theorem RqAt.keep {w w' : World} {g p : Nat} {r : Rq × Value} (h : RqAt w g p r) (hc : Chg [] w w') : RqAt w' g p r :=
  ⟨hc.cell h.c0 (by simp), hc.cell h.c1 (by simp), hc.cell h.c2 (by simp), hc.cell h.c3 (by simp), hc.cell h.c4 (by simp), hc.cell h.c5 (by simp), h.inn.keep hc⟩
theorem RqsAt.keep {w w' : World} {a : Option Addr} {n : Nat} {f : Nat → Rq × Value} (h : RqsAt w a n f) (hc : Chg [] w w') : RqsAt w' a n f := by
  rcases h with h | ⟨g, o, rfl, h⟩
  · exact .inl h
  · exact .inr ⟨g, o, rfl, fun i hi => (h i hi).keep hc⟩
section
variable {H : Type} {enc : TypeId × Value → H} {w : World} {base : Nat} {held : Bool}
theorem fieldsQ : ∃ f0 f1 f2 : Field, Tryz.prog.underlying 42 = some (.struct #[f0, f1, f2]) ∧ f0.offset = 0 ∧ f1.offset = 1 ∧ f2.offset = 5 ∧
    Tryz.prog.underlying f0.type = some (.int .i64) ∧ f1.type = 38 ∧ f2.type = 30 ∧ Tryz.prog.cellsOf f0.type = 1 ∧ Tryz.prog.cellsOf f2.type = 1 :=
  ⟨_, _, _, Tryz.underlying42, rfl, rfl, rfl, by kernel_rfl, rfl, rfl, by kernel_rfl, by kernel_rfl⟩
theorem cellsQ : Tryz.prog.cellsOf 42 = 6 := by kernel_rfl
theorem open_rqc {fuel : Nat} {v0 v1 v2 v3 v4 v5 : Value} {x : DataW H × List MemPlace} (h : DataW.trod enc Tryz.prog w base (fun _ => true) held fuel 42 [v0, v1, v2, v3, v4, v5] = some x) : ∃ r : Rq, v0 = .int .i64 r.k ∧ v1 = .int .i64 r.x.c ∧ v2 = .int .i64 r.x.l ∧ v3 = .int .i64 r.x.n ∧ v4 = .int .i64 r.x.i ∧ RqIn w r v5 := by
  obtain ⟨f0, f1, f2, hs, o0, o1, o2, t0, t1, t2, c0, c2⟩ := fieldsQ
  obtain ⟨xs, k, hk, hxy, _, hxl, hf⟩ := DataW.trod_struct hs h
  match xs, hxl with
  | [y0, y1, y2], _ =>
    have g0 := hf 0 f0 rfl
    have g1 := hf 1 f1 rfl
    have g2 := hf 2 f2 rfl
    rw [t1] at g1
    simp [o0, o1, o2, c0, c2, cells_id] at g0 g1 g2
    rw [t2] at g2
    obtain ⟨z0, q0, _, z0w⟩ := DataW.trod_int t0 g0
    obtain ⟨y, hy, rfl, rfl, rfl, rfl⟩ := open_idc g1
    obtain ⟨z3, l3, q3, m3, ml⟩ := open_came g2
    simp at q0 q3
    subst q0; subst q3
    refine ⟨⟨z0, y, l3⟩, rfl, rfl, rfl, rfl, rfl, m3, ml, ?_, hy⟩
    first | exact z0w | exact z0w.1
set_option maxRecDepth 100000 in
theorem open_rqs {fuel : Nat} {cs : List Value} {x : DataW H × List MemPlace} (h : DataW.trod enc Tryz.prog w base (fun _ => true) held fuel 22 cs = some x) :
    (cs = [.slice none 0 0]) ∨ ∃ (a : Addr) (len cap : Nat) (f : Nat → Rq × Value), cs = [.slice (some a) len cap] ∧ len ≤ cap ∧ cap ≤ maxLen ∧ RqsAt w (some a) len f := by
  rcases Go.Deep.open_slice Tryz.underlying22 h with ⟨h0, _⟩ | ⟨a, len, cap, m, n, D, Pl, rfl, hb, hl, hm, hmm, hx, hel⟩
  · exact .inl h0
  · right
    have hlm : len ≤ m := by rw [hmm]; split <;> omega
    have each : ∀ i, i < len → ∃ r : Rq × Value, w.cell? (a.add (i * 6)) = some (.int .i64 r.1.k) ∧ w.cell? (a.add (i * 6 + 1)) = some (.int .i64 r.1.x.c) ∧ w.cell? (a.add (i * 6 + 2)) = some (.int .i64 r.1.x.l) ∧ w.cell? (a.add (i * 6 + 3)) = some (.int .i64 r.1.x.n) ∧
        w.cell? (a.add (i * 6 + 4)) = some (.int .i64 r.1.x.i) ∧ w.cell? (a.add (i * 6 + 5)) = some r.2 ∧ RqIn w r.1 r.2 := by
      intro i hi
      obtain ⟨cs', h1, h2⟩ := hel i (by omega)
      rw [cellsQ] at h1
      obtain ⟨_, hlen, hcell⟩ := World.cells?_some h1
      match cs', hlen with
      | [v0, v1, v2, v3, v4, v5], _ =>
        obtain ⟨y, rfl, rfl, rfl, rfl, rfl, hy⟩ := open_rqc h2
        have e0 := hcell 0 (by omega)
        have e1 := hcell 1 (by omega)
        have e2 := hcell 2 (by omega)
        have e3 := hcell 3 (by omega)
        have e4 := hcell 4 (by omega)
        have e5 := hcell 5 (by omega)
        rw [Go.Deep.add_add] at e0 e1 e2 e3 e4 e5
        exact ⟨(y, v5), by simpa using e0, by simpa using e1, by simpa using e2, by simpa using e3, by simpa using e4, by simpa using e5, hy⟩
    obtain ⟨f, hf⟩ := Go.Deep.choose_lt each
    refine ⟨a, len, cap, f, rfl, hl, hm, ?_⟩
    by_cases h0 : len = 0
    · exact .inl h0
    · right
      obtain ⟨g, o, spot⟩ := a
      have hc := (hf 0 (by omega)).1
      have hspot : spot = none := by simpa [Addr.add] using World.cell?_spot hc
      subst hspot
      refine ⟨g, o, rfl, fun i hi => ?_⟩
      obtain ⟨c0, c1, c2, c3, c4, c5, hy⟩ := hf i hi
      rw [add_none] at c0 c1 c2 c3 c4 c5
      exact ⟨c0, by simpa [Nat.add_assoc] using c1, by simpa [Nat.add_assoc] using c2, by simpa [Nat.add_assoc] using c3, by simpa [Nat.add_assoc] using c4, by simpa [Nat.add_assoc] using c5, hy⟩
end
def FewQ (n most : Nat) (f : Nat → Rq × Value) : Prop := n ≤ most ∧ ∀ i, i < n → (f i).1.b.length ≤ 600
set_option maxHeartbeats 8000000 in
set_option maxRecDepth 100000 in
theorem small20_any (a : Option Addr) (n cap most : Nat) (f : Nat → Rq × Value) (w : World) (h : RqsAt w a n f) (hm : most ≤ 1000) :
    Calls Tryz.prog 10 #[.slice a n cap, .int .i64 (most : Int)] w fun e w' => (e = .returned (.bool true) ∧ FewQ n most f ∨ e = .returned (.bool false)) ∧ w = w' := by
  by_cases hn : n ≤ most
  · have hz : ¬ (most : Int) < (n : Int) := by omega
    have HD := Lib.hid h
    clear h
    go_enter Tryz.func10, Tryz.ntmps10
    go_wp2
    go_loopg [5] n (fun g' s5 wr => ∃ k : Nat, s5 = .int .i64 k ∧ k ≤ n ∧ n ≤ k + g' ∧ w = wr ∧ Hid (∀ i, i < k → (f i).1.b.length ≤ 600))
    case atStart => exact ⟨0, rfl, by omega, by omega, rfl, Lib.hid (fun i hi => by omega)⟩
    case round =>
      obtain ⟨k, rfl, hk, hkg, rfl, HF⟩ := hrel
      by_cases hlt : k < n
      · obtain ⟨g, o, rfl, hc⟩ : ∃ g o, a = some ⟨g, o, none⟩ ∧ ∀ i, i < n → RqAt w g (o + i * 6) (f i) := by
          rcases HD.out with h | h
          · omega
          · exact h
        have hd := hc k hlt
        have c6 := hd.c5
        obtain ⟨a4, q4, e4⟩ := hd.inn.came.1.slice
        have hll := hd.inn.long
        rw [e4] at c6
        clear hc hd e4
        have hkz : (k : Int) < (n : Int) := by omega
        have hkz1 : (k : Int).toNat = k := by omega
        obtain ⟨l4, h4⟩ : ∃ l4, l4 = (f k).1.b.length := ⟨_, rfl⟩
        rw [← h4] at c6 hll
        have H4 := Lib.hid h4
        have hl5 : l4 ≤ 9223372036854775807 := by unfold maxLen at hll; omega
        clear h4
        by_cases hsb : l4 ≤ 600
        · have hz4 : ¬ (600 : Int) < (l4 : Int) := by omega
          go_wp2
          go_roundg (gk - 1)
          case measure => omega
          case rel => exact ⟨k + 1, by go_num, by omega, by omega, rfl, Lib.hid (fun i hi => by
            by_cases hik : i = k
            · subst hik; rw [← H4.out]; exact hsb
            · exact HF.out i (by omega))⟩
        · have hz4 : (600 : Int) < (l4 : Int) := by omega
          go_wp2
          go_ret
          exact ⟨.inr rfl, rfl⟩
      · have hkn : k = n := by omega
        go_wp2
        go_ret
        exact ⟨.inl ⟨rfl, hn, fun i hi => HF.out i (by omega)⟩, rfl⟩
  · have hz : (most : Int) < (n : Int) := by omega
    clear h
    go_enter Tryz.func10, Tryz.ntmps10
    go_wp2
    go_ret
    exact ⟨.inr rfl, rfl⟩
theorem ret_rq1 {fn : Func} {p : Tmp} (h : fn.results = #[.cell p 40]) (tmps : Array Value) {w : World} {b t : Nat} {r : Rq} {bv : Value} (hp : tmps.getD p undef = .pointer (some ⟨b, 0, none⟩)) (hb : w.heap[b]? = some (.cells (rqL r bv).toArray t (0, 0))) :
    (results fn tmps).run Tryz.prog w = .ok (rqV r bv) w := by
  have hl := run_loadVar_row (P := Tryz.prog) w b t 40 (rqL r bv).toArray (0, 0) _ hb Tryz.underlying40 rfl (rq_size _ _)
  have he : (results fn tmps).run Tryz.prog w = ((asAddr (tmps.getD p undef)).run Tryz.prog w).andThen fun a w₁ => (loadVar 40 a).run Tryz.prog w₁ := by
    simp only [results, h]
    simp [Sem.run_bind, Result.andThen]
  rw [he, hp]
  simp only [asAddr, Sem.run_pure, Result.andThen_ok, hl]
  rfl
set_option maxHeartbeats 4000000 in
set_option maxRecDepth 100000 in
/-- Request: the reference's as ours. -/
theorem request20_any (r : Rq) (a : Option Addr) (n c : Nat) (w : World) : Calls Tryz.prog 13 #[.agg #[.int .i64 r.k, .int .i64 r.x.c, .int .i64 r.x.l, .int .i64 r.x.n, .int .i64 r.x.i, .slice a n c]] w fun e w' => e = .returned (.agg #[.int .i64 r.k, .int .i64 r.x.c, .int .i64 r.x.l, .int .i64 r.x.n, .int .i64 r.x.i, .slice a n c]) ∧ Chg [] w w' := by
  obtain ⟨k, ⟨xc, xl, xn, xi⟩, b⟩ := r
  dsimp only
  have HC := Lib.hid (((Chg.refl [] w).alloc (.cells #[.int .i64 k, .int .i64 xc, .int .i64 xl, .int .i64 xn, .int .i64 xi, .slice a n c] 42)).alloc (.cells #[.int .i64 k, .int .i64 xc, .int .i64 xl, .int .i64 xn, .int .i64 xi, .slice a n c] 40))
  have HX : Hid (((w.alloc (.cells #[.int .i64 k, .int .i64 xc, .int .i64 xl, .int .i64 xn, .int .i64 xi, .slice a n c] 42)).alloc (.cells #[.int .i64 k, .int .i64 xc, .int .i64 xl, .int .i64 xn, .int .i64 xi, .slice a n c] 40)).heap[w.heap.size + 1]? = some (.cells #[.int .i64 k, .int .i64 xc, .int .i64 xl, .int .i64 xn, .int .i64 xi, .slice a n c] 40 (0, 0))) := Lib.hid (heap_at (by simp))
  go_enter Tryz.func13, Tryz.ntmps13
  go_wp2_with fail
  refine bodyPost_ret (ret_rq1 (r := ⟨k, ⟨xc, xl, xn, xi⟩, b⟩) (bv := .slice a n c) rfl _ rfl HX.out) rfl ⟨rfl, HC.out⟩
end Go.Proofs.YtdkhmfcfihbjeaaGreatDoor.W

/- Package server: Get changes nothing. -/
namespace Go.Proofs.YtdkhmfcfihbjeaaGreatDoor.W
open Go.RowKit
set_option linter.unusedVariables false
set_option linter.unusedSimpArgs false
section
variable {G U : List Nat} {z q p : Nat} {t : Sto}
set_option maxHeartbeats 4000000 in
set_option maxRecDepth 100000 in
theorem svget2_any (r : Rq) (bv : Value) (w : World) (h : SvAt G w z q p U t) (hb : ∃ a n c, bv = .slice a n c) (hx : okD r.x) :
    Calls Tryz.prog 83 #[.pointer (some ⟨z, 0, none⟩), rqV r bv] w (fun e w' => DeedPost G w q p U ⟨lostOf t.whole (t.get r.x).2, (t.get r.x).1, [], 0, false⟩ t e w' ∧ Chg [] w w') := by
  have HE0 := Lib.hid (h.begins r bv)
  obtain ⟨w2, hw2⟩ : ∃ w2, w2 = (w.alloc (.cells (rqL r bv).toArray 40)).alloc (.cells zeroRp 32) := ⟨_, rfl⟩
  rw [← hw2] at HE0
  have HE := Lib.hid HE0.out.drew
  have c0 := blk_cell HE0.out.head 0 _ rfl
  have c00 := blk_cell h.head 0 _ rfl
  obtain ⟨B, hB⟩ : ∃ B, B = w.heap.size := ⟨_, rfl⟩
  have hrq := HE0.out.rq
  rw [← hB] at hrq
  have q1 := blk_cell hrq 1 _ rfl
  have q2 := blk_cell hrq 2 _ rfl
  have q3 := blk_cell hrq 3 _ rfl
  have q4 := blk_cell hrq 4 _ rfl
  have q5 := blk_cell hrq 5 _ rfl
  have HRP := Lib.hid HE0.out.rp
  rw [← hB] at HRP
  have HH := Lib.hid h
  have HW2 := Lib.hid hw2
  have HB := Lib.hid hB
  have CP := Lib.hid (stget_any q p U t r.x w2.drew HE.out.st hx)
  obtain ⟨o, hoe⟩ : ∃ o, o = t.get r.x := ⟨_, rfl⟩
  rw [← hoe] at CP
  rw [← hoe]
  obtain ⟨b3, e3⟩ := o
  have CWH := Lib.hid (fun w' (hc : Chg [] w2.drew w') => stwhole_any q p U t w' (HE.out.st.keep0 hc))
  obtain ⟨wh, hwh⟩ : ∃ wh, wh = t.whole := ⟨_, rfl⟩
  rw [← hwh] at CWH
  rw [← hwh]
  clear hx hoe hwh
  obtain ⟨k, ⟨xc, xl, xn, xi⟩, b⟩ := r
  obtain ⟨ba, bn, bc, hbv⟩ := hb
  subst hbv
  clear hw2 hB hrq HE0 h
  unfold rqV rqL
  unfold rqL at HW2
  try dsimp only at q1 q2 q3 q4 q5
  unfold idV idC at CP
  try dsimp only at CP
  rw [show zeroRp = #[.int .i64 0, .slice none 0 0, .slice none 0 0, .int .i64 0, .bool false] from rfl] at HW2
  have c0L := c0
  rw [HW2.out] at c0L
  go_enter Tryz.func83, Tryz.ntmps83
  go_wp2_with fail
  clear c0L
  rw [← HB.out]
  rw [← HW2.out]
  refine wp_region_L [(6, fun w' => w'.cell? ⟨z, 0, none⟩ = some (.pointer (some ⟨q, 0, none⟩))), (6, fun w' => (w'.cell? ⟨B, 1, none⟩ = some (.int .i64 xc) ∧ w'.cell? ⟨B, 2, none⟩ = some (.int .i64 xl) ∧ w'.cell? ⟨B, 3, none⟩ = some (.int .i64 xn) ∧ w'.cell? ⟨B, 4, none⟩ = some (.int .i64 xi)))] (by kernel_rfl) ?_ (fun hHeld => ?_)
  · exact (HoldC.cons (c0) (HoldC.cons (⟨q1, q2, q3, q4⟩) HoldC.nil))
  refine wpAnyL_take (i := 0) (oi := _) (v := ?_) rfl (by kernel_rfl) (by kernel_rfl) (by kernel_rfl) (by kernel_rfl) (by kernel_rfl) (fun _ _ _ h => h) (Or.inl ⟨by rfl, ?_⟩) (by assumption) (fun hNew => ?_)
  rotate_left
  · intro w _
    go_simp
    try with_reducible rfl
  clear hHeld
  have hHeld := hNew
  clear hNew
  try simp only [List.getElem_toArray, List.getElem_cons_succ, List.getElem_cons_zero, Act.put, List.setIfInBounds_toArray, List.set_cons_zero, List.set_cons_succ]
  refine wpAnyL_take (i := 1) (oi := _) (v := ?_) rfl (by kernel_rfl) (by kernel_rfl) (by kernel_rfl) (by kernel_rfl) (by kernel_rfl) (fun _ _ _ h => h) (Or.inl ⟨by rfl, ?_⟩) (by assumption) (fun hNew => ?_)
  rotate_left
  · intro w _
    go_simp
    try with_reducible rfl
  clear hHeld
  have hHeld := hNew
  clear hNew
  try simp only [List.getElem_toArray, List.getElem_cons_succ, List.getElem_cons_zero, Act.put, List.setIfInBounds_toArray, List.set_cons_zero, List.set_cons_succ]
  refine wpAnyL_take (i := 2) (oi := _) (v := ?_) rfl (by kernel_rfl) (by kernel_rfl) (by kernel_rfl) (by kernel_rfl) (by kernel_rfl) (fun _ _ _ h => h) (Or.inl ⟨by rfl, ?_⟩) (by assumption) (fun hNew => ?_)
  rotate_left
  · intro w _
    go_simp
    try with_reducible rfl
  clear hHeld
  have hHeld := hNew
  clear hNew
  try simp only [List.getElem_toArray, List.getElem_cons_succ, List.getElem_cons_zero, Act.put, List.setIfInBounds_toArray, List.set_cons_zero, List.set_cons_succ]
  refine wpAnyL_take (i := 4) (oi := _) (v := ?_) rfl (by kernel_rfl) (by kernel_rfl) (by kernel_rfl) (by kernel_rfl) (by kernel_rfl) (fun _ _ _ h => h) (Or.inl ⟨by rfl, ?_⟩) (by assumption) (fun hNew => ?_)
  rotate_left
  · intro w _
    go_simp
    try with_reducible rfl
  clear hHeld
  have hHeld := hNew
  clear hNew
  try simp only [List.getElem_toArray, List.getElem_cons_succ, List.getElem_cons_zero, Act.put, List.setIfInBounds_toArray, List.set_cons_zero, List.set_cons_succ]
  refine wpAnyL_load 0 (i := 3) (oi := _) (v := ?_) rfl rfl (by kernel_rfl) (by kernel_rfl) (by kernel_rfl) (by kernel_rfl) (by kernel_rfl) (by kernel_rfl) (fun _ _ _ h => h) (Or.inl ⟨by rfl, ?_⟩) (by assumption) (fun hNew => ?_)
  rotate_left
  · intro w hSw
    (try dsimp only at hSw)
    go_simp
    try with_reducible rfl
  clear hHeld
  have hHeld := hNew
  clear hNew
  try simp only [List.getElem_toArray, List.getElem_cons_succ, List.getElem_cons_zero, Act.put, List.setIfInBounds_toArray, List.set_cons_zero, List.set_cons_succ]
  refine wpAnyL_load 1 (i := 5) (oi := _) (v := ?_) rfl rfl (by kernel_rfl) (by kernel_rfl) (by kernel_rfl) (by kernel_rfl) (by kernel_rfl) (by kernel_rfl) (fun _ _ _ h => h) (Or.inl ⟨by rfl, ?_⟩) (by assumption) (fun hNew => ?_)
  rotate_left
  · intro w hSw
    (try dsimp only at hSw)
    go_simp
    try with_reducible rfl
  clear hHeld
  have hHeld := hNew
  clear hNew
  try simp only [List.getElem_toArray, List.getElem_cons_succ, List.getElem_cons_zero, Act.put, List.setIfInBounds_toArray, List.set_cons_zero, List.set_cons_succ]
  refine wpAnyL_ready (rs := [6]) (by kernel_rfl) (by simp) ?_
  refine AllReadyL.cons (o := _) rfl (fun K hK => ?_) AllReadyL.nil
  try simp only [List.getElem_toArray, List.getElem_cons_succ, List.getElem_cons_zero]
  go_simp
  refine CP.out.mono ?_
  rintro e w3 ⟨⟨v3, rfl, hb3, hn3⟩, hc3⟩
  dsimp only at hb3
  obtain ⟨a3, c3, rfl⟩ := hb3.slice
  have hz3 := hc3.keep HE.out.rp (by simp)
  rw [← HB.out] at hz3
  have HZ3 := Lib.hid hz3
  have HN3 : Hid (∀ g, (Value.slice a3 b3.length c3).ownBlock = some g → w.heap.size ≤ g) := Lib.hid (fun g hg => Nat.le_trans HE.out.chg.size (hn3 g hg))
  have HBX : Hid (∀ u, BytesAt (w3.setCells (B + 1) 0 u) (.slice a3 b3.length c3) b3) := Lib.hid (fun u => hb3.chg (S := [B + 1]) ((Chg.refl _ w3).setCells (.inl (by simp)) u) (fun g hg hm => by
    have h1 := hn3 g hg
    have h2 := (HE.out.new _ (List.mem_cons_self ..)).2
    rw [← HB.out] at h2
    have := List.mem_singleton.1 hm
    omega))
  have CW3 := Lib.hid (CWH.out w3 hc3)
  have HC3 := Lib.hid hc3
  have HCE : Hid (∀ u, Chg [] w (w3.setCells (B + 1) 0 u)) := Lib.hid (fun u => ((HE.out.chg.trans hc3 (by simp)).setCells (.inr (by rw [HB.out]; omega)) u))
  have c3z := hc3.cell (show w2.drew.cell? ⟨z, 0, none⟩ = some (.pointer (some ⟨q, 0, none⟩)) from c0) (by simp)
  clear hz3 hb3 hn3 hc3 CP CWH c0 c00 q1 q2 q3 q4 q5
  clear hHeld
  refine hK.out _ _ ?_ (fun hHeld => ?_)
  · exact (HoldC.past (by kernel_rfl) (HoldC.past (by kernel_rfl) HoldC.nil))
  clear hK K
  try simp only [List.getElem_toArray, List.getElem_cons_succ, List.getElem_cons_zero, Act.put, List.setIfInBounds_toArray, List.set_cons_zero, List.set_cons_succ]
  refine wpAnyL_take (i := 7) (oi := _) (v := ?_) rfl (by kernel_rfl) (by kernel_rfl) (by kernel_rfl) (by kernel_rfl) (by kernel_rfl) (fun _ _ _ h => h) (Or.inl ⟨by rfl, ?_⟩) (by assumption) (fun hNew => ?_)
  rotate_left
  · intro w _
    go_simp
    try with_reducible rfl
  clear hHeld
  have hHeld := hNew
  clear hNew
  try simp only [List.getElem_toArray, List.getElem_cons_succ, List.getElem_cons_zero, Act.put, List.setIfInBounds_toArray, List.set_cons_zero, List.set_cons_succ]
  refine wpAnyL_take (i := 8) (oi := _) (v := ?_) rfl (by kernel_rfl) (by kernel_rfl) (by kernel_rfl) (by kernel_rfl) (by kernel_rfl) (fun _ _ _ h => h) (Or.inl ⟨by rfl, ?_⟩) (by assumption) (fun hNew => ?_)
  rotate_left
  · intro w _
    go_simp
    try with_reducible rfl
  clear hHeld
  have hHeld := hNew
  clear hNew
  try simp only [List.getElem_toArray, List.getElem_cons_succ, List.getElem_cons_zero, Act.put, List.setIfInBounds_toArray, List.set_cons_zero, List.set_cons_succ]
  refine wpAnyL_take (i := 9) (oi := _) (v := ?_) rfl (by kernel_rfl) (by kernel_rfl) (by kernel_rfl) (by kernel_rfl) (by kernel_rfl) (fun _ _ _ h => h) (Or.inl ⟨by rfl, ?_⟩) (by assumption) (fun hNew => ?_)
  rotate_left
  · intro w _
    go_simp
    try with_reducible rfl
  clear hHeld
  have hHeld := hNew
  clear hNew
  try simp only [List.getElem_toArray, List.getElem_cons_succ, List.getElem_cons_zero, Act.put, List.setIfInBounds_toArray, List.set_cons_zero, List.set_cons_succ]
  refine wpAnyL_take (i := 10) (oi := _) (v := ?_) rfl (by kernel_rfl) (by kernel_rfl) (by kernel_rfl) (by kernel_rfl) (by kernel_rfl) (fun _ _ _ h => h) (Or.inl ⟨by rfl, ?_⟩) (by assumption) (fun hNew => ?_)
  rotate_left
  · intro w _
    go_simp
    try with_reducible rfl
  clear hHeld
  have hHeld := hNew
  clear hNew
  try simp only [List.getElem_toArray, List.getElem_cons_succ, List.getElem_cons_zero, Act.put, List.setIfInBounds_toArray, List.set_cons_zero, List.set_cons_succ]
  refine wpAnyL_take (i := 11) (oi := _) (v := ?_) rfl (by kernel_rfl) (by kernel_rfl) (by kernel_rfl) (by kernel_rfl) (by kernel_rfl) (fun _ _ _ h => h) (Or.inl ⟨by rfl, ?_⟩) (by assumption) (fun hNew => ?_)
  rotate_left
  · intro w _
    go_simp
    try with_reducible rfl
  clear hHeld
  have hHeld := hNew
  clear hNew
  try simp only [List.getElem_toArray, List.getElem_cons_succ, List.getElem_cons_zero, Act.put, List.setIfInBounds_toArray, List.set_cons_zero, List.set_cons_succ]
  refine wpAnyL_done (by kernel_rfl) ?_ _
  clear hHeld
  by_cases he : e3 = 6
  · subst he
    cases wh
    · go_wp2_with fail
      refine CW3.out.mono ?_
      rintro e w' ⟨rfl, hq⟩
      subst hq
      have HS := Lib.hid (HE.out.calm HH.out HC3.out (rpL 15 (.slice a3 b3.length c3) (.slice none 0 0) 0 false))
      rw [← HB.out] at HS
      have HZ := Lib.hid (five_set HZ3.out (.int .i64 15) (.slice a3 b3.length c3) (.slice none 0 0) (.int .i64 0) (.bool false))
      obtain ⟨⟨m0, m1, m2, m3, m4⟩, f0, f1, f2, f3, f4⟩ := five_cells HZ3.out
      go_wp2_with fail
      exact bodyPost_ret (ret_rp rfl _ rfl HZ.out) rfl ⟨⟨_, rfl, ⟨.slice a3 b3.length c3, .slice none 0 0, by unfold lostOf; rw [if_pos ⟨rfl, rfl⟩], HBX.out (rpL 15 (.slice a3 b3.length c3) (.slice none 0 0) 0 false), HN3.out, World.ownsRow_nil _ _ _ _⟩, HS.out⟩, HCE.out (rpL 15 (.slice a3 b3.length c3) (.slice none 0 0) 0 false)⟩

    · go_wp2_with fail
      refine CW3.out.mono ?_
      rintro e w' ⟨rfl, hq⟩
      subst hq
      have HS := Lib.hid (HE.out.calm HH.out HC3.out (rpL 6 (.slice a3 b3.length c3) (.slice none 0 0) 0 false))
      rw [← HB.out] at HS
      have HZ := Lib.hid (five_set HZ3.out (.int .i64 6) (.slice a3 b3.length c3) (.slice none 0 0) (.int .i64 0) (.bool false))
      obtain ⟨⟨m0, m1, m2, m3, m4⟩, f0, f1, f2, f3, f4⟩ := five_cells HZ3.out
      go_wp2_with fail
      exact bodyPost_ret (ret_rp rfl _ rfl HZ.out) rfl ⟨⟨_, rfl, ⟨.slice a3 b3.length c3, .slice none 0 0, by unfold lostOf; rw [if_neg (by simp)], HBX.out (rpL 6 (.slice a3 b3.length c3) (.slice none 0 0) 0 false), HN3.out, World.ownsRow_nil _ _ _ _⟩, HS.out⟩, HCE.out (rpL 6 (.slice a3 b3.length c3) (.slice none 0 0) 0 false)⟩

  · have qe : (e3 == 6) = false := by simp [he]
    have HEN := Lib.hid he
    clear he
    have HS := Lib.hid (HE.out.calm HH.out HC3.out (rpL e3 (.slice a3 b3.length c3) (.slice none 0 0) 0 false))
    rw [← HB.out] at HS
    have HZ := Lib.hid (five_set HZ3.out (.int .i64 e3) (.slice a3 b3.length c3) (.slice none 0 0) (.int .i64 0) (.bool false))
    obtain ⟨⟨m0, m1, m2, m3, m4⟩, f0, f1, f2, f3, f4⟩ := five_cells HZ3.out
    go_wp2_with fail
    exact bodyPost_ret (ret_rp rfl _ rfl HZ.out) rfl ⟨⟨_, rfl, ⟨.slice a3 b3.length c3, .slice none 0 0, by unfold lostOf; rw [if_neg (fun hh => HEN.out hh.1)], HBX.out (rpL e3 (.slice a3 b3.length c3) (.slice none 0 0) 0 false), HN3.out, World.ownsRow_nil _ _ _ _⟩, HS.out⟩, HCE.out (rpL e3 (.slice a3 b3.length c3) (.slice none 0 0) 0 false)⟩

theorem sdeed2_any (r : Rq) (bv : Value) (w : World) (h : SvAt G w z q p U t) (h2 : r.k = 2) (hx : okD r.x) (hb : BytesAt w bv r.b) :
    Calls Tryz.prog (deedN r.k) #[.pointer (some ⟨z, 0, none⟩), rqV r bv] w (fun e w' => DeedPost G w q p U (t.step r).1 (t.step r).2 e w' ∧ Chg [] w w') := by
  have hbs : ∃ a n c, bv = .slice a n c := by obtain ⟨a, c, e⟩ := hb.slice; exact ⟨a, _, c, e⟩
  obtain ⟨k, x, b⟩ := r
  dsimp only at h2
  subst h2
  exact svget2_any _ bv w h hbs hx
theorem doMid2_late {w w2 w3 : World} {r : Rq} {bv : Value} {o : Rp} {t' : Sto} {a a' : Option Addr} {n n' c c' : Nat} (hE : Begins G w w2 z q p U t r bv) (h : SvAt G w z q p U t) (hb : BytesAt w3 (.slice a n c) o.b)
    (hn : ∀ k, (Value.slice a n c).ownBlock = some k → w2.drew.heap.size ≤ k) (ho : w3.ownsRow w2.drew.heap.size 38 4 (.slice a' n' c') o.ids.length (o.ids.flatMap idE)) (hs : Std ([w.heap.size + 1] ++ G) w2.drew w3 q p U t') (hc3 : Chg [] w2.drew w3) :
    DoMid G w w2 q p U o t' w3.heap.size ((w3.alloc (.cells #[.int .i64 0, .slice none 0 0, .slice none 0 0, .int .i64 0, .bool false] 32)).setCells w3.heap.size 0 (rpL o.e (.slice a n c) (.slice a' n' c') o.room o.whole)) ∧ Chg [] w2 ((w3.alloc (.cells #[.int .i64 0, .slice none 0 0, .slice none 0 0, .int .i64 0, .bool false] 32)).setCells w3.heap.size 0 (rpL o.e (.slice a n c) (.slice a' n' c') o.room o.whole)) := by
  refine ⟨doMid_late hE h hb hn ho hs, (((Chg.refl [] w2).drew.trans hc3 (by simp)).alloc _).setCells (.inr ?_) _⟩
  exact hc3.size
theorem doMid2_early {w w2 w3 : World} {r : Rq} {bv : Value} {o : Rp} {t' : Sto} {a a' : Option Addr} {n n' c c' : Nat} (hE : Begins G w w2 z q p U t r bv) (h : SvAt G w z q p U t) (hb : BytesAt w3 (.slice a n c) o.b)
    (hn : ∀ k, (Value.slice a n c).ownBlock = some k → (w2.alloc (.cells #[.int .i64 0, .slice none 0 0, .slice none 0 0, .int .i64 0, .bool false] 32)).drew.heap.size ≤ k) (ho : w3.ownsRow (w2.alloc (.cells #[.int .i64 0, .slice none 0 0, .slice none 0 0, .int .i64 0, .bool false] 32)).drew.heap.size 38 4 (.slice a' n' c') o.ids.length (o.ids.flatMap idE))
    (hs : Std ([w2.heap.size] ++ ([w.heap.size + 1] ++ G)) (w2.alloc (.cells #[.int .i64 0, .slice none 0 0, .slice none 0 0, .int .i64 0, .bool false] 32)).drew w3 q p U t') (hc3 : Chg [] (w2.alloc (.cells #[.int .i64 0, .slice none 0 0, .slice none 0 0, .int .i64 0, .bool false] 32)).drew w3) :
    DoMid G w w2 q p U o t' w2.heap.size (w3.setCells w2.heap.size 0 (rpL o.e (.slice a n c) (.slice a' n' c') o.room o.whole)) ∧ Chg [] w2 (w3.setCells w2.heap.size 0 (rpL o.e (.slice a n c) (.slice a' n' c') o.room o.whole)) := by
  exact ⟨doMid_early hE h hb hn ho hs, ((((Chg.refl [] w2).alloc _).drew).trans hc3 (by simp)).setCells (.inr (Nat.le_refl _)) _⟩
set_option maxHeartbeats 8000000 in
set_option maxRecDepth 100000 in
theorem svdo2_any (r : Rq) (bv : Value) (w : World) (h : SvAt G w z q p U t) (h2 : r.k = 2) (hx : okD r.x) (hb : BytesAt w bv r.b) (hbU : r.b ≠ [] → ∀ k, bv.ownBlock = some k → k ∉ U) (hbl : r.b.length ≤ 1000000) (hn : 1 ≤ t.s.d.n) (ho : t.s.d.ops ≤ 800000000) (hw : t.s.d.since.length ≤ 800000) :
    Calls Tryz.prog 12 #[.pointer (some ⟨z, 0, none⟩), rqV r bv] w (fun e w' => DoPost G w q p U (t.run r) e w' ∧ Chg [] w w') := by
  have HE0 := Lib.hid (h.begins r bv)
  obtain ⟨w2, hw2⟩ : ∃ w2, w2 = (w.alloc (.cells (rqL r bv).toArray 40)).alloc (.cells zeroRp 32) := ⟨_, rfl⟩
  rw [← hw2] at HE0
  have hst2 := h.st.keep0 HE0.out.chg
  have CDK := Lib.hid (stdisk_any w2 hst2)
  have CDD := Lib.hid hst2.dead
  have c0 := blk_cell HE0.out.head 0 _ rfl
  obtain ⟨B, hB⟩ : ∃ B, B = w.heap.size := ⟨_, rfl⟩
  have hrq := HE0.out.rq
  rw [← hB] at hrq
  have HRP := Lib.hid HE0.out.rp
  rw [← hB] at HRP
  have HH := Lib.hid h
  have HBY := Lib.hid (hb.chg HE0.out.chg (by simp))
  have HBU := Lib.hid hbU
  have HXO := Lib.hid hx
  have HW2 := Lib.hid hw2
  have HB := Lib.hid hB
  have HLIM := Lib.hid (And.intro hbl (And.intro hn (And.intro ho hw)))
  have HRUN : Hid (t.run r = if t.s.d.dead then ((noRp, 14), t) else if (t.step r).2.s.d.dead then ((noRp, 14), (t.step r).2) else (((t.step r).1, 0), (t.step r).2)) := Lib.hid rfl
  obtain ⟨R, hR⟩ : ∃ R, R = t.run r := ⟨_, rfl⟩
  rw [← hR] at HRUN
  rw [← hR]
  obtain ⟨k, ⟨xc, xl, xn, xi⟩, b⟩ := r
  have HK2 := Lib.hid (show k = 2 from h2)
  clear h2
  obtain ⟨ba, bc, hbv⟩ := hb.slice
  subst hbv
  obtain ⟨q0, ⟨q1, q2, q3, q4⟩, q5⟩ := rq_cells hrq
  have HRQ := Lib.hid hrq
  unfold rqV rqL
  unfold rqL at HW2
  rw [show zeroRp = #[.int .i64 0, .slice none 0 0, .slice none 0 0, .int .i64 0, .bool false] from rfl] at HW2
  have c0L := c0
  rw [HW2.out] at c0L
  clear hw2 hB hrq h hx hb hbU hst2 hR hn ho hw hbl
  go_enter Tryz.func12, Tryz.ntmps12
  go_wp2_with fail
  clear c0L
  rw [← HB.out, ← HW2.out]
  refine CDK.out.mono ?_
  rintro e w' ⟨rfl, hq⟩
  subst hq
  go_wp2_with fail
  refine CDD.out.mono ?_
  rintro e w' ⟨rfl, hq⟩
  subst hq
  cases hdd : t.s.d.dead
  · rw [hdd] at HRUN
    rw [if_neg (by simp)] at HRUN
    go_upto_region 3 with (fail)
    go_cut [6] (fun s6 wx => ∃ C, s6 = .pointer (some ⟨C, 0, none⟩) ∧ Hid (DoMid G w w2 q p U (t.step ⟨k, ⟨xc, xl, xn, xi⟩, b⟩).1 (t.step ⟨k, ⟨xc, xl, xn, xi⟩, b⟩).2 C wx ∧ Chg [] w2 wx))
    case first =>
      have hent := deed_enters k
      have hG1 : SvAt ([w.heap.size + 1] ++ G) w2.drew z q p U t := HH.out.mid HE0.out
      have CPY := Lib.hid (sdeed2_any ⟨k, ⟨xc, xl, xn, xi⟩, b⟩ (.slice ba b.length bc) w2.drew hG1 HK2.out HXO.out (HBY.out.keep (fun _ _ => rfl)))
      have hcX : Chg [] w2 (w2.alloc (.cells #[.int .i64 0, .slice none 0 0, .slice none 0 0, .int .i64 0, .bool false] 32)).drew := ((Chg.refl [] w2).alloc _).drew
      have hG2 : SvAt ([w2.heap.size] ++ ([w.heap.size + 1] ++ G)) (w2.alloc (.cells #[.int .i64 0, .slice none 0 0, .slice none 0 0, .int .i64 0, .bool false] 32)).drew z q p U t := (hG1.add (w2 := (w2.alloc (.cells #[.int .i64 0, .slice none 0 0, .slice none 0 0, .int .i64 0, .bool false] 32)).drew) ⟨hcX.os, hcX.tape, hcX.output, hcX.size, hcX.block⟩ (by
        rw [show w2.drew.heap.size = w2.heap.size from rfl]
        show w2.heap.size < (w2.alloc _).heap.size
        simp))
      have CPX := Lib.hid (sdeed2_any ⟨k, ⟨xc, xl, xn, xi⟩, b⟩ (.slice ba b.length bc) _ hG2 HK2.out HXO.out (HBY.out.chg hcX (by simp)))
      obtain ⟨r0, ⟨r1, r2, r3, r4⟩, r5⟩ := rq_cells (hcX.keep HRQ.out (by simp))
      unfold rqV rqL at CPX CPY
      clear hG1 hG2
      have HCX := Lib.hid hcX
      clear hcX
      go_wp2_with fail
      refine wp_region_L [(2, fun w' => w'.cell? ⟨B, 0, none⟩ = some (.int .i64 k)), (5, fun w' => (w'.cell? ⟨B, 0, none⟩ = some (.int .i64 k) ∧ w'.cell? ⟨B, 1, none⟩ = some (.int .i64 xc) ∧ w'.cell? ⟨B, 2, none⟩ = some (.int .i64 xl) ∧ w'.cell? ⟨B, 3, none⟩ = some (.int .i64 xn) ∧ w'.cell? ⟨B, 4, none⟩ = some (.int .i64 xi) ∧ w'.cell? ⟨B, 5, none⟩ = some (.slice ba b.length bc)))] (by kernel_rfl) ?_ (fun hHeld => ?_)
      · exact (HoldC.cons (q0) (HoldC.cons (⟨q0, q1, q2, q3, q4, q5⟩) HoldC.nil))
      refine wpAnyL_take (i := 0) (oi := _) (v := ?_) rfl (by kernel_rfl) (by kernel_rfl) (by kernel_rfl) (by kernel_rfl) (by kernel_rfl) (fun _ _ _ h => h) (Or.inl ⟨by rfl, ?_⟩) (by assumption) (fun hNew => ?_)
      rotate_left
      · intro w _
        go_simp
        try with_reducible rfl
      clear hHeld
      have hHeld := hNew
      clear hNew
      try simp only [List.getElem_toArray, List.getElem_cons_succ, List.getElem_cons_zero, Act.put, List.setIfInBounds_toArray, List.set_cons_zero, List.set_cons_succ]
      refine wpAnyL_take (i := 3) (oi := _) (v := ?_) rfl (by kernel_rfl) (by kernel_rfl) (by kernel_rfl) (by kernel_rfl) (by kernel_rfl) (fun _ _ _ h => h) (Or.inl ⟨by rfl, ?_⟩) (by assumption) (fun hNew => ?_)
      rotate_left
      · intro w _
        go_simp
        try with_reducible rfl
      clear hHeld
      have hHeld := hNew
      clear hNew
      try simp only [List.getElem_toArray, List.getElem_cons_succ, List.getElem_cons_zero, Act.put, List.setIfInBounds_toArray, List.set_cons_zero, List.set_cons_succ]
      refine wpAnyL_load 0 (i := 1) (oi := _) (v := ?_) rfl rfl (by kernel_rfl) (by kernel_rfl) (by kernel_rfl) (by kernel_rfl) (by kernel_rfl) (by kernel_rfl) (fun _ _ _ h => h) (Or.inl ⟨by rfl, ?_⟩) (by assumption) (fun hNew => ?_)
      rotate_left
      · intro w hSw
        (try dsimp only at hSw)
        go_simp
        try with_reducible rfl
      clear hHeld
      have hHeld := hNew
      clear hNew
      try simp only [List.getElem_toArray, List.getElem_cons_succ, List.getElem_cons_zero, Act.put, List.setIfInBounds_toArray, List.set_cons_zero, List.set_cons_succ]
      refine wpAnyL_load 1 (i := 4) (oi := _) (v := ?_) rfl rfl (by kernel_rfl) (by kernel_rfl) (by kernel_rfl) (by kernel_rfl) (by kernel_rfl) (by kernel_rfl) (fun _ _ _ h => h) (Or.inl ⟨by rfl, ?_⟩) (by assumption) (fun hNew => ?_)
      rotate_left
      · intro w hSw
        (try dsimp only at hSw)
        go_simp
        try with_reducible rfl
      clear hHeld
      have hHeld := hNew
      clear hNew
      try simp only [List.getElem_toArray, List.getElem_cons_succ, List.getElem_cons_zero, Act.put, List.setIfInBounds_toArray, List.set_cons_zero, List.set_cons_succ]
      refine wpAnyL_ready (rs := [2, 6]) (by kernel_rfl) (by simp) ?_
      refine AllReadyL.cons (o := _) rfl (fun K hK => ?_) (AllReadyL.cons (o := _) rfl (fun K hK => ?_) AllReadyL.nil)
      · try simp only [List.getElem_toArray, List.getElem_cons_succ, List.getElem_cons_zero]
        go_simp
        refine (deedof_any k w2.drew).mono ?_
        rintro e w' ⟨rfl, hq⟩
        subst hq
        clear hHeld
        refine hK.out _ _ ?_ (fun hHeld => ?_)
        · exact (HoldC.past (by kernel_rfl) (HoldC.cons (⟨q0, q1, q2, q3, q4, q5⟩) HoldC.nil))
        clear hK K
        try simp only [List.getElem_toArray, List.getElem_cons_succ, List.getElem_cons_zero, Act.put, List.setIfInBounds_toArray, List.set_cons_zero, List.set_cons_succ]
        refine wpAnyL_ready (rs := [5, 6]) (by kernel_rfl) (by simp) ?_
        refine AllReadyL.cons (o := _) rfl (fun K hK => ?_) (AllReadyL.cons (o := _) rfl (fun K hK => ?_) AllReadyL.nil)
        · try simp only [List.getElem_toArray, List.getElem_cons_succ, List.getElem_cons_zero]
          go_simp
          refine CPY.out.mono ?_
          rintro e w3 ⟨⟨v3, rfl, hr3, hs3⟩, hc3⟩
          obtain ⟨bv3, iv3, rfl, hb3, hn3, ho3⟩ := hr3
          obtain ⟨a3, c3, rfl⟩ := hb3.slice
          obtain ⟨a4, n4, c4, rfl⟩ : ∃ a n c, iv3 = .slice a n c := by
            rcases ho3.2 with ⟨h1, h2⟩ | ⟨g, cap, cur, h1, _⟩
            · exact ⟨none, 0, 0, h1⟩
            · exact ⟨_, _, cap, h1⟩
          have HM := Lib.hid (doMid2_late HE0.out HH.out hb3 hn3 ho3 hs3 hc3)
          clear hb3 hn3 ho3 hs3 hc3
          clear hHeld
          refine hK.out _ _ ?_ (fun hHeld => ?_)
          · exact (HoldC.past (by kernel_rfl) (HoldC.past (by kernel_rfl) HoldC.nil))
          clear hK K
          try simp only [List.getElem_toArray, List.getElem_cons_succ, List.getElem_cons_zero, Act.put, List.setIfInBounds_toArray, List.set_cons_zero, List.set_cons_succ]
          refine wpAnyL_ready (rs := [6]) (by kernel_rfl) (by simp) ?_
          refine AllReadyL.cons (o := _) rfl (fun K hK => ?_) AllReadyL.nil
          try simp only [List.getElem_toArray, List.getElem_cons_succ, List.getElem_cons_zero]
          go_simp
          obtain ⟨w4, hw4⟩ : ∃ w4, w4 = w3.alloc (.cells #[.int .i64 0, .slice none 0 0, .slice none 0 0, .int .i64 0, .bool false] 32) := ⟨_, rfl⟩
          rw [← hw4]
          have HW4 := Lib.hid hw4
          have hz4 : w4.heap[w3.heap.size]? = some (.cells #[.int .i64 0, .slice none 0 0, .slice none 0 0, .int .i64 0, .bool false] 32 (0, 0)) := by rw [hw4]; exact heap_alloc_new w3 _
          have HTH := Lib.hid (five_there hz4 _ rfl)
          clear hw4 hz4
          clear hHeld
          refine hK.out _ _ ?_ (fun hHeld => ?_)
          · exact (HoldC.past (by kernel_rfl) (HoldC.past (by kernel_rfl) HoldC.nil))
          clear hK K
          try simp only [List.getElem_toArray, List.getElem_cons_succ, List.getElem_cons_zero, Act.put, List.setIfInBounds_toArray, List.set_cons_zero, List.set_cons_succ]
          refine wpAnyL_ready (rs := [7]) (by kernel_rfl) (by simp) ?_
          refine AllReadyL.cons (o := _) rfl (fun K hK => ?_) AllReadyL.nil
          try simp only [List.getElem_toArray, List.getElem_cons_succ, List.getElem_cons_zero]
          rw [if_pos (by rfl)]
          refine wp_store_mid 32 (.tmp 6) (.tmp 30) (by rfl) w3.heap.size 0 (rpL (t.step ⟨k, ⟨xc, xl, xn, xi⟩, b⟩).1.e (.slice a3 (t.step ⟨k, ⟨xc, xl, xn, xi⟩, b⟩).1.b.length c3) (.slice a4 n4 c4) (t.step ⟨k, ⟨xc, xl, xn, xi⟩, b⟩).1.room (t.step ⟨k, ⟨xc, xl, xn, xi⟩, b⟩).1.whole).toArray (by rfl) (by rfl) HTH.out (rp_size _ _ _ _ _) (rp_all _ _ _ _ _ _ _ _ _) ?_
          clear hHeld
          refine hK.out _ _ ?_ (fun hHeld => ?_)
          · exact (HoldC.past (by kernel_rfl) (HoldC.past (by kernel_rfl) HoldC.nil))
          clear hK K
          try simp only [List.getElem_toArray, List.getElem_cons_succ, List.getElem_cons_zero, Act.put, List.setIfInBounds_toArray, List.set_cons_zero, List.set_cons_succ]
          refine wpAnyL_done (by kernel_rfl) ?_ _
          clear hHeld
          go_wp2_with fail
          go_meet
          exact ⟨_, rfl, by rw [HW4.out]; exact HM⟩
        · try simp only [List.getElem_toArray, List.getElem_cons_succ, List.getElem_cons_zero]
          go_simp
          clear hHeld
          refine hK.out _ _ ?_ (fun hHeld => ?_)
          · exact (HoldC.past (by kernel_rfl) (HoldC.cons (⟨r0, r1, r2, r3, r4, r5⟩) HoldC.nil))
          clear hK K
          try simp only [List.getElem_toArray, List.getElem_cons_succ, List.getElem_cons_zero, Act.put, List.setIfInBounds_toArray, List.set_cons_zero, List.set_cons_succ]
          refine wpAnyL_ready (rs := [5]) (by kernel_rfl) (by simp) ?_
          refine AllReadyL.cons (o := _) rfl (fun K hK => ?_) AllReadyL.nil
          try simp only [List.getElem_toArray, List.getElem_cons_succ, List.getElem_cons_zero]
          go_simp
          refine CPX.out.mono ?_
          rintro e w3 ⟨⟨v3, rfl, hr3, hs3⟩, hc3⟩
          obtain ⟨bv3, iv3, rfl, hb3, hn3, ho3⟩ := hr3
          obtain ⟨a3, c3, rfl⟩ := hb3.slice
          obtain ⟨a4, n4, c4, rfl⟩ : ∃ a n c, iv3 = .slice a n c := by
            rcases ho3.2 with ⟨h1, h2⟩ | ⟨g, cap, cur, h1, _⟩
            · exact ⟨none, 0, 0, h1⟩
            · exact ⟨_, _, cap, h1⟩
          have HM := Lib.hid (doMid2_early HE0.out HH.out hb3 hn3 ho3 hs3 hc3)
          have hz4 := hs3.blk (show (w2.alloc (.cells #[.int .i64 0, .slice none 0 0, .slice none 0 0, .int .i64 0, .bool false] 32)).drew.heap[w2.heap.size]? = some (.cells #[.int .i64 0, .slice none 0 0, .slice none 0 0, .int .i64 0, .bool false] 32 (0, 0)) from heap_alloc_new w2 _) (fun hm => by have := HH.out.st.lim _ hm; have := HE0.out.chg.size; omega)
          have HTH := Lib.hid (five_there hz4 _ rfl)
          clear hb3 hn3 ho3 hs3 hc3 hz4
          clear hHeld
          refine hK.out _ _ ?_ (fun hHeld => ?_)
          · exact (HoldC.past (by kernel_rfl) (HoldC.past (by kernel_rfl) HoldC.nil))
          clear hK K
          try simp only [List.getElem_toArray, List.getElem_cons_succ, List.getElem_cons_zero, Act.put, List.setIfInBounds_toArray, List.set_cons_zero, List.set_cons_succ]
          refine wpAnyL_ready (rs := [7]) (by kernel_rfl) (by simp) ?_
          refine AllReadyL.cons (o := _) rfl (fun K hK => ?_) AllReadyL.nil
          try simp only [List.getElem_toArray, List.getElem_cons_succ, List.getElem_cons_zero]
          rw [if_pos (by rfl)]
          refine wp_store_mid 32 (.tmp 6) (.tmp 30) (by rfl) w2.heap.size 0 (rpL (t.step ⟨k, ⟨xc, xl, xn, xi⟩, b⟩).1.e (.slice a3 (t.step ⟨k, ⟨xc, xl, xn, xi⟩, b⟩).1.b.length c3) (.slice a4 n4 c4) (t.step ⟨k, ⟨xc, xl, xn, xi⟩, b⟩).1.room (t.step ⟨k, ⟨xc, xl, xn, xi⟩, b⟩).1.whole).toArray (by rfl) (by rfl) HTH.out (rp_size _ _ _ _ _) (rp_all _ _ _ _ _ _ _ _ _) ?_
          clear hHeld
          refine hK.out _ _ ?_ (fun hHeld => ?_)
          · exact (HoldC.past (by kernel_rfl) (HoldC.past (by kernel_rfl) HoldC.nil))
          clear hK K
          try simp only [List.getElem_toArray, List.getElem_cons_succ, List.getElem_cons_zero, Act.put, List.setIfInBounds_toArray, List.set_cons_zero, List.set_cons_succ]
          refine wpAnyL_done (by kernel_rfl) ?_ _
          clear hHeld
          go_wp2_with fail
          go_meet
          exact ⟨_, rfl, HM⟩
      · try simp only [List.getElem_toArray, List.getElem_cons_succ, List.getElem_cons_zero]
        go_simp
        clear hHeld
        refine hK.out _ _ ?_ (fun hHeld => ?_)
        · exact (HoldC.cons (r0) (HoldC.cons (⟨r0, r1, r2, r3, r4, r5⟩) HoldC.nil))
        clear hK K
        try simp only [List.getElem_toArray, List.getElem_cons_succ, List.getElem_cons_zero, Act.put, List.setIfInBounds_toArray, List.set_cons_zero, List.set_cons_succ]
        refine wpAnyL_ready (rs := [2]) (by kernel_rfl) (by simp) ?_
        refine AllReadyL.cons (o := _) rfl (fun K hK => ?_) AllReadyL.nil
        try simp only [List.getElem_toArray, List.getElem_cons_succ, List.getElem_cons_zero]
        go_simp
        refine (deedof_any k _).mono ?_
        rintro e w' ⟨rfl, hq⟩
        subst hq
        clear hHeld
        refine hK.out _ _ ?_ (fun hHeld => ?_)
        · exact (HoldC.past (by kernel_rfl) (HoldC.cons (⟨r0, r1, r2, r3, r4, r5⟩) HoldC.nil))
        clear hK K
        try simp only [List.getElem_toArray, List.getElem_cons_succ, List.getElem_cons_zero, Act.put, List.setIfInBounds_toArray, List.set_cons_zero, List.set_cons_succ]
        refine wpAnyL_ready (rs := [5]) (by kernel_rfl) (by simp) ?_
        refine AllReadyL.cons (o := _) rfl (fun K hK => ?_) AllReadyL.nil
        try simp only [List.getElem_toArray, List.getElem_cons_succ, List.getElem_cons_zero]
        go_simp
        refine CPX.out.mono ?_
        rintro e w3 ⟨⟨v3, rfl, hr3, hs3⟩, hc3⟩
        obtain ⟨bv3, iv3, rfl, hb3, hn3, ho3⟩ := hr3
        obtain ⟨a3, c3, rfl⟩ := hb3.slice
        obtain ⟨a4, n4, c4, rfl⟩ : ∃ a n c, iv3 = .slice a n c := by
          rcases ho3.2 with ⟨h1, h2⟩ | ⟨g, cap, cur, h1, _⟩
          · exact ⟨none, 0, 0, h1⟩
          · exact ⟨_, _, cap, h1⟩
        have HM := Lib.hid (doMid2_early HE0.out HH.out hb3 hn3 ho3 hs3 hc3)
        have hz4 := hs3.blk (show (w2.alloc (.cells #[.int .i64 0, .slice none 0 0, .slice none 0 0, .int .i64 0, .bool false] 32)).drew.heap[w2.heap.size]? = some (.cells #[.int .i64 0, .slice none 0 0, .slice none 0 0, .int .i64 0, .bool false] 32 (0, 0)) from heap_alloc_new w2 _) (fun hm => by have := HH.out.st.lim _ hm; have := HE0.out.chg.size; omega)
        have HTH := Lib.hid (five_there hz4 _ rfl)
        clear hb3 hn3 ho3 hs3 hc3 hz4
        clear hHeld
        refine hK.out _ _ ?_ (fun hHeld => ?_)
        · exact (HoldC.past (by kernel_rfl) (HoldC.past (by kernel_rfl) HoldC.nil))
        clear hK K
        try simp only [List.getElem_toArray, List.getElem_cons_succ, List.getElem_cons_zero, Act.put, List.setIfInBounds_toArray, List.set_cons_zero, List.set_cons_succ]
        refine wpAnyL_ready (rs := [7]) (by kernel_rfl) (by simp) ?_
        refine AllReadyL.cons (o := _) rfl (fun K hK => ?_) AllReadyL.nil
        try simp only [List.getElem_toArray, List.getElem_cons_succ, List.getElem_cons_zero]
        rw [if_pos (by rfl)]
        refine wp_store_mid 32 (.tmp 6) (.tmp 30) (by rfl) w2.heap.size 0 (rpL (t.step ⟨k, ⟨xc, xl, xn, xi⟩, b⟩).1.e (.slice a3 (t.step ⟨k, ⟨xc, xl, xn, xi⟩, b⟩).1.b.length c3) (.slice a4 n4 c4) (t.step ⟨k, ⟨xc, xl, xn, xi⟩, b⟩).1.room (t.step ⟨k, ⟨xc, xl, xn, xi⟩, b⟩).1.whole).toArray (by rfl) (by rfl) HTH.out (rp_size _ _ _ _ _) (rp_all _ _ _ _ _ _ _ _ _) ?_
        clear hHeld
        refine hK.out _ _ ?_ (fun hHeld => ?_)
        · exact (HoldC.past (by kernel_rfl) (HoldC.past (by kernel_rfl) HoldC.nil))
        clear hK K
        try simp only [List.getElem_toArray, List.getElem_cons_succ, List.getElem_cons_zero, Act.put, List.setIfInBounds_toArray, List.set_cons_zero, List.set_cons_succ]
        refine wpAnyL_done (by kernel_rfl) ?_ _
        clear hHeld
        go_wp2_with fail
        go_meet
        exact ⟨_, rfl, HM⟩
    case rest =>
    obtain ⟨C, rfl, HM⟩ := hcut
    obtain ⟨⟨a3, n3, c3, a4, n4, c4, hC, hbC, hoC, hown, hs, hCA, hCw⟩, hcM⟩ := HM.out
    have HCE : Hid (∀ u, Chg [] w (wc.setCells (B + 1) 0 u)) := Lib.hid (fun u => ((HE0.out.chg.trans hcM (by simp)).setCells (.inr (by rw [HB.out]; omega)) u))
    clear hcM
    have HZA := Lib.hid (hs.blk HE0.out.rp HE0.out.out)
    rw [← HB.out] at HZA
    have HZC := Lib.hid hC
    have HBC := Lib.hid hbC
    have HOC := Lib.hid hoC
    have HOW := Lib.hid hown
    have HSS := Lib.hid hs
    have hzz := blk_cell (hs.blk HE0.out.head HH.out.out) 0 _ rfl
    obtain ⟨U', a1, a2, a3'⟩ := hs
    have CDK2 := Lib.hid (stdisk_any wc a1)
    have CDD2 := Lib.hid a1.dead
    have HE1 := HE0
    clear hC hbC hoC hown a1 a2 a3' CDK CDD c0 q0 q1 q2 q3 q4 q5 HM hCA hCw
    obtain ⟨o, ho⟩ : ∃ o, o = t.step ⟨k, ⟨xc, xl, xn, xi⟩, b⟩ := ⟨_, rfl⟩
    rw [← ho] at HRUN HZC HBC HOC HSS CDD2
    clear ho
    obtain ⟨⟨oe, ob, oi, orm, ow⟩, t'⟩ := o
    dsimp only at HZC HBC HOC HSS CDD2
    go_wp2_with fail
    refine CDK2.out.mono ?_
    rintro e w' ⟨rfl, hq⟩
    subst hq
    go_wp2_with fail
    refine CDD2.out.mono ?_
    rintro e w' ⟨rfl, hq⟩
    subst hq
    clear hzz CDK2 CDD2
    cases hd2 : t'.s.d.dead
    · rw [if_neg (by rw [hd2]; simp)] at HRUN
      obtain ⟨⟨p0, p1, p2, p3, p4⟩, g0, g1, g2, g3, g4⟩ := five_cells HZC.out
      obtain ⟨⟨m0, m1, m2, m3, m4⟩, f0, f1, f2, f3, f4⟩ := five_cells HZA.out
      have HZ := Lib.hid (five_set HZA.out (.int .i64 oe) (.slice a3 n3 c3) (.slice a4 n4 c4) (.int .i64 orm) (.bool ow))
      have HS := Lib.hid (HE0.out.ends HH.out HSS.out (rpL oe (.slice a3 n3 c3) (.slice a4 n4 c4) orm ow))
      rw [← HB.out] at HS
      have HBX : Hid (BytesAt (wc.setCells (B + 1) 0 (rpL oe (.slice a3 n3 c3) (.slice a4 n4 c4) orm ow)) (.slice a3 n3 c3) ob ∧ (wc.setCells (B + 1) 0 (rpL oe (.slice a3 n3 c3) (.slice a4 n4 c4) orm ow)).ownsRow w.heap.size 38 4 (.slice a4 n4 c4) oi.length (oi.flatMap idE)) := Lib.hid (by
        have hc : Chg [B + 1] wc (wc.setCells (B + 1) 0 (rpL oe (.slice a3 n3 c3) (.slice a4 n4 c4) orm ow)) := (Chg.refl _ wc).setCells (.inl (by simp)) _
        have hB := HB.out
        refine ⟨HBC.out.chg hc (fun k hk hm => ?_), row_keep HOC.out (fun g hg => hc.block g (World.ownsRow.lt HOC.out g hg).2 (fun hm => ?_))⟩
        · exact (HOW.out k (.inl hk)).2 (by rw [List.mem_singleton.1 hm, hB])
        · exact (HOW.out g (.inr hg)).2 (by rw [List.mem_singleton.1 hm, hB]))
      go_wp2_with fail
      refine bodyPost_ret (ret_rp2 rfl _ rfl rfl HZ.out) rfl ?_
      rw [HRUN.out]
      exact ⟨⟨_, rfl, ⟨.slice a3 n3 c3, .slice a4 n4 c4, rfl, HBX.out.1, fun k hk => (HOW.out k (.inl hk)).1, HBX.out.2⟩, HS.out⟩, HCE.out (rpL oe (.slice a3 n3 c3) (.slice a4 n4 c4) orm ow)⟩
    · rw [if_pos (by rw [hd2])] at HRUN
      obtain ⟨⟨m0, m1, m2, m3, m4⟩, f0, f1, f2, f3, f4⟩ := five_cells HZA.out
      have HZ := Lib.hid (five_set HZA.out (.int .i64 0) (.slice none 0 0) (.slice none 0 0) (.int .i64 0) (.bool false))
      have HS := Lib.hid (HE0.out.ends HH.out HSS.out (rpL 0 (.slice none 0 0) (.slice none 0 0) 0 false))
      rw [← HB.out] at HS
      go_wp2_with fail
      refine bodyPost_ret (ret_rp2 rfl _ rfl rfl HZ.out) rfl ?_
      rw [HRUN.out]
      exact ⟨⟨_, rfl, RpAt.err 0, HS.out⟩, HCE.out (rpL 0 (.slice none 0 0) (.slice none 0 0) 0 false)⟩
  · rw [hdd] at HRUN
    rw [if_pos rfl] at HRUN
    have hz := HRP.out
    obtain ⟨⟨m0, m1, m2, m3, m4⟩, f0, f1, f2, f3, f4⟩ := five_cells hz
    have HZ := Lib.hid (five_set hz (.int .i64 0) (.slice none 0 0) (.slice none 0 0) (.int .i64 0) (.bool false))
    have HS := Lib.hid (HE0.out.calm HH.out (Chg.refl [] w2) (rpL 0 (.slice none 0 0) (.slice none 0 0) 0 false))
    rw [← HB.out] at HS
    clear hz
    go_wp2_with fail
    refine bodyPost_ret (ret_rp2 rfl _ rfl rfl HZ.out) rfl ?_
    rw [HRUN.out]
    exact ⟨⟨_, rfl, RpAt.err 0, HS.out⟩, HE0.out.chg.setCells (.inr (by rw [HB.out]; omega)) (rpL 0 (.slice none 0 0) (.slice none 0 0) 0 false)⟩
end
section
variable {X Y : List Nat} {w0 w w' : World} {z q p : Nat} {t t' : Sto}
/-- Get, its outcome told: nothing that was is written. -/
def GotIs (X : List Nat) (w0 w : World) (z q p : Nat) (o : Rp) (code : Int) (t' : Sto) (e : Ending) (w' : World) : Prop := ∃ a c a' c', e = .returned (.tuple #[.agg #[.int .i64 o.e, .slice a o.b.length c, .slice a' o.ids.length c', .int .i64 o.room, .bool o.whole], .int .i64 code]) ∧
  BytesAt w' (.slice a o.b.length c) o.b ∧ (∀ k, (Value.slice a o.b.length c).ownBlock = some k → w.heap.size ≤ k) ∧ OwnS X w0 w' z q p t' ∧ Chg [] w w'
theorem own_got {o : Rp} {code : Int} (h : OwnS X w0 w z q p t) (x : Id) (hrun : t.run ⟨2, x, []⟩ = ((o, code), t')) (hx : okD x) (hn : 1 ≤ t.s.d.n) (ho : t.s.d.ops ≤ 800000000) (hw : t.s.d.since.length ≤ 800000) :
    Calls Tryz.prog 12 #[.pointer (some ⟨z, 0, none⟩), .agg #[.int .i64 2, .int .i64 x.c, .int .i64 x.l, .int .i64 x.n, .int .i64 x.i, .slice none 0 0]] w (GotIs X w0 w z q p o code t') := by
  obtain ⟨U, h1, h2⟩ := h.sv
  have hsz := h.chg.size
  refine (svdo2_any ⟨2, x, []⟩ (.slice none 0 0) w h1 rfl hx (BytesAt.nil _) (fun hne => absurd rfl hne) (by simp) hn ho hw).mono ?_
  rw [hrun]
  rintro e w' ⟨⟨v, rfl, ⟨bv', iv', rfl, hb', hn', hi'⟩, hs⟩, hc⟩
  obtain ⟨U', b1, b2, b3⟩ := h1.did hs
  obtain ⟨a, c, rfl⟩ := hb'.slice
  obtain ⟨a', c', rfl⟩ : ∃ a c, iv' = .slice a o.ids.length c := by
    rcases hi'.2 with ⟨h1, h2⟩ | ⟨g, cap, cur, h1, _⟩
    · exact ⟨none, 0, by rw [h1]; rw [show o.ids.length = 0 from h2]⟩
    · exact ⟨_, cap, h1⟩
  refine ⟨a, c, a', c', rfl, hb', hn', ⟨⟨U', b1, fun y hy => ?_⟩, h.chg.trans hc (by simp), h.newz, h.outz⟩, hc⟩
  rcases b2 y hy with h3 | h3
  · exact h2 y h3
  · omega
theorem BytesAt.keepL {v : Value} {l : List UInt8} (h : BytesAt w v l) (hb : l ≠ [] → ∀ g, v.ownBlock = some g → w'.heap[g]? = w.heap[g]?) : BytesAt w' v l := by
  by_cases hl : l = []
  · subst hl
    obtain ⟨a, cap, rfl, h1, h2, h3⟩ := h
    refine ⟨a, cap, rfl, h1, h2, ?_⟩
    rcases h3 with h3 | ⟨g, o, rfl, _⟩
    · exact .inl h3
    · exact .inr ⟨g, o, rfl, fun i hi => by simp at hi⟩
  · exact h.keep (hb hl)
end
end Go.Proofs.YtdkhmfcfihbjeaaGreatDoor.W

/- ServerWhole, plainly. -/
namespace Go.Proofs.YtdkhmfcfihbjeaaGreatDoor.W
open Go.RowKit
set_option linter.unusedVariables false
set_option linter.unusedSimpArgs false
section
variable {t : Sto} {k : Nat} {F : Frag}
structure WholeAt (t : Sto) (k : Nat) : Prop where
  keep : ∃ F, Keep t F
  whole : t.whole = false
  n : t.s.d.n = 65
  rows : t.s.rows.length ≤ 20
  ops : t.s.d.ops ≤ 65 + 40 * k
theorem whole_new : ∃ t d, (DS.new 65).format = ((0, some t), d) ∧ WholeAt t 0 := by
  obtain ⟨t, d, h1, h2, h3, h4, h5, h6⟩ := Keep.new 65 (by omega)
  exact ⟨t, d, h1, ⟨⟨_, h2⟩, h6, h4, by have := h2.kept.full.1; omega, by omega⟩⟩
theorem WholeAt.since (h : WholeAt t k) : t.s.d.since = [] := by obtain ⟨F, h1⟩ := h.keep; exact h1.since
theorem WholeAt.more (h : WholeAt t k) : WholeAt t (k + 1) := ⟨h.keep, h.whole, h.n, h.rows, by have := h.ops; omega⟩
theorem WholeAt.step (h : WholeAt t k) (r : Rq) (hr : r.k ≠ 6) : WholeAt (t.step r).2 (k + 1) ∧ t.run r = (((t.step r).1, 0), (t.step r).2) := by
  obtain ⟨F, h1⟩ := h.keep
  obtain ⟨F', h2, h3⟩ := h1.whole_step h.whole r hr
  have hf := step_far t r h.rows
  exact ⟨⟨⟨F', h2⟩, h3, hf.n.trans h.n, by rw [hf.rows]; exact h.rows, Nat.le_trans hf.ops (by have := h.ops; omega)⟩, h1.run r⟩
theorem ToldR.len {s : SS} {u : Nat → Bool} {v : Nat → List UInt8} (h : ToldR s u v) (i : Nat) : (s.get (i : Int)).1.length ≤ 448 := by
  by_cases hk : i < s.rows.length
  · rw [h.get i hk]
    by_cases hu : u i = true
    · rw [if_pos hu]
      dsimp only
      rw [← h.data i hk hu]
      unfold SS.data
      rw [List.length_take]
      have := h.small i hk
      have e : (s.row (i : Int)).n = (s.rows.getD i noRow).n := rfl
      omega
    · rw [if_neg hu]; simp
  · unfold SS.get
    rw [if_pos (show ¬ s.has (i : Int) from fun hh => by have := hh.2; omega)]
    simp
theorem KeptR.get_len (h : KeptR t F) (x : Id) : (t.get x).1.length ≤ 448 := by
  obtain ⟨u, v, h1, h2⟩ := h.told
  unfold Sto.get
  by_cases hm : mayId x = false
  · rw [if_pos hm]; simp
  · rw [if_neg hm]
    rcases h2 x (by simpa using hm) with ⟨_, h3⟩ | ⟨i, b, _, h3, _⟩
    · rw [h3]; simp
    · rw [h3]
      exact h1.len i
theorem KeptR.get_is (h : KeptR t F) (x : Id) : (t.get x).2 = 0 ∨ (t.get x).2 = 1 ∨ (t.get x).2 = 6 := by
  rw [h.get x]
  by_cases hm : mayId x = false
  · rw [if_pos hm]; simp
  · rw [if_neg hm]
    cases F x <;> simp
structure WholeEnds (t T1 T2 : Sto) (x : Id) (wh : Bool) (ae be rm : Int) (ab bb : List UInt8) : Prop where
  a : t.run ⟨2, x, []⟩ = ((⟨ae, ab, [], 0, false⟩, 0), t)
  set : wh = true → t.run ⟨6, ⟨0, 0, 0, 0⟩, []⟩ = ((⟨0, [], [], 0, false⟩, 0), T1)
  nset : wh = false → T1 = t
  opens : (T1.s.d.crash [0]).stOpen = (0, some T2)
  whole : T2.whole = wh
  b : T2.run ⟨2, x, []⟩ = ((⟨be, bb, [], 0, false⟩, 0), T2)
  info : T2.run ⟨5, ⟨0, 0, 0, 0⟩, []⟩ = ((⟨0, [], [], rm, wh⟩, 0), T2)
  lim : 1 ≤ t.s.d.n ∧ t.s.d.ops ≤ 800000000 ∧ t.s.d.since.length ≤ 800000
  lim1 : 0 < T1.s.d.n ∧ T1.s.d.since.length ≤ 1000000
  lim2 : 1 ≤ T2.s.d.n ∧ T2.s.d.ops ≤ 800000000 ∧ T2.s.d.since.length ≤ 800000
  len : ab.length ≤ 448
  e1 : ae = 15 → wh = true → be = 6
  e2 : ¬ (ae = 15 ∧ wh = true) → be = ae
  eb : bb = ab
theorem whole_ends (h : WholeAt t k) (hk : k ≤ 40) (x : Id) (wh : Bool) : ∃ T1 T2 ae be rm ab bb, WholeEnds t T1 T2 x wh ae be rm ab bb := by
  obtain ⟨F, h1⟩ := h.keep
  have key : ∃ T1 : Sto, Keep T1 F ∧ T1.whole = wh ∧ T1.s.d.n = 65 ∧ (wh = true → t.run ⟨6, ⟨0, 0, 0, 0⟩, []⟩ = ((⟨0, [], [], 0, false⟩, 0), T1)) ∧ (wh = false → T1 = t) := by
    cases wh with
    | false => exact ⟨t, h1, h.whole, h.n, by simp, fun _ => rfl⟩
    | true =>
      refine ⟨t.setWhole.2, h1.sets.2.1, h1.sets.2.2.1, (step_far t ⟨6, ⟨0, 0, 0, 0⟩, []⟩ h.rows).n.trans h.n, fun _ => ?_, by simp⟩
      rw [h1.run, step6, h1.sets.1]
      rfl
  obtain ⟨T1, hk1, hw1, hn1, hs1, hs2⟩ := key
  obtain ⟨ho, h2⟩ := hk1.crash [0]
  have hg : (⟨{ T1.s with d := T1.s.d.crash [0] }, T1.whole⟩ : Sto).get x = t.get x := (h2.kept.get x).trans (h1.kept.get x).symm
  have hge := h1.kept.get_is x
  have hlen := h1.kept.get_len x
  have hops2 : (T1.s.d.crash [0]).ops ≤ 65 := by
    show _ ≤ _
    first
    | exact Nat.zero_le _
    | simp [DS.crash]
  have hn2 : (T1.s.d.crash [0]).n = 65 := hn1
  obtain ⟨T2, hT2⟩ : ∃ T2 : Sto, T2 = ⟨{ T1.s with d := T1.s.d.crash [0] }, T1.whole⟩ := ⟨_, rfl⟩
  have hd2 : T2.s.d = T1.s.d.crash [0] := by rw [hT2]
  have hw2 : T2.whole = wh := by rw [hT2]; exact hw1
  rw [← hT2] at ho h2 hg
  refine ⟨T1, T2, lostOf t.whole (t.get x).2, lostOf T2.whole (T2.get x).2, (T2.room : Int), (t.get x).1, (T2.get x).1, ⟨?_, hs1, hs2, ho, hw2, ?_, ?_, ⟨by rw [h.n]; omega, by have := h.ops; omega, by rw [h.since]; simp⟩, ⟨by omega, by rw [hk1.since]; simp⟩, ⟨by rw [hd2, hn2]; omega, by rw [hd2]; omega, by rw [h2.since]; simp⟩, hlen, ?_, ?_, by rw [hg]⟩⟩
  · rw [h1.run, step2]
  · rw [h2.run, step2]
  · rw [h2.run, step5, hw2]
  · rw [h.whole, hw2, hg]
    unfold lostOf
    intro ha hw
    subst hw
    rcases hge with e | e | e <;> rw [e] at ha ⊢ <;> simp at ha ⊢
  · rw [h.whole, hw2, hg]
    unfold lostOf
    intro ha
    cases wh with
    | false => rfl
    | true =>
      rcases hge with e | e | e <;> rw [e] at ha ⊢ <;> simp at ha ⊢
end
theorem got_blocks {w w' : World} {v : Value} {l : List UInt8} (hb : BytesAt w' v l) (hn : ∀ k, v.ownBlock = some k → w.heap.size ≤ k) : ∃ Y : List Nat, (∀ x ∈ Y, w.heap.size ≤ x ∧ x < w'.heap.size) ∧ (l ≠ [] → ∀ k, v.ownBlock = some k → k ∈ Y) := by
  by_cases hl : l = []
  · exact ⟨[], by simp, fun h => absurd hl h⟩
  · exact ⟨v.ownBlock.toList, fun x hx => ⟨hn x (by simpa using hx), hb.lt hl x (by simpa using hx)⟩, fun _ k hk => by simp [hk]⟩
end Go.Proofs.YtdkhmfcfihbjeaaGreatDoor.W

/- ServerWhole: the walk. -/
namespace Go.Proofs.YtdkhmfcfihbjeaaGreatDoor.W
open Go.RowKit
set_option linter.unusedVariables false
set_option linter.unusedSimpArgs false

set_option maxHeartbeats 16000000 in
set_option maxRecDepth 100000 in
theorem whole20_any (a : Option Addr) (n cap : Nat) (f : Nat → Rq × Value) (x : Id) (wh : Bool) (w : World) (h : RqsAt w a n f) (hx : okD x) : Calls Tryz.prog 5 #[.slice a n cap, idV x, .bool wh] w fun e w' => e = .returned (.bool true) ∧ Chg [] w w' := by
  obtain ⟨t0, d, hfm, hwn⟩ := whole_new
  obtain ⟨w1, hw1⟩ : ∃ w1, w1 = w.alloc (.cells (idC x) 38) := ⟨_, rfl⟩
  have hc1 : Chg [] w w1 := by rw [hw1]; exact (Chg.refl _ _).alloc _
  have hb1 : w1.heap[w.heap.size]? = some (.cells (idC x) 38 (0, 0)) := by rw [hw1]; exact heap_alloc_new w _
  have HX := Lib.hid hx
  have HB1 := Lib.hid hb1
  have HC1 := Lib.hid hc1
  have HIN := Lib.hid (h.keep hc1)
  have HFM := Lib.hid hfm
  have HWN := Lib.hid hwn
  have CW := Lib.hid (awake20_any w1)
  obtain ⟨xc, xl, xn, xi⟩ := x
  unfold idV idC
  unfold idC at hw1
  dsimp only at hw1 ⊢
  have HW1 := Lib.hid hw1
  clear hw1 hb1 hc1 h hfm hwn hx
  go_enter Tryz.func5, Tryz.ntmps5
  go_wp2_with fail
  rw [← HW1.out]
  refine CW.out.mono ?_
  rintro e w2 ⟨rfl, hc2⟩
  have HC2 := Lib.hid hc2
  have HIN2 := Lib.hid (HIN.out.keep hc2)
  have CSM := Lib.hid (small20_any a n cap 40 f w2 HIN2.out (by omega))
  clear hc2 CW
  go_wp2_with fail
  refine CSM.out.mono ?_
  rintro e w' ⟨he, hq⟩
  subst hq
  rcases he with ⟨he, hfew⟩ | he
  rotate_left
  · subst he
    go_wp2_with fail
    go_ret
    exact ⟨rfl, HC1.out.trans HC2.out (by simp)⟩
  subst he
  have HFEW := Lib.hid hfew
  have hn40 : n ≤ 40 := hfew.1
  have CN := Lib.hid (own_newS HC2.out 65 (by omega) (by omega) HFM.out)
  clear hfew CSM
  go_wp2_with fail
  refine CN.out.mono ?_
  rintro e w3 ⟨z, q, p, rfl, ho3⟩
  have HO3 := Lib.hid ho3
  clear ho3 CN
  go_wp2_with fail
  go_loopg [9] n (fun g' s9 wr => ∃ i : Nat, s9 = .int .i64 (i : Int) ∧ i ≤ n ∧ n ≤ i + g' ∧ Hid (∃ t, WholeAt t i ∧ OwnS [] w1 wr z q p t))
  case atStart => exact ⟨0, rfl, by omega, by omega, Lib.hid ⟨t0, HWN.out, HO3.out⟩⟩
  case round =>
    obtain ⟨i, rfl, hi, hig, HR⟩ := hrel
    obtain ⟨t, hwt, hot⟩ := HR.out
    have HWT := Lib.hid hwt
    have HOT := Lib.hid hot
    clear HO3 HR hwt hot
    by_cases hlt : i < n
    · have hiz : (i : Int) < (n : Int) := by omega
      have hiz1 : (i : Int).toNat = i := by omega
      obtain ⟨g, o, rfl, hcs⟩ : ∃ g o, a = some ⟨g, o, none⟩ ∧ ∀ i, i < n → RqAt w1 g (o + i * 6) (f i) := by
        rcases HIN.out with h | h
        · omega
        · exact h
      have hd := hcs i hlt
      have hfb := HFEW.out.2 i hlt
      obtain ⟨y, hy⟩ : ∃ y, y = f i := ⟨_, rfl⟩
      rw [← hy] at hd hfb
      clear hy hcs
      obtain ⟨⟨rk, ⟨yc, yl, yn, yi⟩, b⟩, bv⟩ := y
      obtain ⟨ba, bc, hbv⟩ := hd.inn.came.1.slice
      dsimp only at hbv
      subst hbv
      have HIQ := Lib.hid hd.inn
      obtain ⟨c0, c1, c2, c3, c4, c5, -⟩ := hd.keep HOT.out.chg
      clear hd
      dsimp only at c0 c1 c2 c3 c4 c5 hfb
      by_cases hk6 : rk = 6
      · subst hk6
        go_wp2_with fail
        go_roundg (gk - 1)
        case measure => omega
        case rel => exact ⟨i + 1, by go_num, by omega, by omega, Lib.hid ⟨t, HWT.out.more, HOT.out⟩⟩
      · have q6 : (rk != 6) = true := by simp [hk6]
        have HN6 := Lib.hid hk6
        clear hk6
        have CQ := Lib.hid (request20_any ⟨rk, ⟨yc, yl, yn, yi⟩, b⟩ ba b.length bc wr)
        dsimp only at CQ
        go_wp2_with fail
        refine CQ.out.mono ?_
        rintro e w4 ⟨rfl, hc4⟩
        have hi4 := HIQ.out.keep (HOT.out.chg.trans hc4 (by simp))
        have CD := Lib.hid (own_do (HOT.out.keep0 hc4) ⟨rk, ⟨yc, yl, yn, yi⟩, b⟩ (.slice ba b.length bc) hi4.wx hi4.came.1 (fun hne kk hkk => .inl (HIQ.out.came.2 hne kk hkk)) (by show b.length ≤ _; omega) (by rw [HWT.out.n]; omega) (by have := HWT.out.ops; omega) (by rw [HWT.out.since]; simp))
        have HRUN := Lib.hid (HWT.out.step ⟨rk, ⟨yc, yl, yn, yi⟩, b⟩ HN6.out)
        unfold rqV rqL at CD
        dsimp only at CD
        rw [HRUN.out.2] at CD
        clear hc4 hi4 CQ c0 c1 c2 c3 c4 c5
        go_wp2_with fail
        refine CD.out.mono ?_
        rintro e w5 ⟨v5, rfl, -, ho5, -⟩
        have HO5 := Lib.hid ho5
        clear ho5 CD
        go_wp2_with fail
        go_roundg (gk - 1)
        case measure => omega
        case rel => exact ⟨i + 1, by go_num, by omega, by omega, Lib.hid ⟨_, HRUN.out.1, HO5.out⟩⟩
    · have hiz : ¬ (i : Int) < (n : Int) := by omega
      have hi40 : i ≤ 40 := by omega
      obtain ⟨T1, T2, ae, be, rm, ab, bb, hends⟩ := whole_ends HWT.out hi40 ⟨xc, xl, xn, xi⟩ wh
      have HE := Lib.hid hends
      have hlen := hends.len
      have hbr := HOT.out.chg.keep HB1.out (by simp)
      obtain ⟨x0, x1, x2, x3⟩ := id_cells hbr
      have CG := Lib.hid (own_got HOT.out ⟨xc, xl, xn, xi⟩ HE.out.a HX.out HE.out.lim.1 HE.out.lim.2.1 HE.out.lim.2.2)
      dsimp only at CG
      clear hends hbr
      go_wp2_with fail
      refine CG.out.mono ?_
      rintro e w4 ⟨a4, c4, a5, c5, he, hb4, hn4, -, hc4⟩
      dsimp only at he hb4 hn4
      subst he
      obtain ⟨Y, hY1, hY2⟩ := got_blocks hb4 hn4
      have hcB : Chg [] w4 (w4.alloc (.cells #[.int .i64 ae, .slice a4 ab.length c4, .slice a5 0 c5, .int .i64 0, .bool false] 32)) := (Chg.refl _ _).alloc _
      have hsz4 := hc4.size
      have HO5 := Lib.hid (HOT.out.add (Y := w4.heap.size :: Y) (hc4.trans hcB (by simp)) (fun x hx => by
        have := hcB.size
        rcases List.mem_cons.1 hx with rfl | hx
        · exact ⟨.inr hsz4, by simp⟩
        · have := hY1 x hx
          exact ⟨.inr this.1, by omega⟩))
      have HA5 := Lib.hid (heap_alloc_new w4 (.cells #[.int .i64 ae, .slice a4 ab.length c4, .slice a5 0 c5, .int .i64 0, .bool false] 32))
      have HB5 := Lib.hid (hb4.chg hcB (by simp))
      have HY2 := Lib.hid hY2
      clear hb4 hn4 hc4 hcB hY1 hY2 hsz4 CG x0 x1 x2 x3
      cases wh
      · have hT1 := HE.out.nset rfl
        have HO6 : Hid (OwnS (w4.heap.size :: Y) w1 (w4.alloc (.cells #[.int .i64 ae, .slice a4 ab.length c4, .slice a5 0 c5, .int .i64 0, .bool false] 32)) z q p T1) := Lib.hid (by rw [hT1]; exact HO5.out)
        obtain ⟨w6, hw6⟩ : ∃ w6, w6 = w4.alloc (.cells #[.int .i64 ae, .slice a4 ab.length c4, .slice a5 0 c5, .int .i64 0, .bool false] 32) := ⟨_, rfl⟩
        rw [← hw6] at HO6 HA5 HB5
        have HA6 := HA5
        have HB6 := HB5
        have HW6 := Lib.hid hw6
        clear hw6 HO5
        go_upto_region 16 with (fail)
        rw [← HW6.out]
        have CST := Lib.hid (own_store HO6.out)
        have CDK := Lib.hid (owns_disk HO6.out)
        go_wp2_with fail
        refine CST.out.mono ?_
        rintro e w' ⟨rfl, hq⟩
        subst hq
        go_wp2_with fail
        refine CDK.out.mono ?_
        rintro e w' ⟨rfl, hq⟩
        subst hq
        have hc7 : Chg [] w6 (w6.alloc (.cells #[bv 0] 5)) := (Chg.refl _ _).alloc _
        have CCR := Lib.hid (owns_crash (HO6.out.keep0 hc7) (.slice (some ⟨w6.heap.size, 0, none⟩) 1 1) [0] HE.out.lim1.1 HE.out.lim1.2 (one_byte6 w6 0) (by simp))
        rw [show bv 0 = .int .u8 0 from rfl] at CCR
        have HC7 := Lib.hid hc7
        rw [show bv 0 = .int .u8 0 from rfl] at HC7
        clear hc7 CST CDK
        go_wp2_with fail
        refine CCR.out.mono ?_
        rintro e w8 ⟨p8, S8, rfl, hd8, hS8, hc8⟩
        have CO := Lib.hid (own_openS hd8 hS8 hc8 HE.out.opens)
        have HC8 := Lib.hid (HC7.out.trans hc8 (by simp))
        clear hd8 hS8 hc8 CCR
        go_wp2_with fail
        refine CO.out.mono ?_
        rintro e w9 ⟨z9, q9, rfl, ho9, hc9⟩
        have HO9 := Lib.hid ho9
        have HC9 : Hid (Chg [] w6 w9) := Lib.hid (HC8.out.trans hc9 (by simp))
        have CST := Lib.hid (own_store HO9.out)
        have CWH := Lib.hid (owns_whole HO9.out)
        rw [HE.out.whole] at CWH
        clear ho9 hc9 CO
        go_wp2_with fail
        refine CST.out.mono ?_
        rintro e w' ⟨rfl, hq⟩
        subst hq
        go_wp2_with fail
        refine CWH.out.mono ?_
        rintro e w' ⟨rfl, hq⟩
        subst hq
        have hbr := HC9.out.keep (HO6.out.chg.keep HB1.out (by simp)) (by simp)
        obtain ⟨x0, x1, x2, x3⟩ := id_cells hbr
        have CG := Lib.hid (own_got HO9.out ⟨xc, xl, xn, xi⟩ HE.out.b HX.out HE.out.lim2.1 HE.out.lim2.2.1 HE.out.lim2.2.2)
        dsimp only at CG
        clear CST CWH hbr
        go_wp2_with fail
        refine CG.out.mono ?_
        rintro e w10 ⟨a10, c10, a11, c11, he, hb10, hn10, -, hc10⟩
        dsimp only at he hb10 hn10
        subst he
        obtain ⟨Z, hZ1, hZ2⟩ := got_blocks hb10 hn10
        have hcB : Chg [] w10 (w10.alloc (.cells #[.int .i64 be, .slice a10 bb.length c10, .slice a11 0 c11, .int .i64 0, .bool false] 32)) := (Chg.refl _ _).alloc _
        have hsz10 := hc10.size
        have HO11 := Lib.hid (HO9.out.add (Y := w10.heap.size :: Z) (hc10.trans hcB (by simp)) (fun x hx => by
          have := hcB.size
          rcases List.mem_cons.1 hx with rfl | hx
          · exact ⟨.inr hsz10, by simp⟩
          · have := hZ1 x hx
            exact ⟨.inr this.1, by omega⟩))
        have HA11 := Lib.hid (heap_alloc_new w10 (.cells #[.int .i64 be, .slice a10 bb.length c10, .slice a11 0 c11, .int .i64 0, .bool false] 32))
        have HB11 := Lib.hid (hb10.chg hcB (by simp))
        have HZ2 := Lib.hid hZ2
        have CI := Lib.hid (own_doI HO11.out ⟨5, ⟨0, 0, 0, 0⟩, []⟩ (.slice none 0 0) HE.out.info (by decide) (BytesAt.nil _) (by simp) (by simp) HE.out.lim2.1 HE.out.lim2.2.1 HE.out.lim2.2.2)
        dsimp only at CI
        clear hb10 hn10 hc10 hcB hZ1 hZ2 hsz10 CG x0 x1 x2 x3
        go_wp2_with fail
        refine CI.out.mono ?_
        rintro e w12 ⟨a12, c12, a13, c13, he, -, -, -, ho12, hk12⟩
        dsimp only at he
        subst he
        have hcI : Chg [] w12 (w12.alloc (.cells #[.int .i64 0, .slice a12 0 c12, .slice a13 0 c13, .int .i64 rm, .bool false] 32)) := (Chg.refl _ _).alloc _
        have hall : Chg [] w6 w12 := HC7.out.trans ho12.chg (by simp)
        have HAL := Lib.hid hall
        have hA := hcI.keep (hall.keep HA6.out (by simp)) (by simp)
        have hB := hcI.keep ((hk12 w10.heap.size (by simp)).trans HA11.out) (by simp)
        have hI := heap_alloc_new w12 (.cells #[.int .i64 0, .slice a12 0 c12, .slice a13 0 c13, .int .i64 rm, .bool false] 32)
        have HYA := Lib.hid ((HB6.out.chg hall (by simp)).chg hcI (by simp))
        have HYB := Lib.hid ((HB11.out.keepL (w' := w12) (fun hne g hg => hk12 g (List.mem_cons_of_mem _ (HZ2.out hne g hg)))).chg hcI (by simp))
        have HCF := Lib.hid ((HC1.out.trans (HO6.out.chg.trans hall (by simp)) (by simp)).trans hcI (by simp))
        have i4 := blk_cell hI 4 _ rfl
        have p0 := blk_cell hA 0 _ rfl
        have p1 := blk_cell hA 1 _ rfl
        have r0 := blk_cell hB 0 _ rfl
        have r1 := blk_cell hB 1 _ rfl
        clear hA hB hI hall hcI ho12 hk12 CI
        by_cases h15 : ae = 15
        · have q15 : (ae == 15) = true := by simp [h15]
          have ebe := HE.out.e2 (by simp)
          have ebb := HE.out.eb
          subst ebe
          subst ebb
          have CS := Lib.hid (same_any _ _ _ _ _ HYA.out HYB.out (by omega) (by omega))
          rw [decide_eq_true rfl] at CS
          go_wp2_with fail
          refine CS.out.mono ?_
          rintro e w14 ⟨rfl, nn, hq⟩
          have HCE : Hid (Chg [] w w14) := Lib.hid (by rw [hq]; exact HCF.out.drewN nn)
          clear hq CS
          go_wp2_with fail
          go_ret
          exact ⟨by simp, HCE.out⟩
        · have q15 : (ae == 15) = false := by simp [h15]
          have ebe := HE.out.e2 (by simp)
          have ebb := HE.out.eb
          subst ebe
          subst ebb
          have CS := Lib.hid (same_any _ _ _ _ _ HYA.out HYB.out (by omega) (by omega))
          rw [decide_eq_true rfl] at CS
          go_wp2_with fail
          refine CS.out.mono ?_
          rintro e w14 ⟨rfl, nn, hq⟩
          have HCE : Hid (Chg [] w w14) := Lib.hid (by rw [hq]; exact HCF.out.drewN nn)
          clear hq CS
          go_wp2_with fail
          go_ret
          exact ⟨by simp, HCE.out⟩
      · have CS6 := Lib.hid (own_doI HO5.out ⟨6, ⟨0, 0, 0, 0⟩, []⟩ (.slice none 0 0) (HE.out.set rfl) (by decide) (BytesAt.nil _) (by simp) (by simp) HE.out.lim.1 HE.out.lim.2.1 HE.out.lim.2.2)
        dsimp only at CS6
        go_wp2_with fail
        refine CS6.out.mono ?_
        rintro e w6 ⟨a6, c6, a7, c7, he, -, -, -, ho6, hk6⟩
        dsimp only at he
        subst he
        have HO6 := Lib.hid ho6
        have HA6 := Lib.hid ((hk6 w4.heap.size (by simp)).trans HA5.out)
        have HB6 := Lib.hid (HB5.out.keepL (w' := w6) (fun hne g hg => hk6 g (List.mem_cons_of_mem _ (HY2.out hne g hg))))
        clear ho6 hk6 CS6 HO5
        have CST := Lib.hid (own_store HO6.out)
        have CDK := Lib.hid (owns_disk HO6.out)
        go_wp2_with fail
        refine CST.out.mono ?_
        rintro e w' ⟨rfl, hq⟩
        subst hq
        go_wp2_with fail
        refine CDK.out.mono ?_
        rintro e w' ⟨rfl, hq⟩
        subst hq
        have hc7 : Chg [] w6 (w6.alloc (.cells #[bv 0] 5)) := (Chg.refl _ _).alloc _
        have CCR := Lib.hid (owns_crash (HO6.out.keep0 hc7) (.slice (some ⟨w6.heap.size, 0, none⟩) 1 1) [0] HE.out.lim1.1 HE.out.lim1.2 (one_byte6 w6 0) (by simp))
        rw [show bv 0 = .int .u8 0 from rfl] at CCR
        have HC7 := Lib.hid hc7
        rw [show bv 0 = .int .u8 0 from rfl] at HC7
        clear hc7 CST CDK
        go_wp2_with fail
        refine CCR.out.mono ?_
        rintro e w8 ⟨p8, S8, rfl, hd8, hS8, hc8⟩
        have CO := Lib.hid (own_openS hd8 hS8 hc8 HE.out.opens)
        have HC8 := Lib.hid (HC7.out.trans hc8 (by simp))
        clear hd8 hS8 hc8 CCR
        go_wp2_with fail
        refine CO.out.mono ?_
        rintro e w9 ⟨z9, q9, rfl, ho9, hc9⟩
        have HO9 := Lib.hid ho9
        have HC9 : Hid (Chg [] w6 w9) := Lib.hid (HC8.out.trans hc9 (by simp))
        have CST := Lib.hid (own_store HO9.out)
        have CWH := Lib.hid (owns_whole HO9.out)
        rw [HE.out.whole] at CWH
        clear ho9 hc9 CO
        go_wp2_with fail
        refine CST.out.mono ?_
        rintro e w' ⟨rfl, hq⟩
        subst hq
        go_wp2_with fail
        refine CWH.out.mono ?_
        rintro e w' ⟨rfl, hq⟩
        subst hq
        have hbr := HC9.out.keep (HO6.out.chg.keep HB1.out (by simp)) (by simp)
        obtain ⟨x0, x1, x2, x3⟩ := id_cells hbr
        have CG := Lib.hid (own_got HO9.out ⟨xc, xl, xn, xi⟩ HE.out.b HX.out HE.out.lim2.1 HE.out.lim2.2.1 HE.out.lim2.2.2)
        dsimp only at CG
        clear CST CWH hbr
        go_wp2_with fail
        refine CG.out.mono ?_
        rintro e w10 ⟨a10, c10, a11, c11, he, hb10, hn10, -, hc10⟩
        dsimp only at he hb10 hn10
        subst he
        obtain ⟨Z, hZ1, hZ2⟩ := got_blocks hb10 hn10
        have hcB : Chg [] w10 (w10.alloc (.cells #[.int .i64 be, .slice a10 bb.length c10, .slice a11 0 c11, .int .i64 0, .bool false] 32)) := (Chg.refl _ _).alloc _
        have hsz10 := hc10.size
        have HO11 := Lib.hid (HO9.out.add (Y := w10.heap.size :: Z) (hc10.trans hcB (by simp)) (fun x hx => by
          have := hcB.size
          rcases List.mem_cons.1 hx with rfl | hx
          · exact ⟨.inr hsz10, by simp⟩
          · have := hZ1 x hx
            exact ⟨.inr this.1, by omega⟩))
        have HA11 := Lib.hid (heap_alloc_new w10 (.cells #[.int .i64 be, .slice a10 bb.length c10, .slice a11 0 c11, .int .i64 0, .bool false] 32))
        have HB11 := Lib.hid (hb10.chg hcB (by simp))
        have HZ2 := Lib.hid hZ2
        have CI := Lib.hid (own_doI HO11.out ⟨5, ⟨0, 0, 0, 0⟩, []⟩ (.slice none 0 0) HE.out.info (by decide) (BytesAt.nil _) (by simp) (by simp) HE.out.lim2.1 HE.out.lim2.2.1 HE.out.lim2.2.2)
        dsimp only at CI
        clear hb10 hn10 hc10 hcB hZ1 hZ2 hsz10 CG x0 x1 x2 x3
        go_wp2_with fail
        refine CI.out.mono ?_
        rintro e w12 ⟨a12, c12, a13, c13, he, -, -, -, ho12, hk12⟩
        dsimp only at he
        subst he
        have hcI : Chg [] w12 (w12.alloc (.cells #[.int .i64 0, .slice a12 0 c12, .slice a13 0 c13, .int .i64 rm, .bool true] 32)) := (Chg.refl _ _).alloc _
        have hall : Chg [] w6 w12 := HC7.out.trans ho12.chg (by simp)
        have HAL := Lib.hid hall
        have hA := hcI.keep (hall.keep HA6.out (by simp)) (by simp)
        have hB := hcI.keep ((hk12 w10.heap.size (by simp)).trans HA11.out) (by simp)
        have hI := heap_alloc_new w12 (.cells #[.int .i64 0, .slice a12 0 c12, .slice a13 0 c13, .int .i64 rm, .bool true] 32)
        have HYA := Lib.hid ((HB6.out.chg hall (by simp)).chg hcI (by simp))
        have HYB := Lib.hid ((HB11.out.keepL (w' := w12) (fun hne g hg => hk12 g (List.mem_cons_of_mem _ (HZ2.out hne g hg)))).chg hcI (by simp))
        have HCF := Lib.hid ((HC1.out.trans (HO6.out.chg.trans hall (by simp)) (by simp)).trans hcI (by simp))
        have i4 := blk_cell hI 4 _ rfl
        have p0 := blk_cell hA 0 _ rfl
        have p1 := blk_cell hA 1 _ rfl
        have r0 := blk_cell hB 0 _ rfl
        have r1 := blk_cell hB 1 _ rfl
        clear hA hB hI hall hcI ho12 hk12 CI
        by_cases h15 : ae = 15
        · have ebe := HE.out.e1 h15 rfl
          subst h15
          subst ebe
          go_wp2_with fail
          go_ret
          exact ⟨rfl, HCF.out⟩
        · have q15 : (ae == 15) = false := by simp [h15]
          have ebe := HE.out.e2 (fun hh => h15 hh.1)
          have ebb := HE.out.eb
          subst ebe
          subst ebb
          have CS := Lib.hid (same_any _ _ _ _ _ HYA.out HYB.out (by omega) (by omega))
          rw [decide_eq_true rfl] at CS
          go_wp2_with fail
          refine CS.out.mono ?_
          rintro e w14 ⟨rfl, nn, hq⟩
          have HCE : Hid (Chg [] w w14) := Lib.hid (by rw [hq]; exact HCF.out.drewN nn)
          clear hq CS
          go_wp2_with fail
          go_ret
          exact ⟨by simp, HCE.out⟩
end Go.Proofs.YtdkhmfcfihbjeaaGreatDoor.W

/- ServerWhole: what the row asks. -/
namespace Go.Proofs.YtdkhmfcfihbjeaaGreatDoor.serverWhole
set_option linter.unusedVariables false
open Go.RowKit Go.ChangeShapes Go.WideShapes
set_option maxRecDepth 100000 in
theorem walk {H : Type} {enc : TypeId × Value → H} {held : Bool} {base b0 b1 : Nat} (v0 : Value) (d0 : DataW H) (p0 : List MemPlace) (v1 : Value) (d1 : DataW H) (p1 : List MemPlace) (wh : Bool) (X : World) (h0 : Value.okWide Tryz.prog X .any b0 22 v0) (k0 : DataW.Trod enc Tryz.prog X base (fun _ => true) held 22 v0 d0 p0)
    (h1 : Value.okWide Tryz.prog X .any b1 38 v1) (k1 : DataW.Trod enc Tryz.prog X base (fun _ => true) held 38 v1 d1 p1) : Calls Tryz.prog 5 #[v0, v1, .bool wh] X fun e w' => e = .returned (.bool true) ∧ Below X.heap.size X w' := by
  obtain ⟨a, n, cap, rfl⟩ := okWide_slice Tryz.underlying22 h0
  obtain ⟨f, hn, hin⟩ : ∃ f, n ≤ maxLen ∧ Go.Proofs.YtdkhmfcfihbjeaaGreatDoor.W.RqsAt X a n f := by
    obtain ⟨fuel, hf⟩ := k0
    rcases Go.Proofs.YtdkhmfcfihbjeaaGreatDoor.W.open_rqs hf with hcs | ⟨x, l, c, f, hcs, hl, hm, hd⟩
    · simp [Value.cells] at hcs
      obtain ⟨rfl, rfl, rfl⟩ := hcs
      exact ⟨fun _ => default, by unfold maxLen; omega, .inl rfl⟩
    · simp [Value.cells] at hcs
      obtain ⟨rfl, rfl, rfl⟩ := hcs
      exact ⟨f, Nat.le_trans hl hm, hd⟩
  obtain ⟨b, hb, rfl⟩ := Go.Proofs.YtdkhmfcfihbjeaaGreatDoor.W.open_id h1 k1
  exact (Go.Proofs.YtdkhmfcfihbjeaaGreatDoor.W.whole20_any a n cap f b wh X hin hb).mono fun e w' ⟨h1, h2⟩ => ⟨h1, h2.below (by simp)⟩
end Go.Proofs.YtdkhmfcfihbjeaaGreatDoor.serverWhole
