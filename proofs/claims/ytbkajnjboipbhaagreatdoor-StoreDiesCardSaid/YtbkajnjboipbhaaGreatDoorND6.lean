/- Texts laid together. -/
import Derived.Test.YtbkajnjboipbhaaGreatDoorND5
import Derived.Test.YtbkajnjboipbhaaGreatDoorND2
import Derived.Test.YtbkajnjboipbhaaGreatDoorND3
import Derived.Laws.BitsLemmas
import Derived.Test.YtbkajnjboipbhaaGreatDoorND1
import Derived.DeepKeys
import Derived.Laws.StructEq
import Derived.Deep.Slices
import Derived.ChangeSlices
import Derived.Lib.SmallJoins
/- Package disk: Crash. -/
namespace Go.Proofs.YtbkajnjboipbhaaGreatDoor.W
open Go.RowKit Go.Shelf
set_option linter.unusedVariables false
set_option linter.unusedSimpArgs false
attribute [local go_sem] Oper.semAt_some

theorem size_sec : (Tryz.prog.info? 109).map (·.size) = some 64 := by kernel_rfl
theorem setRow_size (w : World) (g : Nat) (cs : Array Value) : (w.setRow g cs).heap.size = w.heap.size := by
  unfold World.setRow
  simp
set_option maxRecDepth 100000 in
/-- 'copy(c.lasts, d.lasts)'. -/
theorem copy_secs {w : World} {gl gs n cl cn : Nat} {f : Nat → List UInt8} {cur : Array Value} (ty : TypeId) (hs : SecsAt w gs n f) (hg : w.heap[gl]? = some (.cells cur 109 (0, 0))) (hc : cur.size = n * 64) :
    (Builtin.copy_ #[91, 91] ty #[.slice (some ⟨gl, 0, none⟩) n cl, .slice (some ⟨gs, 0, none⟩) n cn]).run Tryz.prog w = .ok (goInt n) (w.setRow gl (bvs (flat n f)).toArray) := by
  obtain ⟨hl, hr⟩ := hs.whole
  have h := run_copy_n (P := Tryz.prog) w 91 91 ty 109 64 gl 0 n cl ⟨gs, 0, none⟩ n cn cur 109 (bvs (flat n f)) n Tryz.underlying91 size_sec hg (by simp) (by rw [bvs_len, hl])
    (fun j v hv => by rw [add_none]; exact hr j v hv) (by rw [bvs_len, hl]; omega) (bvs_one _)
  rw [h]
  congr 2
  rw [List.take_zero, List.nil_append, List.drop_eq_nil_of_le (by rw [bvs_len, hl]; simp; omega), List.append_nil]

theorem wp_copy {P : Program} {o : Oper} {a : Act} {w : World} {K : Act → World → Prop} {Q : Exit → Act → World → Prop} (x y : Operand) {t1 t2 : TypeId} (ho : o.op = .call { callee := .builtin .copy, args := #[x, y], argTypes := #[t1, t2] }) {v1 v2 : Value} (hx : a.eval x = v1) (hy : a.eval y = v2)
    {r : Value} {w' : World} (hr : (Builtin.copy_ #[t1, t2] o.type #[v1, v2]).run P w = .ok r w') (h : K (a.put o.dst r) w') : Oper.wp P o a w K Q := by
  unfold Oper.wp execOp
  simp only [ho, resolve, invoke, builtin, Sem.run_bind, Sem.run_pure, Result.andThen_ok, List.map_toArray, List.map_cons, List.map_nil, hx, hy, hr]
  exact h
theorem u8_and_lt (b : UInt8) : b &&& 1 = 0 ∨ b &&& 1 = 1 := by
  have h : (b &&& 1).toNat = b.toNat % 2 := by
    rw [UInt8.toNat_and]
    exact Nat.and_one_is_mod _
  rcases Nat.mod_two_eq_zero_or_one b.toNat with h1 | h1
  · exact .inl (UInt8.toNat_inj.1 (by rw [h, h1]; rfl))
  · exact .inr (UInt8.toNat_inj.1 (by rw [h, h1]; rfl))
theorem u8_bit (b : UInt8) : bits .and .u8 (b.toNat : Int) 1 = ((b &&& 1).toNat : Int) := by
  show IntKind.u8.wrap ((BitVec.ofInt 8 (b.toNat : Int) &&& BitVec.ofInt 8 1).toNat : Int) = _
  have h : BitVec.ofInt 8 (b.toNat : Int) = b.toBitVec := by
    rw [BitVec.ofInt_natCast]
    exact BitVec.eq_of_toNat_eq (by simp)
  rw [h]
  have h2 : (b.toBitVec &&& BitVec.ofInt 8 1).toNat = (b &&& 1).toNat := rfl
  rw [h2]
  have h3 := (b &&& 1).toNat_lt
  generalize (b &&& 1).toNat = m at *
  rw [IntKind.wrap_u8]
  omega
structure CrashAt (w W : World) (n Bi Bh pc Bc gl : Nat) (k : Nat) (cv : Value) (f : Nat → List UInt8) : Prop where
  ci : W.heap[Bi]? = some (.cells #[.int .i64 (k : Int)] 3 (0, 0))
  ch : W.heap[Bh]? = some (.cells #[cv] 27 (0, 0))
  cc : W.heap[Bc]? = some (.cells #[.pointer (some ⟨pc, 0, none⟩)] 37 (0, 0))
  obj : W.heap[pc]? = some (.cells #[.slice none 0 0, .slice (some ⟨gl, 0, none⟩) n n, .slice none 0 0, .int .i64 (-1), .int .i64 0, .bool false] 94 (0, 0))
  secs : SecsAt W gl n f
  chg : Chg [] w W
  lo : w.heap.size ≤ Bi ∧ w.heap.size ≤ Bh ∧ w.heap.size ≤ Bc ∧ w.heap.size ≤ pc ∧ w.heap.size ≤ gl
  ne : Bi ≠ Bh ∧ Bi ≠ Bc ∧ Bi ≠ pc ∧ Bi ≠ gl ∧ Bh ≠ gl ∧ Bc ≠ gl ∧ pc ≠ gl

theorem CrashAt.keep {w W W' : World} {n Bi Bh pc Bc gl k : Nat} {cv : Value} {f : Nat → List UInt8} (h : CrashAt w W n Bi Bh pc Bc gl k cv f) (hc : Chg [] W W') : CrashAt w W' n Bi Bh pc Bc gl k cv f :=
  ⟨hc.keep h.ci (by simp), hc.keep h.ch (by simp), hc.keep h.cc (by simp), hc.keep h.obj (by simp), h.secs.keep (hc.block _ h.secs.lt (by simp)), h.chg.trans hc (by simp), h.lo, h.ne⟩
theorem CrashAt.turn {w W W' : World} {row : Option Nat} {n Bi Bh pc Bc gl k : Nat} {cv : Value} {f : Nat → List UInt8} (h : CrashAt w W n Bi Bh pc Bc gl k cv f) (hg : W.grownBy W' row)
    (hr : ∀ r, row = some r → w.heap.size ≤ r ∧ ∃ o : Obj, W.heap[r]? = some o ∧ o.isCells = false) : CrashAt w W' n Bi Bh pc Bc gl k cv f := by
  have hr2 := fun r e => (hr r e).2
  obtain ⟨cs, h1, h2⟩ := h.secs
  exact ⟨(blk_turn h.ci hg hr2).trans h.ci, (blk_turn h.ch hg hr2).trans h.ch, (blk_turn h.cc hg hr2).trans h.cc, (blk_turn h.obj hg hr2).trans h.obj, h.secs.keep (blk_turn h1 hg hr2), chg_turn h.chg hg (fun r e => (hr r e).1), h.lo, h.ne⟩

set_option maxHeartbeats 4000000 in
set_option maxRecDepth 100000 in
theorem dcrash_any (p : Nat) (S : List Nat) (d : DS) (cv : Value) (ch : List UInt8) (w : World) (h : DiskAt w p S d) (hn0 : 0 < d.n) (hw : d.since.length ≤ 1000000) (hcv : BytesAt w cv ch) (hcl : ch.length ≤ 1000000) :
    Calls Tryz.prog 38 #[.pointer (some ⟨p, 0, none⟩), cv] w fun e w' => ∃ p' S', e = .returned (.pointer (some ⟨p', 0, none⟩)) ∧ Newly w w' p' S' (d.crash ch) := by
  obtain ⟨gn, gl, cn, cl, v, H⟩ := h
  have c0 : w.cell? ⟨p, 0, none⟩ = some (.slice (some ⟨gn, 0, none⟩) d.n cn) := blk_cell H.head 0 _ rfl
  have c1 : w.cell? ⟨p, 1, none⟩ = some (.slice (some ⟨gl, 0, none⟩) d.n cl) := blk_cell H.head 1 _ rfl
  have hpl := blk_lt H.head
  have HCV := Lib.hid hcv
  obtain ⟨ca, cc, hcv'⟩ := hcv.slice
  subst hcv'
  have hmk := make_secs d.n (by have := H.few; omega)
  have HH := Lib.hid H
  have hfew := H.few
  have hcapn := H.capn
  have hcapl := H.capl
  have hq : ∀ w, (binOp .eql 91 (.slice (some ⟨gn, 0, none⟩) d.n cn) (.slice none 0 0)).run Tryz.prog w = .ok (.bool false) w := fun w => Lib.run_eql_slice_nil w 91 109 (some ⟨gn, 0, none⟩) _ _ 0 0 Tryz.underlying91
  clear H hcv
  obtain ⟨n, hn⟩ : ∃ n, n = d.n := ⟨_, rfl⟩
  rw [← hn] at c0 c1 hmk hfew hcapn hcapl hq hn0
  have HN := Lib.hid hn
  clear hn
  refine (callsIn_wide (n := 5)).1 ?_
  refine callsIn_of_wp_marks Tryz.func38 rfl trivial ?_ rfl
  simp only [Tryz.ntmps38, List.size_toArray, List.length_cons, List.length_nil, Nat.reduceAdd, Nat.reduceSub, Array.replicate_succ, Array.replicate_zero, List.push_toArray, List.append_toArray, List.nil_append, List.cons_append]
  obtain ⟨w3, hw3⟩ : ∃ w3, w3 = (((w.alloc (.cells #[.slice ca ch.length cc] 27)).alloc (.cells (secZ n) 109)).alloc (.cells #[.slice none 0 0, .slice (some ⟨w.heap.size + 1, 0, none⟩) n n, .slice none 0 0, .int .i64 (-1), .int .i64 0, .bool false] 94)).alloc (.cells #[.pointer (some ⟨w.heap.size + 1 + 1, 0, none⟩)] 37) := ⟨_, rfl⟩
  have hc3 : Chg [] w w3 := by rw [hw3]; exact ((((Chg.refl _ _).alloc _).alloc _).alloc _).alloc _
  have hs3 : w3.heap.size = w.heap.size + 4 := by rw [hw3]; simp
  have hbh : w3.heap[w.heap.size]? = some (.cells #[.slice ca ch.length cc] 27 (0, 0)) := by rw [hw3]; exact blk_alloc (blk_alloc (blk_alloc (heap_alloc_new w _)))
  have hgc : w3.heap[w.heap.size + 1]? = some (.cells (secZ n) 109 (0, 0)) := by rw [hw3]; exact blk_alloc (blk_alloc (heap_at (by simp)))
  have hpc : w3.heap[w.heap.size + 2]? = some (.cells #[.slice none 0 0, .slice (some ⟨w.heap.size + 1, 0, none⟩) n n, .slice none 0 0, .int .i64 (-1), .int .i64 0, .bool false] 94 (0, 0)) := by rw [hw3]; exact blk_alloc (heap_at (by simp))
  have hbc : w3.heap[w.heap.size + 3]? = some (.cells #[.pointer (some ⟨w.heap.size + 2, 0, none⟩)] 37 (0, 0)) := by rw [hw3]; exact heap_at (by simp)
  have HW3 := Lib.hid hw3
  gi_wp2_with fail
  rw [← HW3.out]
  have e2 : w.heap.size + 1 + 1 = w.heap.size + 2 := rfl
  have e3 : w.heap.size + 1 + 1 + 1 = w.heap.size + 3 := rfl
  rw [e3, e2]
  clear hw3 e2 e3 HW3
  -- the copy
  have hls : SecsAt w3.drew gl n d.lasts := by rw [HN.out]; exact (HH.out.lasts.keep (hc3.block _ HH.out.lasts.lt (by simp))).keep rfl
  have hrun := fun ty => copy_secs (cl := n) (cn := cl) ty hls (show w3.drew.heap[w.heap.size + 1]? = some (.cells (secZ n) 109 (0, 0)) from hgc) (secZ_size n)
  have hl64 : ∀ k, k < n → (d.lasts k).length = 64 := fun k hk => hls.len k hk
  obtain ⟨w4, hw4⟩ : ∃ w4, w4 = w3.drew.setRow (w.heap.size + 1) (bvs (flat n d.lasts)).toArray := ⟨_, rfl⟩
  rw [← hw4] at hrun
  have hs4 : w4.heap.size = w.heap.size + 4 := by rw [hw4, setRow_size]; exact hs3
  have ho4 : ∀ k, k ≠ w.heap.size + 1 → w4.heap[k]? = w3.heap[k]? := fun k hk => by rw [hw4]; exact setRow_other w3.drew _ k _ hk
  have hc4 : Chg [] w w4 := ⟨by rw [hw4]; exact hc3.os, by rw [hw4]; exact hc3.tape, by rw [hw4]; exact hc3.output, by omega, fun k hk _ => (ho4 k (by omega)).trans (hc3.block k hk (by simp))⟩
  have hsec4 : SecsAt w4 (w.heap.size + 1) n d.lasts := by
    refine secs_of_cells (t := 0) (by rw [hw4]; exact setRow_heap w3.drew _ _ _ _ _ hgc) hl64 ?_
    rw [List.take_of_length_le (by simp [bvs_len]; rw [flat_len n _ hl64]; exact Nat.le_refl _)]
  obtain ⟨w5, hw5⟩ : ∃ w5, w5 = w4.alloc (.cells #[.int .i64 0] 3) := ⟨_, rfl⟩
  have hcr5 : CrashAt w w5 n (w.heap.size + 4) w.heap.size (w.heap.size + 2) (w.heap.size + 3) (w.heap.size + 1) 0 (.slice ca ch.length cc) d.lasts := by
    rw [hw5]
    exact ⟨heap_at (by omega), blk_alloc ((ho4 _ (by omega)).trans hbh), blk_alloc ((ho4 _ (by omega)).trans hbc), blk_alloc ((ho4 _ (by omega)).trans hpc), hsec4.keep (Below.heap_alloc w4 _ _ (by omega)), hc4.alloc _, ⟨by omega, by omega, by omega, by omega, by omega⟩, by omega⟩
  have hs5 : w5.heap.size = w.heap.size + 5 := by rw [hw5]; simp [hs4]
  have HW5 := Lib.hid hw5
  have HCR5 := Lib.hid hcr5
  have HS4 := Lib.hid hs4
  have k1 := blk_cell hbc 0 _ rfl
  have k2 := blk_cell hpc 1 _ rfl
  have k3 := hc3.cell c1 (by simp)
  have HRUN := Lib.hid hrun
  have HS3 := Lib.hid hs3
  clear hls hrun hw4 ho4 hc4 hsec4 hw5 hcr5 hbh hgc hpc hbc c0 c1 hmk hq hs3 hs4 hs5
  refine wpIn_region_LN (wide_w) (by kernel_rfl) [(8, fun w' => w'.cell? ⟨w.heap.size + 3, 0, none⟩ = some (.pointer (some ⟨w.heap.size + 2, 0, none⟩))), (8, fun w' => w'.cell? ⟨w.heap.size + 2, 1, none⟩ = some (.slice (some ⟨w.heap.size + 1, 0, none⟩) n n)), (8, fun w' => w'.cell? ⟨p, 1, none⟩ = some (.slice (some ⟨gl, 0, none⟩) n cl))] (by kernel_rfl) ?_ (fun hHeld => ?_)
  · exact (HoldC.cons (k1) (HoldC.cons (k2) (HoldC.cons (k3) HoldC.nil)))
  refine wpAnyL_load 0 (i := 0) (oi := _) (v := ?_) rfl rfl (by kernel_rfl) (by kernel_rfl) (by kernel_rfl) (by kernel_rfl) (by kernel_rfl) (by kernel_rfl) (fun _ _ _ h => h) (Or.inl ⟨by rfl, ?_⟩) (by assumption) (fun hNew => ?_)
  rotate_left
  · intro w hSw
    (try dsimp only at hSw)
    go_simp
    try with_reducible rfl
  clear hHeld
  have hHeld := hNew
  clear hNew
  try simp only [List.getElem_toArray, List.getElem_cons_succ, List.getElem_cons_zero, Act.put, List.setIfInBounds_toArray, List.set_cons_zero, List.set_cons_succ]
  refine wpAnyL_take (i := 1) (oi := _) (v := ?_) rfl (by kernel_rfl) (by kernel_rfl) (by kernel_rfl) (by kernel_rfl) (by kernel_rfl) (fun _ _ _ h => h) (Or.inl ⟨by rfl, ?_⟩) (by assumption) (fun hNew => ?_)
  rotate_left
  · intro w _
    go_simp
    try with_reducible rfl
  clear hHeld
  have hHeld := hNew
  clear hNew
  try simp only [List.getElem_toArray, List.getElem_cons_succ, List.getElem_cons_zero, Act.put, List.setIfInBounds_toArray, List.set_cons_zero, List.set_cons_succ]
  refine wpAnyL_take (i := 2) (oi := _) (v := ?_) rfl (by kernel_rfl) (by kernel_rfl) (by kernel_rfl) (by kernel_rfl) (by kernel_rfl) (fun _ _ _ h => h) (Or.inl ⟨by rfl, ?_⟩) (by assumption) (fun hNew => ?_)
  rotate_left
  · intro w _
    go_simp
    try with_reducible rfl
  clear hHeld
  have hHeld := hNew
  clear hNew
  try simp only [List.getElem_toArray, List.getElem_cons_succ, List.getElem_cons_zero, Act.put, List.setIfInBounds_toArray, List.set_cons_zero, List.set_cons_succ]
  refine wpAnyL_load 1 (i := 3) (oi := _) (v := ?_) rfl rfl (by kernel_rfl) (by kernel_rfl) (by kernel_rfl) (by kernel_rfl) (by kernel_rfl) (by kernel_rfl) (fun _ _ _ h => h) (Or.inl ⟨by rfl, ?_⟩) (by assumption) (fun hNew => ?_)
  rotate_left
  · intro w hSw
    (try dsimp only at hSw)
    go_simp
    try with_reducible rfl
  clear hHeld
  have hHeld := hNew
  clear hNew
  try simp only [List.getElem_toArray, List.getElem_cons_succ, List.getElem_cons_zero, Act.put, List.setIfInBounds_toArray, List.set_cons_zero, List.set_cons_succ]
  refine wpAnyL_take (i := 4) (oi := _) (v := ?_) rfl (by kernel_rfl) (by kernel_rfl) (by kernel_rfl) (by kernel_rfl) (by kernel_rfl) (fun _ _ _ h => h) (Or.inl ⟨by rfl, ?_⟩) (by assumption) (fun hNew => ?_)
  rotate_left
  · intro w _
    go_simp
    try with_reducible rfl
  clear hHeld
  have hHeld := hNew
  clear hNew
  try simp only [List.getElem_toArray, List.getElem_cons_succ, List.getElem_cons_zero, Act.put, List.setIfInBounds_toArray, List.set_cons_zero, List.set_cons_succ]
  refine wpAnyL_take (i := 5) (oi := _) (v := ?_) rfl (by kernel_rfl) (by kernel_rfl) (by kernel_rfl) (by kernel_rfl) (by kernel_rfl) (fun _ _ _ h => h) (Or.inl ⟨by rfl, ?_⟩) (by assumption) (fun hNew => ?_)
  rotate_left
  · intro w _
    go_simp
    try with_reducible rfl
  clear hHeld
  have hHeld := hNew
  clear hNew
  try simp only [List.getElem_toArray, List.getElem_cons_succ, List.getElem_cons_zero, Act.put, List.setIfInBounds_toArray, List.set_cons_zero, List.set_cons_succ]
  refine wpAnyL_take (i := 6) (oi := _) (v := ?_) rfl (by kernel_rfl) (by kernel_rfl) (by kernel_rfl) (by kernel_rfl) (by kernel_rfl) (fun _ _ _ h => h) (Or.inl ⟨by rfl, ?_⟩) (by assumption) (fun hNew => ?_)
  rotate_left
  · intro w _
    go_simp
    try with_reducible rfl
  clear hHeld
  have hHeld := hNew
  clear hNew
  try simp only [List.getElem_toArray, List.getElem_cons_succ, List.getElem_cons_zero, Act.put, List.setIfInBounds_toArray, List.set_cons_zero, List.set_cons_succ]
  refine wpAnyL_load 2 (i := 7) (oi := _) (v := ?_) rfl rfl (by kernel_rfl) (by kernel_rfl) (by kernel_rfl) (by kernel_rfl) (by kernel_rfl) (by kernel_rfl) (fun _ _ _ h => h) (Or.inl ⟨by rfl, ?_⟩) (by assumption) (fun hNew => ?_)
  rotate_left
  · intro w hSw
    (try dsimp only at hSw)
    go_simp
    try with_reducible rfl
  clear hHeld
  have hHeld := hNew
  clear hNew
  try simp only [List.getElem_toArray, List.getElem_cons_succ, List.getElem_cons_zero, Act.put, List.setIfInBounds_toArray, List.set_cons_zero, List.set_cons_succ]
  refine wpAnyL_ready (rs := [8]) (by kernel_rfl) (by simp) ?_
  refine AllReadyL.cons (o := _) rfl (fun K hK => ?_) AllReadyL.nil
  try simp only [List.getElem_toArray, List.getElem_cons_succ, List.getElem_cons_zero]
  rw [if_pos (by rfl)]
  refine wp_copy (.tmp 28) (.tmp 32) (by rfl) (by rfl) (by rfl) (HRUN.out _) ?_
  clear hHeld
  refine hK.out _ _ ?_ (fun hHeld => ?_)
  · exact (HoldC.past (by kernel_rfl) (HoldC.past (by kernel_rfl) (HoldC.past (by kernel_rfl) HoldC.nil)))
  clear hK K
  try simp only [List.getElem_toArray, List.getElem_cons_succ, List.getElem_cons_zero, Act.put, List.setIfInBounds_toArray, List.set_cons_zero, List.set_cons_succ]
  refine wpAnyL_done (by kernel_rfl) ?_ _
  clear hHeld
  simp only [Qn]
  clear k1 k2 k3 HRUN
  gi_wp2_with fail
  rw [← HW5.out]
  try rw [HS4.out]
  refine ⟨trivial, (wide_w.calls (dwaits_any p w5)).mono ?_⟩
  rintro e w6 ⟨rfl, hw6⟩
  have hc6 : Chg [] w5 w6 := by rw [hw6]; exact (Chg.refl _ _).alloc _
  have hB1 : w6.cell? ⟨w5.heap.size, 0, none⟩ = some (.pointer (some ⟨p, 0, none⟩)) := by rw [hw6]; exact blk_cell (heap_alloc_new w5 _) 0 _ rfl
  have hcr6 := HCR5.out.keep hc6
  have hcw6 : Chg [] w w6 := hcr6.chg
  have H6 : DiskOk w6 p S d gn gl cn cl v := by
    have H := HH.out
    obtain ⟨m1, m2, m3, m4⟩ := H.mem
    exact ⟨hcw6.keep H.head (by simp), H.now.keep (hcw6.block _ H.now.lt (by simp)), H.lasts.keep (hcw6.block _ H.lasts.lt (by simp)), row_keep H.since (fun g hg => hcw6.block g (World.ownsRow.lt H.since g hg).2 (by simp)),
      H.waits, H.few, H.capn, H.capl, H.fuse, H.ap, H.av, H.mem, fun x hx => Nat.lt_of_lt_of_le (H.lim x hx) hcw6.size⟩
  have h62 : w6.cell? ⟨p, 2, none⟩ = some v := blk_cell H6.head 2 _ rfl
  obtain ⟨xs, hxs⟩ := wcs_of (N := d.n) d.since (fun x hx => H6.waits x hx)
  have hxl : xs.length = d.since.length := by rw [← hxs, wcs_len]
  have hrow : w6.ownsRow 0 133 65 v xs.length (wsCells (wcs xs)) := by rw [hxs, hxl]; exact H6.since
  have hxn : xs.length ≤ 1000000 := by rw [hxl]; exact hw
  have hvl : ∀ g, v.ownBlock = some g → g < w.heap.size := fun g hg => (World.ownsRow.lt HH.out.since g hg).2
  obtain ⟨iw, zw, hiw, hzw1, hzw2, hzw3, hzw4⟩ := info_three facts_wr
  have HIW := Lib.hid hiw
  have HZ1 := Lib.hid hzw1
  have HZ2 := Lib.hid hzw2
  have HZ3 := Lib.hid hzw3
  have HXS := Lib.hid hxs
  have HXN := Lib.hid hxn
  have HROW := Lib.hid hrow
  have HVL := Lib.hid hvl
  have HCR6 := Lib.hid hcr6
  have HCW6 := Lib.hid hcw6
  have hs6 : w.heap.size + 6 ≤ w6.heap.size := by
    have h1 := blk_lt HCR5.out.ci
    have h2 := World.block_lt_of_cell? w6 _ hB1
    simp at h1 h2
    omega
  clear hw6 hc6 hcr6 H6 hxs hxl hrow hxn hvl hiw hzw1 hzw2 hzw3 hzw4 hcw6
  gi_wp2_with fail
  refine wpIn_rangeFunc_ownH rfl (by omega) (gf := 121) (lb := #[.pointer (some ⟨w5.heap.size, 0, none⟩)]) rfl trivial (enters_of Tryz.func121 (by kernel_rfl) rfl)
    (dwaits_stops 4 w5.heap.size p d.n (by omega) v xs HXN.out w6 hB1 h62 HROW.out) (fun h1 h2 g hg => (h2 g hg).trans (h1 g hg))
    (fun W l o o' hl hh _ _ g hg => World.putObj_heap_other (fun e => by have := HVL.out g hg; omega)) (Below.refl _ _) (fun _ => rfl)
    (fun pre W => CrashAt w W n (w.heap.size + 4) w.heap.size (w.heap.size + 2) (w.heap.size + 3) (w.heap.size + 1) pre.length (.slice ca ch.length cc) (applied (chosen ch (wcs pre) 0) d.lasts) ∧ w6.heap.size ≤ W.heap.size) (fun _ _ _ => False)
    (fun s A B row hs hg hr => ⟨hs.1.turn hg (fun r e => ⟨by have := (hr r e).1; omega, (hr r e).2⟩), Nat.le_trans hs.2 hg.size⟩) (fun c s A B row hs _ _ => hs)
    ⟨HCR6.out, Nat.le_refl _⟩
    (fun x a' W => ∃ Bx, w6.heap.size ≤ Bx ∧ W.heap[Bx]? = some (.cells (wcells x.1).toArray 133 (0, 0)) ∧ a' = { tmps := #[.pointer (some ⟨p, 0, none⟩), .slice ca ch.length cc, undef, .pointer (some ⟨w.heap.size, 0, none⟩), .pointer none, .pointer (some ⟨w.heap.size + 3, 0, none⟩), .pointer (some ⟨w.heap.size + 4, 0, none⟩), .pointer (some ⟨Bx, 0, none⟩), .pointer (some ⟨p, 0, none⟩), .bool false, .bool false, .pointer (some ⟨p, 0, none⟩), .pointer (some ⟨p, 0, none⟩), .pointer (some ⟨p, 0, none⟩), .slice (some ⟨gn, 0, none⟩) n cn, .bool false, .bool false, .pointer (some ⟨p, 0, none⟩), .pointer (some ⟨p, 0, none⟩), .pointer (some ⟨p, 1, none⟩), .slice (some ⟨gl, 0, none⟩) n cl, .int .i64 n, .slice (some ⟨w.heap.size + 1, 0, none⟩) n n, .agg #[.slice none 0 0, .slice (some ⟨w.heap.size + 1, 0, none⟩) n n, .slice none 0 0, .int .i64 (-1), .int .i64 0, .bool false], .pointer (some ⟨w.heap.size + 2, 0, none⟩), .pointer (some ⟨w.heap.size + 2, 0, none⟩), .pointer (some ⟨w.heap.size + 2, 0, none⟩), .pointer (some ⟨w.heap.size + 2, 1, none⟩), .slice (some ⟨w.heap.size + 1, 0, none⟩) n n, .pointer (some ⟨p, 0, none⟩), .pointer (some ⟨p, 0, none⟩), .pointer (some ⟨p, 1, none⟩), .slice (some ⟨gl, 0, none⟩) n cl, .int .i64 n, .pointer (some ⟨p, 0, none⟩), .func (.func 121) #[] #[.pointer (some ⟨w5.heap.size, 0, none⟩)], .agg (wcells x.1).toArray, undef, undef, undef, undef, undef, undef, undef, undef, undef, undef, undef, undef, undef, undef, undef, undef, undef, undef, undef, undef, undef, undef, undef, undef, undef, undef, undef, undef, undef, undef, undef, undef], defers := [] })
    (fun x a' s A B row ⟨Bx, h1, h2, h3⟩ hg hr => ⟨Bx, h1, (blk_turn h2 hg (fun r e => (hr r e).2)).trans h2, h3⟩) ?assign ?body ?done ?stop
  case stop =>
    rintro D c pre W _ _ h _
    exact h.elim
  case assign =>
    rintro l pre x W K ⟨hI, hsz3⟩ hK
    have HXL := Lib.hid (wcells_len x.1 x.2.2)
    have hone := Lib.hid (all_oneCell_toArray (wcells_one x.1))
    have HZ2b : Hid (zw.cells.size = (wcells x.1).toArray.size) := Lib.hid (by rw [HZ2.out]; simp [HXL.out])
    have HZ3b : Hid (iw.size = (wcells x.1).toArray.size) := Lib.hid (by rw [HZ3.out]; simp [HXL.out])
    have HN := Lib.hid (hK { tmps := #[.pointer (some ⟨p, 0, none⟩), .slice ca ch.length cc, undef, .pointer (some ⟨w.heap.size, 0, none⟩), .pointer none, .pointer (some ⟨w.heap.size + 3, 0, none⟩), .pointer (some ⟨w.heap.size + 4, 0, none⟩), .pointer (some ⟨W.heap.size, 0, none⟩), .pointer (some ⟨p, 0, none⟩), .bool false, .bool false, .pointer (some ⟨p, 0, none⟩), .pointer (some ⟨p, 0, none⟩), .pointer (some ⟨p, 0, none⟩), .slice (some ⟨gn, 0, none⟩) n cn, .bool false, .bool false, .pointer (some ⟨p, 0, none⟩), .pointer (some ⟨p, 0, none⟩), .pointer (some ⟨p, 1, none⟩), .slice (some ⟨gl, 0, none⟩) n cl, .int .i64 n, .slice (some ⟨w.heap.size + 1, 0, none⟩) n n, .agg #[.slice none 0 0, .slice (some ⟨w.heap.size + 1, 0, none⟩) n n, .slice none 0 0, .int .i64 (-1), .int .i64 0, .bool false], .pointer (some ⟨w.heap.size + 2, 0, none⟩), .pointer (some ⟨w.heap.size + 2, 0, none⟩), .pointer (some ⟨w.heap.size + 2, 0, none⟩), .pointer (some ⟨w.heap.size + 2, 1, none⟩), .slice (some ⟨w.heap.size + 1, 0, none⟩) n n, .pointer (some ⟨p, 0, none⟩), .pointer (some ⟨p, 0, none⟩), .pointer (some ⟨p, 1, none⟩), .slice (some ⟨gl, 0, none⟩) n cl, .int .i64 n, .pointer (some ⟨p, 0, none⟩), .func (.func 121) #[] #[.pointer (some ⟨w5.heap.size, 0, none⟩)], .agg (wcells x.1).toArray, undef, undef, undef, undef, undef, undef, undef, undef, undef, undef, undef, undef, undef, undef, undef, undef, undef, undef, undef, undef, undef, undef, undef, undef, undef, undef, undef, undef, undef, undef, undef, undef], defers := [] } (W.alloc (.cells (wcells x.1).toArray 133)) ((KeepsOthers.alloc _ _).from _)
      (fun g hg => Below.heap_alloc W _ g (Nat.lt_of_lt_of_le (HVL.out g hg) (by omega))) ⟨hI.keep ((Chg.refl _ W).alloc _), by simp; omega⟩ ⟨W.heap.size, hsz3, heap_alloc_new W _, rfl⟩)
    clear hK hI
    refine wpIn_region_lit ?_
    simp [wenc]
    (refine wpListIn_varW (wide_r l) (by rfl) (by rfl) 133 (.tmp 7) (.tmp 36) (by rfl) (by rfl) W.heap.size rfl (wcells x.1).toArray (by rfl) (by rfl) iw zw HIW.out HZ1.out HZ2b.out HZ3b.out hone.out ?_)
    exact HN.out
  case body =>
    rintro l pre x a' W hl ⟨r, hr⟩ ⟨hC, hszW⟩ ⟨Bx, hBx, bX, rfl⟩ hlt
    obtain ⟨k, hk⟩ : ∃ k, k = pre.length := ⟨_, rfl⟩
    have HKL := Lib.hid hk
    rw [← hk] at hC hlt
    have hk9 : k ≤ 1000000 := by have := HXN.out; omega
    have ci : W.cell? ⟨w.heap.size + 4, 0, none⟩ = some (.int .i64 (k : Int)) := blk_cell hC.ci 0 _ rfl
    have cb : W.cell? ⟨w.heap.size, 0, none⟩ = some (.slice ca ch.length cc) := blk_cell hC.ch 0 _ rfl
    have cp : W.cell? ⟨w.heap.size + 3, 0, none⟩ = some (.pointer (some ⟨w.heap.size + 2, 0, none⟩)) := blk_cell hC.cc 0 _ rfl
    have c1 : W.cell? ⟨w.heap.size + 2, 1, none⟩ = some (.slice (some ⟨w.heap.size + 1, 0, none⟩) n n) := blk_cell hC.obj 1 _ rfl
    have cx : W.cell? ⟨Bx, 0, none⟩ = some (.int .i64 (x.1.1 : Int)) := blk_cell bX 0 _ rfl
    have hxr : W.rangeAt Bx 0 (wcells x.1) := fun j u hu => by rw [Nat.zero_add]; exact blk_cell bX j u (by simpa using hu)
    have HXR := Lib.hid (range_tail hxr)
    have hx1 : x.1.1 < n := by rw [HN.out]; exact x.2.1
    have HXS2 := Lib.hid x.2.2
    have HCC := Lib.hid hC
    have hsnoc : ∀ q : Bool, leftAt ch k = q → applied (chosen ch (wcs (pre ++ [x])) 0) d.lasts = if q then upd (applied (chosen ch (wcs pre) 0) d.lasts) x.1.1 x.1.2 else applied (chosen ch (wcs pre) 0) d.lasts := fun q hq => by
      rw [show wcs (pre ++ [x]) = wcs pre ++ [x.1] by simp [wcs], chosen_snoc, Nat.zero_add, wcs_len, ← HKL.out, hq]
      cases q
      · simp
      · simp [applied_snoc]
    have HSN := Lib.hid hsnoc
    -- the round's end
    have hfin : ∀ W2, CrashAt w W2 n (w.heap.size + 4) w.heap.size (w.heap.size + 2) (w.heap.size + 3) (w.heap.size + 1) k (.slice ca ch.length cc) (applied (chosen ch (wcs (pre ++ [x])) 0) d.lasts) → (∀ j, j < w.heap.size ∨ w6.heap.size ≤ j → W2.heap[j]? = W.heap[j]?) → W.heap.size ≤ W2.heap.size →
        ownPostG w6.heap.size (KpRow v) (fun pre W => CrashAt w W n (w.heap.size + 4) w.heap.size (w.heap.size + 2) (w.heap.size + 3) (w.heap.size + 1) pre.length (.slice ca ch.length cc) (applied (chosen ch (wcs pre) 0) d.lasts) ∧ w6.heap.size ≤ W.heap.size) (fun _ _ _ => False) (pre ++ [x]) W Exit.normal { tmps := #[], defers := [] } (W2.setCell ⟨w.heap.size + 4, 0, none⟩ (.int .i64 ((k : Int) + 1))) := fun W2 h2 hj hsz => by
      have hne := h2.ne
      have hlo := h2.lo
      have hset : ∀ j, j ≠ w.heap.size + 4 → (W2.setCell ⟨w.heap.size + 4, 0, none⟩ (.int .i64 ((k : Int) + 1))).heap[j]? = W2.heap[j]? := fun j hj => Below.heap_setCell W2 ⟨w.heap.size + 4, 0, none⟩ _ j hj
      have hsz2 : (W2.setCell ⟨w.heap.size + 4, 0, none⟩ (.int .i64 ((k : Int) + 1))).heap.size = W2.heap.size := by simp [World.setCell]
      refine ⟨⟨by rw [hsz2]; exact hsz, fun j o h1 h3 _ => ?_⟩, fun g hg => ?_, ⟨?_, ?_, ?_, ?_, ?_, ?_, h2.lo, h2.ne⟩, by rw [hsz2]; omega⟩
      · rw [hset j (by omega), hj j (.inr h1)]; exact h3
      · have := HVL.out g hg
        rw [hset g (by omega), hj g (.inl this)]
      · have := set_blk (j := 0) (u := .int .i64 ((k : Int) + 1)) h2.ci
        rw [this, show (pre ++ [x]).length = k + 1 by simp [HKL.out]]
        rfl
      · rw [hset _ (by omega)]; exact h2.ch
      · rw [hset _ (by omega)]; exact h2.cc
      · rw [hset _ (by omega)]; exact h2.obj
      · exact h2.secs.keep (hset _ (by omega))
      · exact h2.chg.setCell (.inr (by show w.heap.size ≤ w.heap.size + 4; omega)) _
    have HFIN := Lib.hid hfin
    have hzs : Hid ((Tryz.prog.info? 109).map (·.size) = some (bvs x.1.2).length) := Lib.hid (by rw [bvs_len, HXS2.out]; kernel_rfl)
    have hzt : Hid ((Tryz.prog.info? 109).map (·.size) = some (bvs x.1.2).toArray.size) := Lib.hid (by rw [show (bvs x.1.2).toArray.size = (bvs x.1.2).length by simp]; exact hzs.out)
    have th : Hid (W.drew.there (w.heap.size + 1) (x.1.1 * 64) (bvs x.1.2).toArray.size) := Lib.hid (by
      have h1 := (hC.secs.keep (w' := W.drew) rfl).there x.1.1 hx1
      have h2 : (bvs x.1.2).toArray.size = 64 := by simp [bvs_len, HXS2.out]
      rw [h2]; exact h1)
    have hone := Lib.hid (all_oneCell_toArray (bvs_one x.1.2))
    have hjz : ((x.1.1 : Nat) : Int) < (n : Int) := by omega
    have hjz0 : (0 : Int) ≤ ((x.1.1 : Nat) : Int) := by omega
    have hjz1 : ((x.1.1 : Nat) : Int).toNat = x.1.1 := by omega
    obtain ⟨W2, hW2⟩ : ∃ W2, W2 = W.drew.setCells (w.heap.size + 1) (x.1.1 * 64) (bvs x.1.2) := ⟨_, rfl⟩
    have hleft : leftAt ch k = true → CrashAt w W2 n (w.heap.size + 4) w.heap.size (w.heap.size + 2) (w.heap.size + 3) (w.heap.size + 1) k (.slice ca ch.length cc) (applied (chosen ch (wcs (pre ++ [x])) 0) d.lasts) := fun hq => by
      have hfar : ∀ j, j ≠ w.heap.size + 1 → W2.heap[j]? = W.heap[j]? := fun j hj => by rw [hW2]; exact setCells_far _ _ _ _ hj
      rw [HSN.out true hq, if_pos rfl]
      refine ⟨(hfar _ (by omega)).trans hC.ci, (hfar _ (by omega)).trans hC.ch, (hfar _ (by omega)).trans hC.cc, (hfar _ (by omega)).trans hC.obj, ?_, ?_, hC.lo, hC.ne⟩
      · rw [hW2]; exact (hC.secs.keep (w' := W.drew) rfl).set x.1.1 x.1.2 hx1 HXS2.out
      · rw [hW2]; exact hC.chg.drew.setCells (.inr (by omega)) _
    have HLEFT := Lib.hid hleft
    have hW2s : W2.heap.size = W.heap.size := by rw [hW2, setCells_size]; rfl
    have hW2j : ∀ j, j < w.heap.size ∨ w6.heap.size ≤ j → W2.heap[j]? = W.heap[j]? := fun j hj => by rw [hW2]; exact setCells_far _ _ _ _ (by omega)
    have HW2 := Lib.hid hW2
    have HW2S := Lib.hid hW2s
    have HW2J := Lib.hid hW2j
    have HIW2 := Lib.hid (IntWalk.i64_in ((k : Int) + 1) ⟨by omega, by omega⟩)
    clear hk hsnoc hfin hleft hW2 hW2s hW2j bX hxr hr
    by_cases hkl : ch.length ≤ k
    · have hz : (ch.length : Int) ≤ (k : Int) := by omega
      have HL := Lib.hid (HLEFT.out (by unfold leftAt; rw [decide_eq_true hkl]; rfl))
      clear hC
      gi_wp2_with fail
      refine wpIn_region_L (wide_r l) (by rintro ⟨_, _, h⟩; exact h) (by kernel_rfl) [(9, fun w' => w'.cell? ⟨w.heap.size + 3, 0, none⟩ = some (.pointer (some ⟨w.heap.size + 2, 0, none⟩))), (9, fun w' => w'.cell? ⟨w.heap.size + 2, 1, none⟩ = some (.slice (some ⟨w.heap.size + 1, 0, none⟩) n n)), (9, fun w' => w'.cell? ⟨Bx, 0, none⟩ = some (.int .i64 (x.1.1 : Int))), (9, fun w' => w'.rangeAt Bx (0 + 1) (bvs x.1.2))] (by kernel_rfl) ?_ (fun hHeld => ?_)
      · exact (HoldC.cons (cp) (HoldC.cons (c1) (HoldC.cons (cx) (HoldC.cons (HXR.out) HoldC.nil))))
      refine wpAnyL_load 0 (i := 0) (oi := _) (v := ?_) rfl rfl (by kernel_rfl) (by kernel_rfl) (by kernel_rfl) (by kernel_rfl) (by kernel_rfl) (by kernel_rfl) (fun _ _ _ h => h) (Or.inl ⟨by rfl, ?_⟩) (by assumption) (fun hNew => ?_)
      rotate_left
      · intro w hSw
        (try dsimp only at hSw)
        go_simp
        try with_reducible rfl
      clear hHeld
      have hHeld := hNew
      clear hNew
      try simp only [List.getElem_toArray, List.getElem_cons_succ, List.getElem_cons_zero, Act.put, List.setIfInBounds_toArray, List.set_cons_zero, List.set_cons_succ]
      refine wpAnyL_take (i := 1) (oi := _) (v := ?_) rfl (by kernel_rfl) (by kernel_rfl) (by kernel_rfl) (by kernel_rfl) (by kernel_rfl) (fun _ _ _ h => h) (Or.inl ⟨by rfl, ?_⟩) (by assumption) (fun hNew => ?_)
      rotate_left
      · intro w _
        go_simp
        try with_reducible rfl
      clear hHeld
      have hHeld := hNew
      clear hNew
      try simp only [List.getElem_toArray, List.getElem_cons_succ, List.getElem_cons_zero, Act.put, List.setIfInBounds_toArray, List.set_cons_zero, List.set_cons_succ]
      refine wpAnyL_take (i := 2) (oi := _) (v := ?_) rfl (by kernel_rfl) (by kernel_rfl) (by kernel_rfl) (by kernel_rfl) (by kernel_rfl) (fun _ _ _ h => h) (Or.inl ⟨by rfl, ?_⟩) (by assumption) (fun hNew => ?_)
      rotate_left
      · intro w _
        go_simp
        try with_reducible rfl
      clear hHeld
      have hHeld := hNew
      clear hNew
      try simp only [List.getElem_toArray, List.getElem_cons_succ, List.getElem_cons_zero, Act.put, List.setIfInBounds_toArray, List.set_cons_zero, List.set_cons_succ]
      refine wpAnyL_load 1 (i := 3) (oi := _) (v := ?_) rfl rfl (by kernel_rfl) (by kernel_rfl) (by kernel_rfl) (by kernel_rfl) (by kernel_rfl) (by kernel_rfl) (fun _ _ _ h => h) (Or.inl ⟨by rfl, ?_⟩) (by assumption) (fun hNew => ?_)
      rotate_left
      · intro w hSw
        (try dsimp only at hSw)
        go_simp
        try with_reducible rfl
      clear hHeld
      have hHeld := hNew
      clear hNew
      try simp only [List.getElem_toArray, List.getElem_cons_succ, List.getElem_cons_zero, Act.put, List.setIfInBounds_toArray, List.set_cons_zero, List.set_cons_succ]
      refine wpAnyL_take (i := 4) (oi := _) (v := ?_) rfl (by kernel_rfl) (by kernel_rfl) (by kernel_rfl) (by kernel_rfl) (by kernel_rfl) (fun _ _ _ h => h) (Or.inl ⟨by rfl, ?_⟩) (by assumption) (fun hNew => ?_)
      rotate_left
      · intro w _
        go_simp
        try with_reducible rfl
      clear hHeld
      have hHeld := hNew
      clear hNew
      try simp only [List.getElem_toArray, List.getElem_cons_succ, List.getElem_cons_zero, Act.put, List.setIfInBounds_toArray, List.set_cons_zero, List.set_cons_succ]
      refine wpAnyL_load 2 (i := 5) (oi := _) (v := ?_) rfl rfl (by kernel_rfl) (by kernel_rfl) (by kernel_rfl) (by kernel_rfl) (by kernel_rfl) (by kernel_rfl) (fun _ _ _ h => h) (Or.inl ⟨by rfl, ?_⟩) (by assumption) (fun hNew => ?_)
      rotate_left
      · intro w hSw
        (try dsimp only at hSw)
        go_simp
        try with_reducible rfl
      clear hHeld
      have hHeld := hNew
      clear hNew
      try simp only [List.getElem_toArray, List.getElem_cons_succ, List.getElem_cons_zero, Act.put, List.setIfInBounds_toArray, List.set_cons_zero, List.set_cons_succ]
      refine wpAnyL_take (i := 6) (oi := _) (v := ?_) rfl (by kernel_rfl) (by kernel_rfl) (by kernel_rfl) (by kernel_rfl) (by kernel_rfl) (fun _ _ _ h => h) (Or.inl ⟨by rfl, ?_⟩) (by assumption) (fun hNew => ?_)
      rotate_left
      · intro w _
        go_simp
        try with_reducible rfl
      clear hHeld
      have hHeld := hNew
      clear hNew
      try simp only [List.getElem_toArray, List.getElem_cons_succ, List.getElem_cons_zero, Act.put, List.setIfInBounds_toArray, List.set_cons_zero, List.set_cons_succ]
      refine wpAnyL_load 3 (i := 7) (oi := _) (v := .agg (bvs x.1.2).toArray) rfl rfl (by kernel_rfl) (by kernel_rfl) (by kernel_rfl) (by kernel_rfl) (by kernel_rfl) (by kernel_rfl) (fun _ _ _ h => h) (yieldsIf_load_mid (by rfl) 109 (.tmp 55) (by rfl) (Bx) (0 + 1) (by rfl) (bvs x.1.2) _ (fun w hw => hw) Tryz.underlying109 rfl hzs.out) (by assumption) (fun hNew => ?_)
      clear hHeld
      have hHeld := hNew
      clear hNew
      try simp only [List.getElem_toArray, List.getElem_cons_succ, List.getElem_cons_zero, Act.put, List.setIfInBounds_toArray, List.set_cons_zero, List.set_cons_succ]
      refine wpAnyL_take (i := 8) (oi := _) (v := ?_) rfl (by kernel_rfl) (by kernel_rfl) (by kernel_rfl) (by kernel_rfl) (by kernel_rfl) (fun _ _ _ h => h) (Or.inl ⟨by rfl, ?_⟩) (by assumption) (fun hNew => ?_)
      rotate_left
      · intro w _
        go_simp
        try with_reducible rfl
      clear hHeld
      have hHeld := hNew
      clear hNew
      try simp only [List.getElem_toArray, List.getElem_cons_succ, List.getElem_cons_zero, Act.put, List.setIfInBounds_toArray, List.set_cons_zero, List.set_cons_succ]
      refine wpAnyL_ready (rs := [9]) (by kernel_rfl) (by simp) ?_
      refine AllReadyL.cons (o := _) rfl (fun K hK => ?_) AllReadyL.nil
      try simp only [List.getElem_toArray, List.getElem_cons_succ, List.getElem_cons_zero]
      rw [if_pos (by rfl)]
      refine wp_store_mid 109 (.tmp 57) (.tmp 56) (by rfl) (w.heap.size + 1) (x.1.1 * 64) (bvs x.1.2).toArray (by rfl) (by rfl) th.out hzt.out hone.out ?_
      clear hHeld
      refine hK.out _ _ ?_ (fun hHeld => ?_)
      · exact (HoldC.past (by kernel_rfl) (HoldC.past (by kernel_rfl) (HoldC.past (by kernel_rfl) (HoldC.past (by kernel_rfl) HoldC.nil))))
      clear hK K
      try simp only [List.getElem_toArray, List.getElem_cons_succ, List.getElem_cons_zero, Act.put, List.setIfInBounds_toArray, List.set_cons_zero, List.set_cons_succ]
      refine wpAnyL_done (by kernel_rfl) ?_ _
      clear hHeld
      rw [← HW2.out]
      have d1 := blk_cell HL.out.ci 0 _ rfl
      have d2 := blk_frozen HL.out.ci 0
      have d3 := blk_lt HL.out.ci
      gi_wp2
      exact HFIN.out _ HL.out HW2J.out (by rw [HW2S.out]; exact Nat.le_refl _)
    · have hz : ¬ (ch.length : Int) ≤ (k : Int) := by omega
      have hz2 : (k : Int) < (ch.length : Int) := by omega
      have hz3 : (k : Int).toNat = k := by omega
      have hz4 : (0 : Int) ≤ (k : Int) := by omega
      obtain ⟨a', cap', hs', h1', h2', h3'⟩ := HCV.out
      rcases h3' with ⟨rfl, _⟩ | ⟨g, o, rfl, hcell⟩
      · simp at hkl
      · obtain ⟨rfl, rfl⟩ : ca = some ⟨g, o, none⟩ ∧ cc = cap' := by simpa using hs'
        obtain ⟨b, hb⟩ : ∃ b, b = ch.getD k 0 := ⟨_, rfl⟩
        have cbk : W.cell? ⟨g, o + k, none⟩ = some (.int .u8 (b.toNat : Int)) := by
          have := hC.chg.cell (hcell k (by omega)) (by simp)
          rw [← hb] at this
          exact this
        have hqb := u8_bit b
        have HB := Lib.hid hb
        clear hcell hs' h1' h2' hb
        by_cases hbit : b &&& 1 = 1
        · rw [hbit] at hqb
          have hqb : bits .and .u8 (b.toNat : Int) 1 = 1 := hqb
          have HL := Lib.hid (HLEFT.out (by unfold leftAt; rw [← HB.out, decide_eq_true hbit, Bool.or_true]))
          clear hC hbit
          gi_wp2_with fail
          refine wpIn_region_L (wide_r l) (by rintro ⟨_, _, h⟩; exact h) (by kernel_rfl) [(9, fun w' => w'.cell? ⟨w.heap.size + 3, 0, none⟩ = some (.pointer (some ⟨w.heap.size + 2, 0, none⟩))), (9, fun w' => w'.cell? ⟨w.heap.size + 2, 1, none⟩ = some (.slice (some ⟨w.heap.size + 1, 0, none⟩) n n)), (9, fun w' => w'.cell? ⟨Bx, 0, none⟩ = some (.int .i64 (x.1.1 : Int))), (9, fun w' => w'.rangeAt Bx (0 + 1) (bvs x.1.2))] (by kernel_rfl) ?_ (fun hHeld => ?_)
          · exact (HoldC.cons (cp) (HoldC.cons (c1) (HoldC.cons (cx) (HoldC.cons (HXR.out) HoldC.nil))))
          refine wpAnyL_load 0 (i := 0) (oi := _) (v := ?_) rfl rfl (by kernel_rfl) (by kernel_rfl) (by kernel_rfl) (by kernel_rfl) (by kernel_rfl) (by kernel_rfl) (fun _ _ _ h => h) (Or.inl ⟨by rfl, ?_⟩) (by assumption) (fun hNew => ?_)
          rotate_left
          · intro w hSw
            (try dsimp only at hSw)
            go_simp
            try with_reducible rfl
          clear hHeld
          have hHeld := hNew
          clear hNew
          try simp only [List.getElem_toArray, List.getElem_cons_succ, List.getElem_cons_zero, Act.put, List.setIfInBounds_toArray, List.set_cons_zero, List.set_cons_succ]
          refine wpAnyL_take (i := 1) (oi := _) (v := ?_) rfl (by kernel_rfl) (by kernel_rfl) (by kernel_rfl) (by kernel_rfl) (by kernel_rfl) (fun _ _ _ h => h) (Or.inl ⟨by rfl, ?_⟩) (by assumption) (fun hNew => ?_)
          rotate_left
          · intro w _
            go_simp
            try with_reducible rfl
          clear hHeld
          have hHeld := hNew
          clear hNew
          try simp only [List.getElem_toArray, List.getElem_cons_succ, List.getElem_cons_zero, Act.put, List.setIfInBounds_toArray, List.set_cons_zero, List.set_cons_succ]
          refine wpAnyL_take (i := 2) (oi := _) (v := ?_) rfl (by kernel_rfl) (by kernel_rfl) (by kernel_rfl) (by kernel_rfl) (by kernel_rfl) (fun _ _ _ h => h) (Or.inl ⟨by rfl, ?_⟩) (by assumption) (fun hNew => ?_)
          rotate_left
          · intro w _
            go_simp
            try with_reducible rfl
          clear hHeld
          have hHeld := hNew
          clear hNew
          try simp only [List.getElem_toArray, List.getElem_cons_succ, List.getElem_cons_zero, Act.put, List.setIfInBounds_toArray, List.set_cons_zero, List.set_cons_succ]
          refine wpAnyL_load 1 (i := 3) (oi := _) (v := ?_) rfl rfl (by kernel_rfl) (by kernel_rfl) (by kernel_rfl) (by kernel_rfl) (by kernel_rfl) (by kernel_rfl) (fun _ _ _ h => h) (Or.inl ⟨by rfl, ?_⟩) (by assumption) (fun hNew => ?_)
          rotate_left
          · intro w hSw
            (try dsimp only at hSw)
            go_simp
            try with_reducible rfl
          clear hHeld
          have hHeld := hNew
          clear hNew
          try simp only [List.getElem_toArray, List.getElem_cons_succ, List.getElem_cons_zero, Act.put, List.setIfInBounds_toArray, List.set_cons_zero, List.set_cons_succ]
          refine wpAnyL_take (i := 4) (oi := _) (v := ?_) rfl (by kernel_rfl) (by kernel_rfl) (by kernel_rfl) (by kernel_rfl) (by kernel_rfl) (fun _ _ _ h => h) (Or.inl ⟨by rfl, ?_⟩) (by assumption) (fun hNew => ?_)
          rotate_left
          · intro w _
            go_simp
            try with_reducible rfl
          clear hHeld
          have hHeld := hNew
          clear hNew
          try simp only [List.getElem_toArray, List.getElem_cons_succ, List.getElem_cons_zero, Act.put, List.setIfInBounds_toArray, List.set_cons_zero, List.set_cons_succ]
          refine wpAnyL_load 2 (i := 5) (oi := _) (v := ?_) rfl rfl (by kernel_rfl) (by kernel_rfl) (by kernel_rfl) (by kernel_rfl) (by kernel_rfl) (by kernel_rfl) (fun _ _ _ h => h) (Or.inl ⟨by rfl, ?_⟩) (by assumption) (fun hNew => ?_)
          rotate_left
          · intro w hSw
            (try dsimp only at hSw)
            go_simp
            try with_reducible rfl
          clear hHeld
          have hHeld := hNew
          clear hNew
          try simp only [List.getElem_toArray, List.getElem_cons_succ, List.getElem_cons_zero, Act.put, List.setIfInBounds_toArray, List.set_cons_zero, List.set_cons_succ]
          refine wpAnyL_take (i := 6) (oi := _) (v := ?_) rfl (by kernel_rfl) (by kernel_rfl) (by kernel_rfl) (by kernel_rfl) (by kernel_rfl) (fun _ _ _ h => h) (Or.inl ⟨by rfl, ?_⟩) (by assumption) (fun hNew => ?_)
          rotate_left
          · intro w _
            go_simp
            try with_reducible rfl
          clear hHeld
          have hHeld := hNew
          clear hNew
          try simp only [List.getElem_toArray, List.getElem_cons_succ, List.getElem_cons_zero, Act.put, List.setIfInBounds_toArray, List.set_cons_zero, List.set_cons_succ]
          refine wpAnyL_load 3 (i := 7) (oi := _) (v := .agg (bvs x.1.2).toArray) rfl rfl (by kernel_rfl) (by kernel_rfl) (by kernel_rfl) (by kernel_rfl) (by kernel_rfl) (by kernel_rfl) (fun _ _ _ h => h) (yieldsIf_load_mid (by rfl) 109 (.tmp 55) (by rfl) (Bx) (0 + 1) (by rfl) (bvs x.1.2) _ (fun w hw => hw) Tryz.underlying109 rfl hzs.out) (by assumption) (fun hNew => ?_)
          clear hHeld
          have hHeld := hNew
          clear hNew
          try simp only [List.getElem_toArray, List.getElem_cons_succ, List.getElem_cons_zero, Act.put, List.setIfInBounds_toArray, List.set_cons_zero, List.set_cons_succ]
          refine wpAnyL_take (i := 8) (oi := _) (v := ?_) rfl (by kernel_rfl) (by kernel_rfl) (by kernel_rfl) (by kernel_rfl) (by kernel_rfl) (fun _ _ _ h => h) (Or.inl ⟨by rfl, ?_⟩) (by assumption) (fun hNew => ?_)
          rotate_left
          · intro w _
            go_simp
            try with_reducible rfl
          clear hHeld
          have hHeld := hNew
          clear hNew
          try simp only [List.getElem_toArray, List.getElem_cons_succ, List.getElem_cons_zero, Act.put, List.setIfInBounds_toArray, List.set_cons_zero, List.set_cons_succ]
          refine wpAnyL_ready (rs := [9]) (by kernel_rfl) (by simp) ?_
          refine AllReadyL.cons (o := _) rfl (fun K hK => ?_) AllReadyL.nil
          try simp only [List.getElem_toArray, List.getElem_cons_succ, List.getElem_cons_zero]
          rw [if_pos (by rfl)]
          refine wp_store_mid 109 (.tmp 57) (.tmp 56) (by rfl) (w.heap.size + 1) (x.1.1 * 64) (bvs x.1.2).toArray (by rfl) (by rfl) th.out hzt.out hone.out ?_
          clear hHeld
          refine hK.out _ _ ?_ (fun hHeld => ?_)
          · exact (HoldC.past (by kernel_rfl) (HoldC.past (by kernel_rfl) (HoldC.past (by kernel_rfl) (HoldC.past (by kernel_rfl) HoldC.nil))))
          clear hK K
          try simp only [List.getElem_toArray, List.getElem_cons_succ, List.getElem_cons_zero, Act.put, List.setIfInBounds_toArray, List.set_cons_zero, List.set_cons_succ]
          refine wpAnyL_done (by kernel_rfl) ?_ _
          clear hHeld
          rw [← HW2.out]
          have d1 := blk_cell HL.out.ci 0 _ rfl
          have d2 := blk_frozen HL.out.ci 0
          have d3 := blk_lt HL.out.ci
          gi_wp2
          exact HFIN.out _ HL.out HW2J.out (by rw [HW2S.out]; exact Nat.le_refl _)
        · have hq0 : (b &&& 1).toNat = 0 := by
            have h1 := u8_and_lt b
            rcases h1 with h1 | h1
            · rw [h1]; rfl
            · exact absurd h1 hbit
          rw [hq0] at hqb
          have hqb : bits .and .u8 (b.toNat : Int) 1 = 0 := hqb
          have HL : Hid (applied (chosen ch (wcs (pre ++ [x])) 0) d.lasts = applied (chosen ch (wcs pre) 0) d.lasts) := Lib.hid (by
            rw [HSN.out false (by unfold leftAt; rw [← HB.out, decide_eq_false hbit, decide_eq_false (by omega)]; rfl), if_neg (by simp)])
          have d2 := blk_frozen hC.ci 0
          have d3 := blk_lt hC.ci
          clear hC hbit hq0
          gi_wp2
          exact HFIN.out _ (by rw [HL.out]; exact HCC.out) (fun _ _ => rfl) (Nat.le_refl _)
  case done =>
    rintro D ys W hDs rfl ⟨hC, hszW⟩ hK
    rw [HXS.out] at hC
    obtain ⟨f, hf⟩ : ∃ f, f = applied (chosen ch d.since 0) d.lasts := ⟨_, rfl⟩
    rw [← hf] at hC
    have HFF := Lib.hid hf
    have cp : W.cell? ⟨w.heap.size + 3, 0, none⟩ = some (.pointer (some ⟨w.heap.size + 2, 0, none⟩)) := blk_cell hC.cc 0 _ rfl
    have c1 : W.cell? ⟨w.heap.size + 2, 1, none⟩ = some (.slice (some ⟨w.heap.size + 1, 0, none⟩) n n) := blk_cell hC.obj 1 _ rfl
    have HCC := Lib.hid hC
    have HKK := Lib.hid hK
    obtain ⟨i, z, hi, hz, hz1, hz2, hz3⟩ := info_three facts_sec
    have HI := Lib.hid hi
    have HZ := Lib.hid hz
    have HZ1 := Lib.hid hz1
    have HZ2 := Lib.hid hz2
    have HZ3 := Lib.hid hz3
    have HHH := HH
    clear hi hz hz1 hz2 hz3 hf hC hK
    gi_wp2_with fail
    refine wpIn_region_LN (wide_w) (by kernel_rfl) [(8, fun w' => w'.cell? ⟨w.heap.size + 3, 0, none⟩ = some (.pointer (some ⟨w.heap.size + 2, 0, none⟩))), (8, fun w' => w'.cell? ⟨w.heap.size + 2, 1, none⟩ = some (.slice (some ⟨w.heap.size + 1, 0, none⟩) n n))] (by kernel_rfl) ?_ (fun hHeld => ?_)
    · exact (HoldC.cons (cp) (HoldC.cons (c1) HoldC.nil))
    refine wpAnyL_load 0 (i := 0) (oi := _) (v := ?_) rfl rfl (by kernel_rfl) (by kernel_rfl) (by kernel_rfl) (by kernel_rfl) (by kernel_rfl) (by kernel_rfl) (fun _ _ _ h => h) (Or.inl ⟨by rfl, ?_⟩) (by assumption) (fun hNew => ?_)
    rotate_left
    · intro w hSw
      (try dsimp only at hSw)
      go_simp
      try with_reducible rfl
    clear hHeld
    have hHeld := hNew
    clear hNew
    try simp only [List.getElem_toArray, List.getElem_cons_succ, List.getElem_cons_zero, Act.put, List.setIfInBounds_toArray, List.set_cons_zero, List.set_cons_succ]
    refine wpAnyL_load 0 (i := 1) (oi := _) (v := ?_) rfl rfl (by kernel_rfl) (by kernel_rfl) (by kernel_rfl) (by kernel_rfl) (by kernel_rfl) (by kernel_rfl) (fun _ _ _ h => h) (Or.inl ⟨by rfl, ?_⟩) (by assumption) (fun hNew => ?_)
    rotate_left
    · intro w hSw
      (try dsimp only at hSw)
      go_simp
      try with_reducible rfl
    clear hHeld
    have hHeld := hNew
    clear hNew
    try simp only [List.getElem_toArray, List.getElem_cons_succ, List.getElem_cons_zero, Act.put, List.setIfInBounds_toArray, List.set_cons_zero, List.set_cons_succ]
    refine wpAnyL_take (i := 2) (oi := _) (v := ?_) rfl (by kernel_rfl) (by kernel_rfl) (by kernel_rfl) (by kernel_rfl) (by kernel_rfl) (fun _ _ _ h => h) (Or.inl ⟨by rfl, ?_⟩) (by assumption) (fun hNew => ?_)
    rotate_left
    · intro w _
      go_simp
      try with_reducible rfl
    clear hHeld
    have hHeld := hNew
    clear hNew
    try simp only [List.getElem_toArray, List.getElem_cons_succ, List.getElem_cons_zero, Act.put, List.setIfInBounds_toArray, List.set_cons_zero, List.set_cons_succ]
    refine wpAnyL_take (i := 3) (oi := _) (v := ?_) rfl (by kernel_rfl) (by kernel_rfl) (by kernel_rfl) (by kernel_rfl) (by kernel_rfl) (fun _ _ _ h => h) (Or.inl ⟨by rfl, ?_⟩) (by assumption) (fun hNew => ?_)
    rotate_left
    · intro w _
      go_simp
      try with_reducible rfl
    clear hHeld
    have hHeld := hNew
    clear hNew
    try simp only [List.getElem_toArray, List.getElem_cons_succ, List.getElem_cons_zero, Act.put, List.setIfInBounds_toArray, List.set_cons_zero, List.set_cons_succ]
    refine wpAnyL_load 1 (i := 4) (oi := _) (v := ?_) rfl rfl (by kernel_rfl) (by kernel_rfl) (by kernel_rfl) (by kernel_rfl) (by kernel_rfl) (by kernel_rfl) (fun _ _ _ h => h) (Or.inl ⟨by rfl, ?_⟩) (by assumption) (fun hNew => ?_)
    rotate_left
    · intro w hSw
      (try dsimp only at hSw)
      go_simp
      try with_reducible rfl
    clear hHeld
    have hHeld := hNew
    clear hNew
    try simp only [List.getElem_toArray, List.getElem_cons_succ, List.getElem_cons_zero, Act.put, List.setIfInBounds_toArray, List.set_cons_zero, List.set_cons_succ]
    refine wpAnyL_ready (rs := [5]) (by kernel_rfl) (by simp) ?_
    refine AllReadyL.cons (o := _) rfl (fun K hK => ?_) AllReadyL.nil
    try simp only [List.getElem_toArray, List.getElem_cons_succ, List.getElem_cons_zero]
    rw [if_pos (by rfl)]
    refine wp_append_lies _ (.const (.slice none 0 0)) (.tmp 64) 91 (by rfl) 0 109 i z 64 64 Tryz.underlying91 HI.out HZ.out HZ2.out HZ3.out HZ1.out (by omega) (.slice none 0 0) 0 [] (by rfl) (World.ownsRow_nil _ _ _ _) ⟨w.heap.size + 1, 0, none⟩ n n (bvs (flat n f)) (by rfl) (by rw [bvs_len, HCC.out.secs.whole.1])
      (fun j u hj => by rw [add_none]; exact HCC.out.secs.whole.2 j u hj) (bvs_one _) (by omega) (by unfold maxLen; omega) (by omega) (Nat.zero_le _) _ rfl ?_
    intro g cap w2 hrow hg hat hlt
    have hgr : Chg [] W.drew w2 := (Chg.refl _ _).grown hg (fun k hk => by simp [Value.ownBlock] at hk)
    have hc2 : Chg [] W w2 := (by exact (Chg.refl [] W).drew : Chg [] W W.drew).trans hgr (by simp)
    have cp2 := hc2.cell cp (by simp)
    have c12 := hc2.cell c1 (by simp)
    have hob := hc2.keep HCC.out.obj (by simp)
    have o0 := blk_cell hob 0 _ rfl
    have o1 := blk_frozen hob 0
    have o2 := blk_lt hob
    have hgW : g = W.heap.size := by
      rcases hat with h | h
      · simp [Value.ownBlock] at h
      · exact h
    have hKD : w2.heap[D]? = some (.deferred (some [])) := hc2.keep HKK.out (by simp)
    have hrow' : w2.ownsRow 0 109 64 (.slice (some ⟨g, 0, none⟩) n cap) n (bvs (flat n f)) := by
      have h := hrow
      rw [Nat.zero_add, List.nil_append] at h
      exact h
    obtain ⟨g', cap', he, hcap1, hcap2, hsecs⟩ := secs_of_row hrow' hn0 HCC.out.secs.len
    obtain ⟨rfl, rfl⟩ : g = g' ∧ cap = cap' := by simpa using he
    have hDpc : D ≠ w.heap.size + 2 := fun e => by
      rw [e, hob] at hKD; cases hKD
    have hfin : Newly w ((w2.setCell ⟨w.heap.size + 2, 0, none⟩ (.slice (some ⟨g, 0, none⟩) n cap)).putObj D (.deferred none)) (w.heap.size + 2) [w.heap.size + 2, g, w.heap.size + 1] (d.crash ch) := by
      have hne := HCC.out.ne
      have hlo := HCC.out.lo
      have hWs := hszW
      have hgl := HCC.out.secs.lt
      have hf0 : (d.crash ch).now = f := HFF.out.symm
      have hf1 : (d.crash ch).lasts = f := HFF.out.symm
      obtain ⟨w8, hw8⟩ : ∃ w8, w8 = w2.setCell ⟨w.heap.size + 2, 0, none⟩ (.slice (some ⟨g, 0, none⟩) n cap) := ⟨_, rfl⟩
      have h8 : ∀ j, j ≠ w.heap.size + 2 → w8.heap[j]? = w2.heap[j]? := fun j hj => by rw [hw8]; exact Below.heap_setCell w2 ⟨w.heap.size + 2, 0, none⟩ _ j hj
      have h8p : w8.heap[w.heap.size + 2]? = some (.cells #[.slice (some ⟨g, 0, none⟩) n cap, .slice (some ⟨w.heap.size + 1, 0, none⟩) n n, .slice none 0 0, .int .i64 (-1), .int .i64 0, .bool false] 94 (0, 0)) := by rw [hw8]; exact set_blk hob
      have h8s : w8.heap.size = w2.heap.size := by rw [hw8]; simp [World.setCell]
      have hc8 : Chg [] w w8 := by rw [hw8]; exact (HCC.out.chg.trans hc2 (by simp)).setCell (.inr (by show w.heap.size ≤ w.heap.size + 2; omega)) _
      rw [← hw8]
      obtain ⟨w9, hw9⟩ : ∃ w9, w9 = w8.putObj D (.deferred none) := ⟨_, rfl⟩
      have h9 : ∀ j, j ≠ D → w9.heap[j]? = w8.heap[j]? := fun j hj => by rw [hw9]; exact World.putObj_heap_other hj
      have h9s : w8.heap.size ≤ w9.heap.size := by rw [hw9]; simp [World.putObj]
      have hDg : D ≠ g := fun e => by
        obtain ⟨cs, h1, _⟩ := hsecs
        rw [e, h1] at hKD; cases hKD
      have hDl : D ≠ w.heap.size + 1 := fun e => by
        obtain ⟨cs, h1, _⟩ := HCC.out.secs
        rw [e, hc2.keep h1 (by simp)] at hKD; cases hKD
      have hgl2 : SecsAt w2 (w.heap.size + 1) n f := HCC.out.secs.keep (hc2.block _ hgl (by simp))
      have hc9 : Chg [] w w9 := by
        rw [hw9]
        exact chg_turn hc8 (grownBy_putObj' _ D (.deferred none)) (fun r e => by cases e; omega)
      have hgp : g ≠ w.heap.size + 2 := by omega
      rw [← hw9]
      refine ⟨⟨g, w.heap.size + 1, cap, n, .slice none 0 0, ⟨?_, ?_, ?_, World.ownsRow_nil _ _ _ _, by simp [DS.crash], ?_, ?_, ?_, ⟨by simp [DS.crash], by simp [DS.crash]⟩, by omega, by simp [Value.ownBlock], ⟨by simp, by simp, by simp, by simp [Value.ownBlock]⟩, ?_⟩⟩, ?_, hc9⟩
      · rw [h9 _ (fun e => hDpc e.symm), h8p]
        show _ = some (Obj.cells #[.slice (some ⟨g, 0, none⟩) d.n cap, .slice (some ⟨w.heap.size + 1, 0, none⟩) d.n n, .slice none 0 0, .int .i64 (-1), .int .i64 ((0 : Nat) : Int), .bool false] 94 (0, 0))
        rw [← HN.out]
        rfl
      · rw [hf0, show (d.crash ch).n = n from HN.out.symm]
        exact hsecs.keep ((h9 _ (fun e => hDg e.symm)).trans (h8 _ hgp))
      · rw [hf1, show (d.crash ch).n = n from HN.out.symm]
        exact hgl2.keep ((h9 _ (fun e => hDl e.symm)).trans (h8 _ (by omega)))
      · show d.n ≤ 4160
        rw [← HN.out]; exact hfew
      · show d.n ≤ cap ∧ cap ≤ maxLen
        rw [← HN.out]; exact ⟨hcap1, hcap2⟩
      · show d.n ≤ n ∧ n ≤ maxLen
        rw [← HN.out]; exact ⟨Nat.le_refl _, by omega⟩
      · intro x hx
        have hg2 := hlt
        have hs2 := hc2.size
        simp at hx
        rcases hx with rfl | rfl | rfl <;> omega
      · intro x hx
        simp at hx
        rcases hx with rfl | rfl | rfl <;> omega
    have hKD2 : (w2.setCell ⟨w.heap.size + 2, 0, none⟩ (.slice (some ⟨g, 0, none⟩) n cap)).heap[D]? = some (.deferred (some [])) := (Below.heap_setCell w2 ⟨w.heap.size + 2, 0, none⟩ _ D hDpc).trans hKD
    have cp3 : (w2.setCell ⟨w.heap.size + 2, 0, none⟩ (.slice (some ⟨g, 0, none⟩) n cap)).cell? ⟨w.heap.size + 3, 0, none⟩ = some (.pointer (some ⟨w.heap.size + 2, 0, none⟩)) := by
      have h1 := hc2.keep HCC.out.cc (by simp)
      exact blk_cell (blk_sets h1 (by omega)) 0 _ rfl
    have HFIN := Lib.hid hfin
    have HKD2 := Lib.hid hKD2
    clear hgr hc2 hob hgW hKD hrow' he hsecs hDpc hfin hKD2 hrow hg hat
    clear hHeld
    refine hK.out _ _ ?_ (fun hHeld => ?_)
    · exact (HoldC.cons (cp2) (HoldC.cons (c12) HoldC.nil))
    clear hK K
    try simp only [List.getElem_toArray, List.getElem_cons_succ, List.getElem_cons_zero, Act.put, List.setIfInBounds_toArray, List.set_cons_zero, List.set_cons_succ]
    refine wpAnyL_take (i := 6) (oi := _) (v := ?_) rfl (by kernel_rfl) (by kernel_rfl) (by kernel_rfl) (by kernel_rfl) (by kernel_rfl) (fun _ _ _ h => h) (Or.inl ⟨by rfl, ?_⟩) (by assumption) (fun hNew => ?_)
    rotate_left
    · intro w _
      go_simp
      try with_reducible rfl
    clear hHeld
    have hHeld := hNew
    clear hNew
    try simp only [List.getElem_toArray, List.getElem_cons_succ, List.getElem_cons_zero, Act.put, List.setIfInBounds_toArray, List.set_cons_zero, List.set_cons_succ]
    refine wpAnyL_take (i := 7) (oi := _) (v := ?_) rfl (by kernel_rfl) (by kernel_rfl) (by kernel_rfl) (by kernel_rfl) (by kernel_rfl) (fun _ _ _ h => h) (Or.inl ⟨by rfl, ?_⟩) (by assumption) (fun hNew => ?_)
    rotate_left
    · intro w _
      go_simp
      try with_reducible rfl
    clear hHeld
    have hHeld := hNew
    clear hNew
    try simp only [List.getElem_toArray, List.getElem_cons_succ, List.getElem_cons_zero, Act.put, List.setIfInBounds_toArray, List.set_cons_zero, List.set_cons_succ]
    refine wpAnyL_ready (rs := [8]) (by kernel_rfl) (by simp) ?_
    refine AllReadyL.cons (o := _) rfl (fun K hK => ?_) AllReadyL.nil
    try simp only [List.getElem_toArray, List.getElem_cons_succ, List.getElem_cons_zero]
    go_simp
    clear hHeld
    refine hK.out _ _ ?_ (fun hHeld => ?_)
    · exact (HoldC.past (by kernel_rfl) (HoldC.past (by kernel_rfl) HoldC.nil))
    clear hK K
    try simp only [List.getElem_toArray, List.getElem_cons_succ, List.getElem_cons_zero, Act.put, List.setIfInBounds_toArray, List.set_cons_zero, List.set_cons_succ]
    refine wpAnyL_done (by kernel_rfl) ?_ _
    clear hHeld
    simp only [Qn]
    gi_wp2
    refine ⟨by simp, .inl ⟨_, _, rfl, run_takeDeferred HKD2.out, ?_⟩⟩
    exact ⟨_, results_tmp rfl _ _ _, w.heap.size + 2, _, rfl, HFIN.out⟩
end Go.Proofs.YtbkajnjboipbhaaGreatDoor.W

/- The reference's Same. -/
namespace Go.Proofs.YtbkajnjboipbhaaGreatDoor.W
open Go.RowKit
set_option linter.unusedVariables false
set_option linter.unusedSimpArgs false

theorem same_of (l m : List UInt8) (h : l.length = m.length) (hq : ∀ q, q < l.length → l.getD q 0 = m.getD q 0) : l = m := by
  apply List.ext_getElem h
  intro i h1 h2
  have := hq i h1
  simpa [List.getD_eq_getElem?_getD, List.getElem?_eq_getElem h1, List.getElem?_eq_getElem h2] using this
theorem bv_neq (a b : UInt8) (h : a ≠ b) : (((a.toNat : Int) != (b.toNat : Int)) = true) := by
  rw [bne_iff_ne]
  intro e
  exact h (UInt8.toNat_inj.1 (by omega))

set_option maxHeartbeats 4000000 in
set_option maxRecDepth 100000 in
/-- Same. -/
theorem same_any (u v : Value) (l m : List UInt8) (w : World) (hu : BytesAt w u l) (hv : BytesAt w v m) (hl : l.length ≤ 1000000000) (hm : m.length ≤ 1000000000) :
    Calls Tryz.prog 14 #[u, v] w fun e w' => e = .returned (.bool (decide (l = m))) ∧ ∃ n, w' = w.drewN n := by
  obtain ⟨au, cu, rfl, hlu, _, hu⟩ := hu
  obtain ⟨av, cv, rfl, hlv, _, hv⟩ := hv
  obtain ⟨d, hd⟩ : ∃ d, d = decide (l = m) := ⟨_, rfl⟩
  rw [← hd]
  have HD := Lib.hid hd
  clear hd
  have HU := Lib.hid hu
  have HV := Lib.hid hv
  clear hu hv
  by_cases hlen : l.length = m.length
  · have hmz : ((l.length : Int) != (m.length : Int)) = false := by rw [hlen]; simp
    have HL := Lib.hid hlen
    have hml : m.length = l.length := hlen.symm
    rw [hml]
    clear hlen hml hmz
    go_enter Tryz.func14, Tryz.ntmps14
    go_wp2
    go_loopg [5] l.length (fun g' s5 wr => ∃ (j n : Nat), s5 = .int .i64 j ∧ j ≤ l.length ∧ l.length ≤ j + g' ∧ Hid (∀ q, q < j → l.getD q 0 = m.getD q 0) ∧ wr = w.drewN n)
    case atStart => exact ⟨0, 0, rfl, by omega, by omega, fun q hq => absurd hq (by omega), rfl⟩
    case round =>
      obtain ⟨j, n, rfl, hj, hjg, HQ, rfl⟩ := hrel
      by_cases hlt : j < l.length
      · rcases HU.out with ⟨h0, _⟩ | ⟨gu, ou, rfl, hcu⟩
        · rw [h0] at hlt; simp at hlt
        rcases HV.out with ⟨h0, _⟩ | ⟨gv, ov, rfl, hcv⟩
        · have := HL.out; rw [h0, List.length_nil] at this; omega
        obtain ⟨x, hx, c0⟩ : ∃ x, l.getD j 0 = x ∧ w.cell? ⟨gu, ou + j, none⟩ = some (.int .u8 (x.toNat : Int)) := ⟨_, rfl, hcu j hlt⟩
        obtain ⟨y, hy, c1⟩ : ∃ y, m.getD j 0 = y ∧ w.cell? ⟨gv, ov + j, none⟩ = some (.int .u8 (y.toNat : Int)) := ⟨_, rfl, hcv j (by rw [← HL.out]; exact hlt)⟩
        have HX := Lib.hid hx
        have HY := Lib.hid hy
        have hjz : (j : Int) < (l.length : Int) := by omega
        have hjz0 : (0 : Int) ≤ (j : Int) := by omega
        have hjz1 : (j : Int).toNat = j := by omega
        clear hcu hcv hx hy
        by_cases hxy : x = y
        · subst hxy
          go_wp2
          go_quiet (fail)
          go_wp2
          go_roundg (gk - 1)
          case measure => omega
          case rel =>
            refine ⟨j + 1, _, by go_num, by omega, by omega, ?_, rfl⟩
            intro q hq
            rcases Nat.lt_or_ge q j with h | h
            · exact HQ.out q h
            · obtain rfl : q = j := by omega
              rw [HX.out, HY.out]
        · have hne := bv_neq x y hxy
          have hd : Hid (d = false) := Lib.hid (by
            rw [HD.out, decide_eq_false_iff_not]
            intro e
            have h1 := HX.out
            rw [e] at h1
            exact hxy (h1.symm.trans HY.out))
          clear hxy
          go_wp2
          go_quiet (fail)
          go_wp2
          go_ret
          exact ⟨ret_bool hd.out.symm, _, World.drewN_drewN ..⟩
      · have hd : Hid (d = true) := Lib.hid (by
          rw [HD.out, decide_eq_true_iff]
          exact same_of l m HL.out (fun q hq => HQ.out q (by omega)))
        go_wp2
        go_ret
        exact ⟨ret_bool hd.out.symm, _, rfl⟩
  · have hmz : ((l.length : Int) != (m.length : Int)) = true := by rw [bne_iff_ne]; omega
    have hd : Hid (d = false) := Lib.hid (by
      rw [HD.out, decide_eq_false_iff_not]
      intro e
      exact hlen (by rw [e]))
    clear hlen
    go_enter Tryz.func14, Tryz.ntmps14
    go_wp2
    go_ret
    exact ⟨ret_bool hd.out.symm, 0, rfl⟩
end Go.Proofs.YtbkajnjboipbhaaGreatDoor.W

/- The law's own: equality of ids, Id, a store of its own. -/
namespace Go.Proofs.YtbkajnjboipbhaaGreatDoor.W
open Go.RowKit
set_option linter.unusedVariables false
set_option linter.unusedSimpArgs false

theorem lits_id3 (m : Nat) (x : Id) : Tryz.prog.keyLits (m + 3) 25 (idC x).toList = litD (idC x).toList := by
  unfold Program.keyLits
  simp only [Tryz.underlying25, cells_id]
  rw [if_pos ⟨rfl, by kernel_rfl⟩]
  simp only [List.mapM_cons, List.mapM_nil, cells_intD, cells_stripe, List.drop_zero, List.drop_succ_cons, List.take_succ_cons, List.take_zero, lits_int, lits_stripe, litD]
  generalize litI (.int .i64 x.c) = a
  generalize litI (.int .i64 x.l) = b
  generalize litI (.int .i64 x.n) = c
  generalize litI (.int .i64 x.i) = d
  cases a <;> cases b <;> cases c <;> cases d <;> simp
theorem litD_ok {x : Id} (h : okD x) : litD (idC x).toList = some [.int .i64 x.c, .int .i64 x.l, .int .i64 x.n, .int .i64 x.i] := by
  obtain ⟨h1, h2, h3, h4⟩ := h
  simp [litD, litI_ok h1, litI_ok h2, litI_ok h3, litI_ok h4]
theorem eq_id (x y : Id) (hx : okD x) (hy : okD y) (w : World) : (binOp .eql 25 (idV x) (idV y)).run Tryz.prog w = .ok (.bool (decide (x = y))) w := by
  rw [run_eql_struct]
  obtain ⟨r, h1, h2⟩ := run_equalIn_deep (P := Tryz.prog) 9997 3 25 (by kernel_rfl) w 3 3 (idV x) (idV y) _ _
    (by simp [Value.formed, Tryz.underlying25, cells_id]) (by simp [Value.formed, Tryz.underlying25, cells_id])
    (by simpa [Value.cells] using (lits_id3 0 x).trans (litD_ok hx)) (by simpa [Value.cells] using (lits_id3 0 y).trans (litD_ok hy))
  have hr : r = decide (x = y) := by
    by_cases e : x = y
    · rw [decide_eq_true e]; exact h2.2 (by rw [e])
    · rw [decide_eq_false e]
      cases r with
      | false => rfl
      | true =>
        refine absurd ?_ e
        have := h2.1 rfl
        obtain ⟨a, b, c, d⟩ := x
        obtain ⟨a', b', c', d'⟩ := y
        simpa using this
  rw [← hr]
  have h3 : (Op.equalIn 10000 25 (idV x) (idV y)).run Tryz.prog w = .ok r w := h1
  rw [h3]
  rfl
theorem ret_id1 {fn : Func} {p : Tmp} (h : fn.results = #[.cell p 25]) (tmps : Array Value) {w : World} {b t : Nat} {x : Id} (hp : tmps.getD p undef = .pointer (some ⟨b, 0, none⟩)) (hb : w.heap[b]? = some (.cells (idC x) t (0, 0))) :
    (results fn tmps).run Tryz.prog w = .ok (idV x) w := by
  have hl := run_loadVar_row (P := Tryz.prog) w b t 25 (idC x) (0, 0) _ hb Tryz.underlying25 rfl (by rw [idSize]; rfl)
  have e : (results fn tmps).run Tryz.prog w = ((asAddr (tmps.getD p undef)).run Tryz.prog w).andThen fun a w₁ => (loadVar 25 a).run Tryz.prog w₁ := by
    simp only [results, h]
    simp [Sem.run_bind, Result.andThen]
  rw [e, hp]
  simp only [asAddr, Sem.run_pure, Result.andThen_ok, hl]
set_option maxHeartbeats 2000000 in
set_option maxRecDepth 100000 in
theorem lawid_any (c l n i : Int) (w : World) : Calls Tryz.prog 31 #[.int .i64 c, .int .i64 l, .int .i64 n, .int .i64 i] w fun e w' => e = .returned (.agg #[.int .i64 c, .int .i64 l, .int .i64 n, .int .i64 i]) ∧ Chg [] w w' := by
  go_enter Tryz.func31, Tryz.ntmps31
  go_wp2_with fail
  have HW := Lib.hid (show (w.alloc (.cells (idC ⟨c, l, n, i⟩) 25)).heap[w.heap.size]? = some (.cells (idC ⟨c, l, n, i⟩) 25 (0, 0)) from heap_alloc_new w _)
  refine bodyPost_ret (ret_id1 rfl _ rfl HW.out) rfl ?_
  exact ⟨rfl, (Chg.refl [] w).alloc _⟩

/-! ### A store of the law's own -/
def Kp (X : List Nat) (w w' : World) : Prop := ∀ k ∈ X, w'.heap[k]? = w.heap[k]?
theorem Kp.refl (X : List Nat) (w : World) : Kp X w w := fun _ _ => rfl
theorem Kp.trans {X : List Nat} {a b c : World} (h : Kp X a b) (k : Kp X b c) : Kp X a c := fun x hx => (k x hx).trans (h x hx)
theorem Kp.bytes {X : List Nat} {w w' : World} {v : Value} {l : List UInt8} (h : BytesAt w v l) (hk : Kp X w w') (hX : ∀ g, v.ownBlock = some g → g ∈ X) : BytesAt w' v l := h.keep fun g hg => hk g (hX g hg)
/-- All its blocks are new since w0, and none of them is in X. -/
def Own6 (X : List Nat) (w0 w : World) (q p : Nat) (t : Sto) : Prop := ∃ U, StAt [] w q p U t ∧ (∀ x ∈ U, w0.heap.size ≤ x) ∧ Chg [] w0 w ∧ ∀ x ∈ X, x ∉ U ∧ x < w.heap.size
variable {X : List Nat} {w0 w : World} {q p : Nat} {t : Sto}
theorem Own6.chg (h : Own6 X w0 w q p t) : Chg [] w0 w := by obtain ⟨U, h1, h2, h3, h4⟩ := h; exact h3
theorem Own6.keep0 {w' : World} (h : Own6 X w0 w q p t) (hc : Chg [] w w') : Own6 X w0 w' q p t := by
  obtain ⟨U, h1, h2, h3, h4⟩ := h
  exact ⟨U, h1.keep0 hc, h2, h3.trans hc (by simp), fun x hx => ⟨(h4 x hx).1, Nat.lt_of_lt_of_le (h4 x hx).2 hc.size⟩⟩
theorem Own6.kp {w' : World} (h : Own6 X w0 w q p t) (hc : Chg [] w w') : Kp X w w' := by
  obtain ⟨U, h1, h2, h3, h4⟩ := h
  exact fun x hx => hc.block x (h4 x hx).2 (by simp)
theorem Own6.add {Y : List Nat} {w' : World} (h : Own6 X w0 w q p t) (hc : Chg [] w w') (hY : ∀ k ∈ Y, k ∈ X ∨ w.heap.size ≤ k ∧ k < w'.heap.size) : Own6 Y w0 w' q p t := by
  obtain ⟨U, h1, h2, h3, h4⟩ := h
  refine ⟨U, h1.keep0 hc, h2, h3.trans hc (by simp), fun x hx => ?_⟩
  rcases hY x hx with h5 | ⟨h5, h6⟩
  · exact ⟨(h4 x h5).1, Nat.lt_of_lt_of_le (h4 x h5).2 hc.size⟩
  · exact ⟨fun hm => by have := h1.lim x hm; omega, h6⟩
theorem Own6.mono {Y : List Nat} (h : Own6 X w0 w q p t) (hY : ∀ x ∈ Y, x ∈ X) : Own6 Y w0 w q p t := by
  obtain ⟨U, h1, h2, h3, h4⟩ := h
  exact ⟨U, h1, h2, h3, fun x hx => h4 x (hY x hx)⟩
theorem Own6.did {w' : World} {t' : Sto} {U : List Nat} (h2 : ∀ x ∈ U, w0.heap.size ≤ x) (h3 : Chg [] w0 w) (h4 : ∀ x ∈ X, x ∉ U ∧ x < w.heap.size) (hd : Std [] w w' q p U t') : Own6 X w0 w' q p t' ∧ Kp X w w' := by
  obtain ⟨U', d1, d2, d3⟩ := hd
  have hs := h3.size
  refine ⟨⟨U', d1, fun x hx => ?_, h3.trans d3 (fun x hx => .inr (h2 x hx)), fun x hx => ⟨fun hm => ?_, Nat.lt_of_lt_of_le (h4 x hx).2 d3.size⟩⟩, fun x hx => d3.block x (h4 x hx).2 (h4 x hx).1⟩
  · rcases d2 x hx with h | h
    · exact h2 x h
    · omega
  · rcases d2 x hm with h | h
    · exact (h4 x hx).1 h
    · have := (h4 x hx).2; omega
theorem own_put (h : Own6 X w0 w q p t) (x : Id) (hx : okD x) (v : Value) (b : List UInt8) (hb : BytesAt w v b) (hv : b ≠ [] → ∀ k, v.ownBlock = some k → k < w0.heap.size ∨ k ∈ X) (hl : b.length ≤ 1000000) (ho : t.s.d.ops ≤ 900000000) (hw : t.s.d.since.length ≤ 900000) :
    Calls Tryz.prog 19 #[.pointer (some ⟨q, 0, none⟩), idV x, v] w fun e w' => e = .returned (.int .i64 (t.put x b).1) ∧ Own6 X w0 w' q p (t.put x b).2 ∧ Kp X w w' := by
  obtain ⟨U, h1, h2, h3, h4⟩ := h
  refine (stput_any q p U t x v b w h1 hx hb (fun hn k hk hm => ?_) hl ho hw).mono ?_
  · rcases hv hn k hk with h | h
    · have := h2 k hm; omega
    · exact (h4 k h).1 hm
  · rintro e w' ⟨rfl, hd⟩
    exact ⟨rfl, Own6.did h2 h3 h4 hd⟩
theorem own_get (h : Own6 X w0 w q p t) (x : Id) (hx : okD x) : Calls Tryz.prog 23 #[.pointer (some ⟨q, 0, none⟩), idV x] w fun e w' => (∃ v, e = .returned (.tuple #[v, .int .i64 (t.get x).2]) ∧ BytesAt w' v (t.get x).1 ∧ ∀ k, v.ownBlock = some k → w.heap.size ≤ k) ∧ Own6 X w0 w' q p t ∧ Kp X w w' ∧ Chg [] w w' := by
  have h' := h
  obtain ⟨U, h1, h2, h3, h4⟩ := h
  refine (stget_any q p U t x w h1 hx).mono ?_
  rintro e w' ⟨h5, hc⟩
  exact ⟨h5, h'.keep0 hc, h'.kp hc, hc⟩
theorem own_list (h : Own6 X w0 w q p t) : Calls Tryz.prog 20 #[.pointer (some ⟨q, 0, none⟩)] w fun e w' => (∃ v, e = .returned v ∧ w'.ownsRow w.heap.size 25 4 v t.ids.length (t.ids.flatMap idE)) ∧ Own6 X w0 w' q p t ∧ Kp X w w' ∧ Chg [] w w' := by
  have h' := h
  obtain ⟨U, h1, h2, h3, h4⟩ := h
  refine (stlist_any q p U t w h1).mono ?_
  rintro e w' ⟨v, rfl, hr, hc⟩
  exact ⟨⟨v, rfl, hr⟩, h'.keep0 hc, h'.kp hc, hc⟩
theorem own_room (h : Own6 X w0 w q p t) : Calls Tryz.prog 32 #[.pointer (some ⟨q, 0, none⟩)] w fun e w' => e = .returned (.int .i64 (t.room : Int)) ∧ w = w' := by
  obtain ⟨U, h1, h2, h3, h4⟩ := h
  exact stroom_any q p U t w h1
/-- A new disk. -/
theorem own_disk (n : Nat) (w : World) (h2 : 2 ≤ n) (hm : n ≤ 4160) : Calls Tryz.prog 17 #[.int .i64 (n : Int)] w fun e w' => ∃ p S, e = .returned (.tuple #[.pointer (some ⟨p, 0, none⟩), .int .i64 0]) ∧ DiskAt w' p S (DS.new n) ∧ (∀ x ∈ S, w.heap.size ≤ x) ∧ Chg [] w w' :=
  (dnew_any n w h2 hm).mono fun e w' ⟨p, S, h1, h3, h4, h5⟩ => ⟨p, S, h1, h3, h4, h5⟩
/-- A new store. -/
theorem own_format {S : List Nat} {w1 : World} {n : Nat} {t : Sto} {d : DS} (hd : DiskAt w1 p S (DS.new n)) (hS : ∀ x ∈ S, w0.heap.size ≤ x) (hc : Chg [] w0 w1) (hf : (DS.new n).format = ((0, some t), d)) : Calls Tryz.prog 18 #[.pointer (some ⟨p, 0, none⟩)] w1 fun e w' => ∃ q, e = .returned (.tuple #[.pointer (some ⟨q, 0, none⟩), .int .i64 0]) ∧ Own6 [] w0 w' q p t := by
  have h := format_any p S (DS.new n) w1 hd (by show 0 ≤ _; omega) (by show 0 ≤ _; omega)
  rw [hf] at h
  refine h.mono ?_
  rintro e w' ⟨q, U, rfl, h1, h2, h3⟩
  have hs := hc.size
  refine ⟨q, rfl, U, h1, fun x hx => ?_, hc.trans h3 (fun x hx => .inr (hS x hx)), by simp⟩
  rcases h2 x hx with h | h
  · exact hS x h
  · omega
theorem one_byte6 (w : World) (a : UInt8) : BytesAt (w.alloc (.cells #[bv a] 5)) (.slice (some ⟨w.heap.size, 0, none⟩) 1 1) [a] :=
  (row_of_block (l := [a]) (heap_alloc_new w _) (by unfold maxLen; simp)).bytes
theorem ids_one {t : Sto} (hk : keysOk t.s.rows) {x : Id} (h : ∀ y, y ∈ t.ids ↔ y = x) : t.ids = [x] := by
  have hr := t.ids_rise hk
  cases hl : t.ids with
  | nil => rw [hl] at h; exact absurd ((h x).2 rfl) (by simp)
  | cons a r =>
    rw [hl] at h hr
    have ha := (h a).1 (by simp)
    subst ha
    cases r with
    | nil => rfl
    | cons b r =>
      have hb := (h b).1 (by simp)
      subst hb
      exact absurd ((List.pairwise_cons.1 hr).1 b (by simp)) (idLt_irrefl _)
end Go.Proofs.YtbkajnjboipbhaaGreatDoor.W

/- A store of the law's own beside rows that the law appends to. -/
namespace Go.Proofs.YtbkajnjboipbhaaGreatDoor.W
open Go.RowKit
set_option linter.unusedVariables false
set_option linter.unusedSimpArgs false

theorem StAt.crash {G : List Nat} {w : World} {q p : Nat} {U : List Nat} {t : Sto} (h : StAt G w q p U t) (cv : Value) (ch : List UInt8) (hn0 : 0 < t.s.d.n) (hw : t.s.d.since.length ≤ 1000000) (hcv : BytesAt w cv ch) (hcl : ch.length ≤ 1000000) :
    Calls Tryz.prog 38 #[.pointer (some ⟨p, 0, none⟩), cv] w fun e w' => ∃ p' S', e = .returned (.pointer (some ⟨p', 0, none⟩)) ∧ Newly w w' p' S' (t.s.d.crash ch) := by
  obtain ⟨S, hd⟩ := h.disk
  exact dcrash_any p S t.s.d cv ch w hd hn0 hw hcv hcl
/-- A row that the law appends to. -/
structure Pl where
  v : Value
  e : TypeId
  size : Nat
  n : Nat
  xs : List Value
structure PlAt (w0 w : World) (P : Pl) : Prop where
  row : w.ownsRow 0 P.e P.size P.v P.n P.xs
  no8 : ∀ g, P.v.ownBlock = some g → NoU8 w g
  new : ∀ g, P.v.ownBlock = some g → w0.heap.size ≤ g
  x8 : ∀ c ∈ P.xs, No8 c
def plBlks (L : List Pl) : List Nat := L.flatMap (fun P => P.v.ownBlock.toList)
theorem mem_plBlks {L : List Pl} {g : Nat} : g ∈ plBlks L ↔ ∃ P ∈ L, P.v.ownBlock = some g := by
  unfold plBlks
  simp [List.mem_flatMap]
theorem PlAt.keep {w0 w w' : World} {P : Pl} {T : List Nat} (h : PlAt w0 w P) (hc : Chg T w w') (ha : ∀ g, P.v.ownBlock = some g → g ∉ T) : PlAt w0 w' P := by
  have hb : ∀ g, P.v.ownBlock = some g → w'.heap[g]? = w.heap[g]? := fun g hg => hc.block g (World.ownsRow.lt h.row g hg).2 (ha g hg)
  exact ⟨row_keep h.row hb, fun g hg => (h.no8 g hg).keep (hb g hg), h.new, h.x8⟩
theorem PlAt.nil (w0 w : World) (e : TypeId) (size : Nat) : PlAt w0 w ⟨.slice none 0 0, e, size, 0, []⟩ :=
  ⟨World.ownsRow_nil w 0 e size, fun g hg => by simp [Value.ownBlock] at hg, fun g hg => by simp [Value.ownBlock] at hg, fun c hc => by cases hc⟩
/-- The form of its slice. -/
theorem PlAt.form {w0 w : World} {v : Value} {e : TypeId} {size n : Nat} {xs : List Value} (h : PlAt w0 w ⟨v, e, size, n, xs⟩) : (∃ a cap, v = .slice a n cap) ∧ ∀ j u, j < n * size → xs[j]? = some u → ∃ g cap, v = .slice (some ⟨g, 0, none⟩) n cap ∧ w.cell? ⟨g, j, none⟩ = some u := by
  rcases h.row.2 with ⟨h1, h2⟩ | ⟨g, cap, cur, h1, hb⟩
  · refine ⟨⟨none, 0, by rw [show v = _ from h1]; rw [show n = 0 from h2]⟩, fun j u hj hu => ?_⟩
    have h2 : n = 0 := h2
    subst h2
    omega
  · have h1 : v = .slice (some ⟨g, 0, none⟩) n cap := h1
    subst h1
    refine ⟨⟨_, cap, rfl⟩, fun j u hj hu => ⟨g, cap, rfl, ?_⟩⟩
    rw [World.ownsRow.cellAt h.row j hj]; exact hu
/-- The store, and the law's rows beside it. -/
structure Dy (w0 w : World) (q p : Nat) (U : List Nat) (t : Sto) (L : List Pl) : Prop where
  st : StAt (plBlks L) w q p U t
  newU : ∀ x ∈ U, w0.heap.size ≤ x
  each : ∀ P ∈ L, PlAt w0 w P
  apart : ∀ x ∈ plBlks L, x ∉ U
  nodup : (plBlks L).Nodup
  chg : Chg [] w0 w
variable {w0 w w' : World} {q p : Nat} {U : List Nat} {t t' : Sto} {L : List Pl}
theorem Dy.keep (h : Dy w0 w q p U t L) (hc : Chg [] w w') : Dy w0 w' q p U t L :=
  ⟨h.st.keep0 hc, h.newU, fun P hP => (h.each P hP).keep hc (by simp), h.apart, h.nodup, h.chg.trans hc (by simp)⟩
/-- The store has been at work. -/
theorem Dy.std (h : Dy w0 w q p U t L) (hs : Std (plBlks L) w w' q p U t') : ∃ U', Dy w0 w' q p U' t' L ∧ Chg U w w' := by
  obtain ⟨U', h1, h2, h3⟩ := hs
  refine ⟨U', ⟨h1, fun x hx => ?_, fun P hP => (h.each P hP).keep h3 (fun g hg => h.apart g (mem_plBlks.2 ⟨P, hP, hg⟩)), fun x hx hm => ?_, h.nodup, h.chg.trans h3 (fun x hx => .inr (h.newU x hx))⟩, h3⟩
  · rcases h2 x hx with h4 | h4
    · exact h.newU x h4
    · exact Nat.le_trans h.chg.size h4
  · rcases h2 x hm with h4 | h4
    · exact h.apart x hx h4
    · obtain ⟨P, hP, hg⟩ := mem_plBlks.1 hx
      have := (World.ownsRow.lt (h.each P hP).row x hg).2
      omega
/-- Other rows, in another order. -/
theorem Dy.regroup {L' : List Pl} (h : Dy w0 w q p U t L) (hp : ∀ P ∈ L', P ∈ L ∨ (P.v.ownBlock = none ∧ PlAt w0 w P)) (hn : (plBlks L').Nodup) : Dy w0 w q p U t L' := by
  have hm : ∀ x ∈ plBlks L', x ∈ plBlks L := fun x hx => by
    obtain ⟨P, hP, hg⟩ := mem_plBlks.1 hx
    rcases hp P hP with h1 | ⟨h1, _⟩
    · exact mem_plBlks.2 ⟨P, h1, hg⟩
    · rw [h1] at hg; cases hg
  refine ⟨?_, h.newU, fun P hP => ?_, fun x hx => h.apart x (hm x hx), hn, h.chg⟩
  · obtain ⟨sp, mb, Us, φ, N, k, hU⟩ := h.st
    exact ⟨sp, mb, Us, φ, N, ⟨k.head, k.slots, k.map, k.apart, k.vals, k.ok, fun x hx => k.far x (hm x hx)⟩, hU⟩
  · rcases hp P hP with h1 | ⟨_, h1⟩
    · exact h.each P h1
    · exact h1
theorem plBlks_cons (P : Pl) (L : List Pl) : plBlks (P :: L) = P.v.ownBlock.toList ++ plBlks L := rfl
theorem Dy.swap {P Q : Pl} (h : Dy w0 w q p U t (P :: Q :: L)) : Dy w0 w q p U t (Q :: P :: L) := by
  refine h.regroup (fun R hR => .inl ?_) ?_
  · rcases List.mem_cons.1 hR with rfl | hR
    · simp
    · rcases List.mem_cons.1 hR with rfl | hR
      · simp
      · exact List.mem_cons_of_mem _ (List.mem_cons_of_mem _ hR)
  · have := h.nodup
    simp only [plBlks_cons] at this ⊢
    rw [← List.append_assoc] at this ⊢
    rw [List.nodup_append] at this ⊢
    refine ⟨?_, this.2.1, fun a ha b hb => this.2.2 a (by simp only [List.mem_append] at ha ⊢; exact ha.symm) b hb⟩
    exact (List.perm_append_comm.nodup_iff).1 this.1
theorem Dy.tail {P : Pl} (h : Dy w0 w q p U t (P :: L)) : Dy w0 w q p U t L := by
  refine h.regroup (fun R hR => .inl (List.mem_cons_of_mem _ hR)) ?_
  have := h.nodup
  rw [plBlks_cons, List.nodup_append] at this
  exact this.2.1
theorem Dy.nil (h : Dy w0 w q p U t L) (e : TypeId) (size : Nat) : Dy w0 w q p U t (⟨.slice none 0 0, e, size, 0, []⟩ :: L) := by
  refine h.regroup (fun R hR => ?_) ?_
  · rcases List.mem_cons.1 hR with rfl | hR
    · exact .inr ⟨rfl, PlAt.nil _ _ _ _⟩
    · exact .inl hR
  · rw [plBlks_cons]; exact h.nodup
theorem Dy.start (h : StAt [] w q p U t) (hU : ∀ x ∈ U, w0.heap.size ≤ x) (hc : Chg [] w0 w) : Dy w0 w q p U t [] :=
  ⟨h, hU, fun P hP => by simp at hP, fun x hx => by simp [plBlks] at hx, by simp [plBlks], hc⟩
/-- The row in front has grown. -/
theorem Dy.grown {v : Value} {e : TypeId} {size n : Nat} {xs news : List Value} {g cap : Nat} {wa : World} (h : Dy w0 w q p U t (⟨v, e, size, n, xs⟩ :: L)) (ha : Chg [] w wa) (hrow : w'.ownsRow 0 e size (.slice (some ⟨g, 0, none⟩) (n + 1) cap) (n + 1) (xs ++ news)) (hg : wa.grownBy w' v.ownBlock)
    (hat : v.ownBlock = some g ∨ g = wa.heap.size) (hlt : g < w'.heap.size) (h8 : NoU8 w' g) (hn8 : ∀ c ∈ news, No8 c) : Dy w0 w' q p U t (⟨.slice (some ⟨g, 0, none⟩) (n + 1) cap, e, size, n + 1, xs ++ news⟩ :: L) ∧ Chg v.ownBlock.toList w w' := by
  have h := h.keep ha
  have hc : Chg v.ownBlock.toList wa w' := (Chg.refl _ _).grown hg (fun k hk => .inl (by rw [hk]; simp))
  have hfront : ∀ x ∈ v.ownBlock.toList, x ∈ plBlks (⟨v, e, size, n, xs⟩ :: L) := fun x hx => by rw [plBlks_cons]; exact List.mem_append_left _ hx
  have hv := h.each ⟨v, e, size, n, xs⟩ (by simp)
  have hnd := h.nodup
  rw [plBlks_cons, List.nodup_append] at hnd
  have hL : ∀ x ∈ plBlks L, x ∉ v.ownBlock.toList := fun x hx hm => hnd.2.2 x hm x hx rfl
  have hlL : ∀ x ∈ plBlks L, x < wa.heap.size := fun x hx => by
    obtain ⟨P, hP, hg⟩ := mem_plBlks.1 hx
    exact (World.ownsRow.lt (h.each P (by simp [hP])).row x hg).2
  have hgL : g ∉ plBlks L := fun hm => by
    rcases hat with h1 | h1
    · exact hL g hm (by rw [h1]; simp)
    · have := hlL g hm; omega
  have hgU : g ∉ U := fun hm => by
    rcases hat with h1 | h1
    · exact h.apart g (hfront g (by rw [h1]; simp)) hm
    · have := h.st.lim g hm; omega
  have e0 : plBlks (⟨.slice (some ⟨g, 0, none⟩) (n + 1) cap, e, size, n + 1, xs ++ news⟩ :: L) = g :: plBlks L := rfl
  refine ⟨⟨?_, h.newU, fun P hP => ?_, fun x hx => ?_, ?_, h.chg.trans hc (fun x hx => .inr ?_)⟩, (Chg.mono ha (by simp)).trans hc (fun x hx => .inl hx)⟩
  · rw [e0]
    refine h.st.regroup hc hfront (fun x hx => hv.no8 x (by simpa using hx)) (fun x hx hm => h.apart x hm hx) (fun x hx => ?_)
    rcases List.mem_cons.1 hx with rfl | hx
    · refine ⟨?_, hlt⟩
      rcases hat with h1 | h1
      · exact .inl (hfront x (by rw [h1]; simp))
      · exact .inr (by omega)
    · exact ⟨.inl (by rw [plBlks_cons]; exact List.mem_append_right _ hx), Nat.lt_of_lt_of_le (hlL x hx) hc.size⟩
  · rcases List.mem_cons.1 hP with rfl | hP
    · refine ⟨hrow, fun k hk => ?_, fun k hk => ?_, fun c hc => ?_⟩
      · obtain rfl : g = k := by simpa [Value.ownBlock] using hk
        exact h8
      · obtain rfl : g = k := by simpa [Value.ownBlock] using hk
        rcases hat with h1 | h1
        · exact hv.new g h1
        · have := h.chg.size; omega
      · rcases List.mem_append.1 hc with hc | hc
        · exact hv.x8 c hc
        · exact hn8 c hc
    · exact (h.each P (by simp [hP])).keep hc (fun k hk => hL k (mem_plBlks.2 ⟨P, hP, hk⟩))
  · rw [e0] at hx
    rcases List.mem_cons.1 hx with rfl | hx
    · exact hgU
    · exact h.apart x (by rw [plBlks_cons]; exact List.mem_append_right _ hx)
  · rw [e0]
    exact List.nodup_cons.2 ⟨hgL, hnd.2.1⟩
  · exact hv.new x (by simpa using hx)
/-- A block of the law's own, just made, as a row of one. -/
theorem Dy.fresh (h : Dy w0 w q p U t L) (C : Array Value) (e : TypeId) (size : Nat) (hs : C.size = size) (h8 : ∀ c ∈ C.toList, No8 c) : Dy w0 (w.alloc (.cells C e)) q p U t (⟨.slice (some ⟨w.heap.size, 0, none⟩) 1 1, e, size, 1, C.toList⟩ :: L) := by
  have hc : Chg [] w (w.alloc (.cells C e)) := (Chg.refl _ _).alloc _
  have hL : ∀ x ∈ plBlks L, x < w.heap.size := fun x hx => by
    obtain ⟨P, hP, hg⟩ := mem_plBlks.1 hx
    exact (World.ownsRow.lt (h.each P hP).row x hg).2
  have hnU : w.heap.size ∉ U := fun hm => by have := h.st.lim _ hm; omega
  refine ⟨?_, h.newU, fun P hP => ?_, fun x hx => ?_, ?_, h.chg.trans hc (by simp)⟩
  · refine h.st.regroup hc (by simp) (by simp) (fun x hx hm => h.apart x hm hx) (fun x hx => ?_)
    rcases List.mem_cons.1 (show x ∈ w.heap.size :: plBlks L from hx) with rfl | hx
    · exact ⟨.inr (Nat.le_refl _), by simp⟩
    · exact ⟨.inl hx, Nat.lt_of_lt_of_le (hL x hx) hc.size⟩
  · rcases List.mem_cons.1 hP with rfl | hP
    · refine ⟨World.ownsRow_lit w C 1 (Nat.zero_le _) (by unfold maxLen; omega) (by rw [hs, Nat.one_mul]), fun k hk => ?_, fun k hk => ?_, h8⟩
      · obtain rfl : w.heap.size = k := by simpa [Value.ownBlock] using hk
        refine NoU8.mk (heap_alloc_new w _) (fun j c hc => h8 c ?_)
        exact List.mem_of_getElem? (by simpa using hc)
      · obtain rfl : w.heap.size = k := by simpa [Value.ownBlock] using hk
        exact h.chg.size
    · exact (h.each P hP).keep hc (by simp)
  · rcases List.mem_cons.1 (show x ∈ w.heap.size :: plBlks L from hx) with rfl | hx
    · exact hnU
    · exact h.apart x hx
  · show (w.heap.size :: plBlks L).Nodup
    exact List.nodup_cons.2 ⟨fun hm => by have := hL _ hm; omega, h.nodup⟩
/-- 'l = append(l, x)', the row in front; the element has just been laid into a new block. -/
theorem wpList_pile {ops : Array Oper} {rest : List Oper} {o : Oper} {a : Act} {Q : Exit → Act → World → Prop} (hgd : o.guard = none) (s x : Operand) (ty : TypeId)
    (ho : o.op = .call { callee := .builtin .append, args := #[s, x], argTypes := #[ty, ty] })
    {e : TypeId} {z : Value} {size bytes : Nat} (hE : El Tryz.prog ty e z size bytes) (hz8 : ∀ (j : Nat) (c : Value), z.cells[j]? = some c → No8 c)
    (v : Value) (n : Nat) (xs : List Value) (hs : a.eval s = v) (hD : Dy w0 w q p U t (⟨v, e, size, n, xs⟩ :: L))
    (N : Nat) (hN : N = w.heap.size) (c : Nat) (news : Array Value) (hx : a.eval x = .slice (some ⟨N, 0, none⟩) 1 c) (hl : news.size = size) (h1 : ∀ u ∈ news.toList, u.oneCell' = true) (hn8 : ∀ c ∈ news.toList, No8 c)
    (h63 : n + 1 ≤ maxLen) (hbytes : (n + 1) * bytes ≤ 140737488355328)
    (h : ∀ g cap w', Dy w0 w' q p U t (⟨.slice (some ⟨g, 0, none⟩) (n + 1) cap, e, size, n + 1, xs ++ news.toList⟩ :: L) → Chg v.ownBlock.toList w w' → wpList Tryz.prog ops Q rest (a.put o.dst (.slice (some ⟨g, 0, none⟩) (n + 1) cap)) w') : wpList Tryz.prog ops Q (o :: rest) a (w.alloc (.cells news e)) := by
  subst hN
  obtain ⟨ht, ⟨i, hi, hz, hsize, hby⟩, hzs, hsz⟩ := hE
  have hv := hD.each ⟨v, e, size, n, xs⟩ (by simp)
  have hca : Chg [] w (w.alloc (.cells news e)) := (Chg.refl _ _).alloc _
  have hv2 := hv.keep hca (by simp)
  refine wpList_append_no8 hgd s x ty ho e i z size bytes ht hi hz hsize hby hzs hsz hz8 v n xs hs hv2.row hv2.x8 hv2.no8 ⟨w.heap.size, 0, none⟩ c hx news.toList (by simpa using hl) ?_ h1 hn8 h63 hbytes ?_
  · intro j u hj
    rw [add_none]
    simp only [Nat.zero_add]
    have hh : (w.alloc (.cells news e)).heap[w.heap.size]? = some (.cells news e (0, 0)) := heap_alloc_new w _
    simp only [World.cell?, hh]
    simpa using hj
  · intro g cap w' h2 h3 h4 h5 h6
    obtain ⟨h7, h8⟩ := hD.grown hca h2 h3 h4 h5 h6 hn8
    exact h g cap w' h7 h8
end Go.Proofs.YtbkajnjboipbhaaGreatDoor.W

/- Slots on a disk that may die: what Put and Clear leave, and what is there behind a crash, plainly. -/
namespace Go.Proofs.YtbkajnjboipbhaaGreatDoor.W
set_option linter.unusedVariables false
set_option linter.unusedSimpArgs false

/-- A disk at rest: alive, and all that was written lasts. -/
structure DS.Rest (d : DS) : Prop where
  alive : d.dead = false
  none : d.since = []
  same : ∀ i, d.lasts i = d.now i
/-- A disk that died while the sectors j .. j+k-1 of b were laid from pos on. -/
def DS.Fell (d0 d : DS) (pos : Nat) (b : List UInt8) (j k : Nat) : Prop :=
  d.dead = true ∧ d.n = d0.n ∧ d.lasts = d0.lasts ∧ ∃ ws, d.since = d0.since ++ ws ∧ ∀ x ∈ ws, ∃ i, j ≤ i ∧ i < j + k ∧ x = (pos + i, secAt b i)
theorem DS.write_may {d : DS} (hd : d.dead = false) (k : Nat) (b : List UInt8) (hk : k < d.n) (hb : b.length = 64) :
    ((d.write (k : Int) b).1 = 0 ∧ (d.write (k : Int) b).2.dead = false ∧ (d.write (k : Int) b).2.n = d.n ∧ (d.write (k : Int) b).2.now = upd d.now k b ∧ (d.write (k : Int) b).2.lasts = d.lasts ∧ (d.write (k : Int) b).2.since = d.since ++ [(k, b)]) ∨
    ((d.write (k : Int) b).1 = 14 ∧ (d.write (k : Int) b).2.dead = true ∧ (d.write (k : Int) b).2.n = d.n ∧ (d.write (k : Int) b).2.lasts = d.lasts ∧ (d.write (k : Int) b).2.since = d.since ++ [(k, b)]) := by
  have hk' : 0 ≤ (k : Int) ∧ (k : Int) < d.n ∧ b.length = 64 := ⟨by omega, by omega, hb⟩
  by_cases hf : d.fuse = 0
  · right
    unfold DS.write DS.op
    simp only [hd, Bool.false_eq_true, if_false]
    rw [if_pos hk']
    simp [hf]
  · left
    unfold DS.write DS.op
    simp only [hd, Bool.false_eq_true, if_false]
    rw [if_pos hk']
    simp [hf, hd]
theorem DS.sync_may {d : DS} (hd : d.dead = false) :
    ((d.sync).1 = 0 ∧ (d.sync).2.dead = false ∧ (d.sync).2.n = d.n ∧ (d.sync).2.now = d.now ∧ (d.sync).2.lasts = applied d.since d.lasts ∧ (d.sync).2.since = []) ∨
    ((d.sync).1 = 14 ∧ (d.sync).2.dead = true ∧ (d.sync).2.n = d.n ∧ (d.sync).2.lasts = d.lasts ∧ (d.sync).2.since = d.since) := by
  by_cases hf : d.fuse = 0
  · right
    unfold DS.sync DS.op
    simp [hd, hf]
  · left
    unfold DS.sync DS.op
    simp [hd, hf]
theorem DS.lay_may (pos : Nat) (b : List UInt8) : ∀ (k j : Nat) (d : DS), d.dead = false → (∀ i, applied d.since d.lasts i = d.now i) → pos + j + k ≤ d.n →
    ((d.lay pos b k j).1 = 0 ∧ (d.lay pos b k j).2.Rest ∧ (d.lay pos b k j).2.n = d.n ∧ ∀ i, (d.lay pos b k j).2.now i = if pos + j ≤ i ∧ i < pos + j + k then secAt b (i - pos) else d.now i) ∨
    ((d.lay pos b k j).1 = 14 ∧ DS.Fell d (d.lay pos b k j).2 pos b j k) := by
  intro k
  induction k with
  | zero =>
    intro j d hd hs hn
    rcases d.sync_may hd with ⟨h1, h2, h3, h4, h5, h6⟩ | ⟨h1, h2, h3, h4, h5⟩
    · exact .inl ⟨h1, ⟨h2, h6, fun i => by show (d.sync).2.lasts i = (d.sync).2.now i; rw [h5, h4, hs]⟩, h3, fun i => by rw [if_neg (by omega)]; show (d.sync).2.now i = _; rw [h4]⟩
    · exact .inr ⟨h1, h2, h3, h4, [], by show (d.sync).2.since = _; rw [h5]; simp, by simp⟩
  | succ k ih =>
    intro j d hd hs hn
    unfold DS.lay
    rcases DS.write_may hd (pos + j) (secAt b j) (by omega) (secAt_len b j) with ⟨h1, h2, h3, h4, h5, h6⟩ | ⟨h1, h2, h3, h4, h5⟩
    · rw [if_neg (by rw [h1]; simp)]
      generalize (d.write ((pos + j : Nat) : Int) (secAt b j)).2 = d2 at *
      have hs2 : ∀ i, applied d2.since d2.lasts i = d2.now i := fun i => by
        have := hs
        rw [h6, h5, h4]
        unfold applied at *
        rw [List.foldl_append]
        show upd (List.foldl _ d.lasts d.since) (pos + j) (secAt b j) i = upd d.now (pos + j) (secAt b j) i
        unfold upd
        split
        · rfl
        · exact hs i
      rcases ih (j + 1) d2 h2 hs2 (by rw [h3]; omega) with ⟨i1, i2, i3, i4⟩ | ⟨i1, i2, i3, i4, ws, i5, i6⟩
      · refine .inl ⟨i1, i2, by rw [i3, h3], fun i => ?_⟩
        rw [i4, h4]
        unfold upd
        by_cases hi : i = pos + j
        · subst hi
          rw [if_neg (by omega), if_pos rfl, if_pos (by omega)]
          congr 1
          omega
        · rw [if_neg hi]
          by_cases hm : pos + (j + 1) ≤ i ∧ i < pos + (j + 1) + k
          · rw [if_pos hm, if_pos (by omega)]
          · rw [if_neg hm, if_neg (by omega)]
      · refine .inr ⟨i1, i2, by rw [i3, h3], by rw [i4, h5], (pos + j, secAt b j) :: ws, by rw [i5, h6]; simp, fun x hx => ?_⟩
        rcases List.mem_cons.1 hx with rfl | hx
        · exact ⟨j, by omega, by omega, rfl⟩
        · obtain ⟨i, a1, a2, a3⟩ := i6 x hx
          exact ⟨i, by omega, by omega, a3⟩
    · rw [if_pos (by rw [h1]; simp)]
      exact .inr ⟨h1, h2, h3, h4, [(pos + j, secAt b j)], h5, fun x hx => by
        rw [List.mem_singleton.1 hx]
        exact ⟨j, by omega, by omega, rfl⟩⟩
theorem DS.lays_may {d : DS} (pos : Nat) (b : List UInt8) (hd : d.Rest) (hn : pos + nsec b.length ≤ d.n) :
    ((d.lays pos b).1 = 0 ∧ (d.lays pos b).2.Rest ∧ (d.lays pos b).2.n = d.n ∧ ∀ i, (d.lays pos b).2.now i = if pos ≤ i ∧ i < pos + nsec b.length then secAt b (i - pos) else d.now i) ∨
    ((d.lays pos b).1 = 14 ∧ (d.lays pos b).2.dead = true ∧ (d.lays pos b).2.n = d.n ∧ (d.lays pos b).2.lasts = d.lasts ∧ ∀ x ∈ (d.lays pos b).2.since, ∃ i, i < nsec b.length ∧ x = (pos + i, secAt b i)) := by
  rcases DS.lay_may pos b (nsec b.length) 0 d hd.alive (fun i => by rw [hd.none]; exact hd.same i) hn with h | ⟨h1, h2, h3, h4, ws, h5, h6⟩
  · exact .inl h
  · refine .inr ⟨h1, h2, h3, h4, fun x hx => ?_⟩
    have hx : x ∈ (d.lay pos b (nsec b.length) 0).2.since := hx
    rw [h5, hd.none, List.nil_append] at hx
    obtain ⟨i, a1, a2, a3⟩ := h6 x hx
    exact ⟨i, by omega, a3⟩
/-- What is applied elsewhere does not matter. -/
theorem applied_far (i : Nat) : ∀ (l : List (Nat × List UInt8)) (f : Nat → List UInt8), (∀ x ∈ l, x.1 ≠ i) → applied l f i = f i
  | [], f, h => rfl
  | x :: l, f, h => by
    show applied l (upd f x.1 x.2) i = f i
    rw [applied_far i l _ (fun y hy => h y (List.mem_cons_of_mem _ hy))]
    unfold upd
    rw [if_neg (fun e => h x (List.mem_cons_self ..) e.symm)]
theorem applied_same (i : Nat) (s : List UInt8) : ∀ (l : List (Nat × List UInt8)) (f : Nat → List UInt8), (∀ x ∈ l, x = (i, s)) → applied l f i = f i ∨ applied l f i = s
  | [], f, h => .inl rfl
  | x :: l, f, h => by
    show applied l (upd f x.1 x.2) i = f i ∨ applied l (upd f x.1 x.2) i = s
    obtain rfl := h x (List.mem_cons_self ..)
    have hu : upd f i s i = s := by unfold upd; rw [if_pos rfl]
    rcases applied_same i s l (upd f i s) (fun y hy => h y (List.mem_cons_of_mem _ hy)) with h1 | h1
    · exact .inr (by rw [h1, hu])
    · exact .inr h1

/-- Slots on a disk at rest, each told. -/
structure ToldR (s : SS) (u : Nat → Bool) (v : Nat → List UInt8) : Prop where
  rest : s.d.Rest
  room : s.first + 8 * s.rows.length ≤ s.d.n
  head : ∀ k, k < s.rows.length → headOf (s.d.now (s.first + 8 * k)) = some (s.rows.getD k noRow)
  used : ∀ k, k < s.rows.length → (s.rows.getD k noRow).used = u k
  data : ∀ k, k < s.rows.length → u k = true → s.data (k : Int) = v k
theorem ToldR.small {s : SS} {u : Nat → Bool} {v : Nat → List UInt8} (h : ToldR s u v) (k : Nat) (hk : k < s.rows.length) : (s.rows.getD k noRow).n ≤ 448 := (headOf_ok (h.head k hk)).1
theorem ToldR.get {s : SS} {u : Nat → Bool} {v : Nat → List UInt8} (h : ToldR s u v) (k : Nat) (hk : k < s.rows.length) : s.get (k : Int) = if u k then (v k, 0) else ([], 6) := by
  unfold SS.get
  have hh : s.has (k : Int) := ⟨by omega, by omega⟩
  have hr : s.row (k : Int) = s.rows.getD k noRow := rfl
  rw [if_neg (by simpa using hh), hr, h.used k hk]
  cases hu : u k with
  | false => simp
  | true =>
    rw [if_neg (by simp), h.rest.alive]
    simp [h.data k hk hu]
/-- How the disk's sectors look to a slot. -/
theorem ToldR.of_now {s : SS} {u : Nat → Bool} {v : Nat → List UInt8} (h : ToldR s u v) (d2 : DS) (hr : d2.Rest) (hn : d2.n = s.d.n) (k : Nat) (hk : k < s.rows.length) (r : SRow) (hh : headOf (d2.now (s.first + 8 * k)) = some r)
    (hfar : ∀ j i, j < s.rows.length → j ≠ k → i < 8 → d2.now (s.first + 8 * j + i) = s.d.now (s.first + 8 * j + i)) (b : List UInt8)
    (hb : r.used = true → (flat (nsec r.n) (fun i => d2.now (s.first + 8 * k + 1 + i))).take r.n = b) :
    ToldR { s with d := d2, rows := s.rows.set k r } (fun j => if j = k then r.used else u j) (fun j => if j = k then b else v j) := by
  refine ⟨hr, ?_, fun j hj => ?_, fun j hj => ?_, fun j hj huj => ?_⟩
  · show s.first + 8 * (s.rows.set k r).length ≤ d2.n
    rw [List.length_set, hn]
    exact h.room
  · replace hj : j < s.rows.length := by simpa using hj
    show headOf (d2.now (s.first + 8 * j)) = some ((s.rows.set k r).getD j noRow)
    rw [set_getD _ _ _ _ hk]
    by_cases hjk : j = k
    · subst hjk
      rw [if_pos rfl]
      exact hh
    · rw [if_neg hjk, ← h.head j hj]
      have := hfar j 0 hj hjk (by omega)
      rw [Nat.add_zero] at this
      rw [this]
  · replace hj : j < s.rows.length := by simpa using hj
    show ((s.rows.set k r).getD j noRow).used = _
    rw [set_getD _ _ _ _ hk]
    by_cases hjk : j = k
    · rw [if_pos hjk, if_pos hjk]
    · rw [if_neg hjk, if_neg hjk]
      exact h.used j hj
  · replace hj : j < s.rows.length := by simpa using hj
    show (flat (nsec ((s.rows.set k r).getD j noRow).n) (fun i => d2.now (s.first + 8 * j + 1 + i))).take ((s.rows.set k r).getD j noRow).n = _
    rw [set_getD _ _ _ _ hk]
    try dsimp only at huj
    by_cases hjk : j = k
    · subst hjk
      rw [if_pos rfl] at huj
      rw [if_pos rfl, if_pos rfl]
      exact hb huj
    · rw [if_neg hjk] at huj
      rw [if_neg hjk, if_neg hjk]
      have hsm := h.small j hj
      rw [flat_congr _ _ (fun i => s.d.now (s.first + 8 * j + 1 + i)) (fun i hi => by
        have : i < 7 := by unfold nsec at hi; omega
        have := hfar j (1 + i) hj hjk (by omega)
        rw [← Nat.add_assoc] at this
        exact this)]
      exact h.data j hj huj
theorem set_self (l : List SRow) (k : Nat) (hk : k < l.length) : l.set k (l.getD k noRow) = l := by
  rw [List.getD_eq_getElem?_getD, List.getElem?_eq_getElem hk, Option.getD_some]
  exact List.set_getElem_self hk

/-- What a crash leaves of slots that are told so, or so. -/
def Lost (s : SS) (d2 : DS) (u : Nat → Bool) (v : Nat → List UInt8) (k : Nat) (q : Bool) (b : List UInt8) : Prop :=
  d2.dead = true ∧ d2.n = s.d.n ∧ ∀ ch, ∃ rows, rows.length = s.rows.length ∧ (ToldR { s with d := d2.crash ch, rows := rows } u v ∨ ToldR { s with d := d2.crash ch, rows := rows } (fun j => if j = k then q else u j) (fun j => if j = k then b else v j))
theorem crash_rest (d : DS) (ch : List UInt8) : (d.crash ch).Rest := ⟨rfl, rfl, fun i => rfl⟩
theorem crash_now {d : DS} {ch : List UInt8} (i : Nat) : (d.crash ch).now i = applied (chosen ch d.since 0) d.lasts i := rfl
theorem ToldR.again {s : SS} {u : Nat → Bool} {v : Nat → List UInt8} (h : ToldR s u v) (d2 : DS) (hr : d2.Rest) (hn : d2.n = s.d.n) (k : Nat) (hk : k < s.rows.length) (hu : u k = false) (hh : d2.now (s.first + 8 * k) = s.d.now (s.first + 8 * k))
    (hfar : ∀ j i, j < s.rows.length → j ≠ k → i < 8 → d2.now (s.first + 8 * j + i) = s.d.now (s.first + 8 * j + i)) : ToldR { s with d := d2 } u v := by
  have h1 := h.of_now d2 hr hn k hk (s.rows.getD k noRow) (by rw [hh]; exact h.head k hk) hfar (v k) (fun e => by
    rw [h.used k hk, hu] at e; cases e)
  rw [set_self _ _ hk, h.used k hk] at h1
  have e1 : (fun j => if j = k then u k else u j) = u := by funext j; split <;> simp_all
  have e2 : (fun j => if j = k then v k else v j) = v := by funext j; split <;> simp_all
  rw [e1, e2] at h1
  exact h1

theorem ToldR.put {s : SS} {u : Nat → Bool} {v : Nat → List UInt8} (h : ToldR s u v) (k : Nat) (hk : k < s.rows.length) (key b : List UInt8) (hu : u k = false) (hkey : key.length ≤ 40) (hb : b.length ≤ 448) :
    ((s.put (k : Int) key b).1 = 0 ∧ ToldR (s.put (k : Int) key b).2 (fun j => if j = k then true else u j) (fun j => if j = k then b else v j) ∧ (s.put (k : Int) key b).2.rows.length = s.rows.length ∧ (s.put (k : Int) key b).2.first = s.first ∧ (s.put (k : Int) key b).2.d.n = s.d.n) ∨
    ((s.put (k : Int) key b).1 = 14 ∧ (s.put (k : Int) key b).2.rows = s.rows ∧ (s.put (k : Int) key b).2.first = s.first ∧ Lost s (s.put (k : Int) key b).2.d u v k true b) := by
  have hh : s.has (k : Int) := ⟨by omega, by omega⟩
  have hr : s.row (k : Int) = s.rows.getD k noRow := rfl
  have hp : s.pos (k : Int) = s.first + 8 * k := rfl
  have hns : nsec b.length ≤ 7 := by unfold nsec; omega
  have hroom := h.room
  have hput : s.put (k : Int) key b = if (s.d.lays (s.pos k + 1) b).1 ≠ 0 then ((s.d.lays (s.pos k + 1) b).1, { s with d := (s.d.lays (s.pos k + 1) b).2 }) else
    if ((s.d.lays (s.pos k + 1) b).2.lays (s.pos k) (headBytes b.length key)).1 ≠ 0 then (((s.d.lays (s.pos k + 1) b).2.lays (s.pos k) (headBytes b.length key)).1, { s with d := ((s.d.lays (s.pos k + 1) b).2.lays (s.pos k) (headBytes b.length key)).2 }) else
    (0, { s with d := ((s.d.lays (s.pos k + 1) b).2.lays (s.pos k) (headBytes b.length key)).2, rows := s.rows.set k ⟨true, b.length, key⟩ }) := by
    unfold SS.put
    rw [if_neg (by simpa using hh), if_neg (by omega), hr, h.used k hk, hu, if_neg (by simp)]
    rfl
  rw [hput]
  have hh1 : nsec (headBytes b.length key).length = 1 := by rw [headBytes_len _ _ hb hkey]; unfold nsec; omega
  rcases DS.lays_may (s.pos k + 1) b h.rest (by rw [hp]; omega) with ⟨a1, a2, a3, a4⟩ | ⟨a1, a2, a3, a4, a5⟩
  · rw [if_neg (by rw [a1]; simp)]
    generalize (s.d.lays (s.pos k + 1) b).2 = d1 at *
    rw [hp] at a4
    have hfar1 : ∀ j i, j < s.rows.length → j ≠ k → i < 8 → d1.now (s.first + 8 * j + i) = s.d.now (s.first + 8 * j + i) := fun j i _ hj hi => by
      rw [a4, if_neg (by omega)]
    have hhd1 : d1.now (s.first + 8 * k) = s.d.now (s.first + 8 * k) := by rw [a4, if_neg (by omega)]
    rcases DS.lays_may (s.pos k) (headBytes b.length key) a2 (by rw [hh1, a3, hp]; omega) with ⟨b1, b2, b3, b4⟩ | ⟨b1, b2, b3, b4, b5⟩
    · left
      rw [if_neg (by rw [b1]; simp)]
      generalize (d1.lays (s.pos k) (headBytes b.length key)).2 = d2 at *
      rw [hp, hh1] at b4
      refine ⟨rfl, h.of_now d2 b2 (by rw [b3, a3]) k hk ⟨true, b.length, key⟩ ?_ (fun j i hj hjk hi => ?_) b (fun _ => ?_), by simp, rfl, by rw [← a3, ← b3]⟩
      · rw [b4, if_pos (by omega), Nat.sub_self]
        exact head_back _ _ hb hkey
      · rw [b4, if_neg (by omega)]
        exact hfar1 j i hj hjk hi
      · dsimp only
        rw [flat_congr _ _ (secAt b) (fun i hi => by rw [b4, if_neg (by omega), a4, if_pos (by omega)]; congr 1; omega)]
        exact flat_back b
    · right
      rw [if_pos (by rw [b1]; simp)]
      generalize (d1.lays (s.pos k) (headBytes b.length key)).2 = d2 at *
      refine ⟨b1, rfl, rfl, b2, by rw [b3, a3], fun ch => ?_⟩
      rw [hh1] at b5
      have hall : ∀ x ∈ chosen ch d2.since 0, x = (s.first + 8 * k, secAt (headBytes b.length key) 0) := fun x hx => by
        obtain ⟨i, hi, rfl⟩ := b5 x (chosen_mem _ _ hx)
        obtain rfl : i = 0 := by omega
        rw [hp, Nat.add_zero]
      have hn2 : (d2.crash ch).n = s.d.n := by show d2.n = _; rw [b3, a3]
      have hl1 : ∀ i, d2.lasts i = d1.now i := fun i => by rw [b4]; exact a2.same i
      have hoth : ∀ i, i ≠ s.first + 8 * k → (d2.crash ch).now i = d1.now i := fun i hi => by
        rw [crash_now, applied_far i _ _ (fun x hx => by rw [hall x hx]; exact fun e => hi e.symm), hl1]
      have hfar2 : ∀ j i, j < s.rows.length → j ≠ k → i < 8 → (d2.crash ch).now (s.first + 8 * j + i) = s.d.now (s.first + 8 * j + i) := fun j i hj hjk hi => by
        rw [hoth _ (by omega)]
        exact hfar1 j i hj hjk hi
      rcases applied_same (s.first + 8 * k) (secAt (headBytes b.length key) 0) (chosen ch d2.since 0) d2.lasts hall with hA | hA
      · refine ⟨s.rows, rfl, .inl (h.again (d2.crash ch) (crash_rest _ _) hn2 k hk hu ?_ hfar2)⟩
        rw [crash_now, hA, hl1, hhd1]
      · refine ⟨s.rows.set k ⟨true, b.length, key⟩, by simp, .inr (h.of_now (d2.crash ch) (crash_rest _ _) hn2 k hk ⟨true, b.length, key⟩ ?_ hfar2 b (fun _ => ?_))⟩
        · rw [crash_now, hA]
          exact head_back _ _ hb hkey
        · dsimp only
          rw [flat_congr _ _ (secAt b) (fun i hi => by rw [hoth _ (by omega), a4, if_pos (by omega)]; congr 1; omega)]
          exact flat_back b
  · right
    rw [if_pos (by rw [a1]; simp)]
    generalize (s.d.lays (s.pos k + 1) b).2 = d1 at *
    refine ⟨a1, rfl, rfl, a2, a3, fun ch => ⟨s.rows, rfl, .inl ?_⟩⟩
    have hn2 : (d1.crash ch).n = s.d.n := a3
    have hoth : ∀ i, i < s.first + 8 * k + 1 ∨ s.first + 8 * k + 8 ≤ i → (d1.crash ch).now i = s.d.now i := fun i hi => by
      rw [crash_now, applied_far i _ _ (fun x hx => by
        obtain ⟨t, ht, rfl⟩ := a5 x (chosen_mem _ _ hx)
        rw [hp]
        show s.first + 8 * k + 1 + t ≠ i
        omega), a4]
      exact h.rest.same i
    refine h.again (d1.crash ch) (crash_rest _ _) hn2 k hk hu (hoth _ (by omega)) (fun j i hj hjk hi => hoth _ (by omega))
theorem ToldR.clear {s : SS} {u : Nat → Bool} {v : Nat → List UInt8} (h : ToldR s u v) (k : Nat) (hk : k < s.rows.length) (hu : u k = true) :
    ((s.clear (k : Int)).1 = 0 ∧ ToldR (s.clear (k : Int)).2 (fun j => if j = k then false else u j) v ∧ (s.clear (k : Int)).2.rows.length = s.rows.length ∧ (s.clear (k : Int)).2.first = s.first ∧ (s.clear (k : Int)).2.d.n = s.d.n) ∨
    ((s.clear (k : Int)).1 = 14 ∧ (s.clear (k : Int)).2.rows = s.rows ∧ (s.clear (k : Int)).2.first = s.first ∧ Lost s (s.clear (k : Int)).2.d u v k false (v k)) := by
  have hh : s.has (k : Int) := ⟨by omega, by omega⟩
  have hr : s.row (k : Int) = s.rows.getD k noRow := rfl
  have hp : s.pos (k : Int) = s.first + 8 * k := rfl
  have hroom := h.room
  have e2 : (fun j => if j = k then v k else v j) = v := by funext j; split <;> simp_all
  have hcl : s.clear (k : Int) = if (s.d.lays (s.pos k) (zeros 64)).1 ≠ 0 then ((s.d.lays (s.pos k) (zeros 64)).1, { s with d := (s.d.lays (s.pos k) (zeros 64)).2 }) else (0, { s with d := (s.d.lays (s.pos k) (zeros 64)).2, rows := s.rows.set k noRow }) := by
    unfold SS.clear
    rw [if_neg (by simpa using hh), hr, h.used k hk, hu, if_neg (by simp)]
    rfl
  rw [hcl]
  have hh1 : nsec (zeros 64).length = 1 := rfl
  rcases DS.lays_may (s.pos k) (zeros 64) h.rest (by rw [hh1, hp]; omega) with ⟨b1, b2, b3, b4⟩ | ⟨b1, b2, b3, b4, b5⟩
  · left
    rw [if_neg (by rw [b1]; simp)]
    generalize (s.d.lays (s.pos k) (zeros 64)).2 = d2 at *
    rw [hp, hh1] at b4
    have h1 := h.of_now d2 b2 b3 k hk noRow (by rw [b4, if_pos (by omega), Nat.sub_self]; exact head_none) (fun j i hj hjk hi => by rw [b4, if_neg (by omega)]) (v k) (fun e => by cases e)
    rw [e2] at h1
    exact ⟨rfl, h1, by simp, rfl, b3⟩
  · right
    rw [if_pos (by rw [b1]; simp)]
    generalize (s.d.lays (s.pos k) (zeros 64)).2 = d2 at *
    refine ⟨b1, rfl, rfl, b2, b3, fun ch => ?_⟩
    rw [hh1] at b5
    have hall : ∀ x ∈ chosen ch d2.since 0, x = (s.first + 8 * k, secAt (zeros 64) 0) := fun x hx => by
      obtain ⟨i, hi, rfl⟩ := b5 x (chosen_mem _ _ hx)
      obtain rfl : i = 0 := by omega
      rw [hp, Nat.add_zero]
    have hn2 : (d2.crash ch).n = s.d.n := b3
    have hl1 : ∀ i, d2.lasts i = s.d.now i := fun i => by rw [b4]; exact h.rest.same i
    have hoth : ∀ i, i ≠ s.first + 8 * k → (d2.crash ch).now i = s.d.now i := fun i hi => by
      rw [crash_now, applied_far i _ _ (fun x hx => by rw [hall x hx]; exact fun e => hi e.symm), hl1]
    have hfar2 : ∀ j i, j < s.rows.length → j ≠ k → i < 8 → (d2.crash ch).now (s.first + 8 * j + i) = s.d.now (s.first + 8 * j + i) := fun j i hj hjk hi => hoth _ (by omega)
    rcases applied_same (s.first + 8 * k) (secAt (zeros 64) 0) (chosen ch d2.since 0) d2.lasts hall with hA | hA
    · refine ⟨s.rows, rfl, .inl ?_⟩
      have h1 := h.of_now (d2.crash ch) (crash_rest _ _) hn2 k hk (s.rows.getD k noRow) (by rw [crash_now, hA, hl1]; exact h.head k hk) hfar2 (v k) (fun _ => by
        have hsm := h.small k hk
        rw [flat_congr _ _ (fun i => s.d.now (s.first + 8 * k + 1 + i)) (fun i hi => hoth _ (by omega))]
        exact h.data k hk hu)
      rw [set_self _ _ hk, h.used k hk] at h1
      have e1 : (fun j => if j = k then u k else u j) = u := by funext j; split <;> simp_all
      rw [e1, e2] at h1
      exact h1
    · refine ⟨s.rows.set k noRow, by simp, .inr (h.of_now (d2.crash ch) (crash_rest _ _) hn2 k hk noRow ?_ hfar2 (v k) (fun e => by cases e))⟩
      rw [crash_now, hA]
      exact head_none
/-- Opened anew they are as they are told. -/
theorem ToldR.anew {s : SS} {u : Nat → Bool} {v : Nat → List UInt8} (h : ToldR s u v) (hn : (s.d.n - s.first) / 8 = s.rows.length) (hz : s.d.n ≠ 0) : s.d.slots (s.first : Int) = (0, some s) := by
  have hroom := h.room
  unfold DS.slots
  rw [if_neg (by omega), if_neg (by rw [h.rest.alive]; simp [hz]), Int.toNat_natCast, hn, rowsFrom_told s.rows.length 0 (by omega) (fun j _ hj => h.head j hj)]
  rfl
/-- At rest, a crash loses nothing. -/
theorem ToldR.crash {s : SS} {u : Nat → Bool} {v : Nat → List UInt8} (h : ToldR s u v) (ch : List UInt8) : ToldR { s with d := s.d.crash ch } u v := by
  have hnow : ∀ i, (s.d.crash ch).now i = s.d.now i := fun i => by
    rw [crash_now, h.rest.none]
    exact h.rest.same i
  refine ⟨crash_rest _ _, h.room, fun k hk => by show headOf ((s.d.crash ch).now _) = _; rw [hnow]; exact h.head k hk, h.used, fun k hk hu => ?_⟩
  rw [← h.data k hk hu]
  unfold SS.data
  congr 2
  funext i
  exact hnow _
theorem ToldR.fuse {s : SS} {u : Nat → Bool} {v : Nat → List UInt8} (h : ToldR s u v) (n : Int) : ToldR { s with d := s.d.setFuse n } u v := ⟨⟨h.rest.alive, h.rest.none, h.rest.same⟩, h.room, h.head, h.used, h.data⟩
end Go.Proofs.YtbkajnjboipbhaaGreatDoor.W

/- A store on a disk that may die, plainly: what Put and Delete leave, what is there behind a crash. -/
namespace Go.Proofs.YtbkajnjboipbhaaGreatDoor.W
set_option linter.unusedVariables false
set_option linter.unusedSimpArgs false

/-- What a crash leaves of slots: the rows as they were, or with one row set. -/
def Lost2 (s : SS) (d2 : DS) (u : Nat → Bool) (v : Nat → List UInt8) (k : Nat) (r : SRow) (b : List UInt8) : Prop :=
  d2.dead = true ∧ d2.n = s.d.n ∧ ∀ ch, ToldR { s with d := d2.crash ch } u v ∨ ToldR { s with d := d2.crash ch, rows := s.rows.set k r } (fun j => if j = k then r.used else u j) (fun j => if j = k then b else v j)
theorem ToldR.put2 {s : SS} {u : Nat → Bool} {v : Nat → List UInt8} (h : ToldR s u v) (k : Nat) (hk : k < s.rows.length) (key b : List UInt8) (hu : u k = false) (hkey : key.length ≤ 40) (hb : b.length ≤ 448) :
    ((s.put (k : Int) key b).1 = 0 ∧ ToldR (s.put (k : Int) key b).2 (fun j => if j = k then true else u j) (fun j => if j = k then b else v j) ∧ (s.put (k : Int) key b).2.rows.length = s.rows.length ∧ (s.put (k : Int) key b).2.first = s.first ∧ (s.put (k : Int) key b).2.d.n = s.d.n) ∨
    ((s.put (k : Int) key b).1 = 14 ∧ (s.put (k : Int) key b).2.rows = s.rows ∧ (s.put (k : Int) key b).2.first = s.first ∧ Lost2 s (s.put (k : Int) key b).2.d u v k ⟨true, b.length, key⟩ b) := by
  have hh : s.has (k : Int) := ⟨by omega, by omega⟩
  have hr : s.row (k : Int) = s.rows.getD k noRow := rfl
  have hp : s.pos (k : Int) = s.first + 8 * k := rfl
  have hns : nsec b.length ≤ 7 := by unfold nsec; omega
  have hroom := h.room
  have hput : s.put (k : Int) key b = if (s.d.lays (s.pos k + 1) b).1 ≠ 0 then ((s.d.lays (s.pos k + 1) b).1, { s with d := (s.d.lays (s.pos k + 1) b).2 }) else
    if ((s.d.lays (s.pos k + 1) b).2.lays (s.pos k) (headBytes b.length key)).1 ≠ 0 then (((s.d.lays (s.pos k + 1) b).2.lays (s.pos k) (headBytes b.length key)).1, { s with d := ((s.d.lays (s.pos k + 1) b).2.lays (s.pos k) (headBytes b.length key)).2 }) else
    (0, { s with d := ((s.d.lays (s.pos k + 1) b).2.lays (s.pos k) (headBytes b.length key)).2, rows := s.rows.set k ⟨true, b.length, key⟩ }) := by
    unfold SS.put
    rw [if_neg (by simpa using hh), if_neg (by omega), hr, h.used k hk, hu, if_neg (by simp)]
    rfl
  rw [hput]
  have hh1 : nsec (headBytes b.length key).length = 1 := by rw [headBytes_len _ _ hb hkey]; unfold nsec; omega
  rcases DS.lays_may (s.pos k + 1) b h.rest (by rw [hp]; omega) with ⟨a1, a2, a3, a4⟩ | ⟨a1, a2, a3, a4, a5⟩
  · rw [if_neg (by rw [a1]; simp)]
    generalize (s.d.lays (s.pos k + 1) b).2 = d1 at *
    rw [hp] at a4
    have hfar1 : ∀ j i, j < s.rows.length → j ≠ k → i < 8 → d1.now (s.first + 8 * j + i) = s.d.now (s.first + 8 * j + i) := fun j i _ hj hi => by
      rw [a4, if_neg (by omega)]
    have hhd1 : d1.now (s.first + 8 * k) = s.d.now (s.first + 8 * k) := by rw [a4, if_neg (by omega)]
    rcases DS.lays_may (s.pos k) (headBytes b.length key) a2 (by rw [hh1, a3, hp]; omega) with ⟨b1, b2, b3, b4⟩ | ⟨b1, b2, b3, b4, b5⟩
    · left
      rw [if_neg (by rw [b1]; simp)]
      generalize (d1.lays (s.pos k) (headBytes b.length key)).2 = d2 at *
      rw [hp, hh1] at b4
      refine ⟨rfl, h.of_now d2 b2 (by rw [b3, a3]) k hk ⟨true, b.length, key⟩ ?_ (fun j i hj hjk hi => ?_) b (fun _ => ?_), by simp, rfl, by rw [← a3, ← b3]⟩
      · rw [b4, if_pos (by omega), Nat.sub_self]
        exact head_back _ _ hb hkey
      · rw [b4, if_neg (by omega)]
        exact hfar1 j i hj hjk hi
      · dsimp only
        rw [flat_congr _ _ (secAt b) (fun i hi => by rw [b4, if_neg (by omega), a4, if_pos (by omega)]; congr 1; omega)]
        exact flat_back b
    · right
      rw [if_pos (by rw [b1]; simp)]
      generalize (d1.lays (s.pos k) (headBytes b.length key)).2 = d2 at *
      refine ⟨b1, rfl, rfl, b2, by rw [b3, a3], fun ch => ?_⟩
      rw [hh1] at b5
      have hall : ∀ x ∈ chosen ch d2.since 0, x = (s.first + 8 * k, secAt (headBytes b.length key) 0) := fun x hx => by
        obtain ⟨i, hi, rfl⟩ := b5 x (chosen_mem _ _ hx)
        obtain rfl : i = 0 := by omega
        rw [hp, Nat.add_zero]
      have hn2 : (d2.crash ch).n = s.d.n := by show d2.n = _; rw [b3, a3]
      have hl1 : ∀ i, d2.lasts i = d1.now i := fun i => by rw [b4]; exact a2.same i
      have hoth : ∀ i, i ≠ s.first + 8 * k → (d2.crash ch).now i = d1.now i := fun i hi => by
        rw [crash_now, applied_far i _ _ (fun x hx => by rw [hall x hx]; exact fun e => hi e.symm), hl1]
      have hfar2 : ∀ j i, j < s.rows.length → j ≠ k → i < 8 → (d2.crash ch).now (s.first + 8 * j + i) = s.d.now (s.first + 8 * j + i) := fun j i hj hjk hi => by
        rw [hoth _ (by omega)]
        exact hfar1 j i hj hjk hi
      rcases applied_same (s.first + 8 * k) (secAt (headBytes b.length key) 0) (chosen ch d2.since 0) d2.lasts hall with hA | hA
      · refine .inl (h.again (d2.crash ch) (crash_rest _ _) hn2 k hk hu ?_ hfar2)
        rw [crash_now, hA, hl1, hhd1]
      · refine .inr (h.of_now (d2.crash ch) (crash_rest _ _) hn2 k hk ⟨true, b.length, key⟩ ?_ hfar2 b (fun _ => ?_))
        · rw [crash_now, hA]
          exact head_back _ _ hb hkey
        · dsimp only
          rw [flat_congr _ _ (secAt b) (fun i hi => by rw [hoth _ (by omega), a4, if_pos (by omega)]; congr 1; omega)]
          exact flat_back b
  · right
    rw [if_pos (by rw [a1]; simp)]
    generalize (s.d.lays (s.pos k + 1) b).2 = d1 at *
    refine ⟨a1, rfl, rfl, a2, a3, fun ch => .inl ?_⟩
    have hn2 : (d1.crash ch).n = s.d.n := a3
    have hoth : ∀ i, i < s.first + 8 * k + 1 ∨ s.first + 8 * k + 8 ≤ i → (d1.crash ch).now i = s.d.now i := fun i hi => by
      rw [crash_now, applied_far i _ _ (fun x hx => by
        obtain ⟨t, ht, rfl⟩ := a5 x (chosen_mem _ _ hx)
        rw [hp]
        show s.first + 8 * k + 1 + t ≠ i
        omega), a4]
      exact h.rest.same i
    refine h.again (d1.crash ch) (crash_rest _ _) hn2 k hk hu (hoth _ (by omega)) (fun j i hj hjk hi => hoth _ (by omega))
theorem ToldR.clear2 {s : SS} {u : Nat → Bool} {v : Nat → List UInt8} (h : ToldR s u v) (k : Nat) (hk : k < s.rows.length) (hu : u k = true) :
    ((s.clear (k : Int)).1 = 0 ∧ ToldR (s.clear (k : Int)).2 (fun j => if j = k then false else u j) v ∧ (s.clear (k : Int)).2.rows.length = s.rows.length ∧ (s.clear (k : Int)).2.first = s.first ∧ (s.clear (k : Int)).2.d.n = s.d.n) ∨
    ((s.clear (k : Int)).1 = 14 ∧ (s.clear (k : Int)).2.rows = s.rows ∧ (s.clear (k : Int)).2.first = s.first ∧ Lost2 s (s.clear (k : Int)).2.d u v k noRow (v k)) := by
  have hh : s.has (k : Int) := ⟨by omega, by omega⟩
  have hr : s.row (k : Int) = s.rows.getD k noRow := rfl
  have hp : s.pos (k : Int) = s.first + 8 * k := rfl
  have hroom := h.room
  have e2 : (fun j => if j = k then v k else v j) = v := by funext j; split <;> simp_all
  have hcl : s.clear (k : Int) = if (s.d.lays (s.pos k) (zeros 64)).1 ≠ 0 then ((s.d.lays (s.pos k) (zeros 64)).1, { s with d := (s.d.lays (s.pos k) (zeros 64)).2 }) else (0, { s with d := (s.d.lays (s.pos k) (zeros 64)).2, rows := s.rows.set k noRow }) := by
    unfold SS.clear
    rw [if_neg (by simpa using hh), hr, h.used k hk, hu, if_neg (by simp)]
    rfl
  rw [hcl]
  have hh1 : nsec (zeros 64).length = 1 := rfl
  rcases DS.lays_may (s.pos k) (zeros 64) h.rest (by rw [hh1, hp]; omega) with ⟨b1, b2, b3, b4⟩ | ⟨b1, b2, b3, b4, b5⟩
  · left
    rw [if_neg (by rw [b1]; simp)]
    generalize (s.d.lays (s.pos k) (zeros 64)).2 = d2 at *
    rw [hp, hh1] at b4
    have h1 := h.of_now d2 b2 b3 k hk noRow (by rw [b4, if_pos (by omega), Nat.sub_self]; exact head_none) (fun j i hj hjk hi => by rw [b4, if_neg (by omega)]) (v k) (fun e => by cases e)
    rw [e2] at h1
    exact ⟨rfl, h1, by simp, rfl, b3⟩
  · right
    rw [if_pos (by rw [b1]; simp)]
    generalize (s.d.lays (s.pos k) (zeros 64)).2 = d2 at *
    refine ⟨b1, rfl, rfl, b2, b3, fun ch => ?_⟩
    rw [hh1] at b5
    have hall : ∀ x ∈ chosen ch d2.since 0, x = (s.first + 8 * k, secAt (zeros 64) 0) := fun x hx => by
      obtain ⟨i, hi, rfl⟩ := b5 x (chosen_mem _ _ hx)
      obtain rfl : i = 0 := by omega
      rw [hp, Nat.add_zero]
    have hn2 : (d2.crash ch).n = s.d.n := b3
    have hl1 : ∀ i, d2.lasts i = s.d.now i := fun i => by rw [b4]; exact h.rest.same i
    have hoth : ∀ i, i ≠ s.first + 8 * k → (d2.crash ch).now i = s.d.now i := fun i hi => by
      rw [crash_now, applied_far i _ _ (fun x hx => by rw [hall x hx]; exact fun e => hi e.symm), hl1]
    have hfar2 : ∀ j i, j < s.rows.length → j ≠ k → i < 8 → (d2.crash ch).now (s.first + 8 * j + i) = s.d.now (s.first + 8 * j + i) := fun j i hj hjk hi => hoth _ (by omega)
    rcases applied_same (s.first + 8 * k) (secAt (zeros 64) 0) (chosen ch d2.since 0) d2.lasts hall with hA | hA
    · refine .inl ?_
      have h1 := h.of_now (d2.crash ch) (crash_rest _ _) hn2 k hk (s.rows.getD k noRow) (by rw [crash_now, hA, hl1]; exact h.head k hk) hfar2 (v k) (fun _ => by
        have hsm := h.small k hk
        rw [flat_congr _ _ (fun i => s.d.now (s.first + 8 * k + 1 + i)) (fun i hi => hoth _ (by omega))]
        exact h.data k hk hu)
      rw [set_self _ _ hk, h.used k hk] at h1
      have e1 : (fun j => if j = k then u k else u j) = u := by funext j; split <;> simp_all
      rw [e1, e2] at h1
      exact h1
    · refine .inr (h.of_now (d2.crash ch) (crash_rest _ _) hn2 k hk noRow ?_ hfar2 (v k) (fun e => by cases e))
      rw [crash_now, hA]
      exact head_none

/-! ### Sector 0 -/
structure DS.Zero (d : DS) (c : List UInt8) : Prop where
  now : d.now 0 = c
  lasts : d.lasts 0 = c
  since : ∀ x ∈ d.since, x.1 ≠ 0
theorem DS.Zero.write {d : DS} {c : List UInt8} (h : d.Zero c) (k : Nat) (hk : k ≠ 0) (b : List UInt8) : (d.write (k : Int) b).2.Zero c := by
  unfold DS.write
  split
  · exact h
  · split
    · have hs : ∀ x ∈ d.since ++ [((k : Int).toNat, b)], x.1 ≠ 0 := fun x hx => by
        rcases List.mem_append.1 hx with hx | hx
        · exact h.since x hx
        · rw [List.mem_singleton.1 hx]; simpa using hk
      dsimp only
      unfold DS.op
      dsimp only
      by_cases hf : d.fuse = 0
      · rw [if_pos hf]
        exact ⟨h.now, h.lasts, hs⟩
      · rw [if_neg hf]
        refine ⟨?_, h.lasts, hs⟩
        show upd d.now (k : Int).toNat b 0 = c
        unfold upd
        rw [if_neg (by simp; omega)]
        exact h.now
    · exact h
theorem DS.Zero.sync {d : DS} {c : List UInt8} (h : d.Zero c) : (d.sync).2.Zero c := by
  unfold DS.sync
  split
  · exact h
  · unfold DS.op
    by_cases hf : d.fuse = 0
    · simp only [hf, if_true]
      exact ⟨h.now, h.lasts, h.since⟩
    · simp only [hf, if_false, if_true]
      refine ⟨h.now, ?_, by simp⟩
      show applied d.since d.lasts 0 = c
      rw [applied_far 0 _ _ h.since]
      exact h.lasts
theorem DS.Zero.lay {c : List UInt8} (pos : Nat) (hp : pos ≠ 0) (b : List UInt8) : ∀ (k j : Nat) (d : DS), d.Zero c → (d.lay pos b k j).2.Zero c
  | 0, j, d, h => h.sync
  | k + 1, j, d, h => by
    unfold DS.lay
    split
    · exact h.write (pos + j) (by omega) _
    · exact DS.Zero.lay pos hp b k (j + 1) _ (h.write (pos + j) (by omega) _)
theorem DS.Zero.lays {d : DS} {c : List UInt8} (h : d.Zero c) (pos : Nat) (hp : pos ≠ 0) (b : List UInt8) : (d.lays pos b).2.Zero c := DS.Zero.lay pos hp b _ _ d h
theorem DS.Zero.put {s : SS} {c : List UInt8} (h : s.d.Zero c) (hf : s.first ≠ 0) (i : Int) (key b : List UInt8) : (s.put i key b).2.d.Zero c := by
  have h1 : s.pos i ≠ 0 := by unfold SS.pos; omega
  have a := h.lays (s.pos i + 1) (by omega) b
  have a2 := a.lays (s.pos i) h1 (headBytes b.length key)
  unfold SS.put
  split
  · exact h
  · split
    · exact h
    · split
      · exact h
      · split
        · exact a
        · split
          · exact a2
          · exact a2
theorem DS.Zero.clear {s : SS} {c : List UInt8} (h : s.d.Zero c) (hf : s.first ≠ 0) (i : Int) : (s.clear i).2.d.Zero c := by
  have h1 : s.pos i ≠ 0 := by unfold SS.pos; omega
  have a := h.lays (s.pos i) h1 (zeros 64)
  unfold SS.clear
  split
  · exact h
  · split
    · exact h
    · split
      · exact a
      · exact a
theorem DS.Zero.crash {d : DS} {c : List UInt8} (h : d.Zero c) (ch : List UInt8) : (d.crash ch).Zero c := by
  have e : applied (chosen ch d.since 0) d.lasts 0 = c := by
    rw [applied_far 0 _ _ (fun x hx => h.since x (chosen_mem _ _ hx))]
    exact h.lasts
  exact ⟨e, e, by intro x hx; cases hx⟩

/-! ### A store at rest whose fragments are known -/
structure KeptR (t : Sto) (F : Frag) : Prop where
  told : ∃ u v, ToldR t.s u v ∧ ∀ x, mayId x = true → (F x = none ∧ t.at x = []) ∨ ∃ i b, F x = some b ∧ t.at x = [i] ∧ v i = b
  out : ∀ x, mayId x = false → F x = none
  keys : keysOk t.s.rows
  first : t.s.first = 1
  full : (t.s.d.n - 1) / 8 = t.s.rows.length ∧ 9 ≤ t.s.d.n
  zero : t.s.d.Zero ((if t.whole then 2 else 1) :: zeros 63)
theorem KeptR.rest {t : Sto} {F : Frag} (h : KeptR t F) : t.s.d.Rest := by obtain ⟨u, v, h1, _⟩ := h.told; exact h1.rest
/-- Opened it is a store of these fragments. -/
def Reopens (d : DS) (wh : Bool) (F : Frag) : Prop := ∃ t, d.stOpen = (0, some t) ∧ KeptR t F ∧ t.whole = wh ∧ t.s.d = d
theorem reopens_of {t : Sto} {F : Frag} (h : KeptR t F) : Reopens t.s.d t.whole F := by
  refine ⟨t, ?_, h, rfl, rfl⟩
  obtain ⟨u, v, h1, _⟩ := h.told
  have hsl := h1.anew (by rw [h.first]; exact h.full.1) (by have := h.full.2; omega)
  rw [h.first] at hsl
  have hn := h.full.2
  unfold DS.stOpen
  rw [if_neg (by omega), if_neg (by rw [h1.rest.alive]; simp), h.zero.now]
  cases hw : t.whole with
  | true =>
    rw [if_neg (by
      rintro (⟨_, h2⟩ | h2)
      · exact h2 rfl
      · rw [show (((if true = true then (2 : UInt8) else 1) :: zeros 63)).drop 1 = zeros 63 from rfl, allZ_zeros] at h2; cases h2)]
    rw [show ((1 : Nat) : Int) = 1 from rfl] at hsl
    rw [hsl]
    dsimp only
    rw [if_pos (stKeys_iff.2 h.keys)]
    obtain ⟨ts, tw⟩ := t
    dsimp only at hw
    subst hw
    rfl
  | false =>
    rw [if_neg (by
      rintro (⟨h2, _⟩ | h2)
      · exact h2 rfl
      · rw [show (((if false = true then (2 : UInt8) else 1) :: zeros 63)).drop 1 = zeros 63 from rfl, allZ_zeros] at h2; cases h2)]
    rw [show ((1 : Nat) : Int) = 1 from rfl] at hsl
    rw [hsl]
    dsimp only
    rw [if_pos (stKeys_iff.2 h.keys)]
    obtain ⟨ts, tw⟩ := t
    dsimp only at hw
    subst hw
    rfl
theorem KeptR.at_none {t : Sto} {F : Frag} (h : KeptR t F) {x : Id} (hx : F x = none) : t.at x = [] := by
  by_cases hm : mayId x = true
  · obtain ⟨u, v, _, h2⟩ := h.told
    rcases h2 x hm with ⟨_, h3⟩ | ⟨i, b, h3, _⟩
    · exact h3
    · rw [hx] at h3; cases h3
  · exact Sto.at_not (by simpa using hm)
theorem KeptR.at_some {t : Sto} {F : Frag} (h : KeptR t F) {x : Id} {b : List UInt8} (hx : F x = some b) : mayId x = true ∧ t.at x ≠ [] := by
  by_cases hm : mayId x = true
  · obtain ⟨u, v, _, h2⟩ := h.told
    rcases h2 x hm with ⟨h3, _⟩ | ⟨i, b', h3, h4, _⟩
    · rw [hx] at h3; cases h3
    · exact ⟨hm, by rw [h4]; simp⟩
  · rw [h.out x (by simpa using hm)] at hx; cases hx
/-- Get. -/
theorem KeptR.get {t : Sto} {F : Frag} (h : KeptR t F) (x : Id) : t.get x = if mayId x = false then (([] : List UInt8), (1 : Int)) else match F x with | none => ([], 6) | some b => (b, 0) := by
  unfold Sto.get
  by_cases hm : mayId x = true
  · rw [if_neg (by simp [hm]), if_neg (by simp [hm])]
    obtain ⟨u, v, h1, h2⟩ := h.told
    rcases h2 x hm with ⟨h3, h4⟩ | ⟨i, b, h3, h4, h5⟩
    · rw [h3, h4]
    · rw [h3, h4]
      dsimp only
      have hi : i ∈ upto t.s.rows t.s.rows.length (idKey x) := by rw [← Sto.at_may hm, h4]; simp
      obtain ⟨a, b1, _⟩ := upto_mem.1 hi
      rw [h1.get i a, if_pos (by rw [← h1.used i a]; exact b1), h5]
  · rw [if_pos (by simpa using hm), if_pos (by simpa using hm)]
theorem KeptR.mem_ids {t : Sto} {F : Frag} (h : KeptR t F) (x : Id) : x ∈ t.ids ↔ (F x).isSome = true := by
  rw [Sto.mem_ids h.keys]
  cases hx : F x with
  | none => simp [h.at_none hx]
  | some b => simp [(h.at_some hx).2]
/-- Put, where there is no room. -/
theorem KeptR.put_full {t : Sto} {F : Frag} (h : KeptR t F) {x : Id} (hm : mayId x = true) (hF : F x = none) {b : List UInt8} (hb : b.length ≤ 448) (hr : t.room = 0) : t.put x b = (5, t) := by
  have hfree : t.s.free < 0 := by
    unfold SS.free
    rcases rowFree_spec t.s.rows 0 with ⟨h1, _⟩ | ⟨n, h1, h2, h3, _⟩
    · rw [h1]; omega
    · unfold Sto.room at hr
      have := List.countP_eq_zero.1 hr _ (row_mem h1)
      rw [h3] at this; simp at this
  unfold Sto.put
  rw [if_neg (by simp [hm]), if_neg (by omega), h.at_none hF]
  dsimp only
  rw [if_pos hfree]
/-- Put, where there is one. -/
theorem KeptR.put_there {t : Sto} {F : Frag} (h : KeptR t F) {x : Id} {c : List UInt8} (hF : F x = some c) (b : List UInt8) (hb : b.length ≤ 448) : t.put x b = (if c = b then 0 else 7, t) := by
  obtain ⟨hm, hne⟩ := h.at_some hF
  have hg := h.get x
  rw [if_neg (by simp [hm]), hF] at hg
  unfold Sto.get at hg
  rw [if_neg (by simp [hm])] at hg
  unfold Sto.put
  rw [if_neg (by simp [hm]), if_neg (by omega)]
  cases hat : t.at x with
  | nil => exact absurd hat hne
  | cons i r =>
    rw [hat] at hg
    dsimp only at hg ⊢
    rw [hg, if_neg (by simp)]
    split <;> rfl
theorem KeptR.put_bad {t : Sto} {F : Frag} (h : KeptR t F) {x : Id} {b : List UInt8} (hm : mayId x = false ∨ 448 < b.length) : (t.put x b).1 ≠ 0 ∧ (t.put x b).2 = t := by
  unfold Sto.put
  by_cases h1 : mayId x = false
  · rw [if_pos h1]; exact ⟨by simp, rfl⟩
  · rw [if_neg h1, if_pos (by rcases hm with h2 | h2; exact absurd h2 h1; exact h2)]
    exact ⟨by simp, rfl⟩

end Go.Proofs.YtbkajnjboipbhaaGreatDoor.W

/- A store on a disk that may die, plainly: Put, Delete, a crash. -/
namespace Go.Proofs.YtbkajnjboipbhaaGreatDoor.W
set_option linter.unusedVariables false
set_option linter.unusedSimpArgs false

/-! ### What lasts, as long as it lives -/
def DS.Fair (d : DS) : Prop := d.dead = false → ∀ i, applied d.since d.lasts i = d.now i
theorem DS.Fair.write {d : DS} (h : d.Fair) (k : Int) (b : List UInt8) : (d.write k b).2.Fair := by
  unfold DS.write
  split
  · exact h
  · rename_i hd
    have h := h (by simpa using hd)
    split
    · unfold DS.op
      by_cases hf : d.fuse = 0
      · simp only [hf, if_true]
        intro hh; cases hh
      · simp only [hf, if_false, if_true]
        intro _ i
        show applied (d.since ++ [(k.toNat, b)]) d.lasts i = upd d.now k.toNat b i
        rw [applied_snoc]
        unfold upd
        split
        · rfl
        · exact h i
    · exact fun _ => h
theorem DS.Fair.sync {d : DS} (h : d.Fair) : (d.sync).2.Fair := by
  unfold DS.sync
  split
  · exact h
  · rename_i hd
    have h := h (by simpa using hd)
    unfold DS.op
    by_cases hf : d.fuse = 0
    · simp only [hf, if_true]
      intro hh; cases hh
    · simp only [hf, if_false, if_true]
      intro _ i
      exact h i
theorem DS.Fair.wipe : ∀ (k a : Nat) (d : DS), d.Fair → (d.wipe k a).2.Fair
  | 0, a, d, h => h.sync
  | k + 1, a, d, h => by
    unfold DS.wipe
    split
    · exact h.write _ _
    · exact DS.Fair.wipe k (a + 8) _ (h.write _ _)
theorem DS.Fair.sign {d : DS} (h : d.Fair) (n : UInt8) : (d.sign n).2.Fair := by
  unfold DS.sign
  split
  · exact h.write _ _
  · exact (h.write _ _).sync
theorem format_fair {d : DS} (h : d.Fair) : d.format.2.Fair := by
  have h1 : d.fmt1.2.Fair := h.wipe _ _
  have h2 : d.fmt2.2.Fair := h1.sign 1
  unfold DS.format
  split
  · exact h
  · split
    · exact h1
    · split
      · exact h2
      · exact h2
theorem KeptR.new (n : Nat) (h9 : 9 ≤ n) : ∃ t d, (DS.new n).format = ((0, some t), d) ∧ KeptR t (fun _ => none) ∧ t.s.d = d ∧ t.s.rows = List.replicate ((n - 1) / 8) noRow ∧ d.n = n ∧ d.ops ≤ n ∧ t.whole = false ∧ d.Live := by
  obtain ⟨d, h1, h2, h3, h4, h5, h6, h7⟩ := format_new n h9
  have hf : d.Fair := by
    have := format_fair (d := DS.new n) (fun _ _ => rfl)
    rw [h1] at this
    exact this
  have hl : ∀ i, d.lasts i = d.now i := fun i => by
    have := hf h2.1 i
    rw [h4] at this
    exact this
  refine ⟨_, d, h1, ⟨⟨fun _ => false, fun _ => [], ⟨⟨h2.1, h4, hl⟩, by show 1 + 8 * (List.replicate _ noRow).length ≤ d.n; rw [List.length_replicate]; omega, fun k hk => ?_, fun k hk => ?_, fun k hk hu => by cases hu⟩, fun x hx => .inl ⟨rfl, ?_⟩⟩, fun _ _ => rfl, fun r hr hu => ?_, rfl, ⟨?_, by show 9 ≤ d.n; omega⟩, ⟨h7, by show d.lasts 0 = _; rw [hl]; exact h7, by show ∀ x ∈ d.since, _; rw [h4]; simp⟩⟩, rfl, rfl, h3, h6, rfl, h2⟩
  · rw [List.length_replicate] at hk
    show headOf (d.now (1 + 8 * k)) = _
    rw [h5 _ (by omega), List.getD_eq_getElem?_getD, List.getElem?_replicate, if_pos hk]
    rfl
  · rw [List.length_replicate] at hk
    show ((List.replicate _ noRow).getD k noRow).used = false
    rw [List.getD_eq_getElem?_getD, List.getElem?_replicate, if_pos hk]
    rfl
  · rw [Sto.at_may hx]
    cases hu : upto (List.replicate ((n - 1) / 8) noRow) (List.replicate ((n - 1) / 8) noRow).length (idKey x) with
    | nil => rfl
    | cons j r =>
      have hj : j ∈ upto (List.replicate ((n - 1) / 8) noRow) (List.replicate ((n - 1) / 8) noRow).length (idKey x) := by rw [hu]; simp
      obtain ⟨a, b, _⟩ := upto_mem.1 hj
      rw [List.length_replicate] at a
      rw [List.getD_eq_getElem?_getD, List.getElem?_replicate, if_pos a] at b
      simp [noRow] at b
  · obtain rfl := List.eq_of_mem_replicate hr
    simp [noRow] at hu
  · show (d.n - 1) / 8 = (List.replicate ((n - 1) / 8) noRow).length
    rw [List.length_replicate, h3]

/-! ### One row is set -/
section
variable {t : Sto} {F : Frag} {u : Nat → Bool} {v : Nat → List UInt8} {x : Id} {b : List UInt8} {i : Nat} {d2 : DS}
/-- What a store's slots tell. -/
def Tells (t : Sto) (F : Frag) (u : Nat → Bool) (v : Nat → List UInt8) : Prop := ∀ x, mayId x = true → (F x = none ∧ t.at x = []) ∨ ∃ i b, F x = some b ∧ t.at x = [i] ∧ v i = b
theorem KeptR.same_row (h : KeptR t F) (ht : ToldR { t.s with d := d2 } u v) (ha : Tells t F u v) (hz : d2.Zero ((if t.whole then 2 else 1) :: zeros 63)) (hn : d2.n = t.s.d.n) : KeptR ⟨{ t.s with d := d2 }, t.whole⟩ F :=
  ⟨⟨u, v, ht, ha⟩, h.out, h.keys, h.first, ⟨by show (d2.n - 1) / 8 = _; rw [hn]; exact h.full.1, by show 9 ≤ d2.n; rw [hn]; exact h.full.2⟩, hz⟩
theorem KeptR.put_row (h : KeptR t F) (hm : mayId x = true) (hF : F x = none) (hil : i < t.s.rows.length) (hiu : (t.s.rows.getD i noRow).used = false)
    (ht : ToldR { t.s with d := d2, rows := t.s.rows.set i ⟨true, b.length, idKey x⟩ } (fun j => if j = i then true else u j) (fun j => if j = i then b else v j)) (ha : Tells t F u v) (hz : d2.Zero ((if t.whole then 2 else 1) :: zeros 63)) (hn : d2.n = t.s.d.n) :
    KeptR ⟨{ t.s with d := d2, rows := t.s.rows.set i ⟨true, b.length, idKey x⟩ }, t.whole⟩ (setF F x (some b)) := by
  have hat := h.at_none hF
  have hat2 : upto t.s.rows t.s.rows.length (idKey x) = [] := by rw [← Sto.at_may hm]; exact hat
  have hat' : ∀ y, mayId y = true → Sto.at ⟨{ t.s with d := d2, rows := t.s.rows.set i ⟨true, b.length, idKey x⟩ }, t.whole⟩ y = if y = x then [i] else t.at y := fun y hy => by
    rw [Sto.at_may hy, Sto.at_may hy]
    show upto (t.s.rows.set i ⟨true, b.length, idKey x⟩) (t.s.rows.set i ⟨true, b.length, idKey x⟩).length (idKey y) = _
    rw [upto_put hil hiu hat2]
    by_cases e : y = x
    · subst e; rw [if_pos rfl, if_pos rfl]
    · rw [if_neg e, if_neg (fun h => e (idKey_inj hy hm h))]
  refine ⟨⟨_, _, ht, fun y hy => ?_⟩, fun y hy => ?_, h.keys.set i (fun _ => (un_key hm).2), h.first, ⟨?_, by show 9 ≤ d2.n; rw [hn]; exact h.full.2⟩, hz⟩
  · rw [hat' y hy]
    by_cases e : y = x
    · subst e
      rw [setF_self, if_pos rfl]
      exact .inr ⟨i, b, rfl, rfl, by simp⟩
    · rw [setF_other _ _ e, if_neg e]
      rcases ha y hy with h1 | ⟨j, c, h1, h2, h3⟩
      · exact .inl h1
      · refine .inr ⟨j, c, h1, h2, ?_⟩
        have hj : j ∈ upto t.s.rows t.s.rows.length (idKey y) := by rw [← Sto.at_may hy, h2]; simp
        obtain ⟨_, hju, _⟩ := upto_mem.1 hj
        have : j ≠ i := fun e => by subst e; rw [hiu] at hju; cases hju
        simp only [this, if_false]
        exact h3
  · have : y ≠ x := fun e => by subst e; rw [hm] at hy; cases hy
    rw [setF_other _ _ this]
    exact h.out y hy
  · show (d2.n - 1) / 8 = (t.s.rows.set i ⟨true, b.length, idKey x⟩).length
    rw [List.length_set, hn]; exact h.full.1
theorem KeptR.clear_row (h : KeptR t F) (hm : mayId x = true) (hat : t.at x = [i])
    (ht : ToldR { t.s with d := d2, rows := t.s.rows.set i noRow } (fun j => if j = i then false else u j) v) (ha : Tells t F u v) (hz : d2.Zero ((if t.whole then 2 else 1) :: zeros 63)) (hn : d2.n = t.s.d.n) :
    KeptR ⟨{ t.s with d := d2, rows := t.s.rows.set i noRow }, t.whole⟩ (setF F x none) := by
  have hat2 : upto t.s.rows t.s.rows.length (idKey x) = [i] := by rw [← Sto.at_may hm]; exact hat
  have hat' : ∀ y, mayId y = true → Sto.at ⟨{ t.s with d := d2, rows := t.s.rows.set i noRow }, t.whole⟩ y = if y = x then [] else t.at y := fun y hy => by
    rw [Sto.at_may hy, Sto.at_may hy]
    show upto (t.s.rows.set i noRow) (t.s.rows.set i noRow).length (idKey y) = _
    rw [upto_clear hat2]
    by_cases e : y = x
    · subst e; rw [if_pos rfl, if_pos rfl]
    · rw [if_neg e, if_neg (fun h => e (idKey_inj hy hm h))]
  refine ⟨⟨_, _, ht, fun y hy => ?_⟩, fun y hy => ?_, h.keys.set i (fun h => by simp [noRow] at h), h.first, ⟨?_, by show 9 ≤ d2.n; rw [hn]; exact h.full.2⟩, hz⟩
  · rw [hat' y hy]
    by_cases e : y = x
    · subst e
      rw [setF_self, if_pos rfl]
      exact .inl ⟨rfl, rfl⟩
    · rw [setF_other _ _ e, if_neg e]
      exact ha y hy
  · have : y ≠ x := fun e => by subst e; rw [hm] at hy; cases hy
    rw [setF_other _ _ this]
    exact h.out y hy
  · show (d2.n - 1) / 8 = (t.s.rows.set i noRow).length
    rw [List.length_set, hn]; exact h.full.1
end
theorem SS.eta3 (s z : SS) (rows : List SRow) (h1 : z.first = s.first) (h2 : z.rows = rows) : z = { s with d := z.d, rows := rows } := by
  obtain ⟨d, f, r⟩ := z
  dsimp only at h1 h2
  subst h1; subst h2
  rfl
/-- Put, where there is none and there is room: it is done, or the disk dies. -/
theorem KeptR.put_may {t : Sto} {F : Frag} (h : KeptR t F) {x : Id} (hm : mayId x = true) (hF : F x = none) {b : List UInt8} (hb : b.length ≤ 448) (hr : 0 < t.room) :
    ((t.put x b).1 = 0 ∧ KeptR (t.put x b).2 (setF F x (some b)) ∧ (t.put x b).2.room + 1 = t.room ∧ (t.put x b).2.whole = t.whole) ∨
    ((t.put x b).1 = 14 ∧ (t.put x b).2.s.d.dead = true ∧ ∀ ch, Reopens ((t.put x b).2.s.d.crash ch) t.whole F ∨ Reopens ((t.put x b).2.s.d.crash ch) t.whole (setF F x (some b))) := by
  have hfree : ¬ t.s.free < 0 := by
    intro hf
    unfold SS.free at hf
    rcases rowFree_spec t.s.rows 0 with ⟨_, h2⟩ | ⟨n, h1, h2, h3, _⟩
    · unfold Sto.room at hr
      obtain ⟨r, hr1, hr2⟩ := List.countP_pos_iff.1 hr
      rw [h2 r hr1] at hr2; simp at hr2
    · rw [h2] at hf; omega
  obtain ⟨i, hfi, hil, hiu⟩ := SS.free_ok hfree
  have hat := h.at_none hF
  obtain ⟨u, v, htold, hall⟩ := h.told
  have hui : u i = false := by rw [← htold.used i hil]; exact hiu
  have hput : t.put x b = ((t.s.put (i : Int) (idKey x) b).1, { t with s := (t.s.put (i : Int) (idKey x) b).2 }) := by
    unfold Sto.put
    rw [if_neg (by simp [hm]), if_neg (by omega), hat]
    dsimp only
    rw [if_neg hfree, hfi]
  have hz := h.zero.put (by rw [h.first]; simp) (i : Int) (idKey x) b
  rw [hput]
  dsimp only
  rcases htold.put2 i hil (idKey x) b hui (by rw [idKey_len]; omega) hb with ⟨p1, p2, p3, p4, p5⟩ | ⟨p1, p2, p3, p4, p5, p6⟩
  · left
    obtain ⟨_, _, hrows⟩ := SS.put_done p1
    have hrows' : (t.s.put (i : Int) (idKey x) b).2.rows = t.s.rows.set i ⟨true, b.length, idKey x⟩ := by rw [hrows]; simp
    have e := SS.eta3 t.s _ _ p4 hrows'
    refine ⟨p1, ?_, ?_, rfl⟩
    · rw [e] at p2
      show KeptR ⟨(t.s.put (i : Int) (idKey x) b).2, t.whole⟩ _
      rw [e]
      exact h.put_row hm hF hil hiu p2 hall hz p5
    · show (t.s.put (i : Int) (idKey x) b).2.rows.countP (fun r => !r.used) + 1 = t.s.rows.countP (fun r => !r.used)
      rw [hrows']
      have := countP_put ⟨true, b.length, idKey x⟩ hil (fun r => !r.used)
      simp only [hiu, Bool.not_false, if_true, Bool.not_true, Bool.false_eq_true, if_false, Nat.add_zero] at this
      exact this
  · right
    refine ⟨p1, p4, fun ch => ?_⟩
    have hzc := hz.crash ch
    have hnc : ((t.s.put (i : Int) (idKey x) b).2.d.crash ch).n = t.s.d.n := p5
    rcases p6 ch with h6 | h6
    · exact .inl (reopens_of (h.same_row h6 hall hzc hnc))
    · exact .inr (reopens_of (h.put_row hm hF hil hiu h6 hall hzc hnc))
/-- Delete: it is done, or the disk dies. -/
theorem KeptR.del_may {t : Sto} {F : Frag} (h : KeptR t F) {x : Id} (hm : mayId x = true) :
    ((t.del x).1 = 0 ∧ KeptR (t.del x).2 (setF F x none) ∧ (t.del x).2.room = t.room + (if (F x).isSome then 1 else 0) ∧ (F x = none → (t.del x).2 = t) ∧ (t.del x).2.whole = t.whole) ∨
    ((t.del x).1 = 14 ∧ (t.del x).2.s.d.dead = true ∧ (F x).isSome = true ∧ ∀ ch, Reopens ((t.del x).2.s.d.crash ch) t.whole F ∨ Reopens ((t.del x).2.s.d.crash ch) t.whole (setF F x none)) := by
  obtain ⟨u, v, htold, hall⟩ := h.told
  unfold Sto.del
  rw [if_neg (by simp [hm])]
  rcases hall x hm with ⟨h1, h2⟩ | ⟨i, b, h1, h2, h3⟩
  · left
    rw [h2, h1]
    have e : setF F x none = F := by
      funext y
      unfold setF
      split
      · rename_i e; rw [e, h1]
      · rfl
    rw [e]
    exact ⟨rfl, h, rfl, fun _ => rfl, rfl⟩
  · have hi : i ∈ upto t.s.rows t.s.rows.length (idKey x) := by rw [← Sto.at_may hm, h2]; simp
    obtain ⟨hil, hiu, hik⟩ := upto_mem.1 hi
    have hui : u i = true := by rw [← htold.used i hil]; exact hiu
    have hz := h.zero.clear (by rw [h.first]; simp) (i : Int)
    have e2 : (fun j => if j = i then v i else v j) = v := by funext j; split <;> simp_all
    rcases htold.clear2 i hil hui with ⟨p1, p2, p3, p4, p5⟩ | ⟨p1, p2, p3, p4, p5, p6⟩
    · left
      have hcl : t.s.clears [i] = (0, (t.s.clear (i : Int)).2) := by
        unfold SS.clears
        rw [if_neg (by rw [p1]; simp)]
        rfl
      rw [h2, hcl, h1]
      obtain ⟨_, _, hrows⟩ := SS.clear_done p1
      have hrows' : (t.s.clear (i : Int)).2.rows = t.s.rows.set i noRow := by rw [hrows]; simp
      have e := SS.eta3 t.s _ _ p4 hrows'
      refine ⟨rfl, ?_, ?_, (fun h => by cases h), rfl⟩
      · rw [e] at p2
        show KeptR ⟨(t.s.clear (i : Int)).2, t.whole⟩ _
        rw [e]
        exact h.clear_row hm h2 p2 hall hz p5
      · show (t.s.clear (i : Int)).2.rows.countP (fun r => !r.used) = t.s.rows.countP (fun r => !r.used) + _
        rw [hrows']
        have := countP_put noRow hil (fun r => !r.used)
        rw [hiu] at this
        simpa [noRow] using this
    · right
      have hcl : t.s.clears [i] = (14, (t.s.clear (i : Int)).2) := by
        unfold SS.clears
        rw [if_pos (by rw [p1]; simp)]
        rw [← p1]
      rw [h2, hcl, h1]
      refine ⟨rfl, p4, rfl, fun ch => ?_⟩
      have hzc := hz.crash ch
      have hnc : ((t.s.clear (i : Int)).2.d.crash ch).n = t.s.d.n := p5
      rcases p6 ch with h6 | h6
      · exact .inl (reopens_of (h.same_row h6 hall hzc hnc))
      · rw [e2] at h6
        exact .inr (reopens_of (h.clear_row hm h2 h6 hall hzc hnc))
/-- At rest, a crash loses nothing. -/
theorem KeptR.crash {t : Sto} {F : Frag} (h : KeptR t F) (ch : List UInt8) : Reopens (t.s.d.crash ch) t.whole F := by
  obtain ⟨u, v, htold, hall⟩ := h.told
  exact reopens_of (h.same_row (htold.crash ch) hall (h.zero.crash ch) rfl)
theorem KeptR.fuse {t : Sto} {F : Frag} (h : KeptR t F) (n : Int) : KeptR ⟨{ t.s with d := t.s.d.setFuse n }, t.whole⟩ F := by
  obtain ⟨u, v, htold, hall⟩ := h.told
  exact h.same_row (htold.fuse n) hall ⟨h.zero.now, h.zero.lasts, h.zero.since⟩ rfl
end Go.Proofs.YtbkajnjboipbhaaGreatDoor.W

/- The law's awake. -/
namespace Go.Proofs.YtbkajnjboipbhaaGreatDoor.W
open Go.RowKit
set_option linter.unusedVariables false
set_option linter.unusedSimpArgs false

structure Wake where
  t0 : Sto
  t1 : Sto
  d : DS
  fmt : (DS.new 25).format = ((0, some t0), d)
  small : t0.s.d.ops ≤ 25 ∧ t0.s.d.since.length = 0
  put : (t0.put ⟨1, 0, 5, 2⟩ [9]).1 = 0
  t1_eq : t1 = (t0.put ⟨1, 0, 5, 2⟩ [9]).2
  get : t1.get ⟨1, 0, 5, 2⟩ = ([9], 0)
  ids : t1.ids = [⟨1, 0, 5, 2⟩]
  room : t1.room = 2
theorem wake_is : Nonempty Wake := by
  obtain ⟨t, d, h1, h2, h3, h4, h5, h6, _⟩ := Kept.new 25 (by omega)
  have hm : mayId ⟨1, 0, 5, 2⟩ = true := by decide
  have hr : t.room = 3 := by unfold Sto.room; rw [h4]; rfl
  obtain ⟨p1, p2, p3⟩ := h2.put_new hm rfl (b := [9]) (by simp) (by omega)
  refine ⟨⟨t, _, d, h1, ⟨by rw [h3]; exact h6, by rw [h2.since]; rfl⟩, p1, rfl, ?_, ?_, by omega⟩⟩
  · rw [p2.get, if_neg (by rw [hm]; simp), setF_self]
  · refine ids_one p2.keys (fun y => ?_)
    rw [p2.mem_ids]
    by_cases e : y = ⟨1, 0, 5, 2⟩
    · rw [e, setF_self]; simp
    · rw [setF_other _ _ e]; simp [e]
theorem okD_c : okD ⟨1, 0, 5, 2⟩ := by decide

set_option maxHeartbeats 8000000 in
set_option maxRecDepth 100000 in
theorem awake6_any (w : World) : Calls Tryz.prog 11 #[] w fun e w' => e = .returned (.bool true) ∧ Chg [] w w' := by
  obtain ⟨⟨t0, t1, d, hf, hsm, hp, ht1, hg, hi, hrm⟩⟩ := wake_is
  have CN := Lib.hid (own_disk 25 w (by omega) (by omega))
  have HI := Lib.hid hi
  clear hi
  go_enter Tryz.func11, Tryz.ntmps11
  go_wp2_with fail
  refine CN.out.mono ?_
  rintro e w1 ⟨p, S, rfl, hd1, hS1, hc1⟩
  have CF := Lib.hid (own_format (w0 := w) hd1 hS1 hc1 hf)
  clear hd1 hS1 hc1 CN hf
  go_wp2_with fail
  refine CF.out.mono ?_
  rintro e w2 ⟨q, rfl, ho2⟩
  have CI := Lib.hid (lawid_any 1 0 5 2 w2)
  have HO2 := Lib.hid ho2
  clear ho2 CF
  go_wp2_with fail
  refine CI.out.mono ?_
  rintro e w3 ⟨rfl, hc3⟩
  have hcA : Chg [] w3 (w3.alloc (.cells #[bv 9] 5)) := (Chg.refl _ _).alloc _
  have HO3 := Lib.hid ((HO2.out.keep0 hc3).add hcA (Y := [w3.heap.size]) (fun k hk => .inr (by
    rw [List.mem_singleton.1 hk]
    exact ⟨Nat.le_refl _, by simp⟩)))
  have CP := Lib.hid (own_put HO3.out ⟨1, 0, 5, 2⟩ okD_c _ [9] (one_byte6 w3 9) (fun _ k hk => .inr (by
    obtain rfl : w3.heap.size = k := by simpa [Value.ownBlock] using hk
    simp)) (by simp) (by omega) (by omega))
  rw [hp, ← ht1, show bv 9 = .int .u8 9 from rfl] at CP
  clear hc3 hcA CI HO2
  go_wp2_with fail
  refine CP.out.mono ?_
  rintro e w4 ⟨rfl, ho4, _⟩
  have CI := Lib.hid (lawid_any 1 0 5 2 w4)
  have HO4 := Lib.hid ho4
  clear ho4 CP
  go_wp2_with fail
  refine CI.out.mono ?_
  rintro e w5 ⟨rfl, hc5⟩
  have CG := Lib.hid (own_get (HO4.out.keep0 hc5) ⟨1, 0, 5, 2⟩ okD_c)
  rw [hg] at CG
  clear hc5 CI
  go_wp2_with fail
  refine CG.out.mono ?_
  rintro e w6 ⟨⟨v6, rfl, hb6, _⟩, ho6, _, _⟩
  have CL := Lib.hid (own_list ho6)
  have HB6 := Lib.hid hb6
  obtain ⟨a6, c6, rfl⟩ := hb6.slice
  rw [HI.out] at CL
  clear hb6 ho6 CG
  go_wp2_with fail
  refine CL.out.mono ?_
  rintro e w7 ⟨⟨v7, rfl, hr7⟩, ho7, _, hc7⟩
  have hform : ∃ g cap, v7 = .slice (some ⟨g, 0, none⟩) 1 cap := by
    rcases hr7.2 with ⟨h1, h2⟩ | ⟨g, cap, cur, h1, _⟩
    · simp at h2
    · exact ⟨g, cap, h1⟩
  obtain ⟨g, cap, rfl⟩ := hform
  obtain ⟨m0, m1, m2, m3⟩ := id_row (l := [⟨1, 0, 5, 2⟩]) hr7 0 (by simp) ⟨1, 0, 5, 2⟩ rfl
  have hcap : 1 ≤ cap := by
    rcases hr7.2 with ⟨h1, h2⟩ | ⟨g, cap', cur, h1, _, _, h3, _⟩
    · simp at h2
    · obtain ⟨_, _, rfl⟩ := Value.slice.inj h1
      exact h3
  have HB7 := Lib.hid (HB6.out.chg hc7 (by simp))
  have HO7 := Lib.hid ho7
  have heq : ∀ w, (binOp .eql 25 (.agg #[.int .i64 1, .int .i64 0, .int .i64 5, .int .i64 2]) (.agg #[.int .i64 1, .int .i64 0, .int .i64 5, .int .i64 2])).run Tryz.prog w = .ok (.bool true) w := fun w => by
    have := eq_id ⟨1, 0, 5, 2⟩ ⟨1, 0, 5, 2⟩ okD_c okD_c w
    simpa using this
  simp only [Nat.zero_mul] at m0 m1 m2 m3
  clear hr7 ho7 hc7 CL HB6
  go_wp2_with fail
  refine wp_region_L [(17, fun w' => (w'.cell? ⟨g, 0, none⟩ = some (.int .i64 1) ∧ w'.cell? ⟨g, 1, none⟩ = some (.int .i64 0) ∧ w'.cell? ⟨g, 2, none⟩ = some (.int .i64 5) ∧ w'.cell? ⟨g, 3, none⟩ = some (.int .i64 2)))] (by kernel_rfl) ?_ (fun hHeld => ?_)
  · exact (HoldC.cons (⟨m0, m1, m2, m3⟩) HoldC.nil)
  refine wpAnyL_take (i := 0) (oi := _) (v := ?_) rfl (by kernel_rfl) (by kernel_rfl) (by kernel_rfl) (by kernel_rfl) (by kernel_rfl) (fun _ _ _ h => h) (Or.inl ⟨by rfl, ?_⟩) (by assumption) (fun hNew => ?_)
  rotate_left
  · intro w _
    go_simp
    try with_reducible rfl
  clear hHeld
  have hHeld := hNew
  clear hNew
  try simp only [List.getElem_toArray, List.getElem_cons_succ, List.getElem_cons_zero, Act.put, List.setIfInBounds_toArray, List.set_cons_zero, List.set_cons_succ]
  refine wpAnyL_take (i := 1) (oi := _) (v := ?_) rfl (by kernel_rfl) (by kernel_rfl) (by kernel_rfl) (by kernel_rfl) (by kernel_rfl) (fun _ _ _ h => h) (Or.inl ⟨by rfl, ?_⟩) (by assumption) (fun hNew => ?_)
  rotate_left
  · intro w _
    go_simp
    try with_reducible rfl
  clear hHeld
  have hHeld := hNew
  clear hNew
  try simp only [List.getElem_toArray, List.getElem_cons_succ, List.getElem_cons_zero, Act.put, List.setIfInBounds_toArray, List.set_cons_zero, List.set_cons_succ]
  refine wpAnyL_take (i := 2) (oi := _) (v := ?_) rfl (by kernel_rfl) (by kernel_rfl) (by kernel_rfl) (by kernel_rfl) (by kernel_rfl) (fun _ _ _ h => h) (Or.inl ⟨by rfl, ?_⟩) (by assumption) (fun hNew => ?_)
  rotate_left
  · intro w _
    go_simp
    try with_reducible rfl
  clear hHeld
  have hHeld := hNew
  clear hNew
  try simp only [List.getElem_toArray, List.getElem_cons_succ, List.getElem_cons_zero, Act.put, List.setIfInBounds_toArray, List.set_cons_zero, List.set_cons_succ]
  refine wpAnyL_take (i := 3) (oi := _) (v := ?_) rfl (by kernel_rfl) (by kernel_rfl) (by kernel_rfl) (by kernel_rfl) (by kernel_rfl) (fun _ _ _ h => h) (Or.inl ⟨by rfl, ?_⟩) (by assumption) (fun hNew => ?_)
  rotate_left
  · intro w _
    go_simp
    try with_reducible rfl
  clear hHeld
  have hHeld := hNew
  clear hNew
  try simp only [List.getElem_toArray, List.getElem_cons_succ, List.getElem_cons_zero, Act.put, List.setIfInBounds_toArray, List.set_cons_zero, List.set_cons_succ]
  refine wpAnyL_ready (rs := [4]) (by kernel_rfl) (by simp) ?_
  refine AllReadyL.cons (o := _) rfl (fun K hK => ?_) AllReadyL.nil
  try simp only [List.getElem_toArray, List.getElem_cons_succ, List.getElem_cons_zero]
  go_simp
  have hcW : Chg [] w7 (w7.alloc (.cells #[bv 9] 5)).drew := ((Chg.refl _ _).alloc _).drew
  have hbW : BytesAt (w7.alloc (.cells #[bv 9] 5)).drew (.slice (some ⟨w7.heap.size, 0, none⟩) 1 1) [9] := (one_byte6 w7 9).chg (Chg.drew (Chg.refl [] _)) (by simp)
  rw [show bv 9 = .int .u8 9 from rfl] at hcW hbW
  generalize (w7.alloc (.cells #[.int .u8 9] 5)).drew = W at *
  have CS := Lib.hid (same_any _ _ [9] [9] W (HB7.out.chg hcW (by simp)) hbW (by simp) (by simp))
  rw [decide_eq_true rfl] at CS
  have HOW := Lib.hid (HO7.out.keep0 hcW)
  have n0 := hcW.cell m0 (by simp)
  have n1 := hcW.cell m1 (by simp)
  have n2 := hcW.cell m2 (by simp)
  have n3 := hcW.cell m3 (by simp)
  clear hcW hbW
  clear hHeld
  refine hK.out _ _ ?_ (fun hHeld => ?_)
  · exact (HoldC.cons (⟨n0, n1, n2, n3⟩) HoldC.nil)
  clear hK K
  try simp only [List.getElem_toArray, List.getElem_cons_succ, List.getElem_cons_zero, Act.put, List.setIfInBounds_toArray, List.set_cons_zero, List.set_cons_succ]
  refine wpAnyL_ready (rs := [5]) (by kernel_rfl) (by simp) ?_
  refine AllReadyL.cons (o := _) rfl (fun K hK => ?_) AllReadyL.nil
  try simp only [List.getElem_toArray, List.getElem_cons_succ, List.getElem_cons_zero]
  go_simp
  refine CS.out.mono ?_
  rintro e w8 ⟨rfl, n, rfl⟩
  have CI := Lib.hid (lawid_any 1 0 5 2 (W.drewN n))
  have HO8 := Lib.hid (HOW.out.keep0 ((Chg.refl [] W).drewN n))
  have n0 : (W.drewN n).cell? ⟨g, 0, none⟩ = some (.int .i64 1) := n0
  have n1 : (W.drewN n).cell? ⟨g, 1, none⟩ = some (.int .i64 0) := n1
  have n2 : (W.drewN n).cell? ⟨g, 2, none⟩ = some (.int .i64 5) := n2
  have n3 : (W.drewN n).cell? ⟨g, 3, none⟩ = some (.int .i64 2) := n3
  clear hHeld
  refine hK.out _ _ ?_ (fun hHeld => ?_)
  · exact (HoldC.cons (⟨n0, n1, n2, n3⟩) HoldC.nil)
  clear hK K
  try simp only [List.getElem_toArray, List.getElem_cons_succ, List.getElem_cons_zero, Act.put, List.setIfInBounds_toArray, List.set_cons_zero, List.set_cons_succ]
  refine wpAnyL_take (i := 6) (oi := _) (v := ?_) rfl (by kernel_rfl) (by kernel_rfl) (by kernel_rfl) (by kernel_rfl) (by kernel_rfl) (fun _ _ _ h => h) (Or.inl ⟨by rfl, ?_⟩) (by assumption) (fun hNew => ?_)
  rotate_left
  · intro w _
    go_simp
    try with_reducible rfl
  clear hHeld
  have hHeld := hNew
  clear hNew
  try simp only [List.getElem_toArray, List.getElem_cons_succ, List.getElem_cons_zero, Act.put, List.setIfInBounds_toArray, List.set_cons_zero, List.set_cons_succ]
  refine wpAnyL_take (i := 7) (oi := _) (v := ?_) rfl (by kernel_rfl) (by kernel_rfl) (by kernel_rfl) (by kernel_rfl) (by kernel_rfl) (fun _ _ _ h => h) (Or.inl ⟨by rfl, ?_⟩) (by assumption) (fun hNew => ?_)
  rotate_left
  · intro w _
    go_simp
    try with_reducible rfl
  clear hHeld
  have hHeld := hNew
  clear hNew
  try simp only [List.getElem_toArray, List.getElem_cons_succ, List.getElem_cons_zero, Act.put, List.setIfInBounds_toArray, List.set_cons_zero, List.set_cons_succ]
  refine wpAnyL_take (i := 8) (oi := _) (v := ?_) rfl (by kernel_rfl) (by kernel_rfl) (by kernel_rfl) (by kernel_rfl) (by kernel_rfl) (fun _ _ _ h => h) (Or.inl ⟨by rfl, ?_⟩) (by assumption) (fun hNew => ?_)
  rotate_left
  · intro w _
    go_simp
    try with_reducible rfl
  clear hHeld
  have hHeld := hNew
  clear hNew
  try simp only [List.getElem_toArray, List.getElem_cons_succ, List.getElem_cons_zero, Act.put, List.setIfInBounds_toArray, List.set_cons_zero, List.set_cons_succ]
  refine wpAnyL_take (i := 9) (oi := _) (v := ?_) rfl (by kernel_rfl) (by kernel_rfl) (by kernel_rfl) (by kernel_rfl) (by kernel_rfl) (fun _ _ _ h => h) (Or.inl ⟨by rfl, ?_⟩) (by assumption) (fun hNew => ?_)
  rotate_left
  · intro w _
    go_simp
    try with_reducible rfl
  clear hHeld
  have hHeld := hNew
  clear hNew
  try simp only [List.getElem_toArray, List.getElem_cons_succ, List.getElem_cons_zero, Act.put, List.setIfInBounds_toArray, List.set_cons_zero, List.set_cons_succ]
  refine wpAnyL_take (i := 10) (oi := _) (v := ?_) rfl (by kernel_rfl) (by kernel_rfl) (by kernel_rfl) (by kernel_rfl) (by kernel_rfl) (fun _ _ _ h => h) (Or.inl ⟨by rfl, ?_⟩) (by assumption) (fun hNew => ?_)
  rotate_left
  · intro w _
    go_simp
    try with_reducible rfl
  clear hHeld
  have hHeld := hNew
  clear hNew
  try simp only [List.getElem_toArray, List.getElem_cons_succ, List.getElem_cons_zero, Act.put, List.setIfInBounds_toArray, List.set_cons_zero, List.set_cons_succ]
  refine wpAnyL_take (i := 11) (oi := _) (v := ?_) rfl (by kernel_rfl) (by kernel_rfl) (by kernel_rfl) (by kernel_rfl) (by kernel_rfl) (fun _ _ _ h => h) (Or.inl ⟨by rfl, ?_⟩) (by assumption) (fun hNew => ?_)
  rotate_left
  · intro w _
    go_simp
    try with_reducible rfl
  clear hHeld
  have hHeld := hNew
  clear hNew
  try simp only [List.getElem_toArray, List.getElem_cons_succ, List.getElem_cons_zero, Act.put, List.setIfInBounds_toArray, List.set_cons_zero, List.set_cons_succ]
  refine wpAnyL_take (i := 12) (oi := _) (v := ?_) rfl (by kernel_rfl) (by kernel_rfl) (by kernel_rfl) (by kernel_rfl) (by kernel_rfl) (fun _ _ _ h => h) (Or.inl ⟨by rfl, ?_⟩) (by assumption) (fun hNew => ?_)
  rotate_left
  · intro w _
    go_simp
    try with_reducible rfl
  clear hHeld
  have hHeld := hNew
  clear hNew
  try simp only [List.getElem_toArray, List.getElem_cons_succ, List.getElem_cons_zero, Act.put, List.setIfInBounds_toArray, List.set_cons_zero, List.set_cons_succ]
  refine wpAnyL_take (i := 13) (oi := _) (v := ?_) rfl (by kernel_rfl) (by kernel_rfl) (by kernel_rfl) (by kernel_rfl) (by kernel_rfl) (fun _ _ _ h => h) (Or.inl ⟨by rfl, ?_⟩) (by assumption) (fun hNew => ?_)
  rotate_left
  · intro w _
    go_simp
    try with_reducible rfl
  clear hHeld
  have hHeld := hNew
  clear hNew
  try simp only [List.getElem_toArray, List.getElem_cons_succ, List.getElem_cons_zero, Act.put, List.setIfInBounds_toArray, List.set_cons_zero, List.set_cons_succ]
  refine wpAnyL_take (i := 14) (oi := _) (v := ?_) rfl (by kernel_rfl) (by kernel_rfl) (by kernel_rfl) (by kernel_rfl) (by kernel_rfl) (fun _ _ _ h => h) (Or.inl ⟨by rfl, ?_⟩) (by assumption) (fun hNew => ?_)
  rotate_left
  · intro w _
    go_simp
    try with_reducible rfl
  clear hHeld
  have hHeld := hNew
  clear hNew
  try simp only [List.getElem_toArray, List.getElem_cons_succ, List.getElem_cons_zero, Act.put, List.setIfInBounds_toArray, List.set_cons_zero, List.set_cons_succ]
  refine wpAnyL_load 0 (i := 15) (oi := _) (v := ?_) rfl rfl (by kernel_rfl) (by kernel_rfl) (by kernel_rfl) (by kernel_rfl) (by kernel_rfl) (by kernel_rfl) (fun _ _ _ h => h) (Or.inl ⟨by rfl, ?_⟩) (by assumption) (fun hNew => ?_)
  rotate_left
  · intro w hSw
    (try dsimp only at hSw)
    go_simp
    try with_reducible rfl
  clear hHeld
  have hHeld := hNew
  clear hNew
  try simp only [List.getElem_toArray, List.getElem_cons_succ, List.getElem_cons_zero, Act.put, List.setIfInBounds_toArray, List.set_cons_zero, List.set_cons_succ]
  refine wpAnyL_ready (rs := [16]) (by kernel_rfl) (by simp) ?_
  refine AllReadyL.cons (o := _) rfl (fun K hK => ?_) AllReadyL.nil
  try simp only [List.getElem_toArray, List.getElem_cons_succ, List.getElem_cons_zero]
  go_simp
  refine CI.out.mono ?_
  rintro e w9 ⟨rfl, hc9⟩
  have HO9 := Lib.hid (HO8.out.keep0 hc9)
  have CR := Lib.hid (own_room HO9.out)
  rw [hrm] at CR
  have n0 := hc9.cell n0 (by simp)
  have n1 := hc9.cell n1 (by simp)
  have n2 := hc9.cell n2 (by simp)
  have n3 := hc9.cell n3 (by simp)
  clear hc9
  clear hHeld
  refine hK.out _ _ ?_ (fun hHeld => ?_)
  · exact (HoldC.cons (⟨n0, n1, n2, n3⟩) HoldC.nil)
  clear hK K
  try simp only [List.getElem_toArray, List.getElem_cons_succ, List.getElem_cons_zero, Act.put, List.setIfInBounds_toArray, List.set_cons_zero, List.set_cons_succ]
  refine wpAnyL_ready (rs := [17]) (by kernel_rfl) (by simp) ?_
  refine AllReadyL.cons (o := _) rfl (fun K hK => ?_) AllReadyL.nil
  try simp only [List.getElem_toArray, List.getElem_cons_succ, List.getElem_cons_zero]
  go_simp
  clear hHeld
  refine hK.out _ _ ?_ (fun hHeld => ?_)
  · exact (HoldC.past (by kernel_rfl) HoldC.nil)
  clear hK K
  try simp only [List.getElem_toArray, List.getElem_cons_succ, List.getElem_cons_zero, Act.put, List.setIfInBounds_toArray, List.set_cons_zero, List.set_cons_succ]
  refine wpAnyL_take (i := 18) (oi := _) (v := ?_) rfl (by kernel_rfl) (by kernel_rfl) (by kernel_rfl) (by kernel_rfl) (by kernel_rfl) (fun _ _ _ h => h) (Or.inl ⟨by rfl, ?_⟩) (by assumption) (fun hNew => ?_)
  rotate_left
  · intro w _
    go_simp
    try with_reducible rfl
  clear hHeld
  have hHeld := hNew
  clear hNew
  try simp only [List.getElem_toArray, List.getElem_cons_succ, List.getElem_cons_zero, Act.put, List.setIfInBounds_toArray, List.set_cons_zero, List.set_cons_succ]
  refine wpAnyL_take (i := 19) (oi := _) (v := ?_) rfl (by kernel_rfl) (by kernel_rfl) (by kernel_rfl) (by kernel_rfl) (by kernel_rfl) (fun _ _ _ h => h) (Or.inl ⟨by rfl, ?_⟩) (by assumption) (fun hNew => ?_)
  rotate_left
  · intro w _
    go_simp
    try with_reducible rfl
  clear hHeld
  have hHeld := hNew
  clear hNew
  try simp only [List.getElem_toArray, List.getElem_cons_succ, List.getElem_cons_zero, Act.put, List.setIfInBounds_toArray, List.set_cons_zero, List.set_cons_succ]
  refine wpAnyL_take (i := 20) (oi := _) (v := ?_) rfl (by kernel_rfl) (by kernel_rfl) (by kernel_rfl) (by kernel_rfl) (by kernel_rfl) (fun _ _ _ h => h) (Or.inl ⟨by rfl, ?_⟩) (by assumption) (fun hNew => ?_)
  rotate_left
  · intro w _
    go_simp
    try with_reducible rfl
  clear hHeld
  have hHeld := hNew
  clear hNew
  try simp only [List.getElem_toArray, List.getElem_cons_succ, List.getElem_cons_zero, Act.put, List.setIfInBounds_toArray, List.set_cons_zero, List.set_cons_succ]
  refine wpAnyL_ready (rs := [21]) (by kernel_rfl) (by simp) ?_
  refine AllReadyL.cons (o := _) rfl (fun K hK => ?_) AllReadyL.nil
  try simp only [List.getElem_toArray, List.getElem_cons_succ, List.getElem_cons_zero]
  go_simp
  refine CR.out.mono ?_
  rintro e w10 ⟨rfl, hq⟩
  subst hq
  clear hHeld
  refine hK.out _ _ ?_ (fun hHeld => ?_)
  · exact (HoldC.past (by kernel_rfl) HoldC.nil)
  clear hK K
  try simp only [List.getElem_toArray, List.getElem_cons_succ, List.getElem_cons_zero, Act.put, List.setIfInBounds_toArray, List.set_cons_zero, List.set_cons_succ]
  refine wpAnyL_take (i := 22) (oi := _) (v := ?_) rfl (by kernel_rfl) (by kernel_rfl) (by kernel_rfl) (by kernel_rfl) (by kernel_rfl) (fun _ _ _ h => h) (Or.inl ⟨by rfl, ?_⟩) (by assumption) (fun hNew => ?_)
  rotate_left
  · intro w _
    go_simp
    try with_reducible rfl
  clear hHeld
  have hHeld := hNew
  clear hNew
  try simp only [List.getElem_toArray, List.getElem_cons_succ, List.getElem_cons_zero, Act.put, List.setIfInBounds_toArray, List.set_cons_zero, List.set_cons_succ]
  refine wpAnyL_take (i := 23) (oi := _) (v := ?_) rfl (by kernel_rfl) (by kernel_rfl) (by kernel_rfl) (by kernel_rfl) (by kernel_rfl) (fun _ _ _ h => h) (Or.inl ⟨by rfl, ?_⟩) (by assumption) (fun hNew => ?_)
  rotate_left
  · intro w _
    go_simp
    try with_reducible rfl
  clear hHeld
  have hHeld := hNew
  clear hNew
  try simp only [List.getElem_toArray, List.getElem_cons_succ, List.getElem_cons_zero, Act.put, List.setIfInBounds_toArray, List.set_cons_zero, List.set_cons_succ]
  refine wpAnyL_ready (rs := [24]) (by kernel_rfl) (by simp) ?_
  refine AllReadyL.cons (o := _) rfl (fun K hK => ?_) AllReadyL.nil
  try simp only [List.getElem_toArray, List.getElem_cons_succ, List.getElem_cons_zero]
  go_simp
  clear hHeld
  refine hK.out _ _ ?_ (fun hHeld => ?_)
  · exact (HoldC.past (by kernel_rfl) HoldC.nil)
  clear hK K
  try simp only [List.getElem_toArray, List.getElem_cons_succ, List.getElem_cons_zero, Act.put, List.setIfInBounds_toArray, List.set_cons_zero, List.set_cons_succ]
  refine wpAnyL_done (by kernel_rfl) ?_ _
  clear hHeld
  go_wp2_with fail
  go_ret
  exact ⟨rfl, HO9.out.chg⟩
end Go.Proofs.YtbkajnjboipbhaaGreatDoor.W

/- Ids that came in: as an argument, in a slice. -/
namespace Go.Proofs.YtbkajnjboipbhaaGreatDoor.W
open Go.RowKit Go.ChangeShapes Go.WideShapes
set_option linter.unusedVariables false
set_option linter.unusedSimpArgs false

theorem fieldsI : ∃ f0 f1 : Field, Tryz.prog.underlying 25 = some (.struct #[f0, f1]) ∧ f0.offset = 0 ∧ f1.offset = 3 ∧ f0.type = 23 ∧ Tryz.prog.underlying f1.type = some (.int .i64) ∧ Tryz.prog.cellsOf f1.type = 1 :=
  ⟨_, _, Tryz.underlying25, rfl, rfl, rfl, by kernel_rfl, by kernel_rfl⟩
theorem fieldsT : ∃ f0 f1 f2 : Field, Tryz.prog.underlying 23 = some (.struct #[f0, f1, f2]) ∧ f0.offset = 0 ∧ f1.offset = 1 ∧ f2.offset = 2 ∧ Tryz.prog.underlying f0.type = some (.int .i64) ∧ Tryz.prog.underlying f1.type = some (.int .i64) ∧ Tryz.prog.underlying f2.type = some (.int .i64) ∧
    Tryz.prog.cellsOf f0.type = 1 ∧ Tryz.prog.cellsOf f1.type = 1 ∧ Tryz.prog.cellsOf f2.type = 1 :=
  ⟨_, _, _, Tryz.underlying23, rfl, rfl, rfl, by kernel_rfl, by kernel_rfl, by kernel_rfl, by kernel_rfl, by kernel_rfl, by kernel_rfl⟩
section
variable {H : Type} {enc : TypeId × Value → H} {w : World} {base : Nat} {held : Bool} {spare : Nat → Bool}
theorem open_idc {fuel : Nat} {v0 v1 v2 v3 : Value} {x : DataW H × List MemPlace} (h : DataW.trod enc Tryz.prog w base spare held fuel 25 [v0, v1, v2, v3] = some x) : ∃ y : Id, okD y ∧ v0 = .int .i64 y.c ∧ v1 = .int .i64 y.l ∧ v2 = .int .i64 y.n ∧ v3 = .int .i64 y.i := by
  obtain ⟨f0, f1, hs, o0, o1, t0, t1, c1⟩ := fieldsI
  obtain ⟨g0, g1, g2, hs2, p0, p1, p2, u0, u1, u2, d0, d1, d2⟩ := fieldsT
  obtain ⟨xs, k, hk, hxy, _, hxl, hf⟩ := DataW.trod_struct hs h
  match xs, hxl with
  | [y0, y1], _ =>
    have e0 := hf 0 f0 rfl
    have e1 := hf 1 f1 rfl
    rw [t0] at e0
    simp [o0, o1, c1, cells_stripe] at e0 e1
    obtain ⟨xs2, k2, hk2, hxy2, _, hxl2, hf2⟩ := DataW.trod_struct hs2 e0
    match xs2, hxl2 with
    | [z0, z1, z2], _ =>
      have r0 := hf2 0 g0 rfl
      have r1 := hf2 1 g1 rfl
      have r2 := hf2 2 g2 rfl
      simp [p0, p1, p2, d0, d1, d2] at r0 r1 r2
      obtain ⟨a0, q0, _, w0⟩ := DataW.trod_int u0 r0
      obtain ⟨a1, q1, _, w1⟩ := DataW.trod_int u1 r1
      obtain ⟨a2, q2, _, w2⟩ := DataW.trod_int u2 r2
      obtain ⟨a3, q3, _, w3⟩ := DataW.trod_int t1 e1
      simp at q0 q1 q2 q3
      refine ⟨⟨a0, a1, a2, a3⟩, ⟨?_, ?_, ?_, ?_⟩, q0, q1, q2, q3⟩
      · first | exact w0 | exact w0.1
      · first | exact w1 | exact w1.1
      · first | exact w2 | exact w2.1
      · first | exact w3 | exact w3.1

end
end Go.Proofs.YtbkajnjboipbhaaGreatDoor.W

/- The reference's Key, MayId. -/
namespace Go.Proofs.YtbkajnjboipbhaaGreatDoor.W
open Go.RowKit
set_option linter.unusedVariables false
set_option linter.unusedSimpArgs false

structure RPenNew (w0 w : World) (b : Nat) (g : Option Nat) (l : List UInt8) : Prop where
  pen : PenAt 88 w b g l 0
  chg : Chg [] w0 w
  own : w0.heap.size ≤ b
  ownG : ∀ k, g = some k → w0.heap.size ≤ k
theorem RPenNew.num {w0 w : World} {b : Nat} {g : Option Nat} {l : List UInt8} (h : RPenNew w0 w b g l) (x : Int) (n : Nat) (h1 : 1 ≤ n) (h7 : n ≤ 7) (hx0 : 0 ≤ x) (hx : x < ((256 ^ n : Nat) : Int)) (hl : l.length ≤ 1000) :
    Calls Tryz.prog 49 #[.pointer (some ⟨b, 0, none⟩), .int .i64 x, .int .i64 n] w fun e w' => e = .returned (.tuple #[]) ∧ ∃ g', RPenNew w0 w' b g' (l ++ beBytes n x.toNat) := by
  refine (rpnum_any b g l 0 x n w h.pen (by omega) (by omega)).mono ?_
  rintro e w' ⟨rfl, g', k1, k2, k3⟩
  have e1 : penNum l 0 x n = (l ++ beBytes n x.toNat, 0) := by
    unfold penNum penAdd
    rw [if_neg (by simp), if_neg (by omega), if_neg (by simp), if_neg (by rw [beBytes_len]; omega)]
  rw [Int.toNat_natCast, e1] at k1
  refine ⟨rfl, g', k1, h.chg.trans k3 (fun x hx => .inr ?_), h.own, fun k hk => ?_⟩
  · rcases List.mem_cons.1 hx with rfl | hx
    · exact h.own
    · exact h.ownG x (by simpa using hx)
  · rcases k2 with rfl | ⟨k', rfl, h4⟩
    · exact h.ownG k hk
    · obtain rfl : k' = k := by simpa using hk
      exact Nat.le_trans h.chg.size h4
theorem RPenNew.fresh {w0 w : World} (hc : Chg [] w0 w) : RPenNew w0 (w.alloc (.cells #[.slice none 0 0, .int .i64 0] 88)) w.heap.size none [] :=
  ⟨⟨.slice none 0 0, heap_alloc_new w _, BRow.nil _, rfl, by simp, by simp⟩, hc.alloc _, hc.size, fun k hk => by cases hk⟩
end Go.Proofs.YtbkajnjboipbhaaGreatDoor.W

/- Regions that draw their order: a load under a condition that ends far off: the way from it to its end is told. -/
namespace Go.Proofs.YtbkajnjboipbhaaGreatDoor.W
open Go.RowKit
set_option linter.unusedVariables false
set_option linter.unusedSimpArgs false

section
variable {P : Program} {ops : Array Oper} {Q : Exit → Act → World → Prop} {md : Region.Mode} {cs : List (Nat × (World → Prop))}

end
end Go.Proofs.YtbkajnjboipbhaaGreatDoor.W

/- What the store's laws share. -/
namespace Go.Proofs.YtbkajnjboipbhaaGreatDoor.W
end Go.Proofs.YtbkajnjboipbhaaGreatDoor.W

/- Bytes that came in. -/
namespace Go.Proofs.YtbkajnjboipbhaaGreatDoor.W
open Go.RowKit Go.ChangeShapes Go.WideShapes
set_option linter.unusedVariables false
set_option linter.unusedSimpArgs false

/-- Bytes that came in. -/
def Came (w : World) (v : Value) (l : List UInt8) : Prop := BytesAt w v l ∧ (l ≠ [] → ∀ k, v.ownBlock = some k → k < w.heap.size)
theorem Came.chg {w w' : World} {v : Value} {l : List UInt8} (h : Came w v l) (hc : Chg [] w w') : Came w' v l := ⟨h.1.chg hc (by simp), fun hl k hk => Nat.lt_of_lt_of_le (h.2 hl k hk) hc.size⟩
theorem toU8 (z : Int) (h : (Lit.int .u8 z).wf = true) : .int .u8 z = bv (UInt8.ofNat z.toNat) := by
  simp [Lit.wf, IntKind.min, IntKind.max, IntKind.signed, IntKind.bits] at h
  unfold bv
  rw [UInt8.toNat_ofNat']
  congr 1
  omega

section
variable {H : Type} {enc : TypeId × Value → H} {w : World} {base : Nat} {held : Bool}
/-- A slice of bytes that came in. -/
theorem open_came {fuel : Nat} {cs : List Value} {x : DataW H × List MemPlace} (h : DataW.trod enc Tryz.prog w base (fun _ => true) held fuel 27 cs = some x) : ∃ v l, cs = [v] ∧ Came w v l ∧ l.length ≤ maxLen := by
  rcases open_ints Tryz.underlying27 Tryz.underlying5 (by kernel_rfl) h with ⟨rfl, _⟩ | ⟨a, len, cap, zs, rfl, _, hl, hm, hz, _, hcell, hwf⟩
  · exact ⟨_, [], rfl, ⟨BytesAt.nil _, by simp⟩, by unfold maxLen; simp⟩
  · replace hz : zs.length = cap := by simpa using hz
    have hlen : ((zs.take len).map (fun z => UInt8.ofNat z.toNat)).length = len := by rw [List.length_map, List.length_take]; omega
    have hg : ∀ i, i < len → ((zs.take len).map (fun z => UInt8.ofNat z.toNat)).getD i 0 = UInt8.ofNat (zs.getD i 0).toNat := by
      intro i hi
      rw [List.getD_eq_getElem?_getD, List.getElem?_map, List.getElem?_take, if_pos hi, List.getD_eq_getElem?_getD, List.getElem?_eq_getElem (by omega)]
      rfl
    have hw : ∀ i, i < zs.length → (Lit.int .u8 (zs.getD i 0)).wf = true := fun i hi => hwf _ (by
      rw [List.getD_eq_getElem?_getD, List.getElem?_eq_getElem hi]
      exact List.getElem_mem hi)
    refine ⟨_, (zs.take len).map (fun z => UInt8.ofNat z.toNat), rfl, ?_, by rw [hlen]; omega⟩
    by_cases hc0 : cap = 0
    · have h0 : len = 0 := by omega
      subst hc0; subst h0
      have hnil : (zs.take 0).map (fun z => UInt8.ofNat z.toNat) = [] := by simp
      rw [hnil]
      exact ⟨⟨some a, 0, rfl, Nat.le_refl _, by unfold maxLen; omega, .inl ⟨rfl, rfl⟩⟩, fun h => absurd rfl h⟩
    · obtain ⟨g, o, spot⟩ := a
      have hc := hcell 0 (by omega)
      have hspot : spot = none := by simpa [Addr.add] using World.cell?_spot hc
      subst hspot
      have hlt : g < w.heap.size := by
        have := World.block_lt_of_cell? w _ hc
        simpa [Addr.add] using this
      refine ⟨⟨some ⟨g, o, none⟩, cap, by rw [hlen], by omega, hm, .inr ⟨g, o, rfl, fun i hi => ?_⟩⟩, fun _ k hk => ?_⟩
      · rw [hlen] at hi
        have := hcell i (by omega)
        rw [add_none] at this
        rw [this, hg i hi, ← toU8 _ (hw i (by omega))]
      · obtain rfl : g = k := by simpa [Value.ownBlock] using hk
        exact hlt
end
theorem IsRow.came {w : World} {a : Option Addr} {len cap : Nat} {zs : List Int} (h : IsRow .u8 w a len cap zs) : ∃ l, l.length = len ∧ len ≤ maxLen ∧ Came w (.slice a len cap) l := by
  rcases h with ⟨rfl, rfl, rfl, rfl⟩ | ⟨x, rfl, h1, h2, h3, h4, h5⟩
  · exact ⟨[], rfl, by unfold maxLen; omega, BytesAt.nil w, by simp⟩
  · have hlen : ((zs.take len).map (fun z => UInt8.ofNat z.toNat)).length = len := by rw [List.length_map, List.length_take]; omega
    have hg : ∀ i, i < len → ((zs.take len).map (fun z => UInt8.ofNat z.toNat)).getD i 0 = UInt8.ofNat (zs.getD i 0).toNat := by
      intro i hi
      rw [List.getD_eq_getElem?_getD, List.getElem?_map, List.getElem?_take, if_pos hi, List.getD_eq_getElem?_getD, List.getElem?_eq_getElem (by omega)]
      rfl
    have hw : ∀ i, i < zs.length → (Lit.int .u8 (zs.getD i 0)).wf = true := fun i hi => h5 _ (by
      rw [List.getD_eq_getElem?_getD, List.getElem?_eq_getElem hi]
      exact List.getElem_mem hi)
    refine ⟨_, hlen, by omega, ?_⟩
    by_cases hl0 : len = 0
    · subst hl0
      have hnil : (zs.take 0).map (fun z => UInt8.ofNat z.toNat) = [] := by simp
      rw [hnil]
      by_cases hc0 : cap = 0
      · subst hc0
        exact ⟨⟨some x, 0, rfl, Nat.le_refl _, by unfold maxLen; omega, .inl ⟨rfl, rfl⟩⟩, by simp⟩
      · obtain ⟨g, o, spot⟩ := x
        have hc := h4 0 (by omega)
        have hspot : spot = none := by simpa [Addr.add] using World.cell?_spot hc
        subst hspot
        exact ⟨⟨some ⟨g, o, none⟩, cap, rfl, by simp, h2, .inr ⟨g, o, rfl, by simp⟩⟩, by simp⟩
    · obtain ⟨g, o, spot⟩ := x
      have hc := h4 0 (by omega)
      have hspot : spot = none := by simpa [Addr.add] using World.cell?_spot hc
      subst hspot
      have hlt : g < w.heap.size := by
        have := World.block_lt_of_cell? w _ hc
        simpa [Addr.add] using this
      refine ⟨⟨some ⟨g, o, none⟩, cap, by rw [hlen], by omega, h2, .inr ⟨g, o, rfl, fun i hi => ?_⟩⟩, fun _ k hk => ?_⟩
      · rw [hlen] at hi
        have := h4 i (by omega)
        rw [add_none] at this
        rw [this, hg i hi, ← toU8 _ (hw i (by omega))]
      · obtain rfl : g = k := by simpa [Value.ownBlock] using hk
        exact hlt
end Go.Proofs.YtbkajnjboipbhaaGreatDoor.W

/- A slice of deeds that came in: rows of seven cells, an id among them, the last a slice of bytes. -/
namespace Go.Proofs.YtbkajnjboipbhaaGreatDoor.W
open Go.RowKit Go.ChangeShapes Go.WideShapes
set_option linter.unusedVariables false
set_option linter.unusedSimpArgs false

structure Dd where
  k : Int
  n : Int
  x : Id
  bv : Value
  b : List UInt8
instance : Inhabited Dd := ⟨⟨0, 0, ⟨0, 0, 0, 0⟩, .slice none 0 0, []⟩⟩
structure DdAt (w : World) (g p : Nat) (r : Dd) : Prop where
  c0 : w.cell? ⟨g, p, none⟩ = some (.int .i64 r.k)
  c1 : w.cell? ⟨g, p + 1, none⟩ = some (.int .i64 r.n)
  c2 : w.cell? ⟨g, p + 2, none⟩ = some (.int .i64 r.x.c)
  c3 : w.cell? ⟨g, p + 3, none⟩ = some (.int .i64 r.x.l)
  c4 : w.cell? ⟨g, p + 4, none⟩ = some (.int .i64 r.x.n)
  c5 : w.cell? ⟨g, p + 5, none⟩ = some (.int .i64 r.x.i)
  c6 : w.cell? ⟨g, p + 6, none⟩ = some r.bv
  came : Came w r.bv r.b
  long : r.b.length ≤ maxLen
  wk : (Lit.int .i64 r.k).wf = true
  wn : (Lit.int .i64 r.n).wf = true
  wx : okD r.x
def DeedsAt (w : World) (a : Option Addr) (n : Nat) (f : Nat → Dd) : Prop := n = 0 ∨ ∃ g o, a = some ⟨g, o, none⟩ ∧ ∀ i, i < n → DdAt w g (o + i * 7) (f i)
theorem DdAt.keep {w w' : World} {g p : Nat} {r : Dd} (h : DdAt w g p r) (hc : Chg [] w w') : DdAt w' g p r :=
  ⟨hc.cell h.c0 (by simp), hc.cell h.c1 (by simp), hc.cell h.c2 (by simp), hc.cell h.c3 (by simp), hc.cell h.c4 (by simp), hc.cell h.c5 (by simp), hc.cell h.c6 (by simp), h.came.chg hc, h.long, h.wk, h.wn, h.wx⟩
theorem DeedsAt.keep {w w' : World} {a : Option Addr} {n : Nat} {f : Nat → Dd} (h : DeedsAt w a n f) (hc : Chg [] w w') : DeedsAt w' a n f := by
  rcases h with h | ⟨g, o, rfl, h⟩
  · exact .inl h
  · exact .inr ⟨g, o, rfl, fun i hi => (h i hi).keep hc⟩
section
variable {H : Type} {enc : TypeId × Value → H} {w : World} {base : Nat} {held : Bool}
theorem fieldsD : ∃ f0 f1 f2 f3 : Field, Tryz.prog.underlying 52 = some (.struct #[f0, f1, f2, f3]) ∧ f0.offset = 0 ∧ f1.offset = 1 ∧ f2.offset = 2 ∧ f3.offset = 6 ∧
    Tryz.prog.underlying f0.type = some (.int .i64) ∧ Tryz.prog.underlying f1.type = some (.int .i64) ∧ f2.type = 25 ∧ f3.type = 27 ∧
    Tryz.prog.cellsOf f0.type = 1 ∧ Tryz.prog.cellsOf f1.type = 1 ∧ Tryz.prog.cellsOf f3.type = 1 :=
  ⟨_, _, _, _, Tryz.underlying52, rfl, rfl, rfl, rfl, by kernel_rfl, by kernel_rfl, rfl, rfl, by kernel_rfl, by kernel_rfl, by kernel_rfl⟩
theorem cellsD : Tryz.prog.cellsOf 52 = 7 := by kernel_rfl
set_option maxRecDepth 100000 in
theorem open_deeds {fuel : Nat} {cs : List Value} {x : DataW H × List MemPlace} (h : DataW.trod enc Tryz.prog w base (fun _ => true) held fuel 48 cs = some x) :
    (cs = [.slice none 0 0]) ∨ ∃ (a : Addr) (len cap : Nat) (f : Nat → Dd), cs = [.slice (some a) len cap] ∧ len ≤ cap ∧ cap ≤ maxLen ∧ DeedsAt w (some a) len f := by
  rcases Go.Deep.open_slice Tryz.underlying48 h with ⟨h0, _⟩ | ⟨a, len, cap, m, n, D, Pl, rfl, hb, hl, hm, hmm, hx, hel⟩
  · exact .inl h0
  · right
    have hlm : len ≤ m := by rw [hmm]; split <;> omega
    obtain ⟨f0, f1, f2, f3, hs, o0, o1, o2, o3, t0, t1, t2, t3, c0, c1, c3⟩ := fieldsD
    have each : ∀ i, i < len → ∃ r : Dd, w.cell? (a.add (i * 7)) = some (.int .i64 r.k) ∧ w.cell? (a.add (i * 7 + 1)) = some (.int .i64 r.n) ∧ w.cell? (a.add (i * 7 + 2)) = some (.int .i64 r.x.c) ∧ w.cell? (a.add (i * 7 + 3)) = some (.int .i64 r.x.l) ∧ w.cell? (a.add (i * 7 + 4)) = some (.int .i64 r.x.n) ∧
        w.cell? (a.add (i * 7 + 5)) = some (.int .i64 r.x.i) ∧ w.cell? (a.add (i * 7 + 6)) = some r.bv ∧ Came w r.bv r.b ∧ r.b.length ≤ maxLen ∧ (Lit.int .i64 r.k).wf = true ∧ (Lit.int .i64 r.n).wf = true ∧ okD r.x := by
      intro i hi
      obtain ⟨cs', h1, h2⟩ := hel i (by omega)
      rw [cellsD] at h1
      obtain ⟨_, hlen, hcell⟩ := World.cells?_some h1
      obtain ⟨xs, k, hk, hxy, _, hxl, hf⟩ := DataW.trod_struct hs h2
      match xs, hxl, cs', hlen with
      | [y0, y1, y2, y3], _, [v0, v1, v2, v3, v4, v5, v6], _ =>
        have g0 := hf 0 f0 rfl
        have g1 := hf 1 f1 rfl
        have g2 := hf 2 f2 rfl
        have g3 := hf 3 f3 rfl
        rw [t2] at g2
        simp [o0, o1, o2, o3, c0, c1, c3, cells_id] at g0 g1 g2 g3
        rw [t3] at g3
        have e0 := hcell 0 (by omega)
        have e1 := hcell 1 (by omega)
        have e2 := hcell 2 (by omega)
        have e3 := hcell 3 (by omega)
        have e4 := hcell 4 (by omega)
        have e5 := hcell 5 (by omega)
        have e6 := hcell 6 (by omega)
        rw [Go.Deep.add_add] at e0 e1 e2 e3 e4 e5 e6
        obtain ⟨z0, q0, _, z0w⟩ := DataW.trod_int t0 g0
        obtain ⟨z1, q1, _, z1w⟩ := DataW.trod_int t1 g1
        obtain ⟨y, hy, rfl, rfl, rfl, rfl⟩ := open_idc g2
        obtain ⟨z3, l3, q3, m3, ml⟩ := open_came g3
        simp at q0 q1 q3
        subst q0; subst q1; subst q3
        refine ⟨⟨z0, z1, y, v6, l3⟩, by simpa using e0, by simpa using e1, by simpa using e2, by simpa using e3, by simpa using e4, by simpa using e5, by simpa using e6, m3, ml, ?_, ?_, hy⟩
        · first | exact z0w | exact z0w.1
        · first | exact z1w | exact z1w.1
    obtain ⟨f, hf⟩ := Go.Deep.choose_lt each
    refine ⟨a, len, cap, f, rfl, hl, hm, ?_⟩
    by_cases h0 : len = 0
    · exact .inl h0
    · right
      obtain ⟨g, o, spot⟩ := a
      have hc := (hf 0 (by omega)).1
      have hspot : spot = none := by simpa [Addr.add] using World.cell?_spot hc
      subst hspot
      refine ⟨g, o, rfl, fun i hi => ?_⟩
      obtain ⟨c0, c1, c2, c3, c4, c5, c6, c7, c8, c9, ca, cb⟩ := hf i hi
      rw [add_none] at c0 c1 c2 c3 c4 c5 c6
      exact ⟨c0, by simpa [Nat.add_assoc] using c1, by simpa [Nat.add_assoc] using c2, by simpa [Nat.add_assoc] using c3, by simpa [Nat.add_assoc] using c4, by simpa [Nat.add_assoc] using c5, by simpa [Nat.add_assoc] using c6, c7, c8, c9, ca, cb⟩
end
end Go.Proofs.YtbkajnjboipbhaaGreatDoor.W
