/- Texts laid together. -/
import Derived.Test.YtaophafailmhjaaBP4
/- The file system as it is meant: answers with rows; maps in regions that draw. -/
namespace Go.Proofs.Ytaophafailmhjaa.W
open Go.RowKit
open Go.Proofs.Ytaophafailmhjaa.NM
set_option linter.unusedVariables false
set_option linter.unusedSimpArgs false

variable {X Y S : List Nat} {w0 w w' w1 w2 w3 : World} {c : PC} {s s' : PS} {o : Op} {v : Value}
/-- New rows: their blocks are none of its. -/
theorem Going.rows (h : Going X w0 w w2 c S s o v) (hc : Chg [] w2 w3) (vb : Value) (hn : ∀ g, vb.ownBlock = some g → w2.heap.size ≤ g ∧ g < w3.heap.size) : PAt (vb.ownBlock.toList ++ (w.heap.size :: (w.heap.size + 1) :: X)) w0 w3 c S s := by
  refine h.at_.add hc fun k hk => ?_
  rcases List.mem_append.1 hk with hk | hk
  · exact .inr (hn k (Option.mem_toList.1 hk))
  · exact .inl hk
theorem Going.high (h : Going X w0 w w2 c S s o v) : w.heap.size + 1 < w2.heap.size := blk_lt h.ans
/-- The end: an answer with rows. -/
theorem Going.doneR {r : Ans × PS} (a : Ans) (s' : PS) (hr : r = (a, s')) (h : Going X w0 w w2 c S s' o v) (vb vl : Value) (H : PAt (vb.ownBlock.toList ++ (vl.ownBlock.toList ++ (w.heap.size :: (w.heap.size + 1) :: X))) w0 w2 c S s') (hb : BytesAt w2 vb a.b) (hl : EntsAt w2 vl a.l)
    (nb : ∀ g, vb.ownBlock = some g → w.heap.size + 1 < g) (nl : ∀ g, vl.ownBlock = some g → w.heap.size + 1 < g) {u0 u1 u2 u3 u4 : Value} (e0 : u0 = .int .i64 a.e) (e1 : u1 = .int .i64 a.ino) (e2 : u2 = .bool a.dir) (e3 : u3 = .int .i64 (a.size : Int)) (e4 : u4 = .int .i64 a.h) :
    (set7 w2 (w.heap.size + 1) u0 u1 u2 u3 u4 vb vl).heap[w.heap.size + 1]? = some (.cells #[u0, u1, u2, u3, u4, vb, vl] 30 (0, 0)) ∧ APost X w0 w c S r (.returned (.agg #[u0, u1, u2, u3, u4, vb, vl])) (set7 w2 (w.heap.size + 1) u0 u1 u2 u3 u4 vb vl) := by
  subst hr
  have hc := set7_chg w2 (w.heap.size + 1) u0 u1 u2 u3 u4 vb vl
  refine ⟨set7_heap h.ans, vb, vl, by rw [e0, e1, e2, e3, e4]; rfl, ?_, ?_, ?_, ?_, fun g hg => by
    rcases hg with hg | hg
    · have := nb g hg; omega
    · have := nl g hg; omega⟩
  · exact hb.keep fun g hg => hc.block g (H.lt g (List.mem_append_left _ (Option.mem_toList.2 hg))) (by have := nb g hg; simp; omega)
  · exact hl.keep hc fun g hg => by have := nl g hg; simp; omega
  · have h2 := H.keepB hc (fun x hx => by simp at hx; subst hx; exact ⟨by simp, by have := h.base; omega, zeroA_noBytes h.ans⟩)
    exact h2.mono fun x hx => by
      rcases List.mem_append.1 hx with hx | hx
      · exact List.mem_append_left _ hx
      · rcases List.mem_append.1 hx with hx | hx
        · exact List.mem_append_right _ (List.mem_append_left _ hx)
        · exact List.mem_append_right _ (List.mem_append_right _ (List.mem_cons_of_mem _ (List.mem_cons_of_mem _ hx)))
  · exact h.kept.chg hc (fun k hk => ⟨by have := h.low k hk; simp; omega, by have := h.low k hk; have := h.high; omega⟩)
/-- With rows, a step of the map. -/
theorem PAt.less {Y : List Nat} (h : PPost Y w0 w2 c S s' w3) (hX : ∀ x ∈ X, x ∈ Y) : PPost X w0 w2 c S s' w3 := ⟨h.1.mono hX, h.2.mono hX⟩

section
variable {κ : Type} {k : TypeId} {kv : κ → Value} {kl : κ → Lit} {ok : κ → Prop}
theorem wp_upd (E : KE k kv kl ok) (w : World) {o : Oper} {a : Act} {K : Act → World → Prop} {Q : Exit → Act → World → Prop} (m x v : Operand) (t : TypeId) (hop : o.op = Op.mapUpdate t m x v) (e : TypeId)
    (ht : Try.prog.underlying t = some (.map k e)) (b N : Nat) (φ : κ → Option Value) (hm : a.eval m = .map (some b)) (h : MapF k kl ok w b φ N) (hN : N < maxLen) (y : κ) (hx : a.eval x = kv y) (hy : ok y) (u : Value) (hv : a.eval v = u)
    (hK : ∀ w', MapF k kl ok w' b (updF φ y u) (if (φ y).isSome then N else N + 1) → Chg [b] w w' → w'.heap.size = w.heap.size → K (a.put o.dst undef) w') : Oper.wp Try.prog o a w K Q := by
  obtain ⟨w', hrun, r1, r2, r3⟩ := h.store E ht hy u hN
  unfold Oper.wp
  simp [execOp, hop, hm, hx, hv, hrun, Result.andThen]
  exact hK _ r1 r2 r3
theorem wp_del (E : KE k kv kl ok) (w : World) {o : Oper} {a : Act} {K : Act → World → Prop} {Q : Exit → Act → World → Prop} (m x : Operand) (t : TypeId) (hop : o.op = Op.call { callee := Callee.builtin Builtin.delete, args := #[m, x], argTypes := #[t, k] }) (e : TypeId)
    (ht : Try.prog.underlying t = some (.map k e)) (b N : Nat) (φ : κ → Option Value) (hm : a.eval m = .map (some b)) (h : MapF k kl ok w b φ N) (y : κ) (hx : a.eval x = kv y) (hy : ok y)
    (hK : ∀ w', MapF k kl ok w' b (delF φ y) (if (φ y).isSome then N - 1 else N) → Chg [b] w w' → w'.heap.size = w.heap.size → K (a.put o.dst (.tuple #[])) w') : Oper.wp Try.prog o a w K Q := by
  obtain ⟨w', hrun, r1, r2, r3⟩ := h.drop E ht hy o.type
  unfold Oper.wp execOp
  simp only [hop, resolve, invoke, builtin, Sem.run_bind, Sem.run_pure, Result.andThen_ok, List.map_toArray, List.map_cons, List.map_nil, hm, hx, hrun]
  exact hK w' r1 r2 r3
end
theorem wp_fset (w : World) {op : Oper} {a : Act} {K : Act → World → Prop} {Q : Exit → Act → World → Prop} (m x v : Operand) (hop : op.op = Op.mapUpdate 57 m x v)
    (c : PC) (hm : a.eval m = .map (some c.f)) {X S : List Nat} {w0 : World} {s : PS} (h : PAt X w0 w c S s) (hF : FilesOk s.F) (y : Int) (hx : a.eval x = .int .i64 y) (hy : okI y) (u : Value) (hv : a.eval v = u) (l : List UInt8) (hu : Free w X u l)
    (hK : ∀ w', PPost X w0 w c S { s with F := upd s.F y l } w' → w'.heap.size = w.heap.size → K (a.put op.dst undef) w') : Oper.wp Try.prog op a w K Q := by
  obtain ⟨St, Sk, f, o, Nf, No, h1, h2, h3, h4⟩ := h
  have hN := f_few h1 hF
  refine wp_upd keInt w m x v 57 hop 22 Try.underlying57 c.f Nf f hm h1.fm (by unfold maxLen; omega) y hx hy u hv fun w' r1 r2 r3 => hK w' ?_ r3
  exact PAt.fset h1 h2 h3 h4 r1 r2 (h1.fv.upd y ⟨hu.1, fun hl g hg => ⟨(h4 g (hu.2 hl g hg)).2, (h4 g (hu.2 hl g hg)).1⟩⟩)
theorem wp_oset (w : World) {op : Oper} {a : Act} {K : Act → World → Prop} {Q : Exit → Act → World → Prop} (m x v : Operand) (hop : op.op = Op.mapUpdate 58 m x v)
    (c : PC) (hm : a.eval m = .map (some c.o)) {X S : List Nat} {w0 : World} {s : PS} (h : PAt X w0 w c S s) (hF : OwnOk s.O) (y : Int × Int) (hx : a.eval x = .agg #[.int .i64 y.1, .int .i64 y.2]) (hy : okP y) (u : Value) (hv : a.eval v = u) (l : List UInt8) (hu : Free w X u l)
    (hK : ∀ w', PPost X w0 w c S { s with O := upd s.O y l } w' → w'.heap.size = w.heap.size → K (a.put op.dst undef) w') : Oper.wp Try.prog op a w K Q := by
  obtain ⟨St, Sk, f, o, Nf, No, h1, h2, h3, h4⟩ := h
  have hN := o_few h1 hF
  refine wp_upd kePair w m x v 58 hop 22 Try.underlying58 c.o No o hm h1.om (by unfold maxLen; omega) y hx hy u hv fun w' r1 r2 r3 => hK w' ?_ r3
  exact PAt.oset h1 h2 h3 h4 r1 r2 (h1.ov.upd y ⟨hu.1, fun hl g hg => ⟨(h4 g (hu.2 hl g hg)).2, (h4 g (hu.2 hl g hg)).1⟩⟩)
theorem wp_odel (w : World) {op : Oper} {a : Act} {K : Act → World → Prop} {Q : Exit → Act → World → Prop} (m x : Operand) (hop : op.op = Op.call { callee := Callee.builtin Builtin.delete, args := #[m, x], argTypes := #[58, 66] })
    (c : PC) (hm : a.eval m = .map (some c.o)) {X S : List Nat} {w0 : World} {s : PS} (h : PAt X w0 w c S s) (y : Int × Int) (hx : a.eval x = .agg #[.int .i64 y.1, .int .i64 y.2]) (hy : okP y)
    (hK : ∀ w', PPost X w0 w c S { s with O := del s.O y } w' → w'.heap.size = w.heap.size → K (a.put op.dst (.tuple #[])) w') : Oper.wp Try.prog op a w K Q := by
  obtain ⟨St, Sk, f, o, Nf, No, h1, h2, h3, h4⟩ := h
  refine wp_del kePair w m x 58 hop 22 Try.underlying58 c.o No o hm h1.om y hx hy fun w' r1 r2 r3 => hK w' ?_ r3
  exact PAt.oset h1 h2 h3 h4 r1 r2 (h1.ov.del y)
def OpenP (e a h : Int) : Prop := e = 0 → okP (a, h)
theorem open_small {l : List K.TRow} {a i : Int} {q : Bool} {r : Int × Int × List K.TRow} (hr : r = K.openR l a i q) : OpenP r.2.1 a r.1 := by
  intro h0
  subst hr
  rcases open_cases l a i q with ⟨h1, _⟩ | ⟨_, h1, h2, h3, h4, _⟩
  · exact absurd h0 h1
  · exact okP_of h1 (by omega) h3 (by omega)
set_option maxHeartbeats 4000000 in
set_option maxRecDepth 100000 in
theorem plist_any (h : PAt X w0 w c S s) (hI : PInv s) (a : Int) (o : Op) (v : Value) (hp : o.p.length ≤ 1000000) : Calls Try.prog 32 #[.pointer (some ⟨c.p, 0, none⟩), .int .i64 a, opV o v] w (APost X w0 w c S (psList s o)) := by
  have HB := begun h o v
  obtain ⟨w1, hw1⟩ : ∃ w1, w1 = (w.alloc (.cells #[.int .i64 o.d, .string (NM.mk o.p), .string (NM.mk o.q), .int .i64 o.h, .int .i64 o.i, .int .i64 o.n, .bool o.w, v] 33)).alloc (.cells #[.int .i64 0, .int .i64 0, .bool false, .int .i64 0, .int .i64 0, .slice none 0 0, .slice none 0 0] 30) := ⟨_, rfl⟩
  rw [← hw1] at HB
  have HG := Lib.hid HB.go
  have HW1 := Lib.hid hw1
  have HI := Lib.hid hI
  obtain ⟨⟨p0, p1, p2, p3⟩, ⟨o0, o1, o2, o3, o4, o5, o6, o7⟩, ⟨c0, c1, c2, c3, c4, c5, c6⟩, ⟨f0, f1, f2, f3, f4, f5, f6⟩, hlt1, hlt2⟩ := HG.out.cells
  obtain ⟨r, hr⟩ : ∃ r, r = tList s.T o.p := ⟨_, rfl⟩
  obtain ⟨Z, hZ⟩ : ∃ Z, Z = psList s o := ⟨_, rfl⟩
  have CL : Hid (∀ W, Going X w0 w W c S s o v → Calls Try.prog 46 #[.pointer (some ⟨c.t, 0, none⟩), .string (NM.mk o.p)] W fun e w' => ∃ vl, e = .returned (.tuple #[vl, .int .i64 r.2]) ∧ w'.ownsRow W.heap.size 106 3 vl r.1.length (r.1.flatMap entC) ∧ Chg [] W w' ∧ PPost (w.heap.size :: (w.heap.size + 1) :: X) w0 W c S s w') := Lib.hid (by rw [hr]; exact fun W hW => ptList hW.at_ o.p hp)
  rw [← hZ]
  have HE : Hid (Z = (⟨r.2, 0, false, 0, 0, [], r.1⟩, s)) := Lib.hid (by rw [hZ, hr]; rfl)
  clear hZ hr h hI HB hw1
  obtain ⟨L, e0⟩ := r
  simp only at HE CL
  unfold opV opC
  go_enter Try.func32, Try.ntmps32
  go_wp2
  try rw [← HW1.out]
  refine wp_region_L [(6, fun w' => w'.cell? ⟨c.p, 0, none⟩ = some (.pointer (some ⟨c.t, 0, none⟩))), (6, fun w' => w'.cell? ⟨w.heap.size, 1, none⟩ = some (.string (NM.mk o.p)))] (by kernel_rfl) ?_ (fun hHeld => ?_)
  · exact (HoldC.cons (p0) (HoldC.cons (o1) HoldC.nil))
  refine wpAnyL_take (i := 0) (oi := _) (v := ?_) rfl (by kernel_rfl) (by kernel_rfl) (by kernel_rfl) (by kernel_rfl) (by kernel_rfl) (fun _ _ _ h => h) (Or.inl ⟨by rfl, ?_⟩) (by assumption) (fun hNew => ?_)
  rotate_left
  · intro w _
    go_simp
    try with_reducible rfl
  clear hHeld
  have hHeld := hNew
  clear hNew
  try simp only [List.getElem_toArray, List.getElem_cons_succ, List.getElem_cons_zero, Act.put, List.setIfInBounds_toArray, List.set_cons_zero, List.set_cons_succ]
  refine wpAnyL_take (i := 1) (oi := _) (v := ?_) rfl (by kernel_rfl) (by kernel_rfl) (by kernel_rfl) (by kernel_rfl) (by kernel_rfl) (fun _ _ _ h => h) (Or.inl ⟨by rfl, ?_⟩) (by assumption) (fun hNew => ?_)
  rotate_left
  · intro w _
    go_simp
    try with_reducible rfl
  clear hHeld
  have hHeld := hNew
  clear hNew
  try simp only [List.getElem_toArray, List.getElem_cons_succ, List.getElem_cons_zero, Act.put, List.setIfInBounds_toArray, List.set_cons_zero, List.set_cons_succ]
  refine wpAnyL_take (i := 2) (oi := _) (v := ?_) rfl (by kernel_rfl) (by kernel_rfl) (by kernel_rfl) (by kernel_rfl) (by kernel_rfl) (fun _ _ _ h => h) (Or.inl ⟨by rfl, ?_⟩) (by assumption) (fun hNew => ?_)
  rotate_left
  · intro w _
    go_simp
    try with_reducible rfl
  clear hHeld
  have hHeld := hNew
  clear hNew
  try simp only [List.getElem_toArray, List.getElem_cons_succ, List.getElem_cons_zero, Act.put, List.setIfInBounds_toArray, List.set_cons_zero, List.set_cons_succ]
  refine wpAnyL_load 0 (i := 3) (oi := _) (v := ?_) rfl rfl (by kernel_rfl) (by kernel_rfl) (by kernel_rfl) (by kernel_rfl) (by kernel_rfl) (by kernel_rfl) (fun _ _ _ h => h) (Or.inl ⟨by rfl, ?_⟩) (by assumption) (fun hNew => ?_)
  rotate_left
  · intro w hSw
    (try dsimp only at hSw)
    go_simp
    try with_reducible rfl
  clear hHeld
  have hHeld := hNew
  clear hNew
  try simp only [List.getElem_toArray, List.getElem_cons_succ, List.getElem_cons_zero, Act.put, List.setIfInBounds_toArray, List.set_cons_zero, List.set_cons_succ]
  refine wpAnyL_take (i := 4) (oi := _) (v := ?_) rfl (by kernel_rfl) (by kernel_rfl) (by kernel_rfl) (by kernel_rfl) (by kernel_rfl) (fun _ _ _ h => h) (Or.inl ⟨by rfl, ?_⟩) (by assumption) (fun hNew => ?_)
  rotate_left
  · intro w _
    go_simp
    try with_reducible rfl
  clear hHeld
  have hHeld := hNew
  clear hNew
  try simp only [List.getElem_toArray, List.getElem_cons_succ, List.getElem_cons_zero, Act.put, List.setIfInBounds_toArray, List.set_cons_zero, List.set_cons_succ]
  refine wpAnyL_load 1 (i := 5) (oi := _) (v := ?_) rfl rfl (by kernel_rfl) (by kernel_rfl) (by kernel_rfl) (by kernel_rfl) (by kernel_rfl) (by kernel_rfl) (fun _ _ _ h => h) (Or.inl ⟨by rfl, ?_⟩) (by assumption) (fun hNew => ?_)
  rotate_left
  · intro w hSw
    (try dsimp only at hSw)
    go_simp
    try with_reducible rfl
  clear hHeld
  have hHeld := hNew
  clear hNew
  try simp only [List.getElem_toArray, List.getElem_cons_succ, List.getElem_cons_zero, Act.put, List.setIfInBounds_toArray, List.set_cons_zero, List.set_cons_succ]
  refine wpAnyL_ready (rs := [6]) (by kernel_rfl) (by simp) ?_
  refine AllReadyL.cons (o := _) rfl (fun K hK => ?_) AllReadyL.nil
  try simp only [List.getElem_toArray, List.getElem_cons_succ, List.getElem_cons_zero]
  go_simp
  refine (CL.out _ HG.out.drew).mono ?_
  rintro e w3 ⟨vl, rfl, ho3, hc3, h3⟩
  have HG3 := Lib.hid (HG.out.drew.step h3)
  have HN3 : Hid (∀ g, vl.ownBlock = some g → w1.drew.heap.size ≤ g ∧ g < w3.heap.size) := Lib.hid (fun g hg => ho3.lt g hg)
  have HR3 := Lib.hid (Going.rows HG.out.drew hc3 vl HN3.out)
  have HEN := Lib.hid (ents_own ho3)
  have hx : ∃ al cl, vl = .slice al L.length cl := by obtain ⟨al, cl, e, _⟩ := HEN.out; exact ⟨al, cl, e⟩
  obtain ⟨al, cl, rfl⟩ := hx
  have HHI := Lib.hid HG.out.drew.high
  clear ho3 hc3 h3
  clear hHeld
  refine hK.out _ _ ?_ (fun hHeld => ?_)
  · exact (HoldC.past (by kernel_rfl) (HoldC.past (by kernel_rfl) HoldC.nil))
  clear hK K
  try simp only [List.getElem_toArray, List.getElem_cons_succ, List.getElem_cons_zero, Act.put, List.setIfInBounds_toArray, List.set_cons_zero, List.set_cons_succ]
  refine wpAnyL_take (i := 7) (oi := _) (v := ?_) rfl (by kernel_rfl) (by kernel_rfl) (by kernel_rfl) (by kernel_rfl) (by kernel_rfl) (fun _ _ _ h => h) (Or.inl ⟨by rfl, ?_⟩) (by assumption) (fun hNew => ?_)
  rotate_left
  · intro w _
    go_simp
    try with_reducible rfl
  clear hHeld
  have hHeld := hNew
  clear hNew
  try simp only [List.getElem_toArray, List.getElem_cons_succ, List.getElem_cons_zero, Act.put, List.setIfInBounds_toArray, List.set_cons_zero, List.set_cons_succ]
  refine wpAnyL_take (i := 8) (oi := _) (v := ?_) rfl (by kernel_rfl) (by kernel_rfl) (by kernel_rfl) (by kernel_rfl) (by kernel_rfl) (fun _ _ _ h => h) (Or.inl ⟨by rfl, ?_⟩) (by assumption) (fun hNew => ?_)
  rotate_left
  · intro w _
    go_simp
    try with_reducible rfl
  clear hHeld
  have hHeld := hNew
  clear hNew
  try simp only [List.getElem_toArray, List.getElem_cons_succ, List.getElem_cons_zero, Act.put, List.setIfInBounds_toArray, List.set_cons_zero, List.set_cons_succ]
  refine wpAnyL_take (i := 9) (oi := _) (v := ?_) rfl (by kernel_rfl) (by kernel_rfl) (by kernel_rfl) (by kernel_rfl) (by kernel_rfl) (fun _ _ _ h => h) (Or.inl ⟨by rfl, ?_⟩) (by assumption) (fun hNew => ?_)
  rotate_left
  · intro w _
    go_simp
    try with_reducible rfl
  clear hHeld
  have hHeld := hNew
  clear hNew
  try simp only [List.getElem_toArray, List.getElem_cons_succ, List.getElem_cons_zero, Act.put, List.setIfInBounds_toArray, List.set_cons_zero, List.set_cons_succ]
  refine wpAnyL_take (i := 10) (oi := _) (v := ?_) rfl (by kernel_rfl) (by kernel_rfl) (by kernel_rfl) (by kernel_rfl) (by kernel_rfl) (fun _ _ _ h => h) (Or.inl ⟨by rfl, ?_⟩) (by assumption) (fun hNew => ?_)
  rotate_left
  · intro w _
    go_simp
    try with_reducible rfl
  clear hHeld
  have hHeld := hNew
  clear hNew
  try simp only [List.getElem_toArray, List.getElem_cons_succ, List.getElem_cons_zero, Act.put, List.setIfInBounds_toArray, List.set_cons_zero, List.set_cons_succ]
  refine wpAnyL_take (i := 11) (oi := _) (v := ?_) rfl (by kernel_rfl) (by kernel_rfl) (by kernel_rfl) (by kernel_rfl) (by kernel_rfl) (fun _ _ _ h => h) (Or.inl ⟨by rfl, ?_⟩) (by assumption) (fun hNew => ?_)
  rotate_left
  · intro w _
    go_simp
    try with_reducible rfl
  clear hHeld
  have hHeld := hNew
  clear hNew
  try simp only [List.getElem_toArray, List.getElem_cons_succ, List.getElem_cons_zero, Act.put, List.setIfInBounds_toArray, List.set_cons_zero, List.set_cons_succ]
  refine wpAnyL_done (by kernel_rfl) ?_ _
  clear hHeld
  clear p0 p1 p2 p3 o0 o1 o2 o3 o4 o5 o6 o7 c0 c1 c2 c3 c4 c5 c6 f0 f1 f2 f3 f4 f5 f6 hlt1 hlt2
  obtain ⟨⟨p0, p1, p2, p3⟩, ⟨o0, o1, o2, o3, o4, o5, o6, o7⟩, ⟨c0, c1, c2, c3, c4, c5, c6⟩, ⟨f0, f1, f2, f3, f4, f5, f6⟩, hlt1, hlt2⟩ := HG3.out.cells
  go_wp2
  obtain ⟨HBK, HAP⟩ := Going.doneR ⟨e0, 0, false, 0, 0, [], L⟩ s HE.out HG3.out (.slice none 0 0) (.slice al L.length cl) (by simpa [Value.ownBlock] using HR3.out) (BytesAt.nil _) HEN.out (by simp [Value.ownBlock]) (fun g hg => by have := (HN3.out g hg).1; have := HHI.out; omega) (u0 := .int .i64 e0) (u1 := .int .i64 0) (u2 := .bool false) (u3 := .int .i64 0) (u4 := .int .i64 0) rfl rfl rfl rfl rfl
  obtain ⟨⟨d0, d1, d2, d3, d4, d5, d6⟩, _⟩ := ans_cells HBK
  unfold set7 at d0 d1 d2 d3 d4 d5 d6
  exact bodyPost_ret (v := .agg #[.int .i64 e0, .int .i64 0, .bool false, .int .i64 0, .int .i64 0, .slice none 0 0, .slice al L.length cl]) (by simp [results, Try.results32, go_sem, d0, d1, d2, d3, d4, d5, d6]) rfl HAP
set_option maxHeartbeats 4000000 in
set_option maxRecDepth 100000 in
theorem popen_any (h : PAt X w0 w c S s) (hI : PInv s) (a : Int) (o : Op) (v : Value) (hp : o.p.length ≤ 1000000) : Calls Try.prog 33 #[.pointer (some ⟨c.p, 0, none⟩), .int .i64 a, opV o v] w (APost X w0 w c S (psOpen s a o)) := by
  have HB := begun h o v
  obtain ⟨w1, hw1⟩ : ∃ w1, w1 = (w.alloc (.cells #[.int .i64 o.d, .string (NM.mk o.p), .string (NM.mk o.q), .int .i64 o.h, .int .i64 o.i, .int .i64 o.n, .bool o.w, v] 33)).alloc (.cells #[.int .i64 0, .int .i64 0, .bool false, .int .i64 0, .int .i64 0, .slice none 0 0, .slice none 0 0] 30) := ⟨_, rfl⟩
  rw [← hw1] at HB
  have HG := Lib.hid HB.go
  have HW1 := Lib.hid hw1
  have HI := Lib.hid hI
  obtain ⟨⟨p0, p1, p2, p3⟩, ⟨o0, o1, o2, o3, o4, o5, o6, o7⟩, ⟨c0, c1, c2, c3, c4, c5, c6⟩, ⟨f0, f1, f2, f3, f4, f5, f6⟩, hlt1, hlt2⟩ := HG.out.cells
  obtain ⟨r, hr⟩ : ∃ r, r = tLook s.T o.p := ⟨_, rfl⟩
  have CL : Hid (∀ W, Going X w0 w W c S s o v → Calls Try.prog 42 #[.pointer (some ⟨c.t, 0, none⟩), .string (NM.mk o.p)] W fun e w' => e = .returned (.tuple #[.int .i64 (r.1 : Int), .bool r.2.1, .int .i64 r.2.2]) ∧ PPost (w.heap.size :: (w.heap.size + 1) :: X) w0 W c S s w') := Lib.hid (by rw [hr]; exact fun W hW => ptLook hW.at_ o.p hp)
  obtain ⟨r2, hr2⟩ : ∃ r2, r2 = K.openR s.K a (r.1 : Int) o.w := ⟨_, rfl⟩
  obtain ⟨Z, hZ⟩ : ∃ Z, Z = psOpen s a o := ⟨_, rfl⟩
  have CO : Hid (∀ W, Going X w0 w W c S s o v → Calls Try.prog 47 #[.pointer (some ⟨c.k, 0, none⟩), .int .i64 a, .int .i64 (r.1 : Int), .bool o.w] W fun e w' => e = .returned (.tuple #[.int .i64 r2.1, .int .i64 r2.2.1]) ∧ PPost (w.heap.size :: (w.heap.size + 1) :: X) w0 W c S { s with K := r2.2.2 } w') := Lib.hid (by rw [hr2]; exact fun W hW => ptOpen hW.at_ (by have := good_few hI.good; omega) a (r.1 : Int) o.w)
  have HSM : Hid (SmallE r.2.2 r.1) := Lib.hid (look_small hI.tok hr)
  have HOP : Hid (OpenP r2.2.1 a r2.1) := Lib.hid (open_small hr2)
  have HOW : Hid (OwnOk s.O) := Lib.hid hI.ownOk
  have HSZ : Hid ((ofO (s.F (r.1 : Int))).length ≤ 4096) := Lib.hid (ofO_sz hI.fsz _)
  rw [← hZ]
  have HZ : Hid (Z = if r.2.2 ≠ 0 then (no r.2.2, s) else if r.2.1 = true then (no 9, s) else if r2.2.1 ≠ 0 then (no r2.2.1, { s with K := r2.2.2 }) else (⟨0, r.1, false, (ofO (s.F (r.1 : Int))).length, r2.1, [], []⟩, { s with K := r2.2.2, O := if o.w = true then upd s.O (a, r2.1) (ofO (s.F (r.1 : Int))) else s.O })) := Lib.hid (by rw [hZ, hr2, hr]; rfl)
  clear hZ hr2 hr h hI HB hw1
  obtain ⟨n, isd, e0⟩ := r
  obtain ⟨hd, e2, K2⟩ := r2
  simp only at HZ CL CO HSM HOP HSZ
  unfold opV opC
  by_cases he : e0 = 0
  · subst he
    have HOK := Lib.hid (HSM.out rfl)
    cases isd
    · by_cases he2 : e2 = 0
      · subst he2
        by_cases hw : o.w = true
        · have HE : Hid (Z = (⟨0, n, false, (ofO (s.F (n : Int))).length, hd, [], []⟩, { s with K := K2, O := upd s.O (a, hd) (ofO (s.F (n : Int))) })) := Lib.hid (by rw [HZ.out, if_neg (by simp), if_neg (by simp), if_neg (by simp), if_pos hw])
          have HWW := Lib.hid hw
          clear HZ hw
          go_enter Try.func33, Try.ntmps33
          go_wp2
          try rw [← HW1.out]
          refine wp_region_L [(6, fun w' => w'.cell? ⟨c.p, 0, none⟩ = some (.pointer (some ⟨c.t, 0, none⟩))), (6, fun w' => w'.cell? ⟨w.heap.size, 1, none⟩ = some (.string (NM.mk o.p)))] (by kernel_rfl) ?_ (fun hHeld => ?_)
          · exact (HoldC.cons (p0) (HoldC.cons (o1) HoldC.nil))
          refine wpAnyL_take (i := 0) (oi := _) (v := ?_) rfl (by kernel_rfl) (by kernel_rfl) (by kernel_rfl) (by kernel_rfl) (by kernel_rfl) (fun _ _ _ h => h) (Or.inl ⟨by rfl, ?_⟩) (by assumption) (fun hNew => ?_)
          rotate_left
          · intro w _
            go_simp
            try with_reducible rfl
          clear hHeld
          have hHeld := hNew
          clear hNew
          try simp only [List.getElem_toArray, List.getElem_cons_succ, List.getElem_cons_zero, Act.put, List.setIfInBounds_toArray, List.set_cons_zero, List.set_cons_succ]
          refine wpAnyL_take (i := 1) (oi := _) (v := ?_) rfl (by kernel_rfl) (by kernel_rfl) (by kernel_rfl) (by kernel_rfl) (by kernel_rfl) (fun _ _ _ h => h) (Or.inl ⟨by rfl, ?_⟩) (by assumption) (fun hNew => ?_)
          rotate_left
          · intro w _
            go_simp
            try with_reducible rfl
          clear hHeld
          have hHeld := hNew
          clear hNew
          try simp only [List.getElem_toArray, List.getElem_cons_succ, List.getElem_cons_zero, Act.put, List.setIfInBounds_toArray, List.set_cons_zero, List.set_cons_succ]
          refine wpAnyL_take (i := 2) (oi := _) (v := ?_) rfl (by kernel_rfl) (by kernel_rfl) (by kernel_rfl) (by kernel_rfl) (by kernel_rfl) (fun _ _ _ h => h) (Or.inl ⟨by rfl, ?_⟩) (by assumption) (fun hNew => ?_)
          rotate_left
          · intro w _
            go_simp
            try with_reducible rfl
          clear hHeld
          have hHeld := hNew
          clear hNew
          try simp only [List.getElem_toArray, List.getElem_cons_succ, List.getElem_cons_zero, Act.put, List.setIfInBounds_toArray, List.set_cons_zero, List.set_cons_succ]
          refine wpAnyL_load 0 (i := 3) (oi := _) (v := ?_) rfl rfl (by kernel_rfl) (by kernel_rfl) (by kernel_rfl) (by kernel_rfl) (by kernel_rfl) (by kernel_rfl) (fun _ _ _ h => h) (Or.inl ⟨by rfl, ?_⟩) (by assumption) (fun hNew => ?_)
          rotate_left
          · intro w hSw
            (try dsimp only at hSw)
            go_simp
            try with_reducible rfl
          clear hHeld
          have hHeld := hNew
          clear hNew
          try simp only [List.getElem_toArray, List.getElem_cons_succ, List.getElem_cons_zero, Act.put, List.setIfInBounds_toArray, List.set_cons_zero, List.set_cons_succ]
          refine wpAnyL_take (i := 4) (oi := _) (v := ?_) rfl (by kernel_rfl) (by kernel_rfl) (by kernel_rfl) (by kernel_rfl) (by kernel_rfl) (fun _ _ _ h => h) (Or.inl ⟨by rfl, ?_⟩) (by assumption) (fun hNew => ?_)
          rotate_left
          · intro w _
            go_simp
            try with_reducible rfl
          clear hHeld
          have hHeld := hNew
          clear hNew
          try simp only [List.getElem_toArray, List.getElem_cons_succ, List.getElem_cons_zero, Act.put, List.setIfInBounds_toArray, List.set_cons_zero, List.set_cons_succ]
          refine wpAnyL_load 1 (i := 5) (oi := _) (v := ?_) rfl rfl (by kernel_rfl) (by kernel_rfl) (by kernel_rfl) (by kernel_rfl) (by kernel_rfl) (by kernel_rfl) (fun _ _ _ h => h) (Or.inl ⟨by rfl, ?_⟩) (by assumption) (fun hNew => ?_)
          rotate_left
          · intro w hSw
            (try dsimp only at hSw)
            go_simp
            try with_reducible rfl
          clear hHeld
          have hHeld := hNew
          clear hNew
          try simp only [List.getElem_toArray, List.getElem_cons_succ, List.getElem_cons_zero, Act.put, List.setIfInBounds_toArray, List.set_cons_zero, List.set_cons_succ]
          refine wpAnyL_ready (rs := [6]) (by kernel_rfl) (by simp) ?_
          refine AllReadyL.cons (o := _) rfl (fun K hK => ?_) AllReadyL.nil
          try simp only [List.getElem_toArray, List.getElem_cons_succ, List.getElem_cons_zero]
          go_simp
          refine (CL.out _ HG.out.drew).mono ?_
          rintro e w3 ⟨rfl, h3⟩
          have HG3 := Lib.hid (HG.out.drew.step h3)
          clear h3
          clear hHeld
          refine hK.out _ _ ?_ (fun hHeld => ?_)
          · exact (HoldC.past (by kernel_rfl) (HoldC.past (by kernel_rfl) HoldC.nil))
          clear hK K
          try simp only [List.getElem_toArray, List.getElem_cons_succ, List.getElem_cons_zero, Act.put, List.setIfInBounds_toArray, List.set_cons_zero, List.set_cons_succ]
          refine wpAnyL_take (i := 7) (oi := _) (v := ?_) rfl (by kernel_rfl) (by kernel_rfl) (by kernel_rfl) (by kernel_rfl) (by kernel_rfl) (fun _ _ _ h => h) (Or.inl ⟨by rfl, ?_⟩) (by assumption) (fun hNew => ?_)
          rotate_left
          · intro w _
            go_simp
            try with_reducible rfl
          clear hHeld
          have hHeld := hNew
          clear hNew
          try simp only [List.getElem_toArray, List.getElem_cons_succ, List.getElem_cons_zero, Act.put, List.setIfInBounds_toArray, List.set_cons_zero, List.set_cons_succ]
          refine wpAnyL_take (i := 8) (oi := _) (v := ?_) rfl (by kernel_rfl) (by kernel_rfl) (by kernel_rfl) (by kernel_rfl) (by kernel_rfl) (fun _ _ _ h => h) (Or.inl ⟨by rfl, ?_⟩) (by assumption) (fun hNew => ?_)
          rotate_left
          · intro w _
            go_simp
            try with_reducible rfl
          clear hHeld
          have hHeld := hNew
          clear hNew
          try simp only [List.getElem_toArray, List.getElem_cons_succ, List.getElem_cons_zero, Act.put, List.setIfInBounds_toArray, List.set_cons_zero, List.set_cons_succ]
          refine wpAnyL_take (i := 9) (oi := _) (v := ?_) rfl (by kernel_rfl) (by kernel_rfl) (by kernel_rfl) (by kernel_rfl) (by kernel_rfl) (fun _ _ _ h => h) (Or.inl ⟨by rfl, ?_⟩) (by assumption) (fun hNew => ?_)
          rotate_left
          · intro w _
            go_simp
            try with_reducible rfl
          clear hHeld
          have hHeld := hNew
          clear hNew
          try simp only [List.getElem_toArray, List.getElem_cons_succ, List.getElem_cons_zero, Act.put, List.setIfInBounds_toArray, List.set_cons_zero, List.set_cons_succ]
          refine wpAnyL_take (i := 10) (oi := _) (v := ?_) rfl (by kernel_rfl) (by kernel_rfl) (by kernel_rfl) (by kernel_rfl) (by kernel_rfl) (fun _ _ _ h => h) (Or.inl ⟨by rfl, ?_⟩) (by assumption) (fun hNew => ?_)
          rotate_left
          · intro w _
            go_simp
            try with_reducible rfl
          clear hHeld
          have hHeld := hNew
          clear hNew
          try simp only [List.getElem_toArray, List.getElem_cons_succ, List.getElem_cons_zero, Act.put, List.setIfInBounds_toArray, List.set_cons_zero, List.set_cons_succ]
          refine wpAnyL_take (i := 11) (oi := _) (v := ?_) rfl (by kernel_rfl) (by kernel_rfl) (by kernel_rfl) (by kernel_rfl) (by kernel_rfl) (fun _ _ _ h => h) (Or.inl ⟨by rfl, ?_⟩) (by assumption) (fun hNew => ?_)
          rotate_left
          · intro w _
            go_simp
            try with_reducible rfl
          clear hHeld
          have hHeld := hNew
          clear hNew
          try simp only [List.getElem_toArray, List.getElem_cons_succ, List.getElem_cons_zero, Act.put, List.setIfInBounds_toArray, List.set_cons_zero, List.set_cons_succ]
          refine wpAnyL_take (i := 12) (oi := _) (v := ?_) rfl (by kernel_rfl) (by kernel_rfl) (by kernel_rfl) (by kernel_rfl) (by kernel_rfl) (fun _ _ _ h => h) (Or.inl ⟨by rfl, ?_⟩) (by assumption) (fun hNew => ?_)
          rotate_left
          · intro w _
            go_simp
            try with_reducible rfl
          clear hHeld
          have hHeld := hNew
          clear hNew
          try simp only [List.getElem_toArray, List.getElem_cons_succ, List.getElem_cons_zero, Act.put, List.setIfInBounds_toArray, List.set_cons_zero, List.set_cons_succ]
          refine wpAnyL_take (i := 13) (oi := _) (v := ?_) rfl (by kernel_rfl) (by kernel_rfl) (by kernel_rfl) (by kernel_rfl) (by kernel_rfl) (fun _ _ _ h => h) (Or.inl ⟨by rfl, ?_⟩) (by assumption) (fun hNew => ?_)
          rotate_left
          · intro w _
            go_simp
            try with_reducible rfl
          clear hHeld
          have hHeld := hNew
          clear hNew
          try simp only [List.getElem_toArray, List.getElem_cons_succ, List.getElem_cons_zero, Act.put, List.setIfInBounds_toArray, List.set_cons_zero, List.set_cons_succ]
          refine wpAnyL_done (by kernel_rfl) ?_ _
          clear hHeld
          clear p0 p1 p2 p3 o0 o1 o2 o3 o4 o5 o6 o7 c0 c1 c2 c3 c4 c5 c6 f0 f1 f2 f3 f4 f5 f6 hlt1 hlt2
          obtain ⟨⟨p0, p1, p2, p3⟩, ⟨o0, o1, o2, o3, o4, o5, o6, o7⟩, ⟨c0, c1, c2, c3, c4, c5, c6⟩, ⟨f0, f1, f2, f3, f4, f5, f6⟩, hlt1, hlt2⟩ := HG3.out.cells
          go_wp2
          refine wp_region_L [(8, fun w' => w'.cell? ⟨c.p, 1, none⟩ = some (.pointer (some ⟨c.k, 0, none⟩))), (8, fun w' => w'.cell? ⟨w.heap.size, 6, none⟩ = some (.bool o.w))] (by kernel_rfl) ?_ (fun hHeld => ?_)
          · exact (HoldC.cons (p1) (HoldC.cons (o6) HoldC.nil))
          refine wpAnyL_take (i := 0) (oi := _) (v := ?_) rfl (by kernel_rfl) (by kernel_rfl) (by kernel_rfl) (by kernel_rfl) (by kernel_rfl) (fun _ _ _ h => h) (Or.inl ⟨by rfl, ?_⟩) (by assumption) (fun hNew => ?_)
          rotate_left
          · intro w _
            go_simp
            try with_reducible rfl
          clear hHeld
          have hHeld := hNew
          clear hNew
          try simp only [List.getElem_toArray, List.getElem_cons_succ, List.getElem_cons_zero, Act.put, List.setIfInBounds_toArray, List.set_cons_zero, List.set_cons_succ]
          refine wpAnyL_take (i := 1) (oi := _) (v := ?_) rfl (by kernel_rfl) (by kernel_rfl) (by kernel_rfl) (by kernel_rfl) (by kernel_rfl) (fun _ _ _ h => h) (Or.inl ⟨by rfl, ?_⟩) (by assumption) (fun hNew => ?_)
          rotate_left
          · intro w _
            go_simp
            try with_reducible rfl
          clear hHeld
          have hHeld := hNew
          clear hNew
          try simp only [List.getElem_toArray, List.getElem_cons_succ, List.getElem_cons_zero, Act.put, List.setIfInBounds_toArray, List.set_cons_zero, List.set_cons_succ]
          refine wpAnyL_take (i := 2) (oi := _) (v := ?_) rfl (by kernel_rfl) (by kernel_rfl) (by kernel_rfl) (by kernel_rfl) (by kernel_rfl) (fun _ _ _ h => h) (Or.inl ⟨by rfl, ?_⟩) (by assumption) (fun hNew => ?_)
          rotate_left
          · intro w _
            go_simp
            try with_reducible rfl
          clear hHeld
          have hHeld := hNew
          clear hNew
          try simp only [List.getElem_toArray, List.getElem_cons_succ, List.getElem_cons_zero, Act.put, List.setIfInBounds_toArray, List.set_cons_zero, List.set_cons_succ]
          refine wpAnyL_load 0 (i := 3) (oi := _) (v := ?_) rfl rfl (by kernel_rfl) (by kernel_rfl) (by kernel_rfl) (by kernel_rfl) (by kernel_rfl) (by kernel_rfl) (fun _ _ _ h => h) (Or.inl ⟨by rfl, ?_⟩) (by assumption) (fun hNew => ?_)
          rotate_left
          · intro w hSw
            (try dsimp only at hSw)
            go_simp
            try with_reducible rfl
          clear hHeld
          have hHeld := hNew
          clear hNew
          try simp only [List.getElem_toArray, List.getElem_cons_succ, List.getElem_cons_zero, Act.put, List.setIfInBounds_toArray, List.set_cons_zero, List.set_cons_succ]
          refine wpAnyL_take (i := 4) (oi := _) (v := ?_) rfl (by kernel_rfl) (by kernel_rfl) (by kernel_rfl) (by kernel_rfl) (by kernel_rfl) (fun _ _ _ h => h) (Or.inl ⟨by rfl, ?_⟩) (by assumption) (fun hNew => ?_)
          rotate_left
          · intro w _
            go_simp
            try with_reducible rfl
          clear hHeld
          have hHeld := hNew
          clear hNew
          try simp only [List.getElem_toArray, List.getElem_cons_succ, List.getElem_cons_zero, Act.put, List.setIfInBounds_toArray, List.set_cons_zero, List.set_cons_succ]
          refine wpAnyL_take (i := 5) (oi := _) (v := ?_) rfl (by kernel_rfl) (by kernel_rfl) (by kernel_rfl) (by kernel_rfl) (by kernel_rfl) (fun _ _ _ h => h) (Or.inl ⟨by rfl, ?_⟩) (by assumption) (fun hNew => ?_)
          rotate_left
          · intro w _
            go_simp
            try with_reducible rfl
          clear hHeld
          have hHeld := hNew
          clear hNew
          try simp only [List.getElem_toArray, List.getElem_cons_succ, List.getElem_cons_zero, Act.put, List.setIfInBounds_toArray, List.set_cons_zero, List.set_cons_succ]
          refine wpAnyL_take (i := 6) (oi := _) (v := ?_) rfl (by kernel_rfl) (by kernel_rfl) (by kernel_rfl) (by kernel_rfl) (by kernel_rfl) (fun _ _ _ h => h) (Or.inl ⟨by rfl, ?_⟩) (by assumption) (fun hNew => ?_)
          rotate_left
          · intro w _
            go_simp
            try with_reducible rfl
          clear hHeld
          have hHeld := hNew
          clear hNew
          try simp only [List.getElem_toArray, List.getElem_cons_succ, List.getElem_cons_zero, Act.put, List.setIfInBounds_toArray, List.set_cons_zero, List.set_cons_succ]
          refine wpAnyL_load 1 (i := 7) (oi := _) (v := ?_) rfl rfl (by kernel_rfl) (by kernel_rfl) (by kernel_rfl) (by kernel_rfl) (by kernel_rfl) (by kernel_rfl) (fun _ _ _ h => h) (Or.inl ⟨by rfl, ?_⟩) (by assumption) (fun hNew => ?_)
          rotate_left
          · intro w hSw
            (try dsimp only at hSw)
            go_simp
            try with_reducible rfl
          clear hHeld
          have hHeld := hNew
          clear hNew
          try simp only [List.getElem_toArray, List.getElem_cons_succ, List.getElem_cons_zero, Act.put, List.setIfInBounds_toArray, List.set_cons_zero, List.set_cons_succ]
          refine wpAnyL_ready (rs := [8]) (by kernel_rfl) (by simp) ?_
          refine AllReadyL.cons (o := _) rfl (fun K hK => ?_) AllReadyL.nil
          try simp only [List.getElem_toArray, List.getElem_cons_succ, List.getElem_cons_zero]
          go_simp
          refine (CO.out _ HG3.out.drew).mono ?_
          rintro e w5 ⟨rfl, h3⟩
          have HG5 := Lib.hid (HG3.out.drew.step h3)
          clear h3
          clear hHeld
          refine hK.out _ _ ?_ (fun hHeld => ?_)
          · exact (HoldC.past (by kernel_rfl) (HoldC.past (by kernel_rfl) HoldC.nil))
          clear hK K
          try simp only [List.getElem_toArray, List.getElem_cons_succ, List.getElem_cons_zero, Act.put, List.setIfInBounds_toArray, List.set_cons_zero, List.set_cons_succ]
          refine wpAnyL_take (i := 9) (oi := _) (v := ?_) rfl (by kernel_rfl) (by kernel_rfl) (by kernel_rfl) (by kernel_rfl) (by kernel_rfl) (fun _ _ _ h => h) (Or.inl ⟨by rfl, ?_⟩) (by assumption) (fun hNew => ?_)
          rotate_left
          · intro w _
            go_simp
            try with_reducible rfl
          clear hHeld
          have hHeld := hNew
          clear hNew
          try simp only [List.getElem_toArray, List.getElem_cons_succ, List.getElem_cons_zero, Act.put, List.setIfInBounds_toArray, List.set_cons_zero, List.set_cons_succ]
          refine wpAnyL_take (i := 10) (oi := _) (v := ?_) rfl (by kernel_rfl) (by kernel_rfl) (by kernel_rfl) (by kernel_rfl) (by kernel_rfl) (fun _ _ _ h => h) (Or.inl ⟨by rfl, ?_⟩) (by assumption) (fun hNew => ?_)
          rotate_left
          · intro w _
            go_simp
            try with_reducible rfl
          clear hHeld
          have hHeld := hNew
          clear hNew
          try simp only [List.getElem_toArray, List.getElem_cons_succ, List.getElem_cons_zero, Act.put, List.setIfInBounds_toArray, List.set_cons_zero, List.set_cons_succ]
          refine wpAnyL_take (i := 11) (oi := _) (v := ?_) rfl (by kernel_rfl) (by kernel_rfl) (by kernel_rfl) (by kernel_rfl) (by kernel_rfl) (fun _ _ _ h => h) (Or.inl ⟨by rfl, ?_⟩) (by assumption) (fun hNew => ?_)
          rotate_left
          · intro w _
            go_simp
            try with_reducible rfl
          clear hHeld
          have hHeld := hNew
          clear hNew
          try simp only [List.getElem_toArray, List.getElem_cons_succ, List.getElem_cons_zero, Act.put, List.setIfInBounds_toArray, List.set_cons_zero, List.set_cons_succ]
          refine wpAnyL_take (i := 12) (oi := _) (v := ?_) rfl (by kernel_rfl) (by kernel_rfl) (by kernel_rfl) (by kernel_rfl) (by kernel_rfl) (fun _ _ _ h => h) (Or.inl ⟨by rfl, ?_⟩) (by assumption) (fun hNew => ?_)
          rotate_left
          · intro w _
            go_simp
            try with_reducible rfl
          clear hHeld
          have hHeld := hNew
          clear hNew
          try simp only [List.getElem_toArray, List.getElem_cons_succ, List.getElem_cons_zero, Act.put, List.setIfInBounds_toArray, List.set_cons_zero, List.set_cons_succ]
          refine wpAnyL_take (i := 13) (oi := _) (v := ?_) rfl (by kernel_rfl) (by kernel_rfl) (by kernel_rfl) (by kernel_rfl) (by kernel_rfl) (fun _ _ _ h => h) (Or.inl ⟨by rfl, ?_⟩) (by assumption) (fun hNew => ?_)
          rotate_left
          · intro w _
            go_simp
            try with_reducible rfl
          clear hHeld
          have hHeld := hNew
          clear hNew
          try simp only [List.getElem_toArray, List.getElem_cons_succ, List.getElem_cons_zero, Act.put, List.setIfInBounds_toArray, List.set_cons_zero, List.set_cons_succ]
          refine wpAnyL_done (by kernel_rfl) ?_ _
          clear hHeld
          clear p0 p1 p2 p3 o0 o1 o2 o3 o4 o5 o6 o7 c0 c1 c2 c3 c4 c5 c6 f0 f1 f2 f3 f4 f5 f6 hlt1 hlt2
          obtain ⟨⟨p0, p1, p2, p3⟩, ⟨o0, o1, o2, o3, o4, o5, o6, o7⟩, ⟨c0, c1, c2, c3, c4, c5, c6⟩, ⟨f0, f1, f2, f3, f4, f5, f6⟩, hlt1, hlt2⟩ := HG5.out.cells
          have hw := HWW.out
          obtain ⟨vf, hv, _, hbv, hlv⟩ := HG5.out.at_.flook HOK.out
          try dsimp only at hbv hlv
          obtain ⟨af, cf, rfl⟩ := hbv.slice
          have hv0 := hv 0
          rw [World.drewN_zero] at hv0
          have hv1 : (Instr.lookup 57 (.map (some c.f)) (.int .i64 (n : Int)) false).run Try.prog w5.drew = .ok (.slice af (ofO (s.F (n : Int))).length cf) w5.drew := hv 1
          have CC := Lib.hid (clone_any _ _ w5.drew (hbv.chg0 ((Chg.refl [] w5).drew)) (by have := HSZ.out; omega))
          clear hv hv0 hbv hlv
          go_wp2
          refine wp_region_L [(14, fun w' => w'.cell? ⟨c.p, 3, none⟩ = some (.map (some c.o))), (13, fun w' => w'.cell? ⟨c.p, 2, none⟩ = some (.map (some c.f))), (13, fun w' => (Instr.lookup 57 (.map (some c.f)) (.int .i64 (n : Int)) false).run Try.prog w' = .ok (.slice af (ofO (s.F (n : Int))).length cf) w')] (by kernel_rfl) ?_ (fun hHeld => ?_)
          · exact (HoldC.cons (p3) (HoldC.cons (p2) (HoldC.cons (hv1) HoldC.nil)))
          refine wpAnyL_take (i := 0) (oi := _) (v := ?_) rfl (by kernel_rfl) (by kernel_rfl) (by kernel_rfl) (by kernel_rfl) (by kernel_rfl) (fun _ _ _ h => h) (Or.inl ⟨by rfl, ?_⟩) (by assumption) (fun hNew => ?_)
          rotate_left
          · intro w _
            go_simp
            try with_reducible rfl
          clear hHeld
          have hHeld := hNew
          clear hNew
          try simp only [List.getElem_toArray, List.getElem_cons_succ, List.getElem_cons_zero, Act.put, List.setIfInBounds_toArray, List.set_cons_zero, List.set_cons_succ]
          refine wpAnyL_take (i := 1) (oi := _) (v := ?_) rfl (by kernel_rfl) (by kernel_rfl) (by kernel_rfl) (by kernel_rfl) (by kernel_rfl) (fun _ _ _ h => h) (Or.inl ⟨by rfl, ?_⟩) (by assumption) (fun hNew => ?_)
          rotate_left
          · intro w _
            go_simp
            try with_reducible rfl
          clear hHeld
          have hHeld := hNew
          clear hNew
          try simp only [List.getElem_toArray, List.getElem_cons_succ, List.getElem_cons_zero, Act.put, List.setIfInBounds_toArray, List.set_cons_zero, List.set_cons_succ]
          refine wpAnyL_take (i := 2) (oi := _) (v := ?_) rfl (by kernel_rfl) (by kernel_rfl) (by kernel_rfl) (by kernel_rfl) (by kernel_rfl) (fun _ _ _ h => h) (Or.inl ⟨by rfl, ?_⟩) (by assumption) (fun hNew => ?_)
          rotate_left
          · intro w _
            go_simp
            try with_reducible rfl
          clear hHeld
          have hHeld := hNew
          clear hNew
          try simp only [List.getElem_toArray, List.getElem_cons_succ, List.getElem_cons_zero, Act.put, List.setIfInBounds_toArray, List.set_cons_zero, List.set_cons_succ]
          refine wpAnyL_load 0 (i := 3) (oi := _) (v := ?_) rfl rfl (by kernel_rfl) (by kernel_rfl) (by kernel_rfl) (by kernel_rfl) (by kernel_rfl) (by kernel_rfl) (fun _ _ _ h => h) (Or.inl ⟨by rfl, ?_⟩) (by assumption) (fun hNew => ?_)
          rotate_left
          · intro w hSw
            (try dsimp only at hSw)
            go_simp
            try with_reducible rfl
          clear hHeld
          have hHeld := hNew
          clear hNew
          try simp only [List.getElem_toArray, List.getElem_cons_succ, List.getElem_cons_zero, Act.put, List.setIfInBounds_toArray, List.set_cons_zero, List.set_cons_succ]
          refine wpAnyL_take (i := 4) (oi := _) (v := ?_) rfl (by kernel_rfl) (by kernel_rfl) (by kernel_rfl) (by kernel_rfl) (by kernel_rfl) (fun _ _ _ h => h) (Or.inl ⟨by rfl, ?_⟩) (by assumption) (fun hNew => ?_)
          rotate_left
          · intro w _
            go_simp
            try with_reducible rfl
          clear hHeld
          have hHeld := hNew
          clear hNew
          try simp only [List.getElem_toArray, List.getElem_cons_succ, List.getElem_cons_zero, Act.put, List.setIfInBounds_toArray, List.set_cons_zero, List.set_cons_succ]
          refine wpAnyL_take (i := 5) (oi := _) (v := ?_) rfl (by kernel_rfl) (by kernel_rfl) (by kernel_rfl) (by kernel_rfl) (by kernel_rfl) (fun _ _ _ h => h) (Or.inl ⟨by rfl, ?_⟩) (by assumption) (fun hNew => ?_)
          rotate_left
          · intro w _
            go_simp
            try with_reducible rfl
          clear hHeld
          have hHeld := hNew
          clear hNew
          try simp only [List.getElem_toArray, List.getElem_cons_succ, List.getElem_cons_zero, Act.put, List.setIfInBounds_toArray, List.set_cons_zero, List.set_cons_succ]
          refine wpAnyL_take (i := 6) (oi := _) (v := ?_) rfl (by kernel_rfl) (by kernel_rfl) (by kernel_rfl) (by kernel_rfl) (by kernel_rfl) (fun _ _ _ h => h) (Or.inl ⟨by rfl, ?_⟩) (by assumption) (fun hNew => ?_)
          rotate_left
          · intro w _
            go_simp
            try with_reducible rfl
          clear hHeld
          have hHeld := hNew
          clear hNew
          try simp only [List.getElem_toArray, List.getElem_cons_succ, List.getElem_cons_zero, Act.put, List.setIfInBounds_toArray, List.set_cons_zero, List.set_cons_succ]
          refine wpAnyL_take (i := 7) (oi := _) (v := ?_) rfl (by kernel_rfl) (by kernel_rfl) (by kernel_rfl) (by kernel_rfl) (by kernel_rfl) (fun _ _ _ h => h) (Or.inl ⟨by rfl, ?_⟩) (by assumption) (fun hNew => ?_)
          rotate_left
          · intro w _
            go_simp
            try with_reducible rfl
          clear hHeld
          have hHeld := hNew
          clear hNew
          try simp only [List.getElem_toArray, List.getElem_cons_succ, List.getElem_cons_zero, Act.put, List.setIfInBounds_toArray, List.set_cons_zero, List.set_cons_succ]
          refine wpAnyL_take (i := 8) (oi := _) (v := ?_) rfl (by kernel_rfl) (by kernel_rfl) (by kernel_rfl) (by kernel_rfl) (by kernel_rfl) (fun _ _ _ h => h) (Or.inl ⟨by rfl, ?_⟩) (by assumption) (fun hNew => ?_)
          rotate_left
          · intro w _
            go_simp
            try with_reducible rfl
          clear hHeld
          have hHeld := hNew
          clear hNew
          try simp only [List.getElem_toArray, List.getElem_cons_succ, List.getElem_cons_zero, Act.put, List.setIfInBounds_toArray, List.set_cons_zero, List.set_cons_succ]
          refine wpAnyL_take (i := 9) (oi := _) (v := ?_) rfl (by kernel_rfl) (by kernel_rfl) (by kernel_rfl) (by kernel_rfl) (by kernel_rfl) (fun _ _ _ h => h) (Or.inl ⟨by rfl, ?_⟩) (by assumption) (fun hNew => ?_)
          rotate_left
          · intro w _
            go_simp
            try with_reducible rfl
          clear hHeld
          have hHeld := hNew
          clear hNew
          try simp only [List.getElem_toArray, List.getElem_cons_succ, List.getElem_cons_zero, Act.put, List.setIfInBounds_toArray, List.set_cons_zero, List.set_cons_succ]
          refine wpAnyL_load 1 (i := 10) (oi := _) (v := ?_) rfl rfl (by kernel_rfl) (by kernel_rfl) (by kernel_rfl) (by kernel_rfl) (by kernel_rfl) (by kernel_rfl) (fun _ _ _ h => h) (Or.inl ⟨by rfl, ?_⟩) (by assumption) (fun hNew => ?_)
          rotate_left
          · intro w hSw
            (try dsimp only at hSw)
            go_simp
            try with_reducible rfl
          clear hHeld
          have hHeld := hNew
          clear hNew
          try simp only [List.getElem_toArray, List.getElem_cons_succ, List.getElem_cons_zero, Act.put, List.setIfInBounds_toArray, List.set_cons_zero, List.set_cons_succ]
          refine wpAnyL_take (i := 11) (oi := _) (v := ?_) rfl (by kernel_rfl) (by kernel_rfl) (by kernel_rfl) (by kernel_rfl) (by kernel_rfl) (fun _ _ _ h => h) (Or.inl ⟨by rfl, ?_⟩) (by assumption) (fun hNew => ?_)
          rotate_left
          · intro w _
            go_simp
            try with_reducible rfl
          clear hHeld
          have hHeld := hNew
          clear hNew
          try simp only [List.getElem_toArray, List.getElem_cons_succ, List.getElem_cons_zero, Act.put, List.setIfInBounds_toArray, List.set_cons_zero, List.set_cons_succ]
          refine wpAnyL_load 2 (i := 12) (oi := _) (v := ?_) rfl rfl (by kernel_rfl) (by kernel_rfl) (by kernel_rfl) (by kernel_rfl) (by kernel_rfl) (by kernel_rfl) (fun _ _ _ h => h) (Or.inl ⟨by rfl, ?_⟩) (by assumption) (fun hNew => ?_)
          rotate_left
          · intro w hSw
            (try dsimp only at hSw)
            go_simp
            try with_reducible rfl
          clear hHeld
          have hHeld := hNew
          clear hNew
          try simp only [List.getElem_toArray, List.getElem_cons_succ, List.getElem_cons_zero, Act.put, List.setIfInBounds_toArray, List.set_cons_zero, List.set_cons_succ]
          refine wpAnyL_ready (rs := [13]) (by kernel_rfl) (by simp) ?_
          refine AllReadyL.cons (o := _) rfl (fun K hK => ?_) AllReadyL.nil
          try simp only [List.getElem_toArray, List.getElem_cons_succ, List.getElem_cons_zero]
          go_simp
          refine CC.out.mono ?_
          rintro e w6 ⟨vn, rfl, hr6, hn6, hc6⟩
          have HG6 := Lib.hid (HG5.out.drew.keep0 hc6)
          have HR6 := Lib.hid (Going.rows HG5.out.drew hc6 vn (fun g hg => ⟨hn6 g hg, hr6.lt g hg⟩))
          have HFR : Hid (Free w6 (vn.ownBlock.toList ++ (w.heap.size :: (w.heap.size + 1) :: X)) vn (ofO (s.F (n : Int)))) := Lib.hid ⟨hr6.bytes, fun _ g hg => List.mem_append_left _ (Option.mem_toList.2 hg)⟩
          clear hr6 hn6 hc6 hv1 CC
          clear p0 p1 p2 p3 o0 o1 o2 o3 o4 o5 o6 o7 c0 c1 c2 c3 c4 c5 c6 f0 f1 f2 f3 f4 f5 f6 hlt1 hlt2
          obtain ⟨⟨p0, p1, p2, p3⟩, ⟨o0, o1, o2, o3, o4, o5, o6, o7⟩, ⟨c0, c1, c2, c3, c4, c5, c6⟩, ⟨f0, f1, f2, f3, f4, f5, f6⟩, hlt1, hlt2⟩ := HG6.out.cells
          clear hHeld
          refine hK.out _ _ ?_ (fun hHeld => ?_)
          · exact (HoldC.cons (p3) (HoldC.past (by kernel_rfl) (HoldC.past (by kernel_rfl) HoldC.nil)))
          clear hK K
          try simp only [List.getElem_toArray, List.getElem_cons_succ, List.getElem_cons_zero, Act.put, List.setIfInBounds_toArray, List.set_cons_zero, List.set_cons_succ]
          refine wpAnyL_ready (rs := [14]) (by kernel_rfl) (by simp) ?_
          refine AllReadyL.cons (o := _) rfl (fun K hK => ?_) AllReadyL.nil
          try simp only [List.getElem_toArray, List.getElem_cons_succ, List.getElem_cons_zero]
          rw [if_pos (by rfl)]
          refine wp_oset _ (.tmp 51) (.tmp 54) (.tmp 61) (by rfl) c (by rfl) HR6.out HOW.out (a, hd) (by rfl) (HOP.out rfl) _ (by rfl) _ HFR.out ?_
          intro w7 h7 hs7
          have HG7 := Lib.hid (HG6.out.step (PAt.less h7 (fun x hx => List.mem_append_right _ hx)))
          clear h7 hs7 HFR HR6
          clear p0 p1 p2 p3 o0 o1 o2 o3 o4 o5 o6 o7 c0 c1 c2 c3 c4 c5 c6 f0 f1 f2 f3 f4 f5 f6 hlt1 hlt2
          obtain ⟨⟨p0, p1, p2, p3⟩, ⟨o0, o1, o2, o3, o4, o5, o6, o7⟩, ⟨c0, c1, c2, c3, c4, c5, c6⟩, ⟨f0, f1, f2, f3, f4, f5, f6⟩, hlt1, hlt2⟩ := HG7.out.cells
          clear hHeld
          refine hK.out _ _ ?_ (fun hHeld => ?_)
          · exact (HoldC.past (by kernel_rfl) (HoldC.past (by kernel_rfl) (HoldC.past (by kernel_rfl) HoldC.nil)))
          clear hK K
          try simp only [List.getElem_toArray, List.getElem_cons_succ, List.getElem_cons_zero, Act.put, List.setIfInBounds_toArray, List.set_cons_zero, List.set_cons_succ]
          refine wpAnyL_done (by kernel_rfl) ?_ _
          clear hHeld
          obtain ⟨vf, hv, _, hbv, hlv⟩ := HG7.out.at_.flook HOK.out
          try dsimp only at hbv hlv
          obtain ⟨af, cf, rfl⟩ := hbv.slice
          have hv0 := hv 0
          rw [World.drewN_zero] at hv0
          clear hv hbv hlv
          go_wp2
          obtain ⟨HBK, HAP⟩ := Going.done ⟨0, n, false, (ofO (s.F (n : Int))).length, hd, [], []⟩ { s with K := K2, O := upd s.O (a, hd) (ofO (s.F (n : Int))) } HE.out HG7.out rfl rfl (u0 := .int .i64 0) (u1 := .int .i64 (n : Int)) (u2 := .bool false) (u3 := .int .i64 ((ofO (s.F (n : Int))).length : Int)) (u4 := .int .i64 hd) rfl rfl rfl rfl rfl
          obtain ⟨⟨d0, d1, d2, d3, d4, d5, d6⟩, _⟩ := ans_cells HBK
          unfold set7 at d0 d1 d2 d3 d4 d5 d6
          exact bodyPost_ret (v := .agg #[.int .i64 0, .int .i64 (n : Int), .bool false, .int .i64 ((ofO (s.F (n : Int))).length : Int), .int .i64 hd, .slice none 0 0, .slice none 0 0]) (by simp [results, Try.results33, go_sem, d0, d1, d2, d3, d4, d5, d6]) rfl HAP
        · have hw2 : o.w = false := by simpa using hw
          have HE : Hid (Z = (⟨0, n, false, (ofO (s.F (n : Int))).length, hd, [], []⟩, { s with K := K2 })) := Lib.hid (by rw [HZ.out, if_neg (by simp), if_neg (by simp), if_neg (by simp), if_neg hw])
          have HWW := Lib.hid hw2
          clear HZ hw hw2
          go_enter Try.func33, Try.ntmps33
          go_wp2
          try rw [← HW1.out]
          refine wp_region_L [(6, fun w' => w'.cell? ⟨c.p, 0, none⟩ = some (.pointer (some ⟨c.t, 0, none⟩))), (6, fun w' => w'.cell? ⟨w.heap.size, 1, none⟩ = some (.string (NM.mk o.p)))] (by kernel_rfl) ?_ (fun hHeld => ?_)
          · exact (HoldC.cons (p0) (HoldC.cons (o1) HoldC.nil))
          refine wpAnyL_take (i := 0) (oi := _) (v := ?_) rfl (by kernel_rfl) (by kernel_rfl) (by kernel_rfl) (by kernel_rfl) (by kernel_rfl) (fun _ _ _ h => h) (Or.inl ⟨by rfl, ?_⟩) (by assumption) (fun hNew => ?_)
          rotate_left
          · intro w _
            go_simp
            try with_reducible rfl
          clear hHeld
          have hHeld := hNew
          clear hNew
          try simp only [List.getElem_toArray, List.getElem_cons_succ, List.getElem_cons_zero, Act.put, List.setIfInBounds_toArray, List.set_cons_zero, List.set_cons_succ]
          refine wpAnyL_take (i := 1) (oi := _) (v := ?_) rfl (by kernel_rfl) (by kernel_rfl) (by kernel_rfl) (by kernel_rfl) (by kernel_rfl) (fun _ _ _ h => h) (Or.inl ⟨by rfl, ?_⟩) (by assumption) (fun hNew => ?_)
          rotate_left
          · intro w _
            go_simp
            try with_reducible rfl
          clear hHeld
          have hHeld := hNew
          clear hNew
          try simp only [List.getElem_toArray, List.getElem_cons_succ, List.getElem_cons_zero, Act.put, List.setIfInBounds_toArray, List.set_cons_zero, List.set_cons_succ]
          refine wpAnyL_take (i := 2) (oi := _) (v := ?_) rfl (by kernel_rfl) (by kernel_rfl) (by kernel_rfl) (by kernel_rfl) (by kernel_rfl) (fun _ _ _ h => h) (Or.inl ⟨by rfl, ?_⟩) (by assumption) (fun hNew => ?_)
          rotate_left
          · intro w _
            go_simp
            try with_reducible rfl
          clear hHeld
          have hHeld := hNew
          clear hNew
          try simp only [List.getElem_toArray, List.getElem_cons_succ, List.getElem_cons_zero, Act.put, List.setIfInBounds_toArray, List.set_cons_zero, List.set_cons_succ]
          refine wpAnyL_load 0 (i := 3) (oi := _) (v := ?_) rfl rfl (by kernel_rfl) (by kernel_rfl) (by kernel_rfl) (by kernel_rfl) (by kernel_rfl) (by kernel_rfl) (fun _ _ _ h => h) (Or.inl ⟨by rfl, ?_⟩) (by assumption) (fun hNew => ?_)
          rotate_left
          · intro w hSw
            (try dsimp only at hSw)
            go_simp
            try with_reducible rfl
          clear hHeld
          have hHeld := hNew
          clear hNew
          try simp only [List.getElem_toArray, List.getElem_cons_succ, List.getElem_cons_zero, Act.put, List.setIfInBounds_toArray, List.set_cons_zero, List.set_cons_succ]
          refine wpAnyL_take (i := 4) (oi := _) (v := ?_) rfl (by kernel_rfl) (by kernel_rfl) (by kernel_rfl) (by kernel_rfl) (by kernel_rfl) (fun _ _ _ h => h) (Or.inl ⟨by rfl, ?_⟩) (by assumption) (fun hNew => ?_)
          rotate_left
          · intro w _
            go_simp
            try with_reducible rfl
          clear hHeld
          have hHeld := hNew
          clear hNew
          try simp only [List.getElem_toArray, List.getElem_cons_succ, List.getElem_cons_zero, Act.put, List.setIfInBounds_toArray, List.set_cons_zero, List.set_cons_succ]
          refine wpAnyL_load 1 (i := 5) (oi := _) (v := ?_) rfl rfl (by kernel_rfl) (by kernel_rfl) (by kernel_rfl) (by kernel_rfl) (by kernel_rfl) (by kernel_rfl) (fun _ _ _ h => h) (Or.inl ⟨by rfl, ?_⟩) (by assumption) (fun hNew => ?_)
          rotate_left
          · intro w hSw
            (try dsimp only at hSw)
            go_simp
            try with_reducible rfl
          clear hHeld
          have hHeld := hNew
          clear hNew
          try simp only [List.getElem_toArray, List.getElem_cons_succ, List.getElem_cons_zero, Act.put, List.setIfInBounds_toArray, List.set_cons_zero, List.set_cons_succ]
          refine wpAnyL_ready (rs := [6]) (by kernel_rfl) (by simp) ?_
          refine AllReadyL.cons (o := _) rfl (fun K hK => ?_) AllReadyL.nil
          try simp only [List.getElem_toArray, List.getElem_cons_succ, List.getElem_cons_zero]
          go_simp
          refine (CL.out _ HG.out.drew).mono ?_
          rintro e w3 ⟨rfl, h3⟩
          have HG3 := Lib.hid (HG.out.drew.step h3)
          clear h3
          clear hHeld
          refine hK.out _ _ ?_ (fun hHeld => ?_)
          · exact (HoldC.past (by kernel_rfl) (HoldC.past (by kernel_rfl) HoldC.nil))
          clear hK K
          try simp only [List.getElem_toArray, List.getElem_cons_succ, List.getElem_cons_zero, Act.put, List.setIfInBounds_toArray, List.set_cons_zero, List.set_cons_succ]
          refine wpAnyL_take (i := 7) (oi := _) (v := ?_) rfl (by kernel_rfl) (by kernel_rfl) (by kernel_rfl) (by kernel_rfl) (by kernel_rfl) (fun _ _ _ h => h) (Or.inl ⟨by rfl, ?_⟩) (by assumption) (fun hNew => ?_)
          rotate_left
          · intro w _
            go_simp
            try with_reducible rfl
          clear hHeld
          have hHeld := hNew
          clear hNew
          try simp only [List.getElem_toArray, List.getElem_cons_succ, List.getElem_cons_zero, Act.put, List.setIfInBounds_toArray, List.set_cons_zero, List.set_cons_succ]
          refine wpAnyL_take (i := 8) (oi := _) (v := ?_) rfl (by kernel_rfl) (by kernel_rfl) (by kernel_rfl) (by kernel_rfl) (by kernel_rfl) (fun _ _ _ h => h) (Or.inl ⟨by rfl, ?_⟩) (by assumption) (fun hNew => ?_)
          rotate_left
          · intro w _
            go_simp
            try with_reducible rfl
          clear hHeld
          have hHeld := hNew
          clear hNew
          try simp only [List.getElem_toArray, List.getElem_cons_succ, List.getElem_cons_zero, Act.put, List.setIfInBounds_toArray, List.set_cons_zero, List.set_cons_succ]
          refine wpAnyL_take (i := 9) (oi := _) (v := ?_) rfl (by kernel_rfl) (by kernel_rfl) (by kernel_rfl) (by kernel_rfl) (by kernel_rfl) (fun _ _ _ h => h) (Or.inl ⟨by rfl, ?_⟩) (by assumption) (fun hNew => ?_)
          rotate_left
          · intro w _
            go_simp
            try with_reducible rfl
          clear hHeld
          have hHeld := hNew
          clear hNew
          try simp only [List.getElem_toArray, List.getElem_cons_succ, List.getElem_cons_zero, Act.put, List.setIfInBounds_toArray, List.set_cons_zero, List.set_cons_succ]
          refine wpAnyL_take (i := 10) (oi := _) (v := ?_) rfl (by kernel_rfl) (by kernel_rfl) (by kernel_rfl) (by kernel_rfl) (by kernel_rfl) (fun _ _ _ h => h) (Or.inl ⟨by rfl, ?_⟩) (by assumption) (fun hNew => ?_)
          rotate_left
          · intro w _
            go_simp
            try with_reducible rfl
          clear hHeld
          have hHeld := hNew
          clear hNew
          try simp only [List.getElem_toArray, List.getElem_cons_succ, List.getElem_cons_zero, Act.put, List.setIfInBounds_toArray, List.set_cons_zero, List.set_cons_succ]
          refine wpAnyL_take (i := 11) (oi := _) (v := ?_) rfl (by kernel_rfl) (by kernel_rfl) (by kernel_rfl) (by kernel_rfl) (by kernel_rfl) (fun _ _ _ h => h) (Or.inl ⟨by rfl, ?_⟩) (by assumption) (fun hNew => ?_)
          rotate_left
          · intro w _
            go_simp
            try with_reducible rfl
          clear hHeld
          have hHeld := hNew
          clear hNew
          try simp only [List.getElem_toArray, List.getElem_cons_succ, List.getElem_cons_zero, Act.put, List.setIfInBounds_toArray, List.set_cons_zero, List.set_cons_succ]
          refine wpAnyL_take (i := 12) (oi := _) (v := ?_) rfl (by kernel_rfl) (by kernel_rfl) (by kernel_rfl) (by kernel_rfl) (by kernel_rfl) (fun _ _ _ h => h) (Or.inl ⟨by rfl, ?_⟩) (by assumption) (fun hNew => ?_)
          rotate_left
          · intro w _
            go_simp
            try with_reducible rfl
          clear hHeld
          have hHeld := hNew
          clear hNew
          try simp only [List.getElem_toArray, List.getElem_cons_succ, List.getElem_cons_zero, Act.put, List.setIfInBounds_toArray, List.set_cons_zero, List.set_cons_succ]
          refine wpAnyL_take (i := 13) (oi := _) (v := ?_) rfl (by kernel_rfl) (by kernel_rfl) (by kernel_rfl) (by kernel_rfl) (by kernel_rfl) (fun _ _ _ h => h) (Or.inl ⟨by rfl, ?_⟩) (by assumption) (fun hNew => ?_)
          rotate_left
          · intro w _
            go_simp
            try with_reducible rfl
          clear hHeld
          have hHeld := hNew
          clear hNew
          try simp only [List.getElem_toArray, List.getElem_cons_succ, List.getElem_cons_zero, Act.put, List.setIfInBounds_toArray, List.set_cons_zero, List.set_cons_succ]
          refine wpAnyL_done (by kernel_rfl) ?_ _
          clear hHeld
          clear p0 p1 p2 p3 o0 o1 o2 o3 o4 o5 o6 o7 c0 c1 c2 c3 c4 c5 c6 f0 f1 f2 f3 f4 f5 f6 hlt1 hlt2
          obtain ⟨⟨p0, p1, p2, p3⟩, ⟨o0, o1, o2, o3, o4, o5, o6, o7⟩, ⟨c0, c1, c2, c3, c4, c5, c6⟩, ⟨f0, f1, f2, f3, f4, f5, f6⟩, hlt1, hlt2⟩ := HG3.out.cells
          go_wp2
          refine wp_region_L [(8, fun w' => w'.cell? ⟨c.p, 1, none⟩ = some (.pointer (some ⟨c.k, 0, none⟩))), (8, fun w' => w'.cell? ⟨w.heap.size, 6, none⟩ = some (.bool o.w))] (by kernel_rfl) ?_ (fun hHeld => ?_)
          · exact (HoldC.cons (p1) (HoldC.cons (o6) HoldC.nil))
          refine wpAnyL_take (i := 0) (oi := _) (v := ?_) rfl (by kernel_rfl) (by kernel_rfl) (by kernel_rfl) (by kernel_rfl) (by kernel_rfl) (fun _ _ _ h => h) (Or.inl ⟨by rfl, ?_⟩) (by assumption) (fun hNew => ?_)
          rotate_left
          · intro w _
            go_simp
            try with_reducible rfl
          clear hHeld
          have hHeld := hNew
          clear hNew
          try simp only [List.getElem_toArray, List.getElem_cons_succ, List.getElem_cons_zero, Act.put, List.setIfInBounds_toArray, List.set_cons_zero, List.set_cons_succ]
          refine wpAnyL_take (i := 1) (oi := _) (v := ?_) rfl (by kernel_rfl) (by kernel_rfl) (by kernel_rfl) (by kernel_rfl) (by kernel_rfl) (fun _ _ _ h => h) (Or.inl ⟨by rfl, ?_⟩) (by assumption) (fun hNew => ?_)
          rotate_left
          · intro w _
            go_simp
            try with_reducible rfl
          clear hHeld
          have hHeld := hNew
          clear hNew
          try simp only [List.getElem_toArray, List.getElem_cons_succ, List.getElem_cons_zero, Act.put, List.setIfInBounds_toArray, List.set_cons_zero, List.set_cons_succ]
          refine wpAnyL_take (i := 2) (oi := _) (v := ?_) rfl (by kernel_rfl) (by kernel_rfl) (by kernel_rfl) (by kernel_rfl) (by kernel_rfl) (fun _ _ _ h => h) (Or.inl ⟨by rfl, ?_⟩) (by assumption) (fun hNew => ?_)
          rotate_left
          · intro w _
            go_simp
            try with_reducible rfl
          clear hHeld
          have hHeld := hNew
          clear hNew
          try simp only [List.getElem_toArray, List.getElem_cons_succ, List.getElem_cons_zero, Act.put, List.setIfInBounds_toArray, List.set_cons_zero, List.set_cons_succ]
          refine wpAnyL_load 0 (i := 3) (oi := _) (v := ?_) rfl rfl (by kernel_rfl) (by kernel_rfl) (by kernel_rfl) (by kernel_rfl) (by kernel_rfl) (by kernel_rfl) (fun _ _ _ h => h) (Or.inl ⟨by rfl, ?_⟩) (by assumption) (fun hNew => ?_)
          rotate_left
          · intro w hSw
            (try dsimp only at hSw)
            go_simp
            try with_reducible rfl
          clear hHeld
          have hHeld := hNew
          clear hNew
          try simp only [List.getElem_toArray, List.getElem_cons_succ, List.getElem_cons_zero, Act.put, List.setIfInBounds_toArray, List.set_cons_zero, List.set_cons_succ]
          refine wpAnyL_take (i := 4) (oi := _) (v := ?_) rfl (by kernel_rfl) (by kernel_rfl) (by kernel_rfl) (by kernel_rfl) (by kernel_rfl) (fun _ _ _ h => h) (Or.inl ⟨by rfl, ?_⟩) (by assumption) (fun hNew => ?_)
          rotate_left
          · intro w _
            go_simp
            try with_reducible rfl
          clear hHeld
          have hHeld := hNew
          clear hNew
          try simp only [List.getElem_toArray, List.getElem_cons_succ, List.getElem_cons_zero, Act.put, List.setIfInBounds_toArray, List.set_cons_zero, List.set_cons_succ]
          refine wpAnyL_take (i := 5) (oi := _) (v := ?_) rfl (by kernel_rfl) (by kernel_rfl) (by kernel_rfl) (by kernel_rfl) (by kernel_rfl) (fun _ _ _ h => h) (Or.inl ⟨by rfl, ?_⟩) (by assumption) (fun hNew => ?_)
          rotate_left
          · intro w _
            go_simp
            try with_reducible rfl
          clear hHeld
          have hHeld := hNew
          clear hNew
          try simp only [List.getElem_toArray, List.getElem_cons_succ, List.getElem_cons_zero, Act.put, List.setIfInBounds_toArray, List.set_cons_zero, List.set_cons_succ]
          refine wpAnyL_take (i := 6) (oi := _) (v := ?_) rfl (by kernel_rfl) (by kernel_rfl) (by kernel_rfl) (by kernel_rfl) (by kernel_rfl) (fun _ _ _ h => h) (Or.inl ⟨by rfl, ?_⟩) (by assumption) (fun hNew => ?_)
          rotate_left
          · intro w _
            go_simp
            try with_reducible rfl
          clear hHeld
          have hHeld := hNew
          clear hNew
          try simp only [List.getElem_toArray, List.getElem_cons_succ, List.getElem_cons_zero, Act.put, List.setIfInBounds_toArray, List.set_cons_zero, List.set_cons_succ]
          refine wpAnyL_load 1 (i := 7) (oi := _) (v := ?_) rfl rfl (by kernel_rfl) (by kernel_rfl) (by kernel_rfl) (by kernel_rfl) (by kernel_rfl) (by kernel_rfl) (fun _ _ _ h => h) (Or.inl ⟨by rfl, ?_⟩) (by assumption) (fun hNew => ?_)
          rotate_left
          · intro w hSw
            (try dsimp only at hSw)
            go_simp
            try with_reducible rfl
          clear hHeld
          have hHeld := hNew
          clear hNew
          try simp only [List.getElem_toArray, List.getElem_cons_succ, List.getElem_cons_zero, Act.put, List.setIfInBounds_toArray, List.set_cons_zero, List.set_cons_succ]
          refine wpAnyL_ready (rs := [8]) (by kernel_rfl) (by simp) ?_
          refine AllReadyL.cons (o := _) rfl (fun K hK => ?_) AllReadyL.nil
          try simp only [List.getElem_toArray, List.getElem_cons_succ, List.getElem_cons_zero]
          go_simp
          refine (CO.out _ HG3.out.drew).mono ?_
          rintro e w5 ⟨rfl, h3⟩
          have HG5 := Lib.hid (HG3.out.drew.step h3)
          clear h3
          clear hHeld
          refine hK.out _ _ ?_ (fun hHeld => ?_)
          · exact (HoldC.past (by kernel_rfl) (HoldC.past (by kernel_rfl) HoldC.nil))
          clear hK K
          try simp only [List.getElem_toArray, List.getElem_cons_succ, List.getElem_cons_zero, Act.put, List.setIfInBounds_toArray, List.set_cons_zero, List.set_cons_succ]
          refine wpAnyL_take (i := 9) (oi := _) (v := ?_) rfl (by kernel_rfl) (by kernel_rfl) (by kernel_rfl) (by kernel_rfl) (by kernel_rfl) (fun _ _ _ h => h) (Or.inl ⟨by rfl, ?_⟩) (by assumption) (fun hNew => ?_)
          rotate_left
          · intro w _
            go_simp
            try with_reducible rfl
          clear hHeld
          have hHeld := hNew
          clear hNew
          try simp only [List.getElem_toArray, List.getElem_cons_succ, List.getElem_cons_zero, Act.put, List.setIfInBounds_toArray, List.set_cons_zero, List.set_cons_succ]
          refine wpAnyL_take (i := 10) (oi := _) (v := ?_) rfl (by kernel_rfl) (by kernel_rfl) (by kernel_rfl) (by kernel_rfl) (by kernel_rfl) (fun _ _ _ h => h) (Or.inl ⟨by rfl, ?_⟩) (by assumption) (fun hNew => ?_)
          rotate_left
          · intro w _
            go_simp
            try with_reducible rfl
          clear hHeld
          have hHeld := hNew
          clear hNew
          try simp only [List.getElem_toArray, List.getElem_cons_succ, List.getElem_cons_zero, Act.put, List.setIfInBounds_toArray, List.set_cons_zero, List.set_cons_succ]
          refine wpAnyL_take (i := 11) (oi := _) (v := ?_) rfl (by kernel_rfl) (by kernel_rfl) (by kernel_rfl) (by kernel_rfl) (by kernel_rfl) (fun _ _ _ h => h) (Or.inl ⟨by rfl, ?_⟩) (by assumption) (fun hNew => ?_)
          rotate_left
          · intro w _
            go_simp
            try with_reducible rfl
          clear hHeld
          have hHeld := hNew
          clear hNew
          try simp only [List.getElem_toArray, List.getElem_cons_succ, List.getElem_cons_zero, Act.put, List.setIfInBounds_toArray, List.set_cons_zero, List.set_cons_succ]
          refine wpAnyL_take (i := 12) (oi := _) (v := ?_) rfl (by kernel_rfl) (by kernel_rfl) (by kernel_rfl) (by kernel_rfl) (by kernel_rfl) (fun _ _ _ h => h) (Or.inl ⟨by rfl, ?_⟩) (by assumption) (fun hNew => ?_)
          rotate_left
          · intro w _
            go_simp
            try with_reducible rfl
          clear hHeld
          have hHeld := hNew
          clear hNew
          try simp only [List.getElem_toArray, List.getElem_cons_succ, List.getElem_cons_zero, Act.put, List.setIfInBounds_toArray, List.set_cons_zero, List.set_cons_succ]
          refine wpAnyL_take (i := 13) (oi := _) (v := ?_) rfl (by kernel_rfl) (by kernel_rfl) (by kernel_rfl) (by kernel_rfl) (by kernel_rfl) (fun _ _ _ h => h) (Or.inl ⟨by rfl, ?_⟩) (by assumption) (fun hNew => ?_)
          rotate_left
          · intro w _
            go_simp
            try with_reducible rfl
          clear hHeld
          have hHeld := hNew
          clear hNew
          try simp only [List.getElem_toArray, List.getElem_cons_succ, List.getElem_cons_zero, Act.put, List.setIfInBounds_toArray, List.set_cons_zero, List.set_cons_succ]
          refine wpAnyL_done (by kernel_rfl) ?_ _
          clear hHeld
          clear p0 p1 p2 p3 o0 o1 o2 o3 o4 o5 o6 o7 c0 c1 c2 c3 c4 c5 c6 f0 f1 f2 f3 f4 f5 f6 hlt1 hlt2
          obtain ⟨⟨p0, p1, p2, p3⟩, ⟨o0, o1, o2, o3, o4, o5, o6, o7⟩, ⟨c0, c1, c2, c3, c4, c5, c6⟩, ⟨f0, f1, f2, f3, f4, f5, f6⟩, hlt1, hlt2⟩ := HG5.out.cells
          have hw2 := HWW.out
          obtain ⟨vf, hv, _, hbv, hlv⟩ := HG5.out.at_.flook HOK.out
          try dsimp only at hbv hlv
          obtain ⟨af, cf, rfl⟩ := hbv.slice
          have hv0 := hv 0
          rw [World.drewN_zero] at hv0
          clear hv hbv hlv
          go_wp2
          obtain ⟨HBK, HAP⟩ := Going.done ⟨0, n, false, (ofO (s.F (n : Int))).length, hd, [], []⟩ { s with K := K2 } HE.out HG5.out rfl rfl (u0 := .int .i64 0) (u1 := .int .i64 (n : Int)) (u2 := .bool false) (u3 := .int .i64 ((ofO (s.F (n : Int))).length : Int)) (u4 := .int .i64 hd) rfl rfl rfl rfl rfl
          obtain ⟨⟨d0, d1, d2, d3, d4, d5, d6⟩, _⟩ := ans_cells HBK
          unfold set7 at d0 d1 d2 d3 d4 d5 d6
          exact bodyPost_ret (v := .agg #[.int .i64 0, .int .i64 (n : Int), .bool false, .int .i64 ((ofO (s.F (n : Int))).length : Int), .int .i64 hd, .slice none 0 0, .slice none 0 0]) (by simp [results, Try.results33, go_sem, d0, d1, d2, d3, d4, d5, d6]) rfl HAP
      · have hb2 : (e2 != 0) = true := by simpa using he2
        have HE : Hid (Z = (no e2, { s with K := K2 })) := Lib.hid (by rw [HZ.out, if_neg (by simp), if_neg (by simp), if_pos he2])
        clear he2 HZ
        go_enter Try.func33, Try.ntmps33
        go_wp2
        try rw [← HW1.out]
        refine wp_region_L [(6, fun w' => w'.cell? ⟨c.p, 0, none⟩ = some (.pointer (some ⟨c.t, 0, none⟩))), (6, fun w' => w'.cell? ⟨w.heap.size, 1, none⟩ = some (.string (NM.mk o.p)))] (by kernel_rfl) ?_ (fun hHeld => ?_)
        · exact (HoldC.cons (p0) (HoldC.cons (o1) HoldC.nil))
        refine wpAnyL_take (i := 0) (oi := _) (v := ?_) rfl (by kernel_rfl) (by kernel_rfl) (by kernel_rfl) (by kernel_rfl) (by kernel_rfl) (fun _ _ _ h => h) (Or.inl ⟨by rfl, ?_⟩) (by assumption) (fun hNew => ?_)
        rotate_left
        · intro w _
          go_simp
          try with_reducible rfl
        clear hHeld
        have hHeld := hNew
        clear hNew
        try simp only [List.getElem_toArray, List.getElem_cons_succ, List.getElem_cons_zero, Act.put, List.setIfInBounds_toArray, List.set_cons_zero, List.set_cons_succ]
        refine wpAnyL_take (i := 1) (oi := _) (v := ?_) rfl (by kernel_rfl) (by kernel_rfl) (by kernel_rfl) (by kernel_rfl) (by kernel_rfl) (fun _ _ _ h => h) (Or.inl ⟨by rfl, ?_⟩) (by assumption) (fun hNew => ?_)
        rotate_left
        · intro w _
          go_simp
          try with_reducible rfl
        clear hHeld
        have hHeld := hNew
        clear hNew
        try simp only [List.getElem_toArray, List.getElem_cons_succ, List.getElem_cons_zero, Act.put, List.setIfInBounds_toArray, List.set_cons_zero, List.set_cons_succ]
        refine wpAnyL_take (i := 2) (oi := _) (v := ?_) rfl (by kernel_rfl) (by kernel_rfl) (by kernel_rfl) (by kernel_rfl) (by kernel_rfl) (fun _ _ _ h => h) (Or.inl ⟨by rfl, ?_⟩) (by assumption) (fun hNew => ?_)
        rotate_left
        · intro w _
          go_simp
          try with_reducible rfl
        clear hHeld
        have hHeld := hNew
        clear hNew
        try simp only [List.getElem_toArray, List.getElem_cons_succ, List.getElem_cons_zero, Act.put, List.setIfInBounds_toArray, List.set_cons_zero, List.set_cons_succ]
        refine wpAnyL_load 0 (i := 3) (oi := _) (v := ?_) rfl rfl (by kernel_rfl) (by kernel_rfl) (by kernel_rfl) (by kernel_rfl) (by kernel_rfl) (by kernel_rfl) (fun _ _ _ h => h) (Or.inl ⟨by rfl, ?_⟩) (by assumption) (fun hNew => ?_)
        rotate_left
        · intro w hSw
          (try dsimp only at hSw)
          go_simp
          try with_reducible rfl
        clear hHeld
        have hHeld := hNew
        clear hNew
        try simp only [List.getElem_toArray, List.getElem_cons_succ, List.getElem_cons_zero, Act.put, List.setIfInBounds_toArray, List.set_cons_zero, List.set_cons_succ]
        refine wpAnyL_take (i := 4) (oi := _) (v := ?_) rfl (by kernel_rfl) (by kernel_rfl) (by kernel_rfl) (by kernel_rfl) (by kernel_rfl) (fun _ _ _ h => h) (Or.inl ⟨by rfl, ?_⟩) (by assumption) (fun hNew => ?_)
        rotate_left
        · intro w _
          go_simp
          try with_reducible rfl
        clear hHeld
        have hHeld := hNew
        clear hNew
        try simp only [List.getElem_toArray, List.getElem_cons_succ, List.getElem_cons_zero, Act.put, List.setIfInBounds_toArray, List.set_cons_zero, List.set_cons_succ]
        refine wpAnyL_load 1 (i := 5) (oi := _) (v := ?_) rfl rfl (by kernel_rfl) (by kernel_rfl) (by kernel_rfl) (by kernel_rfl) (by kernel_rfl) (by kernel_rfl) (fun _ _ _ h => h) (Or.inl ⟨by rfl, ?_⟩) (by assumption) (fun hNew => ?_)
        rotate_left
        · intro w hSw
          (try dsimp only at hSw)
          go_simp
          try with_reducible rfl
        clear hHeld
        have hHeld := hNew
        clear hNew
        try simp only [List.getElem_toArray, List.getElem_cons_succ, List.getElem_cons_zero, Act.put, List.setIfInBounds_toArray, List.set_cons_zero, List.set_cons_succ]
        refine wpAnyL_ready (rs := [6]) (by kernel_rfl) (by simp) ?_
        refine AllReadyL.cons (o := _) rfl (fun K hK => ?_) AllReadyL.nil
        try simp only [List.getElem_toArray, List.getElem_cons_succ, List.getElem_cons_zero]
        go_simp
        refine (CL.out _ HG.out.drew).mono ?_
        rintro e w3 ⟨rfl, h3⟩
        have HG3 := Lib.hid (HG.out.drew.step h3)
        clear h3
        clear hHeld
        refine hK.out _ _ ?_ (fun hHeld => ?_)
        · exact (HoldC.past (by kernel_rfl) (HoldC.past (by kernel_rfl) HoldC.nil))
        clear hK K
        try simp only [List.getElem_toArray, List.getElem_cons_succ, List.getElem_cons_zero, Act.put, List.setIfInBounds_toArray, List.set_cons_zero, List.set_cons_succ]
        refine wpAnyL_take (i := 7) (oi := _) (v := ?_) rfl (by kernel_rfl) (by kernel_rfl) (by kernel_rfl) (by kernel_rfl) (by kernel_rfl) (fun _ _ _ h => h) (Or.inl ⟨by rfl, ?_⟩) (by assumption) (fun hNew => ?_)
        rotate_left
        · intro w _
          go_simp
          try with_reducible rfl
        clear hHeld
        have hHeld := hNew
        clear hNew
        try simp only [List.getElem_toArray, List.getElem_cons_succ, List.getElem_cons_zero, Act.put, List.setIfInBounds_toArray, List.set_cons_zero, List.set_cons_succ]
        refine wpAnyL_take (i := 8) (oi := _) (v := ?_) rfl (by kernel_rfl) (by kernel_rfl) (by kernel_rfl) (by kernel_rfl) (by kernel_rfl) (fun _ _ _ h => h) (Or.inl ⟨by rfl, ?_⟩) (by assumption) (fun hNew => ?_)
        rotate_left
        · intro w _
          go_simp
          try with_reducible rfl
        clear hHeld
        have hHeld := hNew
        clear hNew
        try simp only [List.getElem_toArray, List.getElem_cons_succ, List.getElem_cons_zero, Act.put, List.setIfInBounds_toArray, List.set_cons_zero, List.set_cons_succ]
        refine wpAnyL_take (i := 9) (oi := _) (v := ?_) rfl (by kernel_rfl) (by kernel_rfl) (by kernel_rfl) (by kernel_rfl) (by kernel_rfl) (fun _ _ _ h => h) (Or.inl ⟨by rfl, ?_⟩) (by assumption) (fun hNew => ?_)
        rotate_left
        · intro w _
          go_simp
          try with_reducible rfl
        clear hHeld
        have hHeld := hNew
        clear hNew
        try simp only [List.getElem_toArray, List.getElem_cons_succ, List.getElem_cons_zero, Act.put, List.setIfInBounds_toArray, List.set_cons_zero, List.set_cons_succ]
        refine wpAnyL_take (i := 10) (oi := _) (v := ?_) rfl (by kernel_rfl) (by kernel_rfl) (by kernel_rfl) (by kernel_rfl) (by kernel_rfl) (fun _ _ _ h => h) (Or.inl ⟨by rfl, ?_⟩) (by assumption) (fun hNew => ?_)
        rotate_left
        · intro w _
          go_simp
          try with_reducible rfl
        clear hHeld
        have hHeld := hNew
        clear hNew
        try simp only [List.getElem_toArray, List.getElem_cons_succ, List.getElem_cons_zero, Act.put, List.setIfInBounds_toArray, List.set_cons_zero, List.set_cons_succ]
        refine wpAnyL_take (i := 11) (oi := _) (v := ?_) rfl (by kernel_rfl) (by kernel_rfl) (by kernel_rfl) (by kernel_rfl) (by kernel_rfl) (fun _ _ _ h => h) (Or.inl ⟨by rfl, ?_⟩) (by assumption) (fun hNew => ?_)
        rotate_left
        · intro w _
          go_simp
          try with_reducible rfl
        clear hHeld
        have hHeld := hNew
        clear hNew
        try simp only [List.getElem_toArray, List.getElem_cons_succ, List.getElem_cons_zero, Act.put, List.setIfInBounds_toArray, List.set_cons_zero, List.set_cons_succ]
        refine wpAnyL_take (i := 12) (oi := _) (v := ?_) rfl (by kernel_rfl) (by kernel_rfl) (by kernel_rfl) (by kernel_rfl) (by kernel_rfl) (fun _ _ _ h => h) (Or.inl ⟨by rfl, ?_⟩) (by assumption) (fun hNew => ?_)
        rotate_left
        · intro w _
          go_simp
          try with_reducible rfl
        clear hHeld
        have hHeld := hNew
        clear hNew
        try simp only [List.getElem_toArray, List.getElem_cons_succ, List.getElem_cons_zero, Act.put, List.setIfInBounds_toArray, List.set_cons_zero, List.set_cons_succ]
        refine wpAnyL_take (i := 13) (oi := _) (v := ?_) rfl (by kernel_rfl) (by kernel_rfl) (by kernel_rfl) (by kernel_rfl) (by kernel_rfl) (fun _ _ _ h => h) (Or.inl ⟨by rfl, ?_⟩) (by assumption) (fun hNew => ?_)
        rotate_left
        · intro w _
          go_simp
          try with_reducible rfl
        clear hHeld
        have hHeld := hNew
        clear hNew
        try simp only [List.getElem_toArray, List.getElem_cons_succ, List.getElem_cons_zero, Act.put, List.setIfInBounds_toArray, List.set_cons_zero, List.set_cons_succ]
        refine wpAnyL_done (by kernel_rfl) ?_ _
        clear hHeld
        clear p0 p1 p2 p3 o0 o1 o2 o3 o4 o5 o6 o7 c0 c1 c2 c3 c4 c5 c6 f0 f1 f2 f3 f4 f5 f6 hlt1 hlt2
        obtain ⟨⟨p0, p1, p2, p3⟩, ⟨o0, o1, o2, o3, o4, o5, o6, o7⟩, ⟨c0, c1, c2, c3, c4, c5, c6⟩, ⟨f0, f1, f2, f3, f4, f5, f6⟩, hlt1, hlt2⟩ := HG3.out.cells
        go_wp2
        refine wp_region_L [(8, fun w' => w'.cell? ⟨c.p, 1, none⟩ = some (.pointer (some ⟨c.k, 0, none⟩))), (8, fun w' => w'.cell? ⟨w.heap.size, 6, none⟩ = some (.bool o.w))] (by kernel_rfl) ?_ (fun hHeld => ?_)
        · exact (HoldC.cons (p1) (HoldC.cons (o6) HoldC.nil))
        refine wpAnyL_take (i := 0) (oi := _) (v := ?_) rfl (by kernel_rfl) (by kernel_rfl) (by kernel_rfl) (by kernel_rfl) (by kernel_rfl) (fun _ _ _ h => h) (Or.inl ⟨by rfl, ?_⟩) (by assumption) (fun hNew => ?_)
        rotate_left
        · intro w _
          go_simp
          try with_reducible rfl
        clear hHeld
        have hHeld := hNew
        clear hNew
        try simp only [List.getElem_toArray, List.getElem_cons_succ, List.getElem_cons_zero, Act.put, List.setIfInBounds_toArray, List.set_cons_zero, List.set_cons_succ]
        refine wpAnyL_take (i := 1) (oi := _) (v := ?_) rfl (by kernel_rfl) (by kernel_rfl) (by kernel_rfl) (by kernel_rfl) (by kernel_rfl) (fun _ _ _ h => h) (Or.inl ⟨by rfl, ?_⟩) (by assumption) (fun hNew => ?_)
        rotate_left
        · intro w _
          go_simp
          try with_reducible rfl
        clear hHeld
        have hHeld := hNew
        clear hNew
        try simp only [List.getElem_toArray, List.getElem_cons_succ, List.getElem_cons_zero, Act.put, List.setIfInBounds_toArray, List.set_cons_zero, List.set_cons_succ]
        refine wpAnyL_take (i := 2) (oi := _) (v := ?_) rfl (by kernel_rfl) (by kernel_rfl) (by kernel_rfl) (by kernel_rfl) (by kernel_rfl) (fun _ _ _ h => h) (Or.inl ⟨by rfl, ?_⟩) (by assumption) (fun hNew => ?_)
        rotate_left
        · intro w _
          go_simp
          try with_reducible rfl
        clear hHeld
        have hHeld := hNew
        clear hNew
        try simp only [List.getElem_toArray, List.getElem_cons_succ, List.getElem_cons_zero, Act.put, List.setIfInBounds_toArray, List.set_cons_zero, List.set_cons_succ]
        refine wpAnyL_load 0 (i := 3) (oi := _) (v := ?_) rfl rfl (by kernel_rfl) (by kernel_rfl) (by kernel_rfl) (by kernel_rfl) (by kernel_rfl) (by kernel_rfl) (fun _ _ _ h => h) (Or.inl ⟨by rfl, ?_⟩) (by assumption) (fun hNew => ?_)
        rotate_left
        · intro w hSw
          (try dsimp only at hSw)
          go_simp
          try with_reducible rfl
        clear hHeld
        have hHeld := hNew
        clear hNew
        try simp only [List.getElem_toArray, List.getElem_cons_succ, List.getElem_cons_zero, Act.put, List.setIfInBounds_toArray, List.set_cons_zero, List.set_cons_succ]
        refine wpAnyL_take (i := 4) (oi := _) (v := ?_) rfl (by kernel_rfl) (by kernel_rfl) (by kernel_rfl) (by kernel_rfl) (by kernel_rfl) (fun _ _ _ h => h) (Or.inl ⟨by rfl, ?_⟩) (by assumption) (fun hNew => ?_)
        rotate_left
        · intro w _
          go_simp
          try with_reducible rfl
        clear hHeld
        have hHeld := hNew
        clear hNew
        try simp only [List.getElem_toArray, List.getElem_cons_succ, List.getElem_cons_zero, Act.put, List.setIfInBounds_toArray, List.set_cons_zero, List.set_cons_succ]
        refine wpAnyL_take (i := 5) (oi := _) (v := ?_) rfl (by kernel_rfl) (by kernel_rfl) (by kernel_rfl) (by kernel_rfl) (by kernel_rfl) (fun _ _ _ h => h) (Or.inl ⟨by rfl, ?_⟩) (by assumption) (fun hNew => ?_)
        rotate_left
        · intro w _
          go_simp
          try with_reducible rfl
        clear hHeld
        have hHeld := hNew
        clear hNew
        try simp only [List.getElem_toArray, List.getElem_cons_succ, List.getElem_cons_zero, Act.put, List.setIfInBounds_toArray, List.set_cons_zero, List.set_cons_succ]
        refine wpAnyL_take (i := 6) (oi := _) (v := ?_) rfl (by kernel_rfl) (by kernel_rfl) (by kernel_rfl) (by kernel_rfl) (by kernel_rfl) (fun _ _ _ h => h) (Or.inl ⟨by rfl, ?_⟩) (by assumption) (fun hNew => ?_)
        rotate_left
        · intro w _
          go_simp
          try with_reducible rfl
        clear hHeld
        have hHeld := hNew
        clear hNew
        try simp only [List.getElem_toArray, List.getElem_cons_succ, List.getElem_cons_zero, Act.put, List.setIfInBounds_toArray, List.set_cons_zero, List.set_cons_succ]
        refine wpAnyL_load 1 (i := 7) (oi := _) (v := ?_) rfl rfl (by kernel_rfl) (by kernel_rfl) (by kernel_rfl) (by kernel_rfl) (by kernel_rfl) (by kernel_rfl) (fun _ _ _ h => h) (Or.inl ⟨by rfl, ?_⟩) (by assumption) (fun hNew => ?_)
        rotate_left
        · intro w hSw
          (try dsimp only at hSw)
          go_simp
          try with_reducible rfl
        clear hHeld
        have hHeld := hNew
        clear hNew
        try simp only [List.getElem_toArray, List.getElem_cons_succ, List.getElem_cons_zero, Act.put, List.setIfInBounds_toArray, List.set_cons_zero, List.set_cons_succ]
        refine wpAnyL_ready (rs := [8]) (by kernel_rfl) (by simp) ?_
        refine AllReadyL.cons (o := _) rfl (fun K hK => ?_) AllReadyL.nil
        try simp only [List.getElem_toArray, List.getElem_cons_succ, List.getElem_cons_zero]
        go_simp
        refine (CO.out _ HG3.out.drew).mono ?_
        rintro e w5 ⟨rfl, h3⟩
        have HG5 := Lib.hid (HG3.out.drew.step h3)
        clear h3
        clear hHeld
        refine hK.out _ _ ?_ (fun hHeld => ?_)
        · exact (HoldC.past (by kernel_rfl) (HoldC.past (by kernel_rfl) HoldC.nil))
        clear hK K
        try simp only [List.getElem_toArray, List.getElem_cons_succ, List.getElem_cons_zero, Act.put, List.setIfInBounds_toArray, List.set_cons_zero, List.set_cons_succ]
        refine wpAnyL_take (i := 9) (oi := _) (v := ?_) rfl (by kernel_rfl) (by kernel_rfl) (by kernel_rfl) (by kernel_rfl) (by kernel_rfl) (fun _ _ _ h => h) (Or.inl ⟨by rfl, ?_⟩) (by assumption) (fun hNew => ?_)
        rotate_left
        · intro w _
          go_simp
          try with_reducible rfl
        clear hHeld
        have hHeld := hNew
        clear hNew
        try simp only [List.getElem_toArray, List.getElem_cons_succ, List.getElem_cons_zero, Act.put, List.setIfInBounds_toArray, List.set_cons_zero, List.set_cons_succ]
        refine wpAnyL_take (i := 10) (oi := _) (v := ?_) rfl (by kernel_rfl) (by kernel_rfl) (by kernel_rfl) (by kernel_rfl) (by kernel_rfl) (fun _ _ _ h => h) (Or.inl ⟨by rfl, ?_⟩) (by assumption) (fun hNew => ?_)
        rotate_left
        · intro w _
          go_simp
          try with_reducible rfl
        clear hHeld
        have hHeld := hNew
        clear hNew
        try simp only [List.getElem_toArray, List.getElem_cons_succ, List.getElem_cons_zero, Act.put, List.setIfInBounds_toArray, List.set_cons_zero, List.set_cons_succ]
        refine wpAnyL_take (i := 11) (oi := _) (v := ?_) rfl (by kernel_rfl) (by kernel_rfl) (by kernel_rfl) (by kernel_rfl) (by kernel_rfl) (fun _ _ _ h => h) (Or.inl ⟨by rfl, ?_⟩) (by assumption) (fun hNew => ?_)
        rotate_left
        · intro w _
          go_simp
          try with_reducible rfl
        clear hHeld
        have hHeld := hNew
        clear hNew
        try simp only [List.getElem_toArray, List.getElem_cons_succ, List.getElem_cons_zero, Act.put, List.setIfInBounds_toArray, List.set_cons_zero, List.set_cons_succ]
        refine wpAnyL_take (i := 12) (oi := _) (v := ?_) rfl (by kernel_rfl) (by kernel_rfl) (by kernel_rfl) (by kernel_rfl) (by kernel_rfl) (fun _ _ _ h => h) (Or.inl ⟨by rfl, ?_⟩) (by assumption) (fun hNew => ?_)
        rotate_left
        · intro w _
          go_simp
          try with_reducible rfl
        clear hHeld
        have hHeld := hNew
        clear hNew
        try simp only [List.getElem_toArray, List.getElem_cons_succ, List.getElem_cons_zero, Act.put, List.setIfInBounds_toArray, List.set_cons_zero, List.set_cons_succ]
        refine wpAnyL_take (i := 13) (oi := _) (v := ?_) rfl (by kernel_rfl) (by kernel_rfl) (by kernel_rfl) (by kernel_rfl) (by kernel_rfl) (fun _ _ _ h => h) (Or.inl ⟨by rfl, ?_⟩) (by assumption) (fun hNew => ?_)
        rotate_left
        · intro w _
          go_simp
          try with_reducible rfl
        clear hHeld
        have hHeld := hNew
        clear hNew
        try simp only [List.getElem_toArray, List.getElem_cons_succ, List.getElem_cons_zero, Act.put, List.setIfInBounds_toArray, List.set_cons_zero, List.set_cons_succ]
        refine wpAnyL_done (by kernel_rfl) ?_ _
        clear hHeld
        clear p0 p1 p2 p3 o0 o1 o2 o3 o4 o5 o6 o7 c0 c1 c2 c3 c4 c5 c6 f0 f1 f2 f3 f4 f5 f6 hlt1 hlt2
        obtain ⟨⟨p0, p1, p2, p3⟩, ⟨o0, o1, o2, o3, o4, o5, o6, o7⟩, ⟨c0, c1, c2, c3, c4, c5, c6⟩, ⟨f0, f1, f2, f3, f4, f5, f6⟩, hlt1, hlt2⟩ := HG5.out.cells
        go_wp2_with fail
        refine (no_any e2 _).mono ?_
        rintro e w9 ⟨rfl, h9⟩
        have HG6 := Lib.hid (HG5.out.keep0 h9)
        clear h9
        unfold ansV no
        obtain ⟨⟨p0, p1, p2, p3⟩, ⟨o0, o1, o2, o3, o4, o5, o6, o7⟩, ⟨c0, c1, c2, c3, c4, c5, c6⟩, ⟨f0, f1, f2, f3, f4, f5, f6⟩, hlt1, hlt2⟩ := HG6.out.cells
        go_wp2
        obtain ⟨HBK, HAP⟩ := Going.done (no e2) { s with K := K2 } HE.out HG6.out rfl rfl (u0 := .int .i64 e2) (u1 := .int .i64 0) (u2 := .bool false) (u3 := .int .i64 0) (u4 := .int .i64 0) rfl rfl rfl rfl rfl
        obtain ⟨⟨d0, d1, d2, d3, d4, d5, d6⟩, _⟩ := ans_cells HBK
        unfold set7 at d0 d1 d2 d3 d4 d5 d6
        exact bodyPost_ret (v := .agg #[.int .i64 e2, .int .i64 0, .bool false, .int .i64 0, .int .i64 0, .slice none 0 0, .slice none 0 0]) (by simp [results, Try.results33, go_sem, d0, d1, d2, d3, d4, d5, d6]) rfl HAP
    · have HE : Hid (Z = (no 9, s)) := Lib.hid (by rw [HZ.out, if_neg (by simp), if_pos rfl])
      clear HZ
      go_enter Try.func33, Try.ntmps33
      go_wp2
      try rw [← HW1.out]
      refine wp_region_L [(6, fun w' => w'.cell? ⟨c.p, 0, none⟩ = some (.pointer (some ⟨c.t, 0, none⟩))), (6, fun w' => w'.cell? ⟨w.heap.size, 1, none⟩ = some (.string (NM.mk o.p)))] (by kernel_rfl) ?_ (fun hHeld => ?_)
      · exact (HoldC.cons (p0) (HoldC.cons (o1) HoldC.nil))
      refine wpAnyL_take (i := 0) (oi := _) (v := ?_) rfl (by kernel_rfl) (by kernel_rfl) (by kernel_rfl) (by kernel_rfl) (by kernel_rfl) (fun _ _ _ h => h) (Or.inl ⟨by rfl, ?_⟩) (by assumption) (fun hNew => ?_)
      rotate_left
      · intro w _
        go_simp
        try with_reducible rfl
      clear hHeld
      have hHeld := hNew
      clear hNew
      try simp only [List.getElem_toArray, List.getElem_cons_succ, List.getElem_cons_zero, Act.put, List.setIfInBounds_toArray, List.set_cons_zero, List.set_cons_succ]
      refine wpAnyL_take (i := 1) (oi := _) (v := ?_) rfl (by kernel_rfl) (by kernel_rfl) (by kernel_rfl) (by kernel_rfl) (by kernel_rfl) (fun _ _ _ h => h) (Or.inl ⟨by rfl, ?_⟩) (by assumption) (fun hNew => ?_)
      rotate_left
      · intro w _
        go_simp
        try with_reducible rfl
      clear hHeld
      have hHeld := hNew
      clear hNew
      try simp only [List.getElem_toArray, List.getElem_cons_succ, List.getElem_cons_zero, Act.put, List.setIfInBounds_toArray, List.set_cons_zero, List.set_cons_succ]
      refine wpAnyL_take (i := 2) (oi := _) (v := ?_) rfl (by kernel_rfl) (by kernel_rfl) (by kernel_rfl) (by kernel_rfl) (by kernel_rfl) (fun _ _ _ h => h) (Or.inl ⟨by rfl, ?_⟩) (by assumption) (fun hNew => ?_)
      rotate_left
      · intro w _
        go_simp
        try with_reducible rfl
      clear hHeld
      have hHeld := hNew
      clear hNew
      try simp only [List.getElem_toArray, List.getElem_cons_succ, List.getElem_cons_zero, Act.put, List.setIfInBounds_toArray, List.set_cons_zero, List.set_cons_succ]
      refine wpAnyL_load 0 (i := 3) (oi := _) (v := ?_) rfl rfl (by kernel_rfl) (by kernel_rfl) (by kernel_rfl) (by kernel_rfl) (by kernel_rfl) (by kernel_rfl) (fun _ _ _ h => h) (Or.inl ⟨by rfl, ?_⟩) (by assumption) (fun hNew => ?_)
      rotate_left
      · intro w hSw
        (try dsimp only at hSw)
        go_simp
        try with_reducible rfl
      clear hHeld
      have hHeld := hNew
      clear hNew
      try simp only [List.getElem_toArray, List.getElem_cons_succ, List.getElem_cons_zero, Act.put, List.setIfInBounds_toArray, List.set_cons_zero, List.set_cons_succ]
      refine wpAnyL_take (i := 4) (oi := _) (v := ?_) rfl (by kernel_rfl) (by kernel_rfl) (by kernel_rfl) (by kernel_rfl) (by kernel_rfl) (fun _ _ _ h => h) (Or.inl ⟨by rfl, ?_⟩) (by assumption) (fun hNew => ?_)
      rotate_left
      · intro w _
        go_simp
        try with_reducible rfl
      clear hHeld
      have hHeld := hNew
      clear hNew
      try simp only [List.getElem_toArray, List.getElem_cons_succ, List.getElem_cons_zero, Act.put, List.setIfInBounds_toArray, List.set_cons_zero, List.set_cons_succ]
      refine wpAnyL_load 1 (i := 5) (oi := _) (v := ?_) rfl rfl (by kernel_rfl) (by kernel_rfl) (by kernel_rfl) (by kernel_rfl) (by kernel_rfl) (by kernel_rfl) (fun _ _ _ h => h) (Or.inl ⟨by rfl, ?_⟩) (by assumption) (fun hNew => ?_)
      rotate_left
      · intro w hSw
        (try dsimp only at hSw)
        go_simp
        try with_reducible rfl
      clear hHeld
      have hHeld := hNew
      clear hNew
      try simp only [List.getElem_toArray, List.getElem_cons_succ, List.getElem_cons_zero, Act.put, List.setIfInBounds_toArray, List.set_cons_zero, List.set_cons_succ]
      refine wpAnyL_ready (rs := [6]) (by kernel_rfl) (by simp) ?_
      refine AllReadyL.cons (o := _) rfl (fun K hK => ?_) AllReadyL.nil
      try simp only [List.getElem_toArray, List.getElem_cons_succ, List.getElem_cons_zero]
      go_simp
      refine (CL.out _ HG.out.drew).mono ?_
      rintro e w3 ⟨rfl, h3⟩
      have HG3 := Lib.hid (HG.out.drew.step h3)
      clear h3
      clear hHeld
      refine hK.out _ _ ?_ (fun hHeld => ?_)
      · exact (HoldC.past (by kernel_rfl) (HoldC.past (by kernel_rfl) HoldC.nil))
      clear hK K
      try simp only [List.getElem_toArray, List.getElem_cons_succ, List.getElem_cons_zero, Act.put, List.setIfInBounds_toArray, List.set_cons_zero, List.set_cons_succ]
      refine wpAnyL_take (i := 7) (oi := _) (v := ?_) rfl (by kernel_rfl) (by kernel_rfl) (by kernel_rfl) (by kernel_rfl) (by kernel_rfl) (fun _ _ _ h => h) (Or.inl ⟨by rfl, ?_⟩) (by assumption) (fun hNew => ?_)
      rotate_left
      · intro w _
        go_simp
        try with_reducible rfl
      clear hHeld
      have hHeld := hNew
      clear hNew
      try simp only [List.getElem_toArray, List.getElem_cons_succ, List.getElem_cons_zero, Act.put, List.setIfInBounds_toArray, List.set_cons_zero, List.set_cons_succ]
      refine wpAnyL_take (i := 8) (oi := _) (v := ?_) rfl (by kernel_rfl) (by kernel_rfl) (by kernel_rfl) (by kernel_rfl) (by kernel_rfl) (fun _ _ _ h => h) (Or.inl ⟨by rfl, ?_⟩) (by assumption) (fun hNew => ?_)
      rotate_left
      · intro w _
        go_simp
        try with_reducible rfl
      clear hHeld
      have hHeld := hNew
      clear hNew
      try simp only [List.getElem_toArray, List.getElem_cons_succ, List.getElem_cons_zero, Act.put, List.setIfInBounds_toArray, List.set_cons_zero, List.set_cons_succ]
      refine wpAnyL_take (i := 9) (oi := _) (v := ?_) rfl (by kernel_rfl) (by kernel_rfl) (by kernel_rfl) (by kernel_rfl) (by kernel_rfl) (fun _ _ _ h => h) (Or.inl ⟨by rfl, ?_⟩) (by assumption) (fun hNew => ?_)
      rotate_left
      · intro w _
        go_simp
        try with_reducible rfl
      clear hHeld
      have hHeld := hNew
      clear hNew
      try simp only [List.getElem_toArray, List.getElem_cons_succ, List.getElem_cons_zero, Act.put, List.setIfInBounds_toArray, List.set_cons_zero, List.set_cons_succ]
      refine wpAnyL_take (i := 10) (oi := _) (v := ?_) rfl (by kernel_rfl) (by kernel_rfl) (by kernel_rfl) (by kernel_rfl) (by kernel_rfl) (fun _ _ _ h => h) (Or.inl ⟨by rfl, ?_⟩) (by assumption) (fun hNew => ?_)
      rotate_left
      · intro w _
        go_simp
        try with_reducible rfl
      clear hHeld
      have hHeld := hNew
      clear hNew
      try simp only [List.getElem_toArray, List.getElem_cons_succ, List.getElem_cons_zero, Act.put, List.setIfInBounds_toArray, List.set_cons_zero, List.set_cons_succ]
      refine wpAnyL_take (i := 11) (oi := _) (v := ?_) rfl (by kernel_rfl) (by kernel_rfl) (by kernel_rfl) (by kernel_rfl) (by kernel_rfl) (fun _ _ _ h => h) (Or.inl ⟨by rfl, ?_⟩) (by assumption) (fun hNew => ?_)
      rotate_left
      · intro w _
        go_simp
        try with_reducible rfl
      clear hHeld
      have hHeld := hNew
      clear hNew
      try simp only [List.getElem_toArray, List.getElem_cons_succ, List.getElem_cons_zero, Act.put, List.setIfInBounds_toArray, List.set_cons_zero, List.set_cons_succ]
      refine wpAnyL_take (i := 12) (oi := _) (v := ?_) rfl (by kernel_rfl) (by kernel_rfl) (by kernel_rfl) (by kernel_rfl) (by kernel_rfl) (fun _ _ _ h => h) (Or.inl ⟨by rfl, ?_⟩) (by assumption) (fun hNew => ?_)
      rotate_left
      · intro w _
        go_simp
        try with_reducible rfl
      clear hHeld
      have hHeld := hNew
      clear hNew
      try simp only [List.getElem_toArray, List.getElem_cons_succ, List.getElem_cons_zero, Act.put, List.setIfInBounds_toArray, List.set_cons_zero, List.set_cons_succ]
      refine wpAnyL_take (i := 13) (oi := _) (v := ?_) rfl (by kernel_rfl) (by kernel_rfl) (by kernel_rfl) (by kernel_rfl) (by kernel_rfl) (fun _ _ _ h => h) (Or.inl ⟨by rfl, ?_⟩) (by assumption) (fun hNew => ?_)
      rotate_left
      · intro w _
        go_simp
        try with_reducible rfl
      clear hHeld
      have hHeld := hNew
      clear hNew
      try simp only [List.getElem_toArray, List.getElem_cons_succ, List.getElem_cons_zero, Act.put, List.setIfInBounds_toArray, List.set_cons_zero, List.set_cons_succ]
      refine wpAnyL_done (by kernel_rfl) ?_ _
      clear hHeld
      clear p0 p1 p2 p3 o0 o1 o2 o3 o4 o5 o6 o7 c0 c1 c2 c3 c4 c5 c6 f0 f1 f2 f3 f4 f5 f6 hlt1 hlt2
      obtain ⟨⟨p0, p1, p2, p3⟩, ⟨o0, o1, o2, o3, o4, o5, o6, o7⟩, ⟨c0, c1, c2, c3, c4, c5, c6⟩, ⟨f0, f1, f2, f3, f4, f5, f6⟩, hlt1, hlt2⟩ := HG3.out.cells
      go_wp2_with fail
      refine (no_any 9 _).mono ?_
      rintro e w9 ⟨rfl, h9⟩
      have HG4 := Lib.hid (HG3.out.keep0 h9)
      clear h9
      unfold ansV no
      obtain ⟨⟨p0, p1, p2, p3⟩, ⟨o0, o1, o2, o3, o4, o5, o6, o7⟩, ⟨c0, c1, c2, c3, c4, c5, c6⟩, ⟨f0, f1, f2, f3, f4, f5, f6⟩, hlt1, hlt2⟩ := HG4.out.cells
      go_wp2
      obtain ⟨HBK, HAP⟩ := Going.done (no 9) s HE.out HG4.out rfl rfl (u0 := .int .i64 9) (u1 := .int .i64 0) (u2 := .bool false) (u3 := .int .i64 0) (u4 := .int .i64 0) rfl rfl rfl rfl rfl
      obtain ⟨⟨d0, d1, d2, d3, d4, d5, d6⟩, _⟩ := ans_cells HBK
      unfold set7 at d0 d1 d2 d3 d4 d5 d6
      exact bodyPost_ret (v := .agg #[.int .i64 9, .int .i64 0, .bool false, .int .i64 0, .int .i64 0, .slice none 0 0, .slice none 0 0]) (by simp [results, Try.results33, go_sem, d0, d1, d2, d3, d4, d5, d6]) rfl HAP
  · have hb0 : (e0 != 0) = true := by simpa using he
    have HE : Hid (Z = (no e0, s)) := Lib.hid (by rw [HZ.out, if_pos he])
    clear he HZ
    go_enter Try.func33, Try.ntmps33
    go_wp2
    try rw [← HW1.out]
    refine wp_region_L [(6, fun w' => w'.cell? ⟨c.p, 0, none⟩ = some (.pointer (some ⟨c.t, 0, none⟩))), (6, fun w' => w'.cell? ⟨w.heap.size, 1, none⟩ = some (.string (NM.mk o.p)))] (by kernel_rfl) ?_ (fun hHeld => ?_)
    · exact (HoldC.cons (p0) (HoldC.cons (o1) HoldC.nil))
    refine wpAnyL_take (i := 0) (oi := _) (v := ?_) rfl (by kernel_rfl) (by kernel_rfl) (by kernel_rfl) (by kernel_rfl) (by kernel_rfl) (fun _ _ _ h => h) (Or.inl ⟨by rfl, ?_⟩) (by assumption) (fun hNew => ?_)
    rotate_left
    · intro w _
      go_simp
      try with_reducible rfl
    clear hHeld
    have hHeld := hNew
    clear hNew
    try simp only [List.getElem_toArray, List.getElem_cons_succ, List.getElem_cons_zero, Act.put, List.setIfInBounds_toArray, List.set_cons_zero, List.set_cons_succ]
    refine wpAnyL_take (i := 1) (oi := _) (v := ?_) rfl (by kernel_rfl) (by kernel_rfl) (by kernel_rfl) (by kernel_rfl) (by kernel_rfl) (fun _ _ _ h => h) (Or.inl ⟨by rfl, ?_⟩) (by assumption) (fun hNew => ?_)
    rotate_left
    · intro w _
      go_simp
      try with_reducible rfl
    clear hHeld
    have hHeld := hNew
    clear hNew
    try simp only [List.getElem_toArray, List.getElem_cons_succ, List.getElem_cons_zero, Act.put, List.setIfInBounds_toArray, List.set_cons_zero, List.set_cons_succ]
    refine wpAnyL_take (i := 2) (oi := _) (v := ?_) rfl (by kernel_rfl) (by kernel_rfl) (by kernel_rfl) (by kernel_rfl) (by kernel_rfl) (fun _ _ _ h => h) (Or.inl ⟨by rfl, ?_⟩) (by assumption) (fun hNew => ?_)
    rotate_left
    · intro w _
      go_simp
      try with_reducible rfl
    clear hHeld
    have hHeld := hNew
    clear hNew
    try simp only [List.getElem_toArray, List.getElem_cons_succ, List.getElem_cons_zero, Act.put, List.setIfInBounds_toArray, List.set_cons_zero, List.set_cons_succ]
    refine wpAnyL_load 0 (i := 3) (oi := _) (v := ?_) rfl rfl (by kernel_rfl) (by kernel_rfl) (by kernel_rfl) (by kernel_rfl) (by kernel_rfl) (by kernel_rfl) (fun _ _ _ h => h) (Or.inl ⟨by rfl, ?_⟩) (by assumption) (fun hNew => ?_)
    rotate_left
    · intro w hSw
      (try dsimp only at hSw)
      go_simp
      try with_reducible rfl
    clear hHeld
    have hHeld := hNew
    clear hNew
    try simp only [List.getElem_toArray, List.getElem_cons_succ, List.getElem_cons_zero, Act.put, List.setIfInBounds_toArray, List.set_cons_zero, List.set_cons_succ]
    refine wpAnyL_take (i := 4) (oi := _) (v := ?_) rfl (by kernel_rfl) (by kernel_rfl) (by kernel_rfl) (by kernel_rfl) (by kernel_rfl) (fun _ _ _ h => h) (Or.inl ⟨by rfl, ?_⟩) (by assumption) (fun hNew => ?_)
    rotate_left
    · intro w _
      go_simp
      try with_reducible rfl
    clear hHeld
    have hHeld := hNew
    clear hNew
    try simp only [List.getElem_toArray, List.getElem_cons_succ, List.getElem_cons_zero, Act.put, List.setIfInBounds_toArray, List.set_cons_zero, List.set_cons_succ]
    refine wpAnyL_load 1 (i := 5) (oi := _) (v := ?_) rfl rfl (by kernel_rfl) (by kernel_rfl) (by kernel_rfl) (by kernel_rfl) (by kernel_rfl) (by kernel_rfl) (fun _ _ _ h => h) (Or.inl ⟨by rfl, ?_⟩) (by assumption) (fun hNew => ?_)
    rotate_left
    · intro w hSw
      (try dsimp only at hSw)
      go_simp
      try with_reducible rfl
    clear hHeld
    have hHeld := hNew
    clear hNew
    try simp only [List.getElem_toArray, List.getElem_cons_succ, List.getElem_cons_zero, Act.put, List.setIfInBounds_toArray, List.set_cons_zero, List.set_cons_succ]
    refine wpAnyL_ready (rs := [6]) (by kernel_rfl) (by simp) ?_
    refine AllReadyL.cons (o := _) rfl (fun K hK => ?_) AllReadyL.nil
    try simp only [List.getElem_toArray, List.getElem_cons_succ, List.getElem_cons_zero]
    go_simp
    refine (CL.out _ HG.out.drew).mono ?_
    rintro e w3 ⟨rfl, h3⟩
    have HG3 := Lib.hid (HG.out.drew.step h3)
    clear h3
    clear hHeld
    refine hK.out _ _ ?_ (fun hHeld => ?_)
    · exact (HoldC.past (by kernel_rfl) (HoldC.past (by kernel_rfl) HoldC.nil))
    clear hK K
    try simp only [List.getElem_toArray, List.getElem_cons_succ, List.getElem_cons_zero, Act.put, List.setIfInBounds_toArray, List.set_cons_zero, List.set_cons_succ]
    refine wpAnyL_take (i := 7) (oi := _) (v := ?_) rfl (by kernel_rfl) (by kernel_rfl) (by kernel_rfl) (by kernel_rfl) (by kernel_rfl) (fun _ _ _ h => h) (Or.inl ⟨by rfl, ?_⟩) (by assumption) (fun hNew => ?_)
    rotate_left
    · intro w _
      go_simp
      try with_reducible rfl
    clear hHeld
    have hHeld := hNew
    clear hNew
    try simp only [List.getElem_toArray, List.getElem_cons_succ, List.getElem_cons_zero, Act.put, List.setIfInBounds_toArray, List.set_cons_zero, List.set_cons_succ]
    refine wpAnyL_take (i := 8) (oi := _) (v := ?_) rfl (by kernel_rfl) (by kernel_rfl) (by kernel_rfl) (by kernel_rfl) (by kernel_rfl) (fun _ _ _ h => h) (Or.inl ⟨by rfl, ?_⟩) (by assumption) (fun hNew => ?_)
    rotate_left
    · intro w _
      go_simp
      try with_reducible rfl
    clear hHeld
    have hHeld := hNew
    clear hNew
    try simp only [List.getElem_toArray, List.getElem_cons_succ, List.getElem_cons_zero, Act.put, List.setIfInBounds_toArray, List.set_cons_zero, List.set_cons_succ]
    refine wpAnyL_take (i := 9) (oi := _) (v := ?_) rfl (by kernel_rfl) (by kernel_rfl) (by kernel_rfl) (by kernel_rfl) (by kernel_rfl) (fun _ _ _ h => h) (Or.inl ⟨by rfl, ?_⟩) (by assumption) (fun hNew => ?_)
    rotate_left
    · intro w _
      go_simp
      try with_reducible rfl
    clear hHeld
    have hHeld := hNew
    clear hNew
    try simp only [List.getElem_toArray, List.getElem_cons_succ, List.getElem_cons_zero, Act.put, List.setIfInBounds_toArray, List.set_cons_zero, List.set_cons_succ]
    refine wpAnyL_take (i := 10) (oi := _) (v := ?_) rfl (by kernel_rfl) (by kernel_rfl) (by kernel_rfl) (by kernel_rfl) (by kernel_rfl) (fun _ _ _ h => h) (Or.inl ⟨by rfl, ?_⟩) (by assumption) (fun hNew => ?_)
    rotate_left
    · intro w _
      go_simp
      try with_reducible rfl
    clear hHeld
    have hHeld := hNew
    clear hNew
    try simp only [List.getElem_toArray, List.getElem_cons_succ, List.getElem_cons_zero, Act.put, List.setIfInBounds_toArray, List.set_cons_zero, List.set_cons_succ]
    refine wpAnyL_take (i := 11) (oi := _) (v := ?_) rfl (by kernel_rfl) (by kernel_rfl) (by kernel_rfl) (by kernel_rfl) (by kernel_rfl) (fun _ _ _ h => h) (Or.inl ⟨by rfl, ?_⟩) (by assumption) (fun hNew => ?_)
    rotate_left
    · intro w _
      go_simp
      try with_reducible rfl
    clear hHeld
    have hHeld := hNew
    clear hNew
    try simp only [List.getElem_toArray, List.getElem_cons_succ, List.getElem_cons_zero, Act.put, List.setIfInBounds_toArray, List.set_cons_zero, List.set_cons_succ]
    refine wpAnyL_take (i := 12) (oi := _) (v := ?_) rfl (by kernel_rfl) (by kernel_rfl) (by kernel_rfl) (by kernel_rfl) (by kernel_rfl) (fun _ _ _ h => h) (Or.inl ⟨by rfl, ?_⟩) (by assumption) (fun hNew => ?_)
    rotate_left
    · intro w _
      go_simp
      try with_reducible rfl
    clear hHeld
    have hHeld := hNew
    clear hNew
    try simp only [List.getElem_toArray, List.getElem_cons_succ, List.getElem_cons_zero, Act.put, List.setIfInBounds_toArray, List.set_cons_zero, List.set_cons_succ]
    refine wpAnyL_take (i := 13) (oi := _) (v := ?_) rfl (by kernel_rfl) (by kernel_rfl) (by kernel_rfl) (by kernel_rfl) (by kernel_rfl) (fun _ _ _ h => h) (Or.inl ⟨by rfl, ?_⟩) (by assumption) (fun hNew => ?_)
    rotate_left
    · intro w _
      go_simp
      try with_reducible rfl
    clear hHeld
    have hHeld := hNew
    clear hNew
    try simp only [List.getElem_toArray, List.getElem_cons_succ, List.getElem_cons_zero, Act.put, List.setIfInBounds_toArray, List.set_cons_zero, List.set_cons_succ]
    refine wpAnyL_done (by kernel_rfl) ?_ _
    clear hHeld
    clear p0 p1 p2 p3 o0 o1 o2 o3 o4 o5 o6 o7 c0 c1 c2 c3 c4 c5 c6 f0 f1 f2 f3 f4 f5 f6 hlt1 hlt2
    obtain ⟨⟨p0, p1, p2, p3⟩, ⟨o0, o1, o2, o3, o4, o5, o6, o7⟩, ⟨c0, c1, c2, c3, c4, c5, c6⟩, ⟨f0, f1, f2, f3, f4, f5, f6⟩, hlt1, hlt2⟩ := HG3.out.cells
    go_wp2_with fail
    refine (no_any e0 _).mono ?_
    rintro e w9 ⟨rfl, h9⟩
    have HG4 := Lib.hid (HG3.out.keep0 h9)
    clear h9
    unfold ansV no
    obtain ⟨⟨p0, p1, p2, p3⟩, ⟨o0, o1, o2, o3, o4, o5, o6, o7⟩, ⟨c0, c1, c2, c3, c4, c5, c6⟩, ⟨f0, f1, f2, f3, f4, f5, f6⟩, hlt1, hlt2⟩ := HG4.out.cells
    go_wp2
    obtain ⟨HBK, HAP⟩ := Going.done (no e0) s HE.out HG4.out rfl rfl (u0 := .int .i64 e0) (u1 := .int .i64 0) (u2 := .bool false) (u3 := .int .i64 0) (u4 := .int .i64 0) rfl rfl rfl rfl rfl
    obtain ⟨⟨d0, d1, d2, d3, d4, d5, d6⟩, _⟩ := ans_cells HBK
    unfold set7 at d0 d1 d2 d3 d4 d5 d6
    exact bodyPost_ret (v := .agg #[.int .i64 e0, .int .i64 0, .bool false, .int .i64 0, .int .i64 0, .slice none 0 0, .slice none 0 0]) (by simp [results, Try.results33, go_sem, d0, d1, d2, d3, d4, d5, d6]) rfl HAP
end Go.Proofs.Ytaophafailmhjaa.W

/- The file system as it is meant: read, write. -/
namespace Go.Proofs.Ytaophafailmhjaa.W
open Go.RowKit
open Go.Proofs.Ytaophafailmhjaa.NM
set_option linter.unusedVariables false
set_option linter.unusedSimpArgs false

variable {X Y S : List Nat} {w0 w w' w1 w2 w3 : World} {c : PC} {s s' : PS} {o : Op} {v : Value}
/-- A part of a slice of bytes. -/
theorem bytes_cut {g of cap i m : Nat} {l : List UInt8} (h : BytesAt w (.slice (some ⟨g, of, none⟩) l.length cap) l) (hm : i + m ≤ l.length) : BytesAt w (.slice (some ⟨g, of + i, none⟩) m (cap - i)) (cutB l i m) := by
  have hl : (cutB l i m).length = m := by unfold cutB; rw [List.length_take, List.length_drop]; omega
  obtain ⟨a, cap', he, h1, h2, h3⟩ := h
  obtain ⟨rfl, _, rfl⟩ := Value.slice.inj he
  refine ⟨_, _, by rw [hl], by rw [hl]; omega, by omega, ?_⟩
  rcases h3 with ⟨h3, h4⟩ | ⟨g', o', he', hc⟩
  · left
    have h0 : l.length = 0 := by rw [h3]; rfl
    exact ⟨List.eq_nil_of_length_eq_zero (by omega), by omega⟩
  · right
    obtain ⟨rfl, rfl⟩ : g = g' ∧ of = o' := by simpa using he'
    refine ⟨g, of + i, rfl, fun j hj => ?_⟩
    rw [hl] at hj
    rw [Nat.add_assoc, hc (i + j) (by omega)]
    congr 2
    unfold cutB
    rw [List.getD_eq_getElem?_getD, List.getD_eq_getElem?_getD, List.getElem?_take, if_pos hj, List.getElem?_drop]
theorem bytes_some {a : Option Addr} {n cap : Nat} {l : List UInt8} (h : BytesAt w (.slice a n cap) l) (hl : 0 < l.length) : ∃ g of, a = some ⟨g, of, none⟩ := by
  obtain ⟨a', cap', he, h1, h2, h3⟩ := h
  obtain ⟨rfl, _, _⟩ := Value.slice.inj he
  rcases h3 with ⟨h3, h4⟩ | ⟨g', o', he', hc⟩
  · rw [h3] at hl; simp at hl
  · exact ⟨g', o', he'⟩
theorem bytes_cap {a : Option Addr} {cap : Nat} {l : List UInt8} (h : BytesAt w (.slice a l.length cap) l) : l.length ≤ cap ∧ cap ≤ maxLen := by
  obtain ⟨a', cap', he, h1, h2, h3⟩ := h
  obtain ⟨_, _, rfl⟩ := Value.slice.inj he
  exact ⟨h1, h2⟩
theorem Going.row (h : Going X w0 w w2 c S s o v) (a : Int) (q : Bool) : Calls Try.prog 48 #[.pointer (some ⟨c.p, 0, none⟩), .int .i64 a, .agg #[.int .i64 o.d, .string (NM.mk o.p), .string (NM.mk o.q), .int .i64 o.h, .int .i64 o.i, .int .i64 o.n, .bool o.w, v], .bool q] w2 (RowPost w2 (rowZ (K.find s.K a o.h)) (rowOk (K.find s.K a o.h) q)) := row_any h.at_ a o v q
theorem cutB_min (l : List UInt8) (i n : Nat) : cutB l i (min n (l.length - i)) = cutB l i n := by
  unfold cutB
  rcases Nat.le_total n (l.length - i) with h | h
  · rw [Nat.min_eq_left h]
  · rw [Nat.min_eq_right h, List.take_of_length_le (by rw [List.length_drop]; exact Nat.le_refl _), List.take_of_length_le (by rw [List.length_drop]; exact h)]
theorem bytes_sub {asl : Option Addr} {cap : Nat} {l : List UInt8} (h : BytesAt w (.slice asl l.length cap) l) (i n : Int) (hi : 0 ≤ i) (hn : 0 ≤ n) (hlt : i < l.length) :
    BytesAt w (.slice (Option.map (fun x => x.add i.toNat) asl) ((i + min n ((l.length : Int) - i)).toNat - i.toNat) (cap - i.toNat)) (cutB l i.toNat n.toNat) := by
  obtain ⟨g, of, rfl⟩ := bytes_some h (by omega)
  have h2 := bytes_cut (i := i.toNat) (m := min n.toNat (l.length - i.toNat)) h (by omega)
  rw [cutB_min] at h2
  have e : (i + min n ((l.length : Int) - i)).toNat - i.toNat = min n.toNat (l.length - i.toNat) := by omega
  rw [e, Option.map_some, add_none]
  exact h2
theorem cut_len (l : List UInt8) (i n : Nat) : (cutB l i n).length ≤ l.length := by
  unfold cutB
  rw [List.length_take, List.length_drop]
  omega
set_option maxHeartbeats 4000000 in
set_option maxRecDepth 100000 in
theorem pread_any (h : PAt X w0 w c S s) (hI : PInv s) (a : Int) (o : Op) (v : Value) : Calls Try.prog 34 #[.pointer (some ⟨c.p, 0, none⟩), .int .i64 a, opV o v] w (APost X w0 w c S (psRead s a o)) := by
  have HB := begun h o v
  obtain ⟨w1, hw1⟩ : ∃ w1, w1 = (w.alloc (.cells #[.int .i64 o.d, .string (NM.mk o.p), .string (NM.mk o.q), .int .i64 o.h, .int .i64 o.i, .int .i64 o.n, .bool o.w, v] 33)).alloc (.cells #[.int .i64 0, .int .i64 0, .bool false, .int .i64 0, .int .i64 0, .slice none 0 0, .slice none 0 0] 30) := ⟨_, rfl⟩
  rw [← hw1] at HB
  have HG := Lib.hid HB.go
  have HW1 := Lib.hid hw1
  have HI := Lib.hid hI
  obtain ⟨⟨p0, p1, p2, p3⟩, ⟨o0, o1, o2, o3, o4, o5, o6, o7⟩, ⟨c0, c1, c2, c3, c4, c5, c6⟩, ⟨f0, f1, f2, f3, f4, f5, f6⟩, hlt1, hlt2⟩ := HG.out.cells
  obtain ⟨Z, hZ⟩ : ∃ Z, Z = psRead s a o := ⟨_, rfl⟩
  rw [← hZ]
  have HZ := Lib.hid hZ
  clear hZ h HB hI hw1
  unfold opV opC
  cases hf : K.find s.K a o.h with
  | none =>
    have HFD := Lib.hid hf
    clear hf
    have HE : Hid (Z = (no 13, s)) := Lib.hid (by rw [HZ.out]; unfold psRead; rw [HFD.out])
    clear HZ
    go_enter Try.func34, Try.ntmps34
    go_wp2_with fail
    rw [← HW1.out]
    refine (HG.out.row a false).mono ?_
    rw [HFD.out]
    rintro e w3 ⟨rfl, h3⟩
    have HG3 := Lib.hid (HG.out.keep0 h3)
    clear h3
    unfold rowZ rowOk
    dsimp only [Option.getD]
    clear p0 p1 p2 p3 o0 o1 o2 o3 o4 o5 o6 o7 c0 c1 c2 c3 c4 c5 c6 f0 f1 f2 f3 f4 f5 f6 hlt1 hlt2
    have HG4 := Lib.hid (HG3.out.keep0 ((Chg.refl [] w3).alloc (.cells #[.int .i64 0, .int .i64 0, .int .i64 0, .bool false] 51)))
    go_wp2_with fail
    refine (no_any 13 _).mono ?_
    rintro e w9 ⟨rfl, h9⟩
    have HG5 := Lib.hid (HG4.out.keep0 h9)
    clear h9
    unfold ansV no
    obtain ⟨⟨p0, p1, p2, p3⟩, ⟨o0, o1, o2, o3, o4, o5, o6, o7⟩, ⟨c0, c1, c2, c3, c4, c5, c6⟩, ⟨f0, f1, f2, f3, f4, f5, f6⟩, hlt1, hlt2⟩ := HG5.out.cells
    go_wp2
    obtain ⟨HBK, HAP⟩ := Going.done (no 13) s HE.out HG5.out rfl rfl (u0 := .int .i64 13) (u1 := .int .i64 0) (u2 := .bool false) (u3 := .int .i64 0) (u4 := .int .i64 0) rfl rfl rfl rfl rfl
    obtain ⟨⟨d0, d1, d2, d3, d4, d5, d6⟩, _⟩ := ans_cells HBK
    unfold set7 at d0 d1 d2 d3 d4 d5 d6
    exact bodyPost_ret (v := .agg #[.int .i64 13, .int .i64 0, .bool false, .int .i64 0, .int .i64 0, .slice none 0 0, .slice none 0 0]) (by simp [results, Try.results34, go_sem, d0, d1, d2, d3, d4, d5, d6]) rfl HAP
  | some r =>
    have HFD := Lib.hid hf
    have HRM := Lib.hid (find_mem hf).1
    have HSL := Lib.hid (HI.out.sees r)
    clear hf
    by_cases hneg : o.i < 0 ∨ o.n < 0
    · have HE : Hid (Z = (no 1, s)) := Lib.hid (by rw [HZ.out]; unfold psRead; rw [HFD.out]; simp only; rw [if_pos hneg])
      clear HZ
      by_cases hi : o.i < 0
      · clear hneg
        go_enter Try.func34, Try.ntmps34
        go_wp2_with fail
        rw [← HW1.out]
        refine (HG.out.row a false).mono ?_
        rw [HFD.out]
        rintro e w3 ⟨rfl, h3⟩
        have HG3 := Lib.hid (HG.out.keep0 h3)
        clear h3
        unfold rowZ rowOk
        dsimp only [Option.getD]
        clear p0 p1 p2 p3 o0 o1 o2 o3 o4 o5 o6 o7 c0 c1 c2 c3 c4 c5 c6 f0 f1 f2 f3 f4 f5 f6 hlt1 hlt2
        have HG4 := Lib.hid (HG3.out.keep0 ((Chg.refl [] w3).alloc (.cells #[.int .i64 r.c, .int .i64 r.h, .int .i64 r.i, .bool r.b] 51)))
        obtain ⟨⟨p0, p1, p2, p3⟩, ⟨o0, o1, o2, o3, o4, o5, o6, o7⟩, ⟨c0, c1, c2, c3, c4, c5, c6⟩, ⟨f0, f1, f2, f3, f4, f5, f6⟩, hlt1, hlt2⟩ := HG4.out.cells
        go_wp2_with fail
        refine (no_any 1 _).mono ?_
        rintro e w9 ⟨rfl, h9⟩
        have HG5 := Lib.hid (HG4.out.keep0 h9)
        clear h9
        unfold ansV no
        obtain ⟨⟨p0, p1, p2, p3⟩, ⟨o0, o1, o2, o3, o4, o5, o6, o7⟩, ⟨c0, c1, c2, c3, c4, c5, c6⟩, ⟨f0, f1, f2, f3, f4, f5, f6⟩, hlt1, hlt2⟩ := HG5.out.cells
        go_wp2
        obtain ⟨HBK, HAP⟩ := Going.done (no 1) s HE.out HG5.out rfl rfl (u0 := .int .i64 1) (u1 := .int .i64 0) (u2 := .bool false) (u3 := .int .i64 0) (u4 := .int .i64 0) rfl rfl rfl rfl rfl
        obtain ⟨⟨d0, d1, d2, d3, d4, d5, d6⟩, _⟩ := ans_cells HBK
        unfold set7 at d0 d1 d2 d3 d4 d5 d6
        exact bodyPost_ret (v := .agg #[.int .i64 1, .int .i64 0, .bool false, .int .i64 0, .int .i64 0, .slice none 0 0, .slice none 0 0]) (by simp [results, Try.results34, go_sem, d0, d1, d2, d3, d4, d5, d6]) rfl HAP
      · have hn : o.n < 0 := by omega
        clear hneg
        go_enter Try.func34, Try.ntmps34
        go_wp2_with fail
        rw [← HW1.out]
        refine (HG.out.row a false).mono ?_
        rw [HFD.out]
        rintro e w3 ⟨rfl, h3⟩
        have HG3 := Lib.hid (HG.out.keep0 h3)
        clear h3
        unfold rowZ rowOk
        dsimp only [Option.getD]
        clear p0 p1 p2 p3 o0 o1 o2 o3 o4 o5 o6 o7 c0 c1 c2 c3 c4 c5 c6 f0 f1 f2 f3 f4 f5 f6 hlt1 hlt2
        have HG4 := Lib.hid (HG3.out.keep0 ((Chg.refl [] w3).alloc (.cells #[.int .i64 r.c, .int .i64 r.h, .int .i64 r.i, .bool r.b] 51)))
        obtain ⟨⟨p0, p1, p2, p3⟩, ⟨o0, o1, o2, o3, o4, o5, o6, o7⟩, ⟨c0, c1, c2, c3, c4, c5, c6⟩, ⟨f0, f1, f2, f3, f4, f5, f6⟩, hlt1, hlt2⟩ := HG4.out.cells
        go_wp2_with fail
        refine (no_any 1 _).mono ?_
        rintro e w9 ⟨rfl, h9⟩
        have HG5 := Lib.hid (HG4.out.keep0 h9)
        clear h9
        unfold ansV no
        obtain ⟨⟨p0, p1, p2, p3⟩, ⟨o0, o1, o2, o3, o4, o5, o6, o7⟩, ⟨c0, c1, c2, c3, c4, c5, c6⟩, ⟨f0, f1, f2, f3, f4, f5, f6⟩, hlt1, hlt2⟩ := HG5.out.cells
        go_wp2
        obtain ⟨HBK, HAP⟩ := Going.done (no 1) s HE.out HG5.out rfl rfl (u0 := .int .i64 1) (u1 := .int .i64 0) (u2 := .bool false) (u3 := .int .i64 0) (u4 := .int .i64 0) rfl rfl rfl rfl rfl
        obtain ⟨⟨d0, d1, d2, d3, d4, d5, d6⟩, _⟩ := ans_cells HBK
        unfold set7 at d0 d1 d2 d3 d4 d5 d6
        exact bodyPost_ret (v := .agg #[.int .i64 1, .int .i64 0, .bool false, .int .i64 0, .int .i64 0, .slice none 0 0, .slice none 0 0]) (by simp [results, Try.results34, go_sem, d0, d1, d2, d3, d4, d5, d6]) rfl HAP
    · have hi : ¬ o.i < 0 := by omega
      have hn : ¬ o.n < 0 := by omega
      have HE : Hid (Z = (⟨0, 0, false, 0, 0, cutB (psSees s r) o.i.toNat o.n.toNat, []⟩, s)) := Lib.hid (by rw [HZ.out]; unfold psRead; rw [HFD.out]; simp only; rw [if_neg hneg])
      obtain ⟨l, hl⟩ : ∃ l, l = psSees s r := ⟨_, rfl⟩
      rw [← hl] at HE HSL
      have HL := Lib.hid hl
      clear HZ hneg hl
      by_cases hge : (l.length : Int) ≤ o.i
      · have HE2 : Hid (Z = (no 0, s)) := Lib.hid (by rw [HE.out]; unfold cutB no; rw [List.drop_of_length_le (by omega), List.take_nil])
        clear HE
        go_enter Try.func34, Try.ntmps34
        go_wp2_with fail
        rw [← HW1.out]
        refine (HG.out.row a false).mono ?_
        rw [HFD.out]
        rintro e w3 ⟨rfl, h3⟩
        have HG3 := Lib.hid (HG.out.keep0 h3)
        clear h3
        unfold rowZ rowOk
        dsimp only [Option.getD]
        clear p0 p1 p2 p3 o0 o1 o2 o3 o4 o5 o6 o7 c0 c1 c2 c3 c4 c5 c6 f0 f1 f2 f3 f4 f5 f6 hlt1 hlt2
        have HG4 := Lib.hid (HG3.out.keep0 ((Chg.refl [] w3).alloc (.cells #[.int .i64 r.c, .int .i64 r.h, .int .i64 r.i, .bool r.b] 51)))
        obtain ⟨⟨p0, p1, p2, p3⟩, ⟨o0, o1, o2, o3, o4, o5, o6, o7⟩, ⟨c0, c1, c2, c3, c4, c5, c6⟩, ⟨f0, f1, f2, f3, f4, f5, f6⟩, hlt1, hlt2⟩ := HG4.out.cells
        have CS := Lib.hid (sees_any HG4.out.at_ HI.out r HRM.out)
        go_wp2_with fail
        refine CS.out.mono ?_
        rintro e w5 ⟨vs, rfl, hbs, hls, hc5⟩
        rw [← HL.out] at hbs hls
        have HG5 := Lib.hid (HG4.out.keep0 hc5)
        have HBS := Lib.hid hbs
        obtain ⟨asl, cs, rfl⟩ := hbs.slice
        obtain ⟨hcap1, hcap2⟩ := bytes_cap HBS.out
        unfold maxLen at hcap2
        have HLS := Lib.hid hls
        clear hbs hls hc5 CS
        clear p0 p1 p2 p3 o0 o1 o2 o3 o4 o5 o6 o7 c0 c1 c2 c3 c4 c5 c6 f0 f1 f2 f3 f4 f5 f6 hlt1 hlt2
        obtain ⟨⟨p0, p1, p2, p3⟩, ⟨o0, o1, o2, o3, o4, o5, o6, o7⟩, ⟨c0, c1, c2, c3, c4, c5, c6⟩, ⟨f0, f1, f2, f3, f4, f5, f6⟩, hlt1, hlt2⟩ := HG5.out.cells
        go_wp2
        obtain ⟨HBK, HAP⟩ := Going.done (no 0) s HE2.out HG5.out rfl rfl (u0 := .int .i64 0) (u1 := .int .i64 0) (u2 := .bool false) (u3 := .int .i64 0) (u4 := .int .i64 0) rfl rfl rfl rfl rfl
        obtain ⟨⟨d0, d1, d2, d3, d4, d5, d6⟩, _⟩ := ans_cells HBK
        unfold set7 at d0 d1 d2 d3 d4 d5 d6
        exact bodyPost_ret (v := .agg #[.int .i64 0, .int .i64 0, .bool false, .int .i64 0, .int .i64 0, .slice none 0 0, .slice none 0 0]) (by simp [results, Try.results34, go_sem, d0, d1, d2, d3, d4, d5, d6]) rfl HAP
      · go_enter Try.func34, Try.ntmps34
        go_wp2_with fail
        rw [← HW1.out]
        refine (HG.out.row a false).mono ?_
        rw [HFD.out]
        rintro e w3 ⟨rfl, h3⟩
        have HG3 := Lib.hid (HG.out.keep0 h3)
        clear h3
        unfold rowZ rowOk
        dsimp only [Option.getD]
        clear p0 p1 p2 p3 o0 o1 o2 o3 o4 o5 o6 o7 c0 c1 c2 c3 c4 c5 c6 f0 f1 f2 f3 f4 f5 f6 hlt1 hlt2
        have HG4 := Lib.hid (HG3.out.keep0 ((Chg.refl [] w3).alloc (.cells #[.int .i64 r.c, .int .i64 r.h, .int .i64 r.i, .bool r.b] 51)))
        obtain ⟨⟨p0, p1, p2, p3⟩, ⟨o0, o1, o2, o3, o4, o5, o6, o7⟩, ⟨c0, c1, c2, c3, c4, c5, c6⟩, ⟨f0, f1, f2, f3, f4, f5, f6⟩, hlt1, hlt2⟩ := HG4.out.cells
        have CS := Lib.hid (sees_any HG4.out.at_ HI.out r HRM.out)
        go_wp2_with fail
        refine CS.out.mono ?_
        rintro e w5 ⟨vs, rfl, hbs, hls, hc5⟩
        rw [← HL.out] at hbs hls
        have HG5 := Lib.hid (HG4.out.keep0 hc5)
        have HBS := Lib.hid hbs
        obtain ⟨asl, cs, rfl⟩ := hbs.slice
        obtain ⟨hcap1, hcap2⟩ := bytes_cap HBS.out
        unfold maxLen at hcap2
        have HLS := Lib.hid hls
        clear hbs hls hc5 CS
        clear p0 p1 p2 p3 o0 o1 o2 o3 o4 o5 o6 o7 c0 c1 c2 c3 c4 c5 c6 f0 f1 f2 f3 f4 f5 f6 hlt1 hlt2
        obtain ⟨⟨p0, p1, p2, p3⟩, ⟨o0, o1, o2, o3, o4, o5, o6, o7⟩, ⟨c0, c1, c2, c3, c4, c5, c6⟩, ⟨f0, f1, f2, f3, f4, f5, f6⟩, hlt1, hlt2⟩ := HG5.out.cells
        have CC := Lib.hid (clone_any _ _ w5 (bytes_sub HBS.out o.i o.n (by omega) (by omega) (by omega)) (by have := cut_len l o.i.toNat o.n.toNat; have := HSL.out; omega))
        go_wp2_with fail
        refine CC.out.mono ?_
        rintro e w6 ⟨vn, rfl, hr6, hn6, hc6⟩
        have HG6 := Lib.hid (HG5.out.keep0 hc6)
        have HR6 := Lib.hid (Going.rows HG5.out hc6 vn (fun g hg => ⟨hn6 g hg, hr6.lt g hg⟩))
        have HB6 := Lib.hid hr6.bytes
        have HN6 := Lib.hid hn6
        have HHI := Lib.hid HG5.out.high
        obtain ⟨an, cn, rfl⟩ := hr6.bytes.slice
        clear hr6 hn6 hc6 CC
        clear p0 p1 p2 p3 o0 o1 o2 o3 o4 o5 o6 o7 c0 c1 c2 c3 c4 c5 c6 f0 f1 f2 f3 f4 f5 f6 hlt1 hlt2
        obtain ⟨⟨p0, p1, p2, p3⟩, ⟨o0, o1, o2, o3, o4, o5, o6, o7⟩, ⟨c0, c1, c2, c3, c4, c5, c6⟩, ⟨f0, f1, f2, f3, f4, f5, f6⟩, hlt1, hlt2⟩ := HG6.out.cells
        go_wp2
        obtain ⟨HBK, HAP⟩ := Going.doneR ⟨0, 0, false, 0, 0, cutB l o.i.toNat o.n.toNat, []⟩ s HE.out HG6.out (.slice an (cutB l o.i.toNat o.n.toNat).length cn) (.slice none 0 0) (by simpa [Value.ownBlock] using HR6.out) HB6.out (EntsAt.nil _) (fun g hg => by have := HN6.out g hg; have := HHI.out; omega) (by simp [Value.ownBlock]) (u0 := .int .i64 0) (u1 := .int .i64 0) (u2 := .bool false) (u3 := .int .i64 0) (u4 := .int .i64 0) rfl rfl rfl rfl rfl
        obtain ⟨⟨d0, d1, d2, d3, d4, d5, d6⟩, _⟩ := ans_cells HBK
        unfold set7 at d0 d1 d2 d3 d4 d5 d6
        exact bodyPost_ret (v := .agg #[.int .i64 0, .int .i64 0, .bool false, .int .i64 0, .int .i64 0, .slice an (cutB l o.i.toNat o.n.toNat).length cn, .slice none 0 0]) (by simp [results, Try.results34, go_sem, d0, d1, d2, d3, d4, d5, d6]) rfl HAP
end Go.Proofs.Ytaophafailmhjaa.W

/- The file system as it is meant: write, trunc, sync. -/
namespace Go.Proofs.Ytaophafailmhjaa.W
open Go.RowKit
open Go.Proofs.Ytaophafailmhjaa.NM
set_option linter.unusedVariables false
set_option linter.unusedSimpArgs false

variable {X Y S : List Nat} {w0 w w' w1 w2 w3 : World} {c : PC} {s s' : PS} {o : Op} {v : Value}
theorem splice_put (l m : List UInt8) (i : Nat) : splice (bvs l) i (bvs m) = bvs (putB l i m) := by
  unfold splice putB
  rw [bvs_len]
  unfold bvs
  rw [List.map_append, List.map_append, List.map_take, List.map_drop, List.append_assoc]
/-- 'copy(b[i:], m)' into a row of the call's own, in a region that draws. -/
theorem step_put {ops : Array Oper} {o : Oper} {a : Act} {w : World} {K : Act → World → Prop} {Q : Exit → Act → World → Prop} {E : Prop} (hgd : o.guard = none) (d s : Operand)
    (ho : o.op = .call { callee := .builtin .copy, args := #[d, s], argTypes := #[22, 22] }) (N i dl dc : Nat) (hd : a.eval d = .slice (some ⟨N, i, none⟩) dl dc) (u : Value) (hs : a.eval s = u) (m : List UInt8) (hm : BytesAt w u m) (l : List UInt8)
    (hN : w.heap[N]? = some (.cells (bvs l).toArray 5 (0, 0))) (hfit : i + m.length ≤ l.length) (hdl : m.length ≤ dl)
    (h : ∀ w' r, Hid (w'.heap[N]? = some (.cells (bvs (putB l i m)).toArray 5 (0, 0)) ∧ Below N w w') → K (a.put o.dst r) w') : if Region.wanted o (yielded ops a.tmps) = true then Oper.wp Try.prog o a w K Q else E := by
  obtain ⟨au, cap, rfl, h1, h2, h3⟩ := hm
  refine step_copy_splice hgd d s 22 22 ho 5 Try.underlying22 (by kernel_rfl) (some ⟨N, i, none⟩) au dl dc m.length cap hd hs N i (bvs l) 5 hN (bvs m) (by rw [bvs_len]; exact (Nat.min_eq_left hdl).symm) ?_ (by rw [bvs_len, bvs_len]; exact hfit) (bvs_one _) N w (Below.refl _ _) (Nat.le_refl _) ?_
  · intro hpos
    refine ⟨rfl, ?_⟩
    rcases h3 with ⟨rfl, _⟩ | ⟨g, o', rfl, hc⟩
    · simp [bvs] at hpos
    · refine ⟨_, rfl, fun j v hv => ?_⟩
      have hj : j < m.length := by
        have := (List.getElem?_eq_some_iff.1 hv).1
        rwa [bvs_len] at this
      rw [bvs_at _ j hj] at hv
      cases hv
      rw [add_none, hc j hj]
  · intro w' hw' hb
    rw [splice_put] at hw'
    exact h w' _ ⟨hw'.out, hb⟩
theorem wp_put {o : Oper} {a : Act} {w : World} {K : Act → World → Prop} {Q : Exit → Act → World → Prop} (hgd : o.guard = none) (d s : Operand)
    (ho : o.op = .call { callee := .builtin .copy, args := #[d, s], argTypes := #[22, 22] }) (N i dl dc : Nat) (hd : a.eval d = .slice (some ⟨N, i, none⟩) dl dc) (u : Value) (hs : a.eval s = u) (m : List UInt8) (hm : BytesAt w u m) (l : List UInt8)
    (hN : w.heap[N]? = some (.cells (bvs l).toArray 5 (0, 0))) (hfit : i + m.length ≤ l.length) (hdl : m.length ≤ dl)
    (h : ∀ w' r, Hid (w'.heap[N]? = some (.cells (bvs (putB l i m)).toArray 5 (0, 0)) ∧ Below N w w') → K (a.put o.dst r) w') : Oper.wp Try.prog o a w K Q := by
  have := step_put (ops := #[]) (E := True) (Q := Q) hgd d s ho N i dl dc hd u hs m hm l hN hfit hdl h
  have hw : Region.wanted o (yielded #[] a.tmps) = true := by simp [Region.wanted, hgd]
  rwa [if_pos hw] at this
/-- A block of bytes, as a row that may be laid into a map. -/
theorem free_block {N : Nat} {l : List UInt8} (h : w.heap[N]? = some (.cells (bvs l).toArray 5 (0, 0))) (hl : l.length ≤ 100000) (n : Nat) (hn : n = l.length) : Free w (N :: X) (.slice (some ⟨N, 0, none⟩) n n) l := by
  subst hn
  refine ⟨⟨some ⟨N, 0, none⟩, l.length, rfl, Nat.le_refl _, by unfold maxLen; omega, .inr ⟨N, 0, rfl, fun i hi => ?_⟩⟩, fun _ g hg => by
    obtain rfl : N = g := by simpa [Value.ownBlock] using hg
    exact List.mem_cons_self ..⟩
  rw [Nat.zero_add]
  exact blk_cell h i _ (by simpa using bvs_at l i hi)
theorem Going.cons (h : Going X w0 w w2 c S s o v) (hc : Chg [] w2 w3) (N : Nat) (hn : w2.heap.size ≤ N ∧ N < w3.heap.size) : PAt (N :: w.heap.size :: (w.heap.size + 1) :: X) w0 w3 c S s :=
  h.at_.add hc fun k hk => by
    rcases List.mem_cons.1 hk with rfl | hk
    · exact .inr hn
    · exact .inl hk
set_option maxHeartbeats 4000000 in
set_option maxRecDepth 100000 in
theorem pwrite_any (h : PAt X w0 w c S s) (hI : PInv s) (a : Int) (o : Op) (v : Value) (hv : BytesAt w v o.b) : Calls Try.prog 35 #[.pointer (some ⟨c.p, 0, none⟩), .int .i64 a, opV o v] w (APost X w0 w c S (psWrite s a o)) := by
  obtain ⟨ab, cb, rfl⟩ := hv.slice
  have HB := begun h o (.slice ab o.b.length cb)
  obtain ⟨w1, hw1⟩ : ∃ w1, w1 = (w.alloc (.cells #[.int .i64 o.d, .string (NM.mk o.p), .string (NM.mk o.q), .int .i64 o.h, .int .i64 o.i, .int .i64 o.n, .bool o.w, .slice ab o.b.length cb] 33)).alloc (.cells #[.int .i64 0, .int .i64 0, .bool false, .int .i64 0, .int .i64 0, .slice none 0 0, .slice none 0 0] 30) := ⟨_, rfl⟩
  rw [← hw1] at HB
  have HG := Lib.hid HB.go
  have HW1 := Lib.hid hw1
  have HI := Lib.hid hI
  obtain ⟨⟨p0, p1, p2, p3⟩, ⟨o0, o1, o2, o3, o4, o5, o6, o7⟩, ⟨c0, c1, c2, c3, c4, c5, c6⟩, ⟨f0, f1, f2, f3, f4, f5, f6⟩, hlt1, hlt2⟩ := HG.out.cells
  obtain ⟨Z, hZ⟩ : ∃ Z, Z = psWrite s a o := ⟨_, rfl⟩
  rw [← hZ]
  have HZ := Lib.hid hZ
  have HC1 := Lib.hid HB.chg
  have HBV := Lib.hid hv
  clear hZ h HB hI hw1 hv
  unfold opV opC
  cases hf : K.find s.K a o.h with
  | none =>
    have HFD := Lib.hid hf
    clear hf
    have HE : Hid (Z = (no 13, s)) := Lib.hid (by rw [HZ.out]; unfold psWrite; rw [HFD.out])
    clear HZ
    go_enter Try.func35, Try.ntmps35
    go_wp2_with fail
    rw [← HW1.out]
    refine (HG.out.row a true).mono ?_
    rw [HFD.out]
    rintro e w3 ⟨rfl, h3⟩
    have HG3 := Lib.hid (HG.out.keep0 h3)
    have HC3 := Lib.hid (HC1.out.trans h3 (by simp))
    clear h3
    unfold rowZ rowOk
    dsimp only [Option.getD]
    clear p0 p1 p2 p3 o0 o1 o2 o3 o4 o5 o6 o7 c0 c1 c2 c3 c4 c5 c6 f0 f1 f2 f3 f4 f5 f6 hlt1 hlt2
    have HG4 := Lib.hid (HG3.out.keep0 ((Chg.refl [] w3).alloc (.cells #[.int .i64 0, .int .i64 0, .int .i64 0, .bool false] 51)))
    go_wp2_with fail
    refine (no_any 13 _).mono ?_
    rintro e w9 ⟨rfl, h9⟩
    have HG5 := Lib.hid (HG4.out.keep0 h9)
    clear h9
    unfold ansV no
    obtain ⟨⟨p0, p1, p2, p3⟩, ⟨o0, o1, o2, o3, o4, o5, o6, o7⟩, ⟨c0, c1, c2, c3, c4, c5, c6⟩, ⟨f0, f1, f2, f3, f4, f5, f6⟩, hlt1, hlt2⟩ := HG5.out.cells
    go_wp2
    obtain ⟨HBK, HAP⟩ := Going.done (no 13) s HE.out HG5.out rfl rfl (u0 := .int .i64 13) (u1 := .int .i64 0) (u2 := .bool false) (u3 := .int .i64 0) (u4 := .int .i64 0) rfl rfl rfl rfl rfl
    obtain ⟨⟨d0, d1, d2, d3, d4, d5, d6⟩, _⟩ := ans_cells HBK
    unfold set7 at d0 d1 d2 d3 d4 d5 d6
    exact bodyPost_ret (v := .agg #[.int .i64 13, .int .i64 0, .bool false, .int .i64 0, .int .i64 0, .slice none 0 0, .slice none 0 0]) (by simp [results, Try.results35, go_sem, d0, d1, d2, d3, d4, d5, d6]) rfl HAP
  | some r =>
    obtain ⟨rc, rh, ri, rb⟩ := r
    have HFD := Lib.hid hf
    have HRM := Lib.hid (find_mem hf).1
    have HRK := Lib.hid (find_mem hf).2
    have HSL := Lib.hid (HI.out.sees ⟨rc, rh, ri, rb⟩)
    clear hf
    simp only at HRK
    cases rb
    · have HE : Hid (Z = (no 13, s)) := Lib.hid (by rw [HZ.out]; unfold psWrite; rw [HFD.out]; simp only; rw [if_pos trivial])
      clear HZ
      go_enter Try.func35, Try.ntmps35
      go_wp2_with fail
      rw [← HW1.out]
      refine (HG.out.row a true).mono ?_
      rw [HFD.out]
      rintro e w3 ⟨rfl, h3⟩
      have HG3 := Lib.hid (HG.out.keep0 h3)
      have HC3 := Lib.hid (HC1.out.trans h3 (by simp))
      clear h3
      unfold rowZ rowOk
      dsimp only [Option.getD]
      clear p0 p1 p2 p3 o0 o1 o2 o3 o4 o5 o6 o7 c0 c1 c2 c3 c4 c5 c6 f0 f1 f2 f3 f4 f5 f6 hlt1 hlt2
      have HG4 := Lib.hid (HG3.out.keep0 ((Chg.refl [] w3).alloc (.cells #[.int .i64 rc, .int .i64 rh, .int .i64 ri, .bool false] 51)))
      have HC4 := Lib.hid (HC3.out.alloc (.cells #[.int .i64 rc, .int .i64 rh, .int .i64 ri, .bool false] 51))
      obtain ⟨⟨p0, p1, p2, p3⟩, ⟨o0, o1, o2, o3, o4, o5, o6, o7⟩, ⟨c0, c1, c2, c3, c4, c5, c6⟩, ⟨f0, f1, f2, f3, f4, f5, f6⟩, hlt1, hlt2⟩ := HG4.out.cells
      go_wp2_with fail
      refine (no_any 13 _).mono ?_
      rintro e w9 ⟨rfl, h9⟩
      have HG5 := Lib.hid (HG4.out.keep0 h9)
      clear h9
      unfold ansV no
      obtain ⟨⟨p0, p1, p2, p3⟩, ⟨o0, o1, o2, o3, o4, o5, o6, o7⟩, ⟨c0, c1, c2, c3, c4, c5, c6⟩, ⟨f0, f1, f2, f3, f4, f5, f6⟩, hlt1, hlt2⟩ := HG5.out.cells
      go_wp2
      obtain ⟨HBK, HAP⟩ := Going.done (no 13) s HE.out HG5.out rfl rfl (u0 := .int .i64 13) (u1 := .int .i64 0) (u2 := .bool false) (u3 := .int .i64 0) (u4 := .int .i64 0) rfl rfl rfl rfl rfl
      obtain ⟨⟨d0, d1, d2, d3, d4, d5, d6⟩, _⟩ := ans_cells HBK
      unfold set7 at d0 d1 d2 d3 d4 d5 d6
      exact bodyPost_ret (v := .agg #[.int .i64 13, .int .i64 0, .bool false, .int .i64 0, .int .i64 0, .slice none 0 0, .slice none 0 0]) (by simp [results, Try.results35, go_sem, d0, d1, d2, d3, d4, d5, d6]) rfl HAP
    · by_cases hneg : o.i < 0
      · have HE : Hid (Z = (no 1, s)) := Lib.hid (by rw [HZ.out]; unfold psWrite; rw [HFD.out]; simp only; rw [if_neg (by simp)]; rw [if_pos hneg])
        clear HZ
        go_enter Try.func35, Try.ntmps35
        go_wp2_with fail
        rw [← HW1.out]
        refine (HG.out.row a true).mono ?_
        rw [HFD.out]
        rintro e w3 ⟨rfl, h3⟩
        have HG3 := Lib.hid (HG.out.keep0 h3)
        have HC3 := Lib.hid (HC1.out.trans h3 (by simp))
        clear h3
        unfold rowZ rowOk
        dsimp only [Option.getD]
        clear p0 p1 p2 p3 o0 o1 o2 o3 o4 o5 o6 o7 c0 c1 c2 c3 c4 c5 c6 f0 f1 f2 f3 f4 f5 f6 hlt1 hlt2
        have HG4 := Lib.hid (HG3.out.keep0 ((Chg.refl [] w3).alloc (.cells #[.int .i64 rc, .int .i64 rh, .int .i64 ri, .bool true] 51)))
        have HC4 := Lib.hid (HC3.out.alloc (.cells #[.int .i64 rc, .int .i64 rh, .int .i64 ri, .bool true] 51))
        obtain ⟨⟨p0, p1, p2, p3⟩, ⟨o0, o1, o2, o3, o4, o5, o6, o7⟩, ⟨c0, c1, c2, c3, c4, c5, c6⟩, ⟨f0, f1, f2, f3, f4, f5, f6⟩, hlt1, hlt2⟩ := HG4.out.cells
        go_wp2_with fail
        refine (no_any 1 _).mono ?_
        rintro e w9 ⟨rfl, h9⟩
        have HG5 := Lib.hid (HG4.out.keep0 h9)
        clear h9
        unfold ansV no
        obtain ⟨⟨p0, p1, p2, p3⟩, ⟨o0, o1, o2, o3, o4, o5, o6, o7⟩, ⟨c0, c1, c2, c3, c4, c5, c6⟩, ⟨f0, f1, f2, f3, f4, f5, f6⟩, hlt1, hlt2⟩ := HG5.out.cells
        go_wp2
        obtain ⟨HBK, HAP⟩ := Going.done (no 1) s HE.out HG5.out rfl rfl (u0 := .int .i64 1) (u1 := .int .i64 0) (u2 := .bool false) (u3 := .int .i64 0) (u4 := .int .i64 0) rfl rfl rfl rfl rfl
        obtain ⟨⟨d0, d1, d2, d3, d4, d5, d6⟩, _⟩ := ans_cells HBK
        unfold set7 at d0 d1 d2 d3 d4 d5 d6
        exact bodyPost_ret (v := .agg #[.int .i64 1, .int .i64 0, .bool false, .int .i64 0, .int .i64 0, .slice none 0 0, .slice none 0 0]) (by simp [results, Try.results35, go_sem, d0, d1, d2, d3, d4, d5, d6]) rfl HAP
      · by_cases hlong : 4096 < o.b.length ∨ 4096 - (o.b.length : Int) < o.i
        · by_cases hl1 : (4096 : Int) < (o.b.length : Int)
          · have hi : ¬ o.i < 0 := hneg
            have HE : Hid (Z = (no 3, s)) := Lib.hid (by rw [HZ.out]; unfold psWrite; rw [HFD.out]; simp only; rw [if_neg (by simp)]; rw [if_neg hneg, if_pos hlong])
            clear HZ
            go_enter Try.func35, Try.ntmps35
            go_wp2_with fail
            rw [← HW1.out]
            refine (HG.out.row a true).mono ?_
            rw [HFD.out]
            rintro e w3 ⟨rfl, h3⟩
            have HG3 := Lib.hid (HG.out.keep0 h3)
            have HC3 := Lib.hid (HC1.out.trans h3 (by simp))
            clear h3
            unfold rowZ rowOk
            dsimp only [Option.getD]
            clear p0 p1 p2 p3 o0 o1 o2 o3 o4 o5 o6 o7 c0 c1 c2 c3 c4 c5 c6 f0 f1 f2 f3 f4 f5 f6 hlt1 hlt2
            have HG4 := Lib.hid (HG3.out.keep0 ((Chg.refl [] w3).alloc (.cells #[.int .i64 rc, .int .i64 rh, .int .i64 ri, .bool true] 51)))
            have HC4 := Lib.hid (HC3.out.alloc (.cells #[.int .i64 rc, .int .i64 rh, .int .i64 ri, .bool true] 51))
            obtain ⟨⟨p0, p1, p2, p3⟩, ⟨o0, o1, o2, o3, o4, o5, o6, o7⟩, ⟨c0, c1, c2, c3, c4, c5, c6⟩, ⟨f0, f1, f2, f3, f4, f5, f6⟩, hlt1, hlt2⟩ := HG4.out.cells
            go_wp2_with fail
            refine (no_any 3 _).mono ?_
            rintro e w9 ⟨rfl, h9⟩
            have HG5 := Lib.hid (HG4.out.keep0 h9)
            clear h9
            unfold ansV no
            obtain ⟨⟨p0, p1, p2, p3⟩, ⟨o0, o1, o2, o3, o4, o5, o6, o7⟩, ⟨c0, c1, c2, c3, c4, c5, c6⟩, ⟨f0, f1, f2, f3, f4, f5, f6⟩, hlt1, hlt2⟩ := HG5.out.cells
            go_wp2
            obtain ⟨HBK, HAP⟩ := Going.done (no 3) s HE.out HG5.out rfl rfl (u0 := .int .i64 3) (u1 := .int .i64 0) (u2 := .bool false) (u3 := .int .i64 0) (u4 := .int .i64 0) rfl rfl rfl rfl rfl
            obtain ⟨⟨d0, d1, d2, d3, d4, d5, d6⟩, _⟩ := ans_cells HBK
            unfold set7 at d0 d1 d2 d3 d4 d5 d6
            exact bodyPost_ret (v := .agg #[.int .i64 3, .int .i64 0, .bool false, .int .i64 0, .int .i64 0, .slice none 0 0, .slice none 0 0]) (by simp [results, Try.results35, go_sem, d0, d1, d2, d3, d4, d5, d6]) rfl HAP
          · have hi : ¬ o.i < 0 := hneg
            have hl2 : 4096 - (o.b.length : Int) < o.i := by omega
            have HE : Hid (Z = (no 3, s)) := Lib.hid (by rw [HZ.out]; unfold psWrite; rw [HFD.out]; simp only; rw [if_neg (by simp)]; rw [if_neg hneg, if_pos hlong])
            clear HZ
            go_enter Try.func35, Try.ntmps35
            go_wp2_with fail
            rw [← HW1.out]
            refine (HG.out.row a true).mono ?_
            rw [HFD.out]
            rintro e w3 ⟨rfl, h3⟩
            have HG3 := Lib.hid (HG.out.keep0 h3)
            have HC3 := Lib.hid (HC1.out.trans h3 (by simp))
            clear h3
            unfold rowZ rowOk
            dsimp only [Option.getD]
            clear p0 p1 p2 p3 o0 o1 o2 o3 o4 o5 o6 o7 c0 c1 c2 c3 c4 c5 c6 f0 f1 f2 f3 f4 f5 f6 hlt1 hlt2
            have HG4 := Lib.hid (HG3.out.keep0 ((Chg.refl [] w3).alloc (.cells #[.int .i64 rc, .int .i64 rh, .int .i64 ri, .bool true] 51)))
            have HC4 := Lib.hid (HC3.out.alloc (.cells #[.int .i64 rc, .int .i64 rh, .int .i64 ri, .bool true] 51))
            obtain ⟨⟨p0, p1, p2, p3⟩, ⟨o0, o1, o2, o3, o4, o5, o6, o7⟩, ⟨c0, c1, c2, c3, c4, c5, c6⟩, ⟨f0, f1, f2, f3, f4, f5, f6⟩, hlt1, hlt2⟩ := HG4.out.cells
            go_wp2_with fail
            refine (no_any 3 _).mono ?_
            rintro e w9 ⟨rfl, h9⟩
            have HG5 := Lib.hid (HG4.out.keep0 h9)
            clear h9
            unfold ansV no
            obtain ⟨⟨p0, p1, p2, p3⟩, ⟨o0, o1, o2, o3, o4, o5, o6, o7⟩, ⟨c0, c1, c2, c3, c4, c5, c6⟩, ⟨f0, f1, f2, f3, f4, f5, f6⟩, hlt1, hlt2⟩ := HG5.out.cells
            go_wp2
            obtain ⟨HBK, HAP⟩ := Going.done (no 3) s HE.out HG5.out rfl rfl (u0 := .int .i64 3) (u1 := .int .i64 0) (u2 := .bool false) (u3 := .int .i64 0) (u4 := .int .i64 0) rfl rfl rfl rfl rfl
            obtain ⟨⟨d0, d1, d2, d3, d4, d5, d6⟩, _⟩ := ans_cells HBK
            unfold set7 at d0 d1 d2 d3 d4 d5 d6
            exact bodyPost_ret (v := .agg #[.int .i64 3, .int .i64 0, .bool false, .int .i64 0, .int .i64 0, .slice none 0 0, .slice none 0 0]) (by simp [results, Try.results35, go_sem, d0, d1, d2, d3, d4, d5, d6]) rfl HAP
        · by_cases hbn : o.b = []
          · have hi : ¬ o.i < 0 := hneg
            have hl1 : ¬ (4096 : Int) < (o.b.length : Int) := by omega
            have hl2 : ¬ 4096 - (o.b.length : Int) < o.i := by omega
            have hl0 : ((o.b.length : Int) == 0) = true := by rw [hbn]; rfl
            have HE : Hid (Z = (no 0, s)) := Lib.hid (by rw [HZ.out]; unfold psWrite; rw [HFD.out]; simp only; rw [if_neg (by simp)]; rw [if_neg hneg, if_neg hlong, if_pos hbn])
            clear HZ
            clear hbn
            go_enter Try.func35, Try.ntmps35
            go_wp2_with fail
            rw [← HW1.out]
            refine (HG.out.row a true).mono ?_
            rw [HFD.out]
            rintro e w3 ⟨rfl, h3⟩
            have HG3 := Lib.hid (HG.out.keep0 h3)
            have HC3 := Lib.hid (HC1.out.trans h3 (by simp))
            clear h3
            unfold rowZ rowOk
            dsimp only [Option.getD]
            clear p0 p1 p2 p3 o0 o1 o2 o3 o4 o5 o6 o7 c0 c1 c2 c3 c4 c5 c6 f0 f1 f2 f3 f4 f5 f6 hlt1 hlt2
            have HG4 := Lib.hid (HG3.out.keep0 ((Chg.refl [] w3).alloc (.cells #[.int .i64 rc, .int .i64 rh, .int .i64 ri, .bool true] 51)))
            have HC4 := Lib.hid (HC3.out.alloc (.cells #[.int .i64 rc, .int .i64 rh, .int .i64 ri, .bool true] 51))
            obtain ⟨⟨p0, p1, p2, p3⟩, ⟨o0, o1, o2, o3, o4, o5, o6, o7⟩, ⟨c0, c1, c2, c3, c4, c5, c6⟩, ⟨f0, f1, f2, f3, f4, f5, f6⟩, hlt1, hlt2⟩ := HG4.out.cells
            go_wp2
            obtain ⟨HBK, HAP⟩ := Going.done (no 0) s HE.out HG4.out rfl rfl (u0 := .int .i64 0) (u1 := .int .i64 0) (u2 := .bool false) (u3 := .int .i64 0) (u4 := .int .i64 0) rfl rfl rfl rfl rfl
            obtain ⟨⟨d0, d1, d2, d3, d4, d5, d6⟩, _⟩ := ans_cells HBK
            unfold set7 at d0 d1 d2 d3 d4 d5 d6
            exact bodyPost_ret (v := .agg #[.int .i64 0, .int .i64 0, .bool false, .int .i64 0, .int .i64 0, .slice none 0 0, .slice none 0 0]) (by simp [results, Try.results35, go_sem, d0, d1, d2, d3, d4, d5, d6]) rfl HAP
          · have hi : ¬ o.i < 0 := by omega
            have hl1 : ¬ (4096 : Int) < (o.b.length : Int) := by omega
            have hl2 : ¬ 4096 - (o.b.length : Int) < o.i := by omega
            have hl0 : ((o.b.length : Int) == 0) = false := by have : o.b.length ≠ 0 := fun h => hbn (List.eq_nil_of_length_eq_zero h); simp; exact hbn
            obtain ⟨l, hl⟩ : ∃ l, l = psSees s ⟨rc, rh, ri, true⟩ := ⟨_, rfl⟩
            have HE : Hid (Z = (no 0, { s with O := upd s.O (a, o.h) (writeB l o.i.toNat o.b) })) := Lib.hid (by rw [HZ.out]; unfold psWrite; rw [HFD.out]; simp only; rw [if_neg (by simp)]; rw [if_neg hi, if_neg (by omega), if_neg hbn, hl])
            rw [← hl] at HSL
            have HL := Lib.hid hl
            clear HZ hl hbn hneg hlong
            go_enter Try.func35, Try.ntmps35
            go_wp2_with fail
            rw [← HW1.out]
            refine (HG.out.row a true).mono ?_
            rw [HFD.out]
            rintro e w3 ⟨rfl, h3⟩
            have HG3 := Lib.hid (HG.out.keep0 h3)
            have HC3 := Lib.hid (HC1.out.trans h3 (by simp))
            clear h3
            unfold rowZ rowOk
            dsimp only [Option.getD]
            clear p0 p1 p2 p3 o0 o1 o2 o3 o4 o5 o6 o7 c0 c1 c2 c3 c4 c5 c6 f0 f1 f2 f3 f4 f5 f6 hlt1 hlt2
            have HG4 := Lib.hid (HG3.out.keep0 ((Chg.refl [] w3).alloc (.cells #[.int .i64 rc, .int .i64 rh, .int .i64 ri, .bool true] 51)))
            have HC4 := Lib.hid (HC3.out.alloc (.cells #[.int .i64 rc, .int .i64 rh, .int .i64 ri, .bool true] 51))
            obtain ⟨⟨p0, p1, p2, p3⟩, ⟨o0, o1, o2, o3, o4, o5, o6, o7⟩, ⟨c0, c1, c2, c3, c4, c5, c6⟩, ⟨f0, f1, f2, f3, f4, f5, f6⟩, hlt1, hlt2⟩ := HG4.out.cells
            have CS := Lib.hid (sees_any HG4.out.at_ HI.out ⟨rc, rh, ri, true⟩ HRM.out)
            go_wp2_with fail
            refine CS.out.mono ?_
            rintro e w5 ⟨vs, rfl, hbs, hls, hc5⟩
            rw [← HL.out] at hbs hls
            have HG5 := Lib.hid (HG4.out.keep0 hc5)
            have HC5 := Lib.hid (HC4.out.trans hc5 (by simp))
            have HBS := Lib.hid hbs
            obtain ⟨asl, cs, rfl⟩ := hbs.slice
            obtain ⟨hcap1, hcap2⟩ := bytes_cap HBS.out
            unfold maxLen at hcap2
            have HLS := Lib.hid hls
            clear hbs hls hc5 CS
            clear p0 p1 p2 p3 o0 o1 o2 o3 o4 o5 o6 o7 c0 c1 c2 c3 c4 c5 c6 f0 f1 f2 f3 f4 f5 f6 hlt1 hlt2
            obtain ⟨⟨p0, p1, p2, p3⟩, ⟨o0, o1, o2, o3, o4, o5, o6, o7⟩, ⟨c0, c1, c2, c3, c4, c5, c6⟩, ⟨f0, f1, f2, f3, f4, f5, f6⟩, hlt1, hlt2⟩ := HG5.out.cells
            have HOW : Hid (OwnOk s.O) := Lib.hid HI.out.ownOk
            have HPK : Hid (okP (a, o.h)) := Lib.hid (by have := HI.out.good.rng _ HRM.out; simp only at this; have h5 := HRK.out; exact okP_of (by omega) (by omega) (by omega) (by omega))
            obtain ⟨n, hn⟩ : ∃ n, n = max l.length (o.i.toNat + o.b.length) := ⟨_, rfl⟩
            have hnb : n ≤ 4096 := by have := HSL.out; omega
            have en : (max (l.length : Int) (o.i + (o.b.length : Int))) = (n : Int) := by omega
            have CZ := Lib.hid (sized_any _ l n w5 HBS.out (by omega))
            rw [← en] at CZ
            have HEN := Lib.hid en
            have HNE := Lib.hid hn
            have hin : o.i ≤ (n : Int) := by omega
            have hni : ¬ (n = o.i.toNat) := by have : o.b.length ≠ 0 := (by simpa using hl0); omega
            clear en hn
            go_wp2_with fail
            refine CZ.out.mono ?_
            rintro e w6 ⟨N, rfl, hN, hN6, hc6⟩
            have HG6 := Lib.hid (HG5.out.keep0 hc6)
            have HC6 := Lib.hid (HC5.out.trans hc6 (by simp))
            have HN6 := Lib.hid hN6
            have HNL := Lib.hid hN
            have HB6 : Hid (BytesAt w6.drew (.slice ab o.b.length cb) o.b) := Lib.hid (HBV.out.chg0 HC6.out.drew)
            have HC56 := Lib.hid hc6
            clear hN hN6 hc6 CZ
            clear p0 p1 p2 p3 o0 o1 o2 o3 o4 o5 o6 o7 c0 c1 c2 c3 c4 c5 c6 f0 f1 f2 f3 f4 f5 f6 hlt1 hlt2
            obtain ⟨⟨p0, p1, p2, p3⟩, ⟨o0, o1, o2, o3, o4, o5, o6, o7⟩, ⟨c0, c1, c2, c3, c4, c5, c6⟩, ⟨f0, f1, f2, f3, f4, f5, f6⟩, hlt1, hlt2⟩ := HG6.out.cells
            go_wp2
            refine wp_region_L [(6, fun w' => w'.cell? ⟨w.heap.size, 4, none⟩ = some (.int .i64 o.i)), (6, fun w' => w'.cell? ⟨w.heap.size, 7, none⟩ = some (.slice ab o.b.length cb))] (by kernel_rfl) ?_ (fun hHeld => ?_)
            · exact (HoldC.cons (o4) (HoldC.cons (o7) HoldC.nil))
            refine wpAnyL_take (i := 0) (oi := _) (v := ?_) rfl (by kernel_rfl) (by kernel_rfl) (by kernel_rfl) (by kernel_rfl) (by kernel_rfl) (fun _ _ _ h => h) (Or.inl ⟨by rfl, ?_⟩) (by assumption) (fun hNew => ?_)
            rotate_left
            · intro w _
              go_simp
              try with_reducible rfl
            clear hHeld
            have hHeld := hNew
            clear hNew
            try simp only [List.getElem_toArray, List.getElem_cons_succ, List.getElem_cons_zero, Act.put, List.setIfInBounds_toArray, List.set_cons_zero, List.set_cons_succ]
            refine wpAnyL_take (i := 1) (oi := _) (v := ?_) rfl (by kernel_rfl) (by kernel_rfl) (by kernel_rfl) (by kernel_rfl) (by kernel_rfl) (fun _ _ _ h => h) (Or.inl ⟨by rfl, ?_⟩) (by assumption) (fun hNew => ?_)
            rotate_left
            · intro w _
              go_simp
              try with_reducible rfl
            clear hHeld
            have hHeld := hNew
            clear hNew
            try simp only [List.getElem_toArray, List.getElem_cons_succ, List.getElem_cons_zero, Act.put, List.setIfInBounds_toArray, List.set_cons_zero, List.set_cons_succ]
            refine wpAnyL_load 0 (i := 2) (oi := _) (v := ?_) rfl rfl (by kernel_rfl) (by kernel_rfl) (by kernel_rfl) (by kernel_rfl) (by kernel_rfl) (by kernel_rfl) (fun _ _ _ h => h) (Or.inl ⟨by rfl, ?_⟩) (by assumption) (fun hNew => ?_)
            rotate_left
            · intro w hSw
              (try dsimp only at hSw)
              go_simp
              try with_reducible rfl
            clear hHeld
            have hHeld := hNew
            clear hNew
            try simp only [List.getElem_toArray, List.getElem_cons_succ, List.getElem_cons_zero, Act.put, List.setIfInBounds_toArray, List.set_cons_zero, List.set_cons_succ]
            refine wpAnyL_take (i := 3) (oi := _) (v := ?_) rfl (by kernel_rfl) (by kernel_rfl) (by kernel_rfl) (by kernel_rfl) (by kernel_rfl) (fun _ _ _ h => h) (Or.inl ⟨by rfl, ?_⟩) (by assumption) (fun hNew => ?_)
            rotate_left
            · intro w _
              go_simp
              try with_reducible rfl
            clear hHeld
            have hHeld := hNew
            clear hNew
            try simp only [List.getElem_toArray, List.getElem_cons_succ, List.getElem_cons_zero, Act.put, List.setIfInBounds_toArray, List.set_cons_zero, List.set_cons_succ]
            refine wpAnyL_take (i := 4) (oi := _) (v := ?_) rfl (by kernel_rfl) (by kernel_rfl) (by kernel_rfl) (by kernel_rfl) (by kernel_rfl) (fun _ _ _ h => h) (Or.inl ⟨by rfl, ?_⟩) (by assumption) (fun hNew => ?_)
            rotate_left
            · intro w _
              go_simp
              try with_reducible rfl
            clear hHeld
            have hHeld := hNew
            clear hNew
            try simp only [List.getElem_toArray, List.getElem_cons_succ, List.getElem_cons_zero, Act.put, List.setIfInBounds_toArray, List.set_cons_zero, List.set_cons_succ]
            refine wpAnyL_load 1 (i := 5) (oi := _) (v := ?_) rfl rfl (by kernel_rfl) (by kernel_rfl) (by kernel_rfl) (by kernel_rfl) (by kernel_rfl) (by kernel_rfl) (fun _ _ _ h => h) (Or.inl ⟨by rfl, ?_⟩) (by assumption) (fun hNew => ?_)
            rotate_left
            · intro w hSw
              (try dsimp only at hSw)
              go_simp
              try with_reducible rfl
            clear hHeld
            have hHeld := hNew
            clear hNew
            try simp only [List.getElem_toArray, List.getElem_cons_succ, List.getElem_cons_zero, Act.put, List.setIfInBounds_toArray, List.set_cons_zero, List.set_cons_succ]
            refine wpAnyL_ready (rs := [6]) (by kernel_rfl) (by simp) ?_
            refine AllReadyL.cons (o := _) rfl (fun K hK => ?_) AllReadyL.nil
            try simp only [List.getElem_toArray, List.getElem_cons_succ, List.getElem_cons_zero]
            rw [if_pos (by rfl)]
            refine wp_put rfl (.tmp 64) (.tmp 66) rfl N o.i.toNat (n - o.i.toNat) (n - o.i.toNat) (by simp [Act.eval, Act.put, hni]) _ (by rfl) o.b HB6.out (sizedB l n) (by exact HN6.out) (by have h1 := sized_len l n; have h2 := HNE.out; omega) (by have h2 := HNE.out; omega) ?_
            intro w7 r7 h7
            have HN7 : Hid (w7.heap[N]? = some (.cells (bvs (writeB l o.i.toNat o.b)).toArray 5 (0, 0))) := Lib.hid (by have h8 := h7.out.1; rw [h8]; unfold writeB; rw [← HNE.out])
            have HC57 : Hid (Chg [] w5 w7) := Lib.hid (Chg.of_below ((Chg.below (HC56.out.drew) (by simp)).trans (h7.out.2.mono HNL.out)))
            have HG7 := Lib.hid (HG5.out.keep0 HC57.out)
            have HR7 := Lib.hid (HG5.out.cons HC57.out N ⟨HNL.out, blk_lt HN7.out⟩)
            have HFR : Hid (Free w7.drew (N :: w.heap.size :: (w.heap.size + 1) :: X) (.slice (some ⟨N, 0, none⟩) n n) (writeB l o.i.toNat o.b)) := Lib.hid (free_block HN7.out (by rw [write_len]; have := HNE.out; omega) n (by rw [write_len, HNE.out]))
            clear h7
            clear p0 p1 p2 p3 o0 o1 o2 o3 o4 o5 o6 o7 c0 c1 c2 c3 c4 c5 c6 f0 f1 f2 f3 f4 f5 f6 hlt1 hlt2
            obtain ⟨⟨p0, p1, p2, p3⟩, ⟨o0, o1, o2, o3, o4, o5, o6, o7⟩, ⟨c0, c1, c2, c3, c4, c5, c6⟩, ⟨f0, f1, f2, f3, f4, f5, f6⟩, hlt1, hlt2⟩ := HG7.out.cells
            clear hHeld
            refine hK.out _ _ ?_ (fun hHeld => ?_)
            · exact (HoldC.past (by kernel_rfl) (HoldC.past (by kernel_rfl) HoldC.nil))
            clear hK K
            try simp only [List.getElem_toArray, List.getElem_cons_succ, List.getElem_cons_zero, Act.put, List.setIfInBounds_toArray, List.set_cons_zero, List.set_cons_succ]
            refine wpAnyL_done (by kernel_rfl) ?_ _
            clear hHeld
            go_wp2
            refine wp_region_L [(9, fun w' => w'.cell? ⟨c.p, 3, none⟩ = some (.map (some c.o))), (9, fun w' => w'.cell? ⟨w.heap.size, 3, none⟩ = some (.int .i64 o.h))] (by kernel_rfl) ?_ (fun hHeld => ?_)
            · exact (HoldC.cons (p3) (HoldC.cons (o3) HoldC.nil))
            refine wpAnyL_take (i := 0) (oi := _) (v := ?_) rfl (by kernel_rfl) (by kernel_rfl) (by kernel_rfl) (by kernel_rfl) (by kernel_rfl) (fun _ _ _ h => h) (Or.inl ⟨by rfl, ?_⟩) (by assumption) (fun hNew => ?_)
            rotate_left
            · intro w _
              go_simp
              try with_reducible rfl
            clear hHeld
            have hHeld := hNew
            clear hNew
            try simp only [List.getElem_toArray, List.getElem_cons_succ, List.getElem_cons_zero, Act.put, List.setIfInBounds_toArray, List.set_cons_zero, List.set_cons_succ]
            refine wpAnyL_take (i := 1) (oi := _) (v := ?_) rfl (by kernel_rfl) (by kernel_rfl) (by kernel_rfl) (by kernel_rfl) (by kernel_rfl) (fun _ _ _ h => h) (Or.inl ⟨by rfl, ?_⟩) (by assumption) (fun hNew => ?_)
            rotate_left
            · intro w _
              go_simp
              try with_reducible rfl
            clear hHeld
            have hHeld := hNew
            clear hNew
            try simp only [List.getElem_toArray, List.getElem_cons_succ, List.getElem_cons_zero, Act.put, List.setIfInBounds_toArray, List.set_cons_zero, List.set_cons_succ]
            refine wpAnyL_take (i := 2) (oi := _) (v := ?_) rfl (by kernel_rfl) (by kernel_rfl) (by kernel_rfl) (by kernel_rfl) (by kernel_rfl) (fun _ _ _ h => h) (Or.inl ⟨by rfl, ?_⟩) (by assumption) (fun hNew => ?_)
            rotate_left
            · intro w _
              go_simp
              try with_reducible rfl
            clear hHeld
            have hHeld := hNew
            clear hNew
            try simp only [List.getElem_toArray, List.getElem_cons_succ, List.getElem_cons_zero, Act.put, List.setIfInBounds_toArray, List.set_cons_zero, List.set_cons_succ]
            refine wpAnyL_load 0 (i := 3) (oi := _) (v := ?_) rfl rfl (by kernel_rfl) (by kernel_rfl) (by kernel_rfl) (by kernel_rfl) (by kernel_rfl) (by kernel_rfl) (fun _ _ _ h => h) (Or.inl ⟨by rfl, ?_⟩) (by assumption) (fun hNew => ?_)
            rotate_left
            · intro w hSw
              (try dsimp only at hSw)
              go_simp
              try with_reducible rfl
            clear hHeld
            have hHeld := hNew
            clear hNew
            try simp only [List.getElem_toArray, List.getElem_cons_succ, List.getElem_cons_zero, Act.put, List.setIfInBounds_toArray, List.set_cons_zero, List.set_cons_succ]
            refine wpAnyL_take (i := 4) (oi := _) (v := ?_) rfl (by kernel_rfl) (by kernel_rfl) (by kernel_rfl) (by kernel_rfl) (by kernel_rfl) (fun _ _ _ h => h) (Or.inl ⟨by rfl, ?_⟩) (by assumption) (fun hNew => ?_)
            rotate_left
            · intro w _
              go_simp
              try with_reducible rfl
            clear hHeld
            have hHeld := hNew
            clear hNew
            try simp only [List.getElem_toArray, List.getElem_cons_succ, List.getElem_cons_zero, Act.put, List.setIfInBounds_toArray, List.set_cons_zero, List.set_cons_succ]
            refine wpAnyL_take (i := 5) (oi := _) (v := ?_) rfl (by kernel_rfl) (by kernel_rfl) (by kernel_rfl) (by kernel_rfl) (by kernel_rfl) (fun _ _ _ h => h) (Or.inl ⟨by rfl, ?_⟩) (by assumption) (fun hNew => ?_)
            rotate_left
            · intro w _
              go_simp
              try with_reducible rfl
            clear hHeld
            have hHeld := hNew
            clear hNew
            try simp only [List.getElem_toArray, List.getElem_cons_succ, List.getElem_cons_zero, Act.put, List.setIfInBounds_toArray, List.set_cons_zero, List.set_cons_succ]
            refine wpAnyL_load 1 (i := 6) (oi := _) (v := ?_) rfl rfl (by kernel_rfl) (by kernel_rfl) (by kernel_rfl) (by kernel_rfl) (by kernel_rfl) (by kernel_rfl) (fun _ _ _ h => h) (Or.inl ⟨by rfl, ?_⟩) (by assumption) (fun hNew => ?_)
            rotate_left
            · intro w hSw
              (try dsimp only at hSw)
              go_simp
              try with_reducible rfl
            clear hHeld
            have hHeld := hNew
            clear hNew
            try simp only [List.getElem_toArray, List.getElem_cons_succ, List.getElem_cons_zero, Act.put, List.setIfInBounds_toArray, List.set_cons_zero, List.set_cons_succ]
            refine wpAnyL_take (i := 7) (oi := _) (v := ?_) rfl (by kernel_rfl) (by kernel_rfl) (by kernel_rfl) (by kernel_rfl) (by kernel_rfl) (fun _ _ _ h => h) (Or.inl ⟨by rfl, ?_⟩) (by assumption) (fun hNew => ?_)
            rotate_left
            · intro w _
              go_simp
              try with_reducible rfl
            clear hHeld
            have hHeld := hNew
            clear hNew
            try simp only [List.getElem_toArray, List.getElem_cons_succ, List.getElem_cons_zero, Act.put, List.setIfInBounds_toArray, List.set_cons_zero, List.set_cons_succ]
            refine wpAnyL_take (i := 8) (oi := _) (v := ?_) rfl (by kernel_rfl) (by kernel_rfl) (by kernel_rfl) (by kernel_rfl) (by kernel_rfl) (fun _ _ _ h => h) (Or.inl ⟨by rfl, ?_⟩) (by assumption) (fun hNew => ?_)
            rotate_left
            · intro w _
              go_simp
              try with_reducible rfl
            clear hHeld
            have hHeld := hNew
            clear hNew
            try simp only [List.getElem_toArray, List.getElem_cons_succ, List.getElem_cons_zero, Act.put, List.setIfInBounds_toArray, List.set_cons_zero, List.set_cons_succ]
            refine wpAnyL_ready (rs := [9]) (by kernel_rfl) (by simp) ?_
            refine AllReadyL.cons (o := _) rfl (fun K hK => ?_) AllReadyL.nil
            try simp only [List.getElem_toArray, List.getElem_cons_succ, List.getElem_cons_zero]
            rw [if_pos (by rfl)]
            refine wp_oset _ (.tmp 71) (.tmp 75) (.tmp 76) (by rfl) c (by rfl) (HR7.out.keep0 ((Chg.refl [] _).drew)) HOW.out (a, o.h) (by rfl) HPK.out _ (by rfl) _ HFR.out ?_
            intro w8 h8 hs8
            have HG8 := Lib.hid (HG7.out.drew.step (PAt.less h8 (fun x hx => List.mem_cons_of_mem _ hx)))
            clear h8 hs8 HFR
            clear p0 p1 p2 p3 o0 o1 o2 o3 o4 o5 o6 o7 c0 c1 c2 c3 c4 c5 c6 f0 f1 f2 f3 f4 f5 f6 hlt1 hlt2
            obtain ⟨⟨p0, p1, p2, p3⟩, ⟨o0, o1, o2, o3, o4, o5, o6, o7⟩, ⟨c0, c1, c2, c3, c4, c5, c6⟩, ⟨f0, f1, f2, f3, f4, f5, f6⟩, hlt1, hlt2⟩ := HG8.out.cells
            clear hHeld
            refine hK.out _ _ ?_ (fun hHeld => ?_)
            · exact (HoldC.past (by kernel_rfl) (HoldC.past (by kernel_rfl) HoldC.nil))
            clear hK K
            try simp only [List.getElem_toArray, List.getElem_cons_succ, List.getElem_cons_zero, Act.put, List.setIfInBounds_toArray, List.set_cons_zero, List.set_cons_succ]
            refine wpAnyL_done (by kernel_rfl) ?_ _
            clear hHeld
            go_wp2
            obtain ⟨HBK, HAP⟩ := Going.done (no 0) { s with O := upd s.O (a, o.h) (writeB l o.i.toNat o.b) } HE.out HG8.out rfl rfl (u0 := .int .i64 0) (u1 := .int .i64 0) (u2 := .bool false) (u3 := .int .i64 0) (u4 := .int .i64 0) rfl rfl rfl rfl rfl
            obtain ⟨⟨d0, d1, d2, d3, d4, d5, d6⟩, _⟩ := ans_cells HBK
            unfold set7 at d0 d1 d2 d3 d4 d5 d6
            exact bodyPost_ret (v := .agg #[.int .i64 0, .int .i64 0, .bool false, .int .i64 0, .int .i64 0, .slice none 0 0, .slice none 0 0]) (by simp [results, Try.results35, go_sem, d0, d1, d2, d3, d4, d5, d6]) rfl HAP
end Go.Proofs.Ytaophafailmhjaa.W
