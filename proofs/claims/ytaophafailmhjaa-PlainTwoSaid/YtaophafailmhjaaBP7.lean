/- Texts laid together. -/
import Derived.Test.YtaophafailmhjaaBP6
import Derived.Test.YtaophafailmhjaaBP3
import Derived.Deep.Slices
import Derived.ChangeSlices
import Derived.Test.YtaophafailmhjaaBP2
import Derived.ChangeArms
/- The file system as it is meant: Crash. -/
namespace Go.Proofs.Ytaophafailmhjaa.W
open Go.RowKit
open Go.Proofs.Ytaophafailmhjaa.NM
set_option linter.unusedVariables false
set_option linter.unusedSimpArgs false

section
variable {κ : Type} {k : TypeId} {kv : κ → Value} {kl : κ → Lit} {ok : κ → Prop}
theorem wp_delR (E : KE k kv kl ok) (w : World) {o : Oper} {a : Act} {K : Act → World → Prop} {Q : Exit → Act → World → Prop} (m x : Operand) (t : TypeId) (hop : o.op = Op.call { callee := Callee.builtin Builtin.delete, args := #[m, x], argTypes := #[t, k] }) (e : TypeId)
    (ht : Try.prog.underlying t = some (.map k e)) (b r N cnt : Nat) (φ : κ → Option Value) (left : κ → Bool) (hm : a.eval m = .map (some b)) (h : Rng k kl ok w b r φ N left cnt) (y : κ) (hx : a.eval x = kv y) (hy : ok y)
    (hK : ∀ w' cnt', (∀ left', (∀ z, ok z → (z = y → left' z = false) ∧ (z ≠ y → left' z = left z)) → Rng k kl ok w' b r (delF φ y) (if (φ y).isSome then N - 1 else N) left' cnt') → cnt' ≤ cnt → Chg [b] w w' → w'.heap.size = w.heap.size → K (a.put o.dst (.tuple #[])) w') : Oper.wp Try.prog o a w K Q := by
  obtain ⟨w', cnt', hrun, r1, r2, r3⟩ := h.drop E ht hy o.type
  unfold Oper.wp execOp
  simp only [hop, resolve, invoke, builtin, Sem.run_bind, Sem.run_pure, Result.andThen_ok, List.map_toArray, List.map_cons, List.map_nil, hm, hx, hrun]
  exact hK w' cnt' r1 r2 r3.1 r3.2
end
theorem wpList_nxtP (w : World) {ops : Array Oper} {rest : List Oper} {o : Oper} {a : Act} {Q : Exit → Act → World → Prop} (hg : o.guard = none) (it : Operand) (hop : o.op = Op.next it false) (b r N : Nat) (φ : Int × Int → Option Value) (left : Int × Int → Bool) (cnt : Nat)
    (hit : a.eval it = .pointer (some ⟨r, 0, none⟩)) (h : Rng 66 klP okP w b r φ N left cnt)
    (hDone : cnt = 0 → (∀ x, okP x → left x = false) → wpList Try.prog ops Q rest (a.put o.dst (.tuple #[.bool false])) w)
    (hMore : ∀ (x y : Int) (v : Value) (w' : World) (cnt' : Nat), okP (x, y) → left (x, y) = true → φ (x, y) = some v → Rng 66 klP okP w' b r φ N (fun z => !decide (z = (x, y)) && left z) cnt' → cnt' < cnt → Chg [r] w w' → w'.heap.size = w.heap.size →
      (Instr.entry (.pointer (some ⟨r, 0, none⟩))).run Try.prog w' = .ok (.tuple #[.agg #[.int .i64 x, .int .i64 y], v]) w' → wpList Try.prog ops Q rest (a.put o.dst (.tuple #[.bool true, .agg #[.int .i64 x, .int .i64 y], v])) w') :
    wpList Try.prog ops Q (o :: rest) a w :=
  wpList_nxt kePair w hg it hop b r N φ left cnt hit h hDone fun x v w' cnt' h1 h2 h3 h4 => hMore x.1 x.2 v w' cnt' h1 h2 h3 (h4 _ fun y _ => ⟨fun e => by simp [e], fun e => by
    have : ¬ y = (x.1, x.2) := e
    simp [this]⟩)
variable {X S : List Nat} {w0 w wb wr w' : World} {c : PC} {s : PS} {a : Int} {r : Nat} {left : Int × Int → Bool} {cnt : Nat}
theorem ValsAt.congr {κ : Type} {ok : κ → Prop} {φ : κ → Option Value} {F G : κ → Option (List UInt8)} (h : ValsAt w S ok φ F) (he : ∀ x, ok x → F x = G x) : ValsAt w S ok φ G := fun x hx => by rw [← he x hx]; exact h x hx
/-- What is left of the rows that handles have: of those of client a only those that have not come up. -/
def outO (O : Os) (a : Int) (left : Int × Int → Bool) : Os := fun x => if x.1 = a ∧ left x = false then none else O x
def CrashAt (X : List Nat) (w0 wb wr : World) (c : PC) (S : List Nat) (s : PS) (O : Os) (r : Nat) (left : Int × Int → Bool) (cnt : Nat) (St Sk : List Nat) (f : Int → Option Value) (φ : Int × Int → Option Value) (Nf N : Nat) : Prop :=
  PlainOk wr c St Sk f φ Nf N { s with O := O } ∧ (∀ x ∈ foot c St Sk, x ∈ S ∨ w0.heap.size ≤ x) ∧ Chg S w0 wr ∧ (∀ x ∈ X, x ∉ foot c St Sk ∧ x < wr.heap.size ∧ x < wb.heap.size) ∧ KeepK X wb wr ∧ Rng 66 klP okP wr c.o r φ N left cnt ∧ r ∉ foot c St Sk ∧ wb.heap.size ≤ r ∧ w0.heap.size ≤ wb.heap.size
def CrashSt (X : List Nat) (w0 wb wr : World) (c : PC) (S : List Nat) (s : PS) (O : Os) (r : Nat) (left : Int × Int → Bool) (cnt : Nat) : Prop :=
  ∃ St Sk f φ Nf N, CrashAt X w0 wb wr c S s O r left cnt St Sk f φ Nf N
theorem CrashSt.at_ {O : Os} (h : CrashSt X w0 wb wr c S s O r left cnt) : PAt X w0 wr c S { s with O := O } := by
  obtain ⟨St, Sk, f, φ, Nf, N, h1, h2, h3, h4, _⟩ := h
  exact ⟨St, Sk, f, φ, Nf, N, h1, h2, h3, fun x hx => ⟨(h4 x hx).1, (h4 x hx).2.1⟩⟩
theorem CrashSt.kept {O : Os} (h : CrashSt X w0 wb wr c S s O r left cnt) : KeepK X wb wr := by
  obtain ⟨St, Sk, f, φ, Nf, N, h1, h2, h3, h4, h5, _⟩ := h
  exact h5
theorem CrashSt.congr {O O' : Os} (h : CrashSt X w0 wb wr c S s O r left cnt) (he : ∀ x, okP x → O x = O' x) : CrashSt X w0 wb wr c S s O' r left cnt := by
  obtain ⟨St, Sk, f, φ, Nf, N, h1, h2⟩ := h
  exact ⟨St, Sk, f, φ, Nf, N, ⟨h1.head, h1.tree, h1.toks, h1.fm, h1.om, h1.fv, h1.ov.congr he, h1.ap⟩, h2⟩
theorem CrashSt.keep0 {O : Os} (h : CrashSt X w0 wb wr c S s O r left cnt) (hc : Chg [] wr w') : CrashSt X w0 wb w' c S s O r left cnt := by
  obtain ⟨St, Sk, f, φ, Nf, N, h1, h2, h3, h4, h5, h6, h7⟩ := h
  exact ⟨St, Sk, f, φ, Nf, N, h1.keep0 hc, h2, h3.trans hc (by simp), fun x hx => ⟨(h4 x hx).1, Nat.lt_of_lt_of_le (h4 x hx).2.1 hc.size, (h4 x hx).2.2⟩, h5.chg hc (fun k hk => ⟨by simp, (h4 k hk).2.1⟩), h6.kept hc (by simp) (by simp), h7⟩
/-- A change of the iterator alone. -/
theorem CrashAt.turn {O : Os} {left' : Int × Int → Bool} {cnt' : Nat} {St Sk : List Nat} {f : Int → Option Value} {φ : Int × Int → Option Value} {Nf N : Nat} (h : CrashAt X w0 wb wr c S s O r left cnt St Sk f φ Nf N) (hc : Chg [r] wr w') (hr : Rng 66 klP okP w' c.o r φ N left' cnt') : CrashAt X w0 wb w' c S s O r left' cnt' St Sk f φ Nf N := by
  obtain ⟨h1, h2, h3, h4, h5, h6, h7, h8, h9⟩ := h
  have nb : NoBytes wr r := fun o' x hx => by
    obtain ⟨D, lf, hr, _⟩ := h6
    obtain ⟨es, clock, since, seen, c0, e1, F, e2, e3, e4, _⟩ := hr
    simp [World.cell?, e4] at hx
  have no : ∀ x ∈ foot c St Sk, x ∉ [r] := fun x hx hm => by simp at hm; subst hm; exact h7 hx
  have hb : ∀ x ∈ [r], NoBytes wr x := fun x hx => by simp at hx; subst hx; exact nb
  refine ⟨⟨hc.keep h1.head (no _ (mem_foot.2 (.inl rfl))), h1.tree.keep hc (fun x hx => no x (mem_foot.2 (.inr (.inr (.inr (.inl hx)))))), h1.toks.keep hc (fun x hx => no x (mem_foot.2 (.inr (.inr (.inr (.inr hx)))))), h1.fm.chg hc (no _ (mem_foot.2 (.inr (.inl rfl)))), h1.om.chg hc (no _ (mem_foot.2 (.inr (.inr (.inl rfl))))), ?_, ?_, h1.ap⟩, h2, h3.trans hc (fun x hx => .inr (by simp at hx; omega)), fun x hx => ⟨(h4 x hx).1, Nat.lt_of_lt_of_le (h4 x hx).2.1 hc.size, (h4 x hx).2.2⟩, h5.chg hc (fun k hk => ⟨by have := (h4 k hk).2.2; simp; omega, (h4 k hk).2.1⟩), hr, h7, h8, h9⟩
  · intro x hx
    rcases h1.fv x hx with e | ⟨v, l, e1, e2, e3⟩
    · exact .inl e
    · exact .inr ⟨v, l, e1, e2, e3.keepB hc hb⟩
  · intro x hx
    rcases h1.ov x hx with e | ⟨v, l, e1, e2, e3⟩
    · exact .inl e
    · exact .inr ⟨v, l, e1, e2, e3.keepB hc hb⟩
/-- A row taken out. -/
theorem CrashAt.dropped {O : Os} {cnt' N' : Nat} {St Sk : List Nat} {f : Int → Option Value} {φ : Int × Int → Option Value} {Nf N : Nat} {y : Int × Int} (h : CrashAt X w0 wb wr c S s O r left cnt St Sk f φ Nf N) (hc : Chg [c.o] wr w') (hr : Rng 66 klP okP w' c.o r (delF φ y) N' left cnt') : CrashAt X w0 wb w' c S s (del O y) r left cnt' St Sk f (delF φ y) Nf N' := by
  obtain ⟨h1, h2, h3, h4, h5, h6, h7, h8, h9⟩ := h
  have hof : c.o ∈ foot c St Sk := mem_foot.2 (.inr (.inr (.inl rfl)))
  have hU : ∀ x ∈ [c.o], x ∈ foot c St Sk := by intro x hx; simp at hx; subst hx; exact hof
  refine ⟨⟨hc.keep h1.head (by simp [h1.ap.po]), h1.tree.keep hc (fun x hx e => h1.ap.oT (by simp at e; rw [← e]; exact hx)), h1.toks.keep hc (fun x hx e => h1.ap.oK (by simp at e; rw [← e]; exact hx)), h1.fm.chg hc (by simp [h1.ap.fo]), hr.map, h1.fv.keep hc hU (fun x hx => .inl hx), (h1.ov.del y).keep hc hU (fun x hx => .inl hx), h1.ap⟩, h2, h3.trans hc (fun x hx => h2 x (hU x hx)), fun x hx => ⟨(h4 x hx).1, Nat.lt_of_lt_of_le (h4 x hx).2.1 hc.size, (h4 x hx).2.2⟩, h5.chg hc (fun k hk => ⟨fun hm => (h4 k hk).1 (hU k hm), (h4 k hk).2.1⟩), hr, h7, h8, h9⟩
theorem wpList_rngC (w : World) {ops : Array Oper} {rest : List Oper} {o : Oper} {a : Act} {Q : Exit → Act → World → Prop} (hg : o.guard = none) (m : Operand) (hop : o.op = Op.range 58 m)
    (hm : a.eval m = .map (some c.o)) (h : PAt X w0 w c S s)
    (hK : ∀ w' left cnt, (∀ x, okP x → left x = (s.O x).isSome) → CrashSt X w0 w w' c S s s.O w.heap.size left cnt → wpList Try.prog ops Q rest (a.put o.dst (.pointer (some ⟨w.heap.size, 0, none⟩))) w') :
    wpList Try.prog ops Q (o :: rest) a w := by
  obtain ⟨St, Sk, f, φ, Nf, N, h1, h2, h3, h4⟩ := h
  have hl := h1.lim
  refine wpList_rng kePair w hg m _ hop 22 Try.underlying58 c.o N φ hm h1.om fun w' hr hc hs => hK w' _ _ (fun x hx => h1.ov.some hx) ⟨St, Sk, f, φ, Nf, N, h1.keep0 hc, h2, h3.trans hc (by simp), fun x hx => ⟨(h4 x hx).1, Nat.lt_of_lt_of_le (h4 x hx).2 hc.size, (h4 x hx).2⟩, .of_chg hc (fun k hk => ⟨by simp, (h4 k hk).2⟩), hr, fun hm => ?_, Nat.le_refl _, h3.size⟩
  have := hl _ hm; omega
theorem wpList_nxtC {O : Os} {ops : Array Oper} {rest : List Oper} {o : Oper} {a : Act} {Q : Exit → Act → World → Prop} (hg : o.guard = none) (it : Operand) (hop : o.op = Op.next it false)
    (hit : a.eval it = .pointer (some ⟨r, 0, none⟩)) (h : CrashSt X w0 wb wr c S s O r left cnt)
    (hDone : (∀ x, okP x → left x = false) → wpList Try.prog ops Q rest (a.put o.dst (.tuple #[.bool false])) wr)
    (hMore : ∀ (x y : Int) (v : Value) (w' : World) (cnt' : Nat), okP (x, y) → CrashSt X w0 wb w' c S s O r (fun z => !decide (z = (x, y)) && left z) cnt' → cnt' < cnt →
      (Instr.entry (.pointer (some ⟨r, 0, none⟩))).run Try.prog w' = .ok (.tuple #[.agg #[.int .i64 x, .int .i64 y], v]) w' → wpList Try.prog ops Q rest (a.put o.dst (.tuple #[.bool true, .agg #[.int .i64 x, .int .i64 y], v])) w') :
    wpList Try.prog ops Q (o :: rest) a wr := by
  obtain ⟨St, Sk, f, φ, Nf, N, h⟩ := h
  exact wpList_nxtP wr hg it hop c.o r N φ left cnt hit h.2.2.2.2.2.1 (fun _ hl => hDone hl) fun x y v w' cnt' h1 _ _ h4 h5 h6 _ h8 => hMore x y v w' cnt' h1 ⟨St, Sk, f, φ, Nf, N, h.turn h6 h4⟩ h5 h8
theorem wp_delC {O : Os} {o : Oper} {a : Act} {K : Act → World → Prop} {Q : Exit → Act → World → Prop} (m x : Operand) (hop : o.op = Op.call { callee := Callee.builtin Builtin.delete, args := #[m, x], argTypes := #[58, 66] })
    (h : CrashSt X w0 wb wr c S s O r left cnt) (y z : Int) (hm : a.eval m = .map (some c.o)) (hx : a.eval x = .agg #[.int .i64 y, .int .i64 z]) (hy : okP (y, z)) (hl : left (y, z) = false)
    (hK : ∀ w' cnt', CrashSt X w0 wb w' c S s (del O (y, z)) r left cnt' → cnt' ≤ cnt → K (a.put o.dst (.tuple #[])) w') : Oper.wp Try.prog o a wr K Q := by
  obtain ⟨St, Sk, f, φ, Nf, N, h⟩ := h
  refine wp_delR kePair wr m x 58 hop 22 Try.underlying58 c.o r N cnt φ left hm h.2.2.2.2.2.1 (y, z) hx hy fun w' cnt' h1 h2 h3 h4 => hK w' cnt' ⟨St, Sk, f, _, Nf, _, h.dropped h3 (h1 left fun z' hz => ⟨fun e => by rw [e]; exact hl, fun _ => rfl⟩)⟩ h2
theorem outO_start {O : Os} {left : Int × Int → Bool} (hl : ∀ x, okP x → left x = (O x).isSome) (a : Int) : ∀ x, okP x → O x = outO O a left x := by
  intro x hx
  unfold outO
  split
  · rename_i h
    have := hl x hx
    rw [h.2] at this
    cases hO : O x with
    | none => rfl
    | some l => rw [hO] at this; cases this
  · rfl
theorem outO_end {O : Os} {left : Int × Int → Bool} {a : Int} (hl : ∀ x, okP x → left x = false) : ∀ x, okP x → outO O a left x = (if x.1 = a then none else O x) := by
  intro x hx
  unfold outO
  rw [hl x hx]
  simp
theorem outO_other {O : Os} {left : Int × Int → Bool} {a x y : Int} (hx : ¬ x = a) : ∀ z, okP z → outO O a left z = outO O a (fun z => !decide (z = (x, y)) && left z) z := by
  intro z hz
  unfold outO
  by_cases e : z = (x, y)
  · subst e; simp [hx]
  · simp [e]
theorem outO_his {O : Os} {left : Int × Int → Bool} {x y : Int} : ∀ z, okP z → del (outO O x left) (x, y) z = outO O x (fun z => !decide (z = (x, y)) && left z) z := by
  intro z hz
  unfold outO del
  by_cases e : z = (x, y)
  · subst e; simp
  · simp [e]
def CrashPost (X : List Nat) (w0 w : World) (c : PC) (S : List Nat) (s : PS) (a : Int) (e : Ending) (w' : World) : Prop := e = .returned (.int .i64 (psCrash s a).1) ∧ PPost X w0 w c S (psCrash s a).2 w'
set_option maxHeartbeats 4000000 in
set_option maxRecDepth 100000 in
theorem pcrash_any (h : PAt X w0 w c S s) (a : Int) : Calls Try.prog 14 #[.pointer (some ⟨c.p, 0, none⟩), .int .i64 a] w (CrashPost X w0 w c S s a) := by
  have CM := Lib.hid (made26_any h)
  obtain ⟨p0, p1, p2, p3, hp⟩ := h.cells
  have H := Lib.hid h
  clear h
  go_enter Try.func14, Try.ntmps14
  go_wp2_with fail
  refine CM.out.mono ?_
  rintro e w' ⟨rfl, hq1⟩
  subst hq1
  go_wp2_with (refine wpList_rngC _ rfl _ rfl rfl H.out ?_; intro w1 left cnt hl1 hs1; have HS := Lib.hid (hs1.congr (outO_start hl1 a)); clear hl1 hs1)
  clear p0 p1 p2 p3 hp
  go_frame
  go_loopg [] cnt (fun gh wr => ∃ (left : Int × Int → Bool) (cnt : Nat), cnt ≤ gh ∧ Hid (CrashSt X w0 w wr c S s (outO s.O a left) w.heap.size left cnt))
  case atStart => exact ⟨_, _, Nat.le_refl _, HS⟩
  case round =>
    clear HS
    obtain ⟨left, cnt, hcg, HS⟩ := hrel
    go_wp2_with (refine wpList_nxtC rfl _ rfl rfl HS.out ?_ ?_)
    · intro hl0
      have HE := Lib.hid (HS.out.congr (outO_end (O := s.O) (a := a) (fun z hz => hl0 z.1 z.2 hz))).at_
      have HK := Lib.hid HS.out.kept
      have CD := Lib.hid (ptDrop HE.out a)
      obtain ⟨p0, p1, p2, p3, hp⟩ := HE.out.cells
      clear hl0 HS
      go_wp2_with fail
      refine CD.out.mono ?_
      rintro e w2 ⟨rfl, hd⟩
      have HD := Lib.hid hd
      clear hd
      go_wp2
      go_ret
      exact ⟨rfl, HD.out.1, HK.out.trans HD.out.2⟩
    · intro x y v w2 cnt2 hok hs2 hlt hen
      have HS2 := Lib.hid hs2
      have HO := Lib.hid hok
      have HA := Lib.hid (show Chg [] w2 _ from (Chg.refl [] w2).alloc (.cells #[.int .i64 x, .int .i64 y] 66 (0, 0)))
      clear hs2 hok HS
      by_cases hxa : x = a
      · subst hxa
        go_wp2_with fail
        have HS3 := Lib.hid (HS2.out.keep0 HA.out)
        have hb2 := heap_alloc_new w2 (.cells #[.int .i64 x, .int .i64 y] 66)
        obtain ⟨q0, q1, q2, q3, hpq⟩ := HS3.out.at_.cells
        refine wp_region_L [(5, fun w' => w'.cell? ⟨c.p, 3, none⟩ = some (.map (some c.o))), (5, fun w' => (w'.cell? ⟨w2.heap.size, 0, none⟩ = some (.int .i64 x) ∧ w'.cell? ⟨w2.heap.size, 1, none⟩ = some (.int .i64 y)))] (by kernel_rfl) ?_ (fun hHeld => ?_)
        · exact (HoldC.cons (q3) (HoldC.cons (⟨blk_cell hb2 0 _ rfl, blk_cell hb2 1 _ rfl⟩) HoldC.nil))
        refine wpAnyL_take (i := 0) (oi := _) (v := ?_) rfl (by kernel_rfl) (by kernel_rfl) (by kernel_rfl) (by kernel_rfl) (by kernel_rfl) (fun _ _ _ h => h) (Or.inl ⟨by rfl, ?_⟩) (by assumption) (fun hNew => ?_)
        rotate_left
        · intro w _
          go_simp
          try with_reducible rfl
        clear hHeld
        have hHeld := hNew
        clear hNew
        try simp only [List.getElem_toArray, List.getElem_cons_succ, List.getElem_cons_zero, Act.put, List.setIfInBounds_toArray, List.set_cons_zero, List.set_cons_succ]
        refine wpAnyL_take (i := 1) (oi := _) (v := ?_) rfl (by kernel_rfl) (by kernel_rfl) (by kernel_rfl) (by kernel_rfl) (by kernel_rfl) (fun _ _ _ h => h) (Or.inl ⟨by rfl, ?_⟩) (by assumption) (fun hNew => ?_)
        rotate_left
        · intro w _
          go_simp
          try with_reducible rfl
        clear hHeld
        have hHeld := hNew
        clear hNew
        try simp only [List.getElem_toArray, List.getElem_cons_succ, List.getElem_cons_zero, Act.put, List.setIfInBounds_toArray, List.set_cons_zero, List.set_cons_succ]
        refine wpAnyL_take (i := 2) (oi := _) (v := ?_) rfl (by kernel_rfl) (by kernel_rfl) (by kernel_rfl) (by kernel_rfl) (by kernel_rfl) (fun _ _ _ h => h) (Or.inl ⟨by rfl, ?_⟩) (by assumption) (fun hNew => ?_)
        rotate_left
        · intro w _
          go_simp
          try with_reducible rfl
        clear hHeld
        have hHeld := hNew
        clear hNew
        try simp only [List.getElem_toArray, List.getElem_cons_succ, List.getElem_cons_zero, Act.put, List.setIfInBounds_toArray, List.set_cons_zero, List.set_cons_succ]
        refine wpAnyL_load 0 (i := 3) (oi := _) (v := ?_) rfl rfl (by kernel_rfl) (by kernel_rfl) (by kernel_rfl) (by kernel_rfl) (by kernel_rfl) (by kernel_rfl) (fun _ _ _ h => h) (Or.inl ⟨by rfl, ?_⟩) (by assumption) (fun hNew => ?_)
        rotate_left
        · intro w hSw
          (try dsimp only at hSw)
          go_simp
          try with_reducible rfl
        clear hHeld
        have hHeld := hNew
        clear hNew
        try simp only [List.getElem_toArray, List.getElem_cons_succ, List.getElem_cons_zero, Act.put, List.setIfInBounds_toArray, List.set_cons_zero, List.set_cons_succ]
        refine wpAnyL_load 1 (i := 4) (oi := _) (v := ?_) rfl rfl (by kernel_rfl) (by kernel_rfl) (by kernel_rfl) (by kernel_rfl) (by kernel_rfl) (by kernel_rfl) (fun _ _ _ h => h) (Or.inl ⟨by rfl, ?_⟩) (by assumption) (fun hNew => ?_)
        rotate_left
        · intro w hSw
          (try dsimp only at hSw)
          go_simp
          try with_reducible rfl
        clear hHeld
        have hHeld := hNew
        clear hNew
        try simp only [List.getElem_toArray, List.getElem_cons_succ, List.getElem_cons_zero, Act.put, List.setIfInBounds_toArray, List.set_cons_zero, List.set_cons_succ]
        refine wpAnyL_ready (rs := [5]) (by kernel_rfl) (by simp) ?_
        refine AllReadyL.cons (o := _) rfl (fun K hK => ?_) AllReadyL.nil
        try simp only [List.getElem_toArray, List.getElem_cons_succ, List.getElem_cons_zero]
        refine wp_delC _ _ rfl (HS3.out.keep0 ((Chg.refl [] _).drew)) x y rfl rfl HO.out (by simp) ?_
        intro w3 cnt3 hs3 hlt3
        have HN := Lib.hid (hs3.congr outO_his)
        clear hs3
        clear hHeld
        refine hK.out _ _ ?_ (fun hHeld => ?_)
        · exact (HoldC.past (by kernel_rfl) (HoldC.past (by kernel_rfl) HoldC.nil))
        clear hK K
        try simp only [List.getElem_toArray, List.getElem_cons_succ, List.getElem_cons_zero, Act.put, List.setIfInBounds_toArray, List.set_cons_zero, List.set_cons_succ]
        refine wpAnyL_done (by kernel_rfl) ?_ _
        clear hHeld
        go_wp2
        go_roundg cnt3
        case measure => omega
        case rel => exact ⟨_, cnt3, Nat.le_refl _, HN⟩
      · have HN := Lib.hid ((HS2.out.congr (outO_other (y := y) hxa)).keep0 HA.out)
        go_wp2_with fail
        go_roundg cnt2
        case measure => omega
        case rel => exact ⟨_, cnt2, Nat.le_refl _, HN⟩
/-- As a law asks it. -/
theorem lcrash_any {L : List (Nat × Array Value)} {B : List (Value × List UInt8)} (h : Lives w0 w c s L B) (a : Int) (r : Int × PS) (hr : psCrash s a = r) : Calls Try.prog 14 #[.pointer (some ⟨c.p, 0, none⟩), .int .i64 a] w fun e w' => e = .returned (.int .i64 r.1) ∧ Lives w0 w' c r.2 L B := by
  subst hr
  refine (pcrash_any h.own.at_ a).mono ?_
  rintro e w' ⟨rfl, hp, hk⟩
  refine ⟨rfl, ⟨hp, h.own.inv.crash a⟩, fun p hp => (hk _ (List.mem_append_left _ (List.mem_map_of_mem hp))).trans (h.mem p hp), fun q hq => (h.byt q hq).keep fun g hg => hk g (List.mem_append_right _ (List.mem_flatMap.2 ⟨q, hq, Option.mem_toList.2 hg⟩))⟩
end Go.Proofs.Ytaophafailmhjaa.W

/- Bytes that came in. -/
namespace Go.Proofs.Ytaophafailmhjaa.W
open Go.RowKit Go.ChangeShapes Go.WideShapes
set_option linter.unusedVariables false
set_option linter.unusedSimpArgs false

/-- Bytes that came in. -/
def Came (w : World) (v : Value) (l : List UInt8) : Prop := BytesAt w v l ∧ (l ≠ [] → ∀ k, v.ownBlock = some k → k < w.heap.size)
theorem Came.chg {w w' : World} {v : Value} {l : List UInt8} (h : Came w v l) (hc : Chg [] w w') : Came w' v l := ⟨h.1.chg0 hc, fun hl k hk => Nat.lt_of_lt_of_le (h.2 hl k hk) hc.size⟩
theorem toU8 (z : Int) (h : (Lit.int .u8 z).wf = true) : .int .u8 z = bv (UInt8.ofNat z.toNat) := by
  simp [Lit.wf, IntKind.min, IntKind.max, IntKind.signed, IntKind.bits] at h
  unfold bv
  rw [UInt8.toNat_ofNat']
  congr 1
  omega

section
variable {H : Type} {enc : TypeId × Value → H} {w : World} {base : Nat} {held : Bool}
/-- A slice of bytes that came in. -/
theorem open_came {fuel : Nat} {cs : List Value} {x : DataW H × List MemPlace} (h : DataW.trod enc Try.prog w base (fun _ => true) held fuel 22 cs = some x) : ∃ v l, cs = [v] ∧ Came w v l ∧ l.length ≤ maxLen := by
  rcases open_ints Try.underlying22 Try.underlying5 (by kernel_rfl) h with ⟨rfl, _⟩ | ⟨a, len, cap, zs, rfl, _, hl, hm, hz, _, hcell, hwf⟩
  · exact ⟨_, [], rfl, ⟨BytesAt.nil _, by simp⟩, by unfold maxLen; simp⟩
  · replace hz : zs.length = cap := by simpa using hz
    have hlen : ((zs.take len).map (fun z => UInt8.ofNat z.toNat)).length = len := by rw [List.length_map, List.length_take]; omega
    have hg : ∀ i, i < len → ((zs.take len).map (fun z => UInt8.ofNat z.toNat)).getD i 0 = UInt8.ofNat (zs.getD i 0).toNat := by
      intro i hi
      rw [List.getD_eq_getElem?_getD, List.getElem?_map, List.getElem?_take, if_pos hi, List.getD_eq_getElem?_getD, List.getElem?_eq_getElem (by omega)]
      rfl
    have hw : ∀ i, i < zs.length → (Lit.int .u8 (zs.getD i 0)).wf = true := fun i hi => hwf _ (by
      rw [List.getD_eq_getElem?_getD, List.getElem?_eq_getElem hi]
      exact List.getElem_mem hi)
    refine ⟨_, (zs.take len).map (fun z => UInt8.ofNat z.toNat), rfl, ?_, by rw [hlen]; omega⟩
    by_cases hc0 : cap = 0
    · have h0 : len = 0 := by omega
      subst hc0; subst h0
      have hnil : (zs.take 0).map (fun z => UInt8.ofNat z.toNat) = [] := by simp
      rw [hnil]
      exact ⟨⟨some a, 0, rfl, Nat.le_refl _, by unfold maxLen; omega, .inl ⟨rfl, rfl⟩⟩, fun h => absurd rfl h⟩
    · obtain ⟨g, o, spot⟩ := a
      have hc := hcell 0 (by omega)
      have hspot : spot = none := by simpa [Addr.add] using World.cell?_spot hc
      subst hspot
      have hlt : g < w.heap.size := by
        have := World.block_lt_of_cell? w _ hc
        simpa [Addr.add] using this
      refine ⟨⟨some ⟨g, o, none⟩, cap, by rw [hlen], by omega, hm, .inr ⟨g, o, rfl, fun i hi => ?_⟩⟩, fun _ k hk => ?_⟩
      · rw [hlen] at hi
        have := hcell i (by omega)
        rw [add_none] at this
        rw [this, hg i hi, ← toU8 _ (hw i (by omega))]
      · obtain rfl : g = k := by simpa [Value.ownBlock] using hk
        exact hlt
end
theorem IsRow.came {w : World} {a : Option Addr} {len cap : Nat} {zs : List Int} (h : IsRow .u8 w a len cap zs) : ∃ l, l.length = len ∧ len ≤ maxLen ∧ Came w (.slice a len cap) l := by
  rcases h with ⟨rfl, rfl, rfl, rfl⟩ | ⟨x, rfl, h1, h2, h3, h4, h5⟩
  · exact ⟨[], rfl, by unfold maxLen; omega, BytesAt.nil w, by simp⟩
  · have hlen : ((zs.take len).map (fun z => UInt8.ofNat z.toNat)).length = len := by rw [List.length_map, List.length_take]; omega
    have hg : ∀ i, i < len → ((zs.take len).map (fun z => UInt8.ofNat z.toNat)).getD i 0 = UInt8.ofNat (zs.getD i 0).toNat := by
      intro i hi
      rw [List.getD_eq_getElem?_getD, List.getElem?_map, List.getElem?_take, if_pos hi, List.getD_eq_getElem?_getD, List.getElem?_eq_getElem (by omega)]
      rfl
    have hw : ∀ i, i < zs.length → (Lit.int .u8 (zs.getD i 0)).wf = true := fun i hi => h5 _ (by
      rw [List.getD_eq_getElem?_getD, List.getElem?_eq_getElem hi]
      exact List.getElem_mem hi)
    refine ⟨_, hlen, by omega, ?_⟩
    by_cases hl0 : len = 0
    · subst hl0
      have hnil : (zs.take 0).map (fun z => UInt8.ofNat z.toNat) = [] := by simp
      rw [hnil]
      by_cases hc0 : cap = 0
      · subst hc0
        exact ⟨⟨some x, 0, rfl, Nat.le_refl _, by unfold maxLen; omega, .inl ⟨rfl, rfl⟩⟩, by simp⟩
      · obtain ⟨g, o, spot⟩ := x
        have hc := h4 0 (by omega)
        have hspot : spot = none := by simpa [Addr.add] using World.cell?_spot hc
        subst hspot
        exact ⟨⟨some ⟨g, o, none⟩, cap, rfl, by simp, h2, .inr ⟨g, o, rfl, by simp⟩⟩, by simp⟩
    · obtain ⟨g, o, spot⟩ := x
      have hc := h4 0 (by omega)
      have hspot : spot = none := by simpa [Addr.add] using World.cell?_spot hc
      subst hspot
      have hlt : g < w.heap.size := by
        have := World.block_lt_of_cell? w _ hc
        simpa [Addr.add] using this
      refine ⟨⟨some ⟨g, o, none⟩, cap, by rw [hlen], by omega, h2, .inr ⟨g, o, rfl, fun i hi => ?_⟩⟩, fun _ k hk => ?_⟩
      · rw [hlen] at hi
        have := h4 i (by omega)
        rw [add_none] at this
        rw [this, hg i hi, ← toU8 _ (hw i (by omega))]
      · obtain rfl : g = k := by simpa [Value.ownBlock] using hk
        exact hlt
end Go.Proofs.Ytaophafailmhjaa.W

/- A slice of deeds that came in: rows of nine cells: a client, an operation; Room. -/
namespace Go.Proofs.Ytaophafailmhjaa.W
open Go.RowKit Go.ChangeShapes Go.WideShapes
open Go.Proofs.Ytaophafailmhjaa.NM
set_option linter.unusedVariables false
set_option linter.unusedSimpArgs false

/-- A deed: a client, an operation, its bytes' value. -/
structure Dd where
  c : Int
  o : Op
  v : Value
instance : Inhabited Dd := ⟨⟨0, default, .slice none 0 0⟩⟩
def DeedAt (w : World) (g o : Nat) (d : Dd) : Prop :=
  w.cell? ⟨g, o, none⟩ = some (.int .i64 d.c) ∧ w.cell? ⟨g, o + 1, none⟩ = some (.int .i64 d.o.d) ∧ w.cell? ⟨g, o + 2, none⟩ = some (.string (mk d.o.p)) ∧ w.cell? ⟨g, o + 3, none⟩ = some (.string (mk d.o.q)) ∧ w.cell? ⟨g, o + 4, none⟩ = some (.int .i64 d.o.h) ∧
    w.cell? ⟨g, o + 5, none⟩ = some (.int .i64 d.o.i) ∧ w.cell? ⟨g, o + 6, none⟩ = some (.int .i64 d.o.n) ∧ w.cell? ⟨g, o + 7, none⟩ = some (.bool d.o.w) ∧ w.cell? ⟨g, o + 8, none⟩ = some d.v ∧
    Came w d.v d.o.b ∧ d.o.p.length ≤ maxLen ∧ d.o.q.length ≤ maxLen ∧ d.o.b.length ≤ maxLen
theorem DeedAt.keep {w w' : World} {g o : Nat} {d : Dd} (h : DeedAt w g o d) (hc : Chg [] w w') : DeedAt w' g o d := by
  obtain ⟨h0, h1, h2, h3, h4, h5, h6, h7, h8, h9, h10⟩ := h
  exact ⟨hc.cell h0 (by simp), hc.cell h1 (by simp), hc.cell h2 (by simp), hc.cell h3 (by simp), hc.cell h4 (by simp), hc.cell h5 (by simp), hc.cell h6 (by simp), hc.cell h7 (by simp), hc.cell h8 (by simp), h9.chg hc, h10⟩
def DeedsAt (w : World) (a : Option Addr) (n : Nat) (f : Nat → Dd) : Prop :=
  n = 0 ∨ ∃ g o, a = some ⟨g, o, none⟩ ∧ ∀ i, i < n → DeedAt w g (o + i * 9) (f i)
theorem DeedsAt.keep {w w' : World} {a : Option Addr} {n : Nat} {f : Nat → Dd} (h : DeedsAt w a n f) (hc : Chg [] w w') : DeedsAt w' a n f := by
  rcases h with h | ⟨g, o, rfl, h⟩
  · exact .inl h
  · exact .inr ⟨g, o, rfl, fun i hi => (h i hi).keep hc⟩

section
variable {H : Type} {enc : TypeId × Value → H} {w : World} {base : Nat} {held : Bool}
theorem fieldsD : ∃ f0 f1 : Field, Try.prog.underlying 43 = some (.struct #[f0, f1]) ∧ f0.offset = 0 ∧ f1.offset = 1 ∧ Try.prog.underlying f0.type = some (.int .i64) ∧ f1.type = 33 ∧ Try.prog.cellsOf f0.type = 1 ∧ Try.prog.cellsOf f1.type = 8 :=
  ⟨_, _, Try.underlying43, rfl, rfl, by kernel_rfl, rfl, by kernel_rfl, by kernel_rfl⟩
theorem fieldsO : ∃ f0 f1 f2 f3 f4 f5 f6 f7 : Field, Try.prog.underlying 33 = some (.struct #[f0, f1, f2, f3, f4, f5, f6, f7]) ∧ f0.offset = 0 ∧ f1.offset = 1 ∧ f2.offset = 2 ∧ f3.offset = 3 ∧ f4.offset = 4 ∧ f5.offset = 5 ∧ f6.offset = 6 ∧ f7.offset = 7 ∧
    Try.prog.underlying f0.type = some (.int .i64) ∧ Try.prog.underlying f1.type = some .string ∧ Try.prog.underlying f2.type = some .string ∧ Try.prog.underlying f3.type = some (.int .i64) ∧ Try.prog.underlying f4.type = some (.int .i64) ∧ Try.prog.underlying f5.type = some (.int .i64) ∧ Try.prog.underlying f6.type = some .bool ∧ f7.type = 22 ∧
    Try.prog.cellsOf f0.type = 1 ∧ Try.prog.cellsOf f1.type = 1 ∧ Try.prog.cellsOf f2.type = 1 ∧ Try.prog.cellsOf f3.type = 1 ∧ Try.prog.cellsOf f4.type = 1 ∧ Try.prog.cellsOf f5.type = 1 ∧ Try.prog.cellsOf f6.type = 1 ∧ Try.prog.cellsOf f7.type = 1 :=
  ⟨_, _, _, _, _, _, _, _, Try.underlying33, rfl, rfl, rfl, rfl, rfl, rfl, rfl, rfl, by kernel_rfl, by kernel_rfl, by kernel_rfl, by kernel_rfl, by kernel_rfl, by kernel_rfl, by kernel_rfl, rfl, by kernel_rfl, by kernel_rfl, by kernel_rfl, by kernel_rfl, by kernel_rfl, by kernel_rfl, by kernel_rfl, by kernel_rfl⟩
theorem cellsD : Try.prog.cellsOf 43 = 9 := by kernel_rfl

set_option maxRecDepth 100000 in
/-- An operation. -/
theorem open_op {fuel : Nat} {v0 v1 v2 v3 v4 v5 v6 v7 : Value} {x : DataW H × List MemPlace} (h : DataW.trod enc Try.prog w base (fun _ => true) held fuel 33 [v0, v1, v2, v3, v4, v5, v6, v7] = some x) :
    ∃ o : Op, v0 = .int .i64 o.d ∧ v1 = .string (mk o.p) ∧ v2 = .string (mk o.q) ∧ v3 = .int .i64 o.h ∧ v4 = .int .i64 o.i ∧ v5 = .int .i64 o.n ∧ v6 = .bool o.w ∧ Came w v7 o.b ∧ o.p.length ≤ maxLen ∧ o.q.length ≤ maxLen ∧ o.b.length ≤ maxLen := by
  obtain ⟨f0, f1, f2, f3, f4, f5, f6, f7, hs, o0, o1, o2, o3, o4, o5, o6, o7, t0, t1, t2, t3, t4, t5, t6, t7, c0, c1, c2, c3, c4, c5, c6, c7⟩ := fieldsO
  obtain ⟨xs, k, hk, hxy, _, hxl, hf⟩ := DataW.trod_struct hs h
  match xs, hxl with
  | [y0, y1, y2, y3, y4, y5, y6, y7], _ =>
    have g0 := hf 0 f0 rfl
    have g1 := hf 1 f1 rfl
    have g2 := hf 2 f2 rfl
    have g3 := hf 3 f3 rfl
    have g4 := hf 4 f4 rfl
    have g5 := hf 5 f5 rfl
    have g6 := hf 6 f6 rfl
    have g7 := hf 7 f7 rfl
    simp [o0, o1, o2, o3, o4, o5, o6, o7, c0, c1, c2, c3, c4, c5, c6, c7] at g0 g1 g2 g3 g4 g5 g6 g7
    rw [t7] at g7
    obtain ⟨z0, q0, _⟩ := DataW.trod_int t0 g0
    obtain ⟨z1, q1, _, z1w⟩ := DataW.trod_string t1 g1
    obtain ⟨z2, q2, _, z2w⟩ := DataW.trod_string t2 g2
    obtain ⟨z3, q3, _⟩ := DataW.trod_int t3 g3
    obtain ⟨z4, q4, _⟩ := DataW.trod_int t4 g4
    obtain ⟨z5, q5, _⟩ := DataW.trod_int t5 g5
    obtain ⟨z6, q6, _⟩ := DataW.trod_bool t6 g6
    obtain ⟨z7, l7, q7, m7, m7l⟩ := open_came g7
    simp at q0 q1 q2 q3 q4 q5 q6 q7
    subst q0; subst q1; subst q2; subst q3; subst q4; subst q5; subst q6; subst q7
    exact ⟨⟨z0, z1.data.toList, z2.data.toList, z3, z4, z5, z6, l7⟩, rfl, by simp [mk_data], by simp [mk_data], rfl, rfl, rfl, rfl, m7, by rw [← size_len]; exact z1w, by rw [← size_len]; exact z2w, m7l⟩
set_option maxRecDepth 100000 in
theorem open_deeds {fuel : Nat} {cs : List Value} {x : DataW H × List MemPlace} (h : DataW.trod enc Try.prog w base (fun _ => true) held fuel 40 cs = some x) :
    (cs = [.slice none 0 0]) ∨ ∃ (a : Addr) (len cap : Nat) (f : Nat → Dd), cs = [.slice (some a) len cap] ∧ len ≤ cap ∧ cap ≤ maxLen ∧ DeedsAt w (some a) len f := by
  rcases Go.Deep.open_slice Try.underlying40 h with ⟨h0, _⟩ | ⟨a, len, cap, m, n, D, Pl, rfl, hb, hl, hm, hmm, hx, hel⟩
  · exact .inl h0
  · right
    have hlm : len ≤ m := by rw [hmm]; split <;> omega
    obtain ⟨f0, f1, hs, o0, o1, t0, t1, c0, c1⟩ := fieldsD
    have each : ∀ i, i < len → ∃ r : Dd, w.cell? (a.add (i * 9)) = some (.int .i64 r.c) ∧ w.cell? (a.add (i * 9 + 1)) = some (.int .i64 r.o.d) ∧ w.cell? (a.add (i * 9 + 2)) = some (.string (mk r.o.p)) ∧ w.cell? (a.add (i * 9 + 3)) = some (.string (mk r.o.q)) ∧ w.cell? (a.add (i * 9 + 4)) = some (.int .i64 r.o.h) ∧
        w.cell? (a.add (i * 9 + 5)) = some (.int .i64 r.o.i) ∧ w.cell? (a.add (i * 9 + 6)) = some (.int .i64 r.o.n) ∧ w.cell? (a.add (i * 9 + 7)) = some (.bool r.o.w) ∧ w.cell? (a.add (i * 9 + 8)) = some r.v ∧ Came w r.v r.o.b ∧ r.o.p.length ≤ maxLen ∧ r.o.q.length ≤ maxLen ∧ r.o.b.length ≤ maxLen := by
      intro i hi
      obtain ⟨cs', h1, h2⟩ := hel i (by omega)
      rw [cellsD] at h1
      obtain ⟨_, hlen, hcell⟩ := World.cells?_some h1
      obtain ⟨xs, k, hk, hxy, _, hxl, hf⟩ := DataW.trod_struct hs h2
      match xs, hxl, cs', hlen with
      | [y0, y1], _, [v0, v1, v2, v3, v4, v5, v6, v7, v8], _ =>
        have g0 := hf 0 f0 rfl
        have g1 := hf 1 f1 rfl
        simp [o0, o1, c0, c1] at g0 g1
        rw [t1] at g1
        have e0 := hcell 0 (by omega)
        have e1 := hcell 1 (by omega)
        have e2 := hcell 2 (by omega)
        have e3 := hcell 3 (by omega)
        have e4 := hcell 4 (by omega)
        have e5 := hcell 5 (by omega)
        have e6 := hcell 6 (by omega)
        have e7 := hcell 7 (by omega)
        have e8 := hcell 8 (by omega)
        rw [Go.Deep.add_add] at e0 e1 e2 e3 e4 e5 e6 e7 e8
        obtain ⟨z0, q0, _⟩ := DataW.trod_int t0 g0
        obtain ⟨o, p0, p1, p2, p3, p4, p5, p6, p7, p8⟩ := open_op g1
        simp at q0
        subst q0; subst p0; subst p1; subst p2; subst p3; subst p4; subst p5; subst p6
        exact ⟨⟨z0, o, v8⟩, by simpa using e0, by simpa using e1, by simpa using e2, by simpa using e3, by simpa using e4, by simpa using e5, by simpa using e6, by simpa using e7, by simpa using e8, p7, p8⟩
    obtain ⟨f, hf⟩ := Go.Deep.choose_lt each
    refine ⟨a, len, cap, f, rfl, hl, hm, ?_⟩
    by_cases h0 : len = 0
    · exact .inl h0
    · right
      obtain ⟨g, o, spot⟩ := a
      have hc := (hf 0 (by omega)).1
      have hspot : spot = none := by simpa [Addr.add] using World.cell?_spot hc
      subst hspot
      refine ⟨g, o, rfl, fun i hi => ?_⟩
      obtain ⟨c0, c1, c2, c3, c4, c5, c6, c7, c8, c9⟩ := hf i hi
      rw [add_none] at c0 c1 c2 c3 c4 c5 c6 c7 c8
      exact ⟨c0, by simpa [Nat.add_assoc] using c1, by simpa [Nat.add_assoc] using c2, by simpa [Nat.add_assoc] using c3, by simpa [Nat.add_assoc] using c4, by simpa [Nat.add_assoc] using c5, by simpa [Nat.add_assoc] using c6, by simpa [Nat.add_assoc] using c7, by simpa [Nat.add_assoc] using c8, c9⟩
end

/-! ### Room -/
def roomP (d : Dd) : Prop := d.o.p.length ≤ 300 ∧ d.o.q.length ≤ 300 ∧ d.o.b.length ≤ 5000
instance (d : Dd) : Decidable (roomP d) := inferInstanceAs (Decidable (_ ∧ _))
def roomB (n : Nat) (f : Nat → Dd) (most : Int) : Bool := decide ((n : Int) ≤ most) && (List.range n).all (fun i => decide (roomP (f i)))
theorem room_true {n : Nat} {f : Nat → Dd} {most : Int} (h : roomB n f most = true) : (n : Int) ≤ most ∧ ∀ i, i < n → roomP (f i) := by
  unfold roomB at h
  simp at h
  exact h
theorem room_far {n : Nat} {f : Nat → Dd} {most : Int} (h : ¬ (n : Int) ≤ most) : roomB n f most = false := by unfold roomB; rw [decide_eq_false h]; rfl
theorem room_long {n i : Nat} {f : Nat → Dd} {most : Int} (hi : i < n) (h : ¬ roomP (f i)) : roomB n f most = false := by
  cases hr : roomB n f most with
  | false => rfl
  | true => exact absurd ((room_true hr).2 i hi) h
theorem room_ok {n : Nat} {f : Nat → Dd} {most : Int} (h1 : (n : Int) ≤ most) (h2 : ∀ i, i < n → roomP (f i)) : roomB n f most = true := by
  unfold roomB
  rw [decide_eq_true h1]
  simp
  exact h2

set_option maxHeartbeats 4000000 in
set_option maxRecDepth 100000 in
theorem room_any (a : Option Addr) (n cap : Nat) (f : Nat → Dd) (most : Int) (w : World) (h : DeedsAt w a n f) (hn : n ≤ maxLen) :
    Calls Try.prog 15 #[.slice a n cap, .int .i64 most] w fun e w' => e = .returned (.bool (roomB n f most)) ∧ w = w' := by
  unfold maxLen at hn
  have H := Lib.hid h
  obtain ⟨R, hR⟩ : ∃ R, R = roomB n f most := ⟨_, rfl⟩
  have HR := Lib.hid hR
  rw [← hR]
  clear h hR
  by_cases hm : (n : Int) ≤ most
  · have HM := Lib.hid hm
    go_enter Try.func15, Try.ntmps15
    go_wp2
    go_loop [5] (fun v5 => ∃ k : Nat, v5 = .int .i64 k ∧ k ≤ n ∧ Hid (∀ i, i < k → roomP (f i))) (fun v5 => n - (intOf v5).toNat)
    case atStart => exact ⟨0, rfl, by omega, Lib.hid (fun i hi => by omega)⟩
    case round =>
      obtain ⟨k, rfl, hk, HQ⟩ := hrel
      by_cases hlt : k < n
      · obtain ⟨g, o, rfl, hd⟩ : ∃ g o, a = some ⟨g, o, none⟩ ∧ DeedAt w g (o + k * 9) (f k) := by
          rcases H.out with h0 | ⟨g, o, h1, h2⟩
          · omega
          · exact ⟨g, o, h1, h2 k hlt⟩
        have HA0 : Hid (¬ roomP (f k) → R = false) := Lib.hid (fun h => by rw [HR.out]; exact room_long hlt h)
        have HN0 : Hid (roomP (f k) → ∀ i, i < k + 1 → roomP (f i)) := Lib.hid (fun hp i hi => by
          rcases Nat.lt_or_ge i k with h | h
          · exact HQ.out i h
          · obtain rfl : i = k := by omega
            exact hp)
        obtain ⟨_, _, hc1, hc2, _, _, _, _, hc8, hcm, hl1, hl2, hl3⟩ := hd
        obtain ⟨av, cv, hav⟩ := hcm.1.slice
        rw [hav] at hc8
        unfold maxLen at hl1 hl2 hl3
        have hkz : (k : Int) < (n : Int) := by omega
        unfold roomP at HA0
        generalize hdk : f k = dk at *
        have HP : Hid ((mk dk.o.p).size = dk.o.p.length ∧ (mk dk.o.q).size = dk.o.q.length) := Lib.hid ⟨by rw [size_len], by rw [size_len]⟩
        clear hcm hav hdk
        have HN1 : Hid (dk.o.p.length ≤ 300 → dk.o.q.length ≤ 300 → dk.o.b.length ≤ 5000 → ∀ i, i < k + 1 → roomP (f i)) := Lib.hid (fun a b c => HN0.out ⟨a, b, c⟩)
        clear HN0
        generalize dk.o.p = P at *
        generalize dk.o.q = Q at *
        generalize dk.o.b = B at *
        by_cases h1 : P.length ≤ 300
        · by_cases h2 : Q.length ≤ 300
          · by_cases h3 : B.length ≤ 5000
            · have HN := Lib.hid (HN1.out h1 h2 h3)
              clear HN1 HA0
              go_wp2
              go_round
              case rel => exact ⟨k + 1, by go_num, by omega, HN⟩
              case measure => simp [intOf]; omega
            · have HA := Lib.hid (HA0.out (fun h => h3 h.2.2))
              clear HN1 HA0
              go_wp2
              go_ret
              rw [HA.out]
              exact ⟨rfl, rfl⟩
          · have HA := Lib.hid (HA0.out (fun h => h2 h.2.1))
            clear HN1 HA0
            go_wp2
            go_ret
            rw [HA.out]
            exact ⟨rfl, rfl⟩
        · have HA := Lib.hid (HA0.out (fun h => h1 h.1))
          clear HN1 HA0
          go_wp2
          go_ret
          rw [HA.out]
          exact ⟨rfl, rfl⟩
      · have HA : Hid (R = true) := Lib.hid (by rw [HR.out]; exact room_ok HM.out (fun i hi => HQ.out i (by omega)))
        go_wp2
        go_ret
        rw [HA.out]
        exact ⟨rfl, rfl⟩
  · have HA : Hid (R = false) := Lib.hid (by rw [HR.out]; exact room_far hm)
    go_enter Try.func15, Try.ntmps15
    go_wp2
    go_ret
    rw [HA.out]
    exact ⟨rfl, rfl⟩
end Go.Proofs.Ytaophafailmhjaa.W
