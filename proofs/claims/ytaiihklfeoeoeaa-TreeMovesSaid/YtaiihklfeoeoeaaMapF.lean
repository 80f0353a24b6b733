/- Maps in memory, told key by key. -/
import Derived.Test.YtaiihklfeoeoeaaB0
import Derived.Maps.OwnSet
import Derived.Maps.RangeWalk
namespace Go.Proofs.Ytaiihklfeoeoeaa.W
open Go.RowKit
open Go.Maps (Keyed)
set_option linter.unusedVariables false
set_option linter.unusedSimpArgs false

/-- An element as it stands. -/
def hv (v : Value) : Option (DataW Value × List MemPlace) := some (.held v, [])
/-- How the keys of a type read. -/
structure KE (k : TypeId) {κ : Type} (kv : κ → Value) (kl : κ → Lit) (ok : κ → Prop) : Prop where
  law : Keyed Try.prog k
  of : ∀ x, ok x → keyOf Try.prog k (kv x) = some (kl x)
  inj : ∀ x y, ok x → ok y → kl x = kl y → x = y
  inv : ∀ v l, keyOf Try.prog k v = some l → ∃ x, ok x ∧ v = kv x ∧ l = kl x
def okI (a : Int) : Prop := (Lit.int .i64 a).wf = true
def kvI (a : Int) : Value := .int .i64 a
def klI (a : Int) : Lit := .int .i64 a
theorem keInt : KE 3 kvI klI okI where
  law := Go.Maps.int_keyed Try.underlying3
  of x h := Go.Maps.keyOf_int_mk Try.underlying3 h
  inj x y _ _ h := by simpa [klI] using h
  inv v l h := by
    obtain ⟨x, h1, h2, h3⟩ := Go.Maps.keyOf_int_inv Try.underlying3 h
    exact ⟨x, h3, h1, h2⟩
def okS (l : List UInt8) : Prop := l.length ≤ maxLen
def kvS (l : List UInt8) : Value := .string ⟨l.toArray⟩
def klS (l : List UInt8) : Lit := .string l
theorem keStr : KE 9 kvS klS okS where
  law := Go.Maps.string_keyed Try.underlying9
  of x h := by
    have hs : (ByteArray.mk x.toArray).size ≤ maxLen := by
      have h' : x.length ≤ maxLen := h
      simpa [ByteArray.size] using h'
    simp [kvS, klS, keyOf, Try.underlying9, mapKey, hs]
  inj x y _ _ h := by simpa [klS] using h
  inv v l h := by
    cases v <;> simp [keyOf, Try.underlying9, mapKey] at h
    rename_i s
    obtain ⟨h1, rfl⟩ := h
    exact ⟨s.data.toList, by show s.data.toList.length ≤ maxLen; rw [Array.length_toList]; exact h1, rfl, rfl⟩

variable {κ : Type} {k : TypeId} {kv : κ → Value} {kl : κ → Lit} {ok : κ → Prop}
/-- Block b is a map of N entries: at each key what φ says. -/
def MapF (k : TypeId) (kl : κ → Lit) (ok : κ → Prop) (w : World) (b : Nat) (φ : κ → Option Value) (N : Nat) : Prop :=
  ∃ D : DataW Value, w.ownsMap Try.prog k hv b N D ∧ Maps.size D = N ∧ ∀ x, ok x → Maps.has D (kl x) = (φ x).isSome ∧ ∀ v, φ x = some v → ∀ z, D.atKey (kl x) z = .held v

theorem MapF.lt {w : World} {b N : Nat} {φ : κ → Option Value} (h : MapF k kl ok w b φ N) : b < w.heap.size := by obtain ⟨D, h, _⟩ := h; exact h.lt
theorem MapF.keep {w w' : World} {b N : Nat} {φ : κ → Option Value} (h : MapF k kl ok w b φ N) (hb : w'.heap[b]? = w.heap[b]?) : MapF k kl ok w' b φ N := by
  obtain ⟨D, ⟨es, clock, h1, r⟩, h2⟩ := h
  exact ⟨D, ⟨es, clock, hb.trans h1, r⟩, h2⟩
theorem MapF.chg {S : List Nat} {w w' : World} {b N : Nat} {φ : κ → Option Value} (h : MapF k kl ok w b φ N) (hc : Chg S w w') (hb : b ∉ S) : MapF k kl ok w' b φ N := h.keep (hc.block b h.lt hb)
theorem MapF.obj {w : World} {b N : Nat} {φ : κ → Option Value} (h : MapF k kl ok w b φ N) : ∃ es clock, w.heap[b]? = some (.map es clock) := by
  obtain ⟨D, ⟨es, clock, h1, r⟩, h2⟩ := h
  exact ⟨es, clock, h1⟩
theorem MapF.congr {w : World} {b N M : Nat} {φ ψ : κ → Option Value} (h : MapF k kl ok w b φ N) (hN : N = M) (he : ∀ x, ok x → φ x = ψ x) : MapF k kl ok w b ψ M := by
  subst hN
  obtain ⟨D, h1, h2, h3⟩ := h
  exact ⟨D, h1, h2, fun x hx => by rw [← he x hx]; exact h3 x hx⟩
theorem MapF.made (w : World) : MapF k kl ok (w.alloc (.map #[] 0)) w.heap.size (fun _ => none) 0 := ⟨.map [], World.ownsMap_made _ _ _ _, rfl, fun x hx => ⟨rfl, fun v h => by cases h⟩⟩
theorem MapF.few {w : World} {b N : Nat} {φ : κ → Option Value} (h : MapF k kl ok w b φ N) : N ≤ maxLen := by
  obtain ⟨D, ⟨es, clock, h1, F, h3, rfl⟩, h2, _⟩ := h
  have h4 := F.size
  have : es.size = N := by simpa [Maps.size, length_sorted] using h2
  omega

theorem atKey_held (E : KE k kv kl ok) {w : World} {b N : Nat} {φ : κ → Option Value} {D : DataW Value} (hf : ∀ x, ok x → Maps.has D (kl x) = (φ x).isSome ∧ ∀ v, φ x = some v → ∀ z, D.atKey (kl x) z = .held v)
    {x : κ} (hx : ok x) (z : Value) : D.atKey (kl x) (.held z) = .held ((φ x).getD z) := by
  cases hφ : φ x with
  | none =>
    have := (hf x hx).1
    rw [hφ] at this
    rw [Maps.atKey_of_not_has this]; rfl
  | some u => rw [(hf x hx).2 u hφ]; rfl
theorem hv_inj {v u : Value} {ps : List MemPlace} (h : hv v = some (.held u, ps)) : v = u := by
  simp only [hv, Option.some.injEq, Prod.mk.injEq, DataW.held.injEq] at h
  exact h.1

theorem MapF.look (E : KE k kv kl ok) {w : World} {b N : Nat} {φ : κ → Option Value} (h : MapF k kl ok w b φ N) {t e : TypeId} (ht : Try.prog.underlying t = some (.map k e)) {z : Value} (hz : ∀ w, (zeroValue e).run Try.prog w = .ok z w) {x : κ} (hx : ok x) :
    (Instr.lookup t (.map (some b)) (kv x) false).run Try.prog w = .ok ((φ x).getD z) w := by
  obtain ⟨D, ho, hs, hf⟩ := h
  obtain ⟨v, ps, hrun, hv'⟩ := ho.lookup E.law ht (hz w) (zd := .held z) (zp := []) rfl (E.of x hx)
  rw [atKey_held E (w := w) (b := b) (N := N) hf hx z] at hv'
  rw [hrun, hv_inj hv']
theorem MapF.lookOk (E : KE k kv kl ok) {w : World} {b N : Nat} {φ : κ → Option Value} (h : MapF k kl ok w b φ N) {t e : TypeId} (ht : Try.prog.underlying t = some (.map k e)) {z : Value} (hz : ∀ w, (zeroValue e).run Try.prog w = .ok z w) {x : κ} (hx : ok x) :
    (Instr.lookup t (.map (some b)) (kv x) true).run Try.prog w = .ok (.tuple #[(φ x).getD z, .bool (φ x).isSome]) w := by
  obtain ⟨D, ho, hs, hf⟩ := h
  obtain ⟨v, ps, hrun, hv'⟩ := ho.look_ok E.law ht (hz w) (zd := .held z) (zp := []) rfl (E.of x hx)
  rw [atKey_held E (w := w) (b := b) (N := N) hf hx z] at hv'
  rw [hrun, hv_inj hv', (hf x hx).1]
theorem MapF.len {w : World} {b N : Nat} {φ : κ → Option Value} (h : MapF k kl ok w b φ N) {t e : TypeId} (ht : Try.prog.underlying t = some (.map k e)) (ty : TypeId) : (Builtin.len_ #[t] ty #[.map (some b)]).run Try.prog w = .ok (.int .i64 N) w := by
  obtain ⟨D, ho, hs, hf⟩ := h
  rw [← hs]
  exact ho.len ht ty

noncomputable def updF (φ : κ → Option Value) (x : κ) (v : Value) : κ → Option Value := open Classical in fun y => if y = x then some v else φ y
noncomputable def delF (φ : κ → Option Value) (x : κ) : κ → Option Value := open Classical in fun y => if y = x then none else φ y
theorem updF_self (φ : κ → Option Value) (x : κ) (v : Value) : updF φ x v x = some v := by unfold updF; rw [if_pos rfl]
theorem updF_other (φ : κ → Option Value) {x y : κ} (v : Value) (h : y ≠ x) : updF φ x v y = φ y := by unfold updF; rw [if_neg h]
theorem delF_self (φ : κ → Option Value) (x : κ) : delF φ x x = none := by unfold delF; rw [if_pos rfl]
theorem delF_other (φ : κ → Option Value) {x y : κ} (h : y ≠ x) : delF φ x y = φ y := by unfold delF; rw [if_neg h]

theorem own_mono {w : World} {b n m : Nat} {D : DataW Value} (h : w.ownsMap Try.prog k hv b n D) (hm : Maps.size D = m) : w.ownsMap Try.prog k hv b m D := by
  obtain ⟨es, clock, h1, F, h3, rfl⟩ := h
  have : es.size = m := by simpa [Maps.size, length_sorted] using hm
  exact ⟨es, clock, h1, F, by omega, rfl⟩

theorem turned_chg {w w' : World} {b : Nat} (h : w.mapTurned w' b) : Chg [b] w w' ∧ w'.heap.size = w.heap.size := by
  refine ⟨(Chg.refl _ _).grown h.grown (by simp), ?_⟩
  obtain ⟨es, clock, es', clock', hb, rfl⟩ := h
  simp [ChangeMaps.setBlock]
theorem MapF.store (E : KE k kv kl ok) {w : World} {b N : Nat} {φ : κ → Option Value} (h : MapF k kl ok w b φ N) {t e : TypeId} (ht : Try.prog.underlying t = some (.map k e)) {x : κ} (hx : ok x) (v : Value) (hN : N < maxLen) :
    ∃ w', (Instr.mapUpdate t (.map (some b)) (kv x) v).run Try.prog w = .ok () w' ∧ MapF k kl ok w' b (updF φ x v) (if (φ x).isSome then N else N + 1) ∧ Chg [b] w w' ∧ w'.heap.size = w.heap.size := by
  obtain ⟨D, ho, hs, hf⟩ := h
  obtain ⟨w', hrun, h1, h2⟩ := ho.store E.law ht hN (E.of x hx) (d := .held v) (ps := []) rfl
  have hT := ho.tidy E.law
  have hk : WideAt.IsKeyLit (kl x) := E.law.key (E.of x hx)
  refine ⟨w', hrun, ⟨D.put (kl x) (.held v), own_mono h1 ?_, ?_, fun y hy => ?_⟩, turned_chg h2⟩
  · rw [Maps.size_put hT, (hf x hx).1, hs]
  · rw [Maps.size_put hT, (hf x hx).1, hs]
  · by_cases e : y = x
    · subst e
      rw [updF_self]
      refine ⟨Maps.has_put_same hT.isMap hk _, fun u hu z => ?_⟩
      cases hu
      exact Maps.atKey_put_same hT.isMap hk _ _
    · have hne : kl y ≠ kl x := fun h => e (E.inj y x hy hx h)
      rw [updF_other _ _ e, Maps.has_put_other hne]
      refine ⟨(hf y hy).1, fun u hu z => ?_⟩
      rw [Maps.atKey_put_other hne]
      exact (hf y hy).2 u hu z
theorem MapF.drop (E : KE k kv kl ok) {w : World} {b N : Nat} {φ : κ → Option Value} (h : MapF k kl ok w b φ N) {t e : TypeId} (ht : Try.prog.underlying t = some (.map k e)) {x : κ} (hx : ok x) (ty : TypeId) :
    ∃ w', (Builtin.delete_ #[t, k] ty #[.map (some b), kv x]).run Try.prog w = .ok (.tuple #[]) w' ∧ MapF k kl ok w' b (delF φ x) (if (φ x).isSome then N - 1 else N) ∧ Chg [b] w w' ∧ w'.heap.size = w.heap.size := by
  obtain ⟨D, ho, hs, hf⟩ := h
  obtain ⟨w', hrun, h1, h2⟩ := ho.drop E.law ht (E.of x hx) ty
  have hT := ho.tidy E.law
  have hsz := Maps.size_del (k := kl x) hT
  rw [(hf x hx).1, hs] at hsz
  have hsz' : Maps.size (D.del (kl x)) = if (φ x).isSome then N - 1 else N := by
    cases hφ : (φ x).isSome <;> simp [hφ] at hsz ⊢ <;> omega
  refine ⟨w', hrun, ⟨D.del (kl x), own_mono h1 hsz', hsz', fun y hy => ?_⟩, turned_chg h2⟩
  by_cases e : y = x
  · subst e
    rw [delF_self]
    exact ⟨Maps.has_del_same, fun u hu => by cases hu⟩
  · have hne : kl y ≠ kl x := fun h => e (E.inj y x hy hx h)
    rw [delF_other _ e, Maps.has_del_other hne]
    refine ⟨(hf y hy).1, fun u hu z => ?_⟩
    rw [Maps.atKey_del_other hne]
    exact (hf y hy).2 u hu z
theorem MapF.none_of_zero (E : KE k kv kl ok) {w : World} {b : Nat} {φ : κ → Option Value} (h : MapF k kl ok w b φ 0) {x : κ} (hx : ok x) : φ x = none := by
  obtain ⟨D, ho, hs, hf⟩ := h
  obtain ⟨es, rfl⟩ := ho.isMap
  have : es = [] := by simpa [Maps.size] using hs
  subst this
  have := (hf x hx).1
  cases hφ : φ x with
  | none => rfl
  | some u => rw [hφ] at this; cases this

theorem wpList_upd (E : KE k kv kl ok) (w : World) {ops : Array Oper} {rest : List Oper} {o : Oper} {a : Act} {Q : Exit → Act → World → Prop} (hg : o.guard = none) (m x v : Operand) (t : TypeId) (hop : o.op = Op.mapUpdate t m x v ∨ o.op = Op.insert t m x v) (e : TypeId)
    (ht : Try.prog.underlying t = some (.map k e)) (b N : Nat) (φ : κ → Option Value) (hm : a.eval m = .map (some b)) (h : MapF k kl ok w b φ N) (hN : N < maxLen) (y : κ) (hx : a.eval x = kv y) (hy : ok y) (u : Value) (hv : a.eval v = u)
    (hK : ∀ w', MapF k kl ok w' b (updF φ y u) (if (φ y).isSome then N else N + 1) → Chg [b] w w' → w'.heap.size = w.heap.size → wpList Try.prog ops Q rest (a.put o.dst undef) w') : wpList Try.prog ops Q (o :: rest) a w := by
  refine wpList_plain hg fun K' hK' => ?_
  obtain ⟨w', hrun, r1, r2, r3⟩ := h.store E ht hy u hN
  unfold Oper.wp
  rcases hop with hop | hop
  · simp [execOp, hop, hm, hx, hv, hrun, Result.andThen]
    exact hK' _ _ (hK w' r1 r2 r3)
  · simp [execOp, hop, hm, hx, hv, hrun, Result.andThen]
    exact hK' _ _ (hK w' r1 r2 r3)
theorem wpList_del (E : KE k kv kl ok) (w : World) {ops : Array Oper} {rest : List Oper} {o : Oper} {a : Act} {Q : Exit → Act → World → Prop} (hg : o.guard = none) (m x : Operand) (t : TypeId) (hop : o.op = Op.call { callee := Callee.builtin Builtin.delete, args := #[m, x], argTypes := #[t, k] }) (e : TypeId)
    (ht : Try.prog.underlying t = some (.map k e)) (b N : Nat) (φ : κ → Option Value) (hm : a.eval m = .map (some b)) (h : MapF k kl ok w b φ N) (y : κ) (hx : a.eval x = kv y) (hy : ok y)
    (hK : ∀ w', MapF k kl ok w' b (delF φ y) (if (φ y).isSome then N - 1 else N) → Chg [b] w w' → w'.heap.size = w.heap.size → wpList Try.prog ops Q rest (a.put o.dst (.tuple #[])) w') : wpList Try.prog ops Q (o :: rest) a w := by
  refine wpList_plain hg fun K' hK' => ?_
  obtain ⟨w', hrun, r1, r2, r3⟩ := h.drop E ht hy o.type
  unfold Oper.wp execOp
  simp only [hop, resolve, invoke, builtin, Sem.run_bind, Sem.run_pure, Result.andThen_ok, List.map_toArray, List.map_cons, List.map_nil, hm, hx, hrun]
  exact hK' _ _ (hK w' r1 r2 r3)

/-- 'range m' under way: what is left to come. -/
def Rng (k : TypeId) (kl : κ → Lit) (ok : κ → Prop) (w : World) (b r : Nat) (φ : κ → Option Value) (N : Nat) (left : κ → Bool) (cnt : Nat) : Prop :=
  ∃ (D : DataW Value) (lf : Lit → Bool), w.ranges Try.prog k hv b r N D lf cnt ∧ Maps.size D = N ∧ (∀ x, ok x → lf (kl x) = left x) ∧ ∀ x, ok x → Maps.has D (kl x) = (φ x).isSome ∧ ∀ v, φ x = some v → ∀ z, D.atKey (kl x) z = .held v
theorem Rng.map {w : World} {b r N cnt : Nat} {φ : κ → Option Value} {left : κ → Bool} (h : Rng k kl ok w b r φ N left cnt) : MapF k kl ok w b φ N := by
  obtain ⟨D, lf, h1, h2, h3, h4⟩ := h
  exact ⟨D, h1.owns, h2, h4⟩
theorem Rng.kept {S : List Nat} {w w' : World} {b r N cnt : Nat} {φ : κ → Option Value} {left : κ → Bool} (h : Rng k kl ok w b r φ N left cnt) (hc : Chg S w w') (hb : b ∉ S) (hr : r ∉ S) : Rng k kl ok w' b r φ N left cnt := by
  obtain ⟨D, lf, h1, h2, h3, h4⟩ := h
  refine ⟨D, lf, ?_, h2, h3, h4⟩
  have hbl := h1.owns.lt
  have hrl := h1.lt
  obtain ⟨es, clock, since, seen, c0, e1, F, e2, e3, e4, rest⟩ := h1
  exact ⟨es, clock, since, seen, c0, (hc.block b hbl hb).trans e1, F, e2, e3, (hc.block r hrl hr).trans e4, rest⟩
theorem Rng.lt {w : World} {b r N cnt : Nat} {φ : κ → Option Value} {left : κ → Bool} (h : Rng k kl ok w b r φ N left cnt) : r < w.heap.size := by obtain ⟨D, lf, h1, _⟩ := h; exact h1.lt
theorem Rng.ne {w : World} {b r N cnt : Nat} {φ : κ → Option Value} {left : κ → Bool} (h : Rng k kl ok w b r φ N left cnt) : r ≠ b := by obtain ⟨D, lf, h1, _⟩ := h; exact h1.ne
theorem wpList_rng (E : KE k kv kl ok) (w : World) {ops : Array Oper} {rest : List Oper} {o : Oper} {a : Act} {Q : Exit → Act → World → Prop} (hg : o.guard = none) (m : Operand) (t : TypeId) (hop : o.op = Op.range t m) (e : TypeId)
    (ht : Try.prog.underlying t = some (.map k e)) (b N : Nat) (φ : κ → Option Value) (hm : a.eval m = .map (some b)) (h : MapF k kl ok w b φ N)
    (hK : ∀ w', Rng k kl ok w' b w.heap.size φ N (fun x => (φ x).isSome) N → Chg [] w w' → w'.heap.size = w.heap.size + 1 → wpList Try.prog ops Q rest (a.put o.dst (.pointer (some ⟨w.heap.size, 0, none⟩))) w') :
    wpList Try.prog ops Q (o :: rest) a w := by
  obtain ⟨D, ho, hs, hf⟩ := h
  refine wpList_range_own w hg m t hop k e E.law ht hv b N D hm ho fun w' h1 h2 h3 => hK w' ⟨D, _, by rw [← hs] at h1 ⊢; exact h1, hs, fun x hx => (hf x hx).1, hf⟩ ?_ h3
  exact (Chg.refl _ _).grown h2 (by simp)
theorem wpList_nxt (E : KE k kv kl ok) (w : World) {ops : Array Oper} {rest : List Oper} {o : Oper} {a : Act} {Q : Exit → Act → World → Prop} (hg : o.guard = none) (it : Operand) (hop : o.op = Op.next it false) (b r N : Nat) (φ : κ → Option Value) (left : κ → Bool) (cnt : Nat)
    (hit : a.eval it = .pointer (some ⟨r, 0, none⟩)) (h : Rng k kl ok w b r φ N left cnt)
    (hDone : cnt = 0 → (∀ x, ok x → left x = false) → wpList Try.prog ops Q rest (a.put o.dst (.tuple #[.bool false])) w)
    (hMore : ∀ (x : κ) (v : Value) (w' : World) (cnt' : Nat), ok x → left x = true → φ x = some v → (∀ left', (∀ y, ok y → (y = x → left' y = false) ∧ (y ≠ x → left' y = left y)) → Rng k kl ok w' b r φ N left' cnt') → cnt' < cnt → Chg [r] w w' → w'.heap.size = w.heap.size →
      (Instr.entry (.pointer (some ⟨r, 0, none⟩))).run Try.prog w' = .ok (.tuple #[kv x, v]) w' → wpList Try.prog ops Q rest (a.put o.dst (.tuple #[.bool true, kv x, v])) w') :
    wpList Try.prog ops Q (o :: rest) a w := by
  obtain ⟨D, lf, h1, hs, hl, hf⟩ := h
  refine wpList_next_ranges (α := κ) (β := Value) w hg it hop k E.law hv kv id (fun key l hk => by obtain ⟨x, _, hx, _⟩ := E.inv key l hk; exact ⟨x, hx⟩) (fun v y _ => ⟨v, rfl⟩) b r N D lf cnt hit h1 (fun h0 hno => hDone h0 fun x hx => by rw [← hl x hx]; exact hno _) ?_
  intro x c l y w' cnt' hkey hlk hvy hat hrg hlt hg2 hsz hen
  obtain ⟨x', hx', e1, rfl⟩ := E.inv _ _ hkey
  have hkx : kv x = kv x' := e1
  have hphi : φ x' = some c := by
    have hx1 := hf x' hx'
    have hy : y.1 = .held c := by
      simp only [hv, id, Option.some.injEq] at hvy
      rw [← hvy]
    cases hφ : φ x' with
    | none =>
      rw [hφ] at hx1
      have h2 := Maps.atKey_of_not_has hx1.1 (.nil)
      rw [hat .nil, hy] at h2
      cases h2
    | some u =>
      have h2 := hx1.2 u hφ .nil
      rw [hat .nil, hy] at h2
      rw [← (DataW.held.injEq c u ▸ h2 : c = u)]
  have hen' := hen
  rw [hkx] at hen' ⊢
  refine hMore x' c w' cnt' hx' (by rw [← hl x' hx']; exact hlk) hphi (fun left' hleft => ⟨D, _, hrg, hs, fun y hy => ?_, hf⟩) hlt ((Chg.refl _ _).grown hg2 (by simp)) hsz hen'
  by_cases e : y = x'
  · subst e
    rw [(hleft y hy).1 rfl, WideAt.sameKey_self (E.law.key (E.of y hx'))]; simp
  · rw [(hleft y hy).2 e, hl y hy, Maps.sameKey_ne (fun h => e (E.inj y x' hy hx' h))]; simp
theorem wpList_nxtI (w : World) {ops : Array Oper} {rest : List Oper} {o : Oper} {a : Act} {Q : Exit → Act → World → Prop} (hg : o.guard = none) (it : Operand) (hop : o.op = Op.next it false) (b r N : Nat) (φ : Int → Option Value) (left : Int → Bool) (cnt : Nat)
    (hit : a.eval it = .pointer (some ⟨r, 0, none⟩)) (h : Rng 3 klI okI w b r φ N left cnt)
    (hDone : cnt = 0 → (∀ x, okI x → left x = false) → wpList Try.prog ops Q rest (a.put o.dst (.tuple #[.bool false])) w)
    (hMore : ∀ (x : Int) (v : Value) (w' : World) (cnt' : Nat), okI x → left x = true → φ x = some v → Rng 3 klI okI w' b r φ N (fun y => !decide (y = x) && left y) cnt' → cnt' < cnt → Chg [r] w w' → w'.heap.size = w.heap.size →
      (Instr.entry (.pointer (some ⟨r, 0, none⟩))).run Try.prog w' = .ok (.tuple #[.int .i64 x, v]) w' → wpList Try.prog ops Q rest (a.put o.dst (.tuple #[.bool true, .int .i64 x, v])) w') :
    wpList Try.prog ops Q (o :: rest) a w :=
  wpList_nxt keInt w hg it hop b r N φ left cnt hit h hDone fun x v w' cnt' h1 h2 h3 h4 => hMore x v w' cnt' h1 h2 h3 (h4 _ fun y _ => ⟨fun e => by simp [e], fun e => by simp [e]⟩)
theorem wpList_nxtS (w : World) {ops : Array Oper} {rest : List Oper} {o : Oper} {a : Act} {Q : Exit → Act → World → Prop} (hg : o.guard = none) (it : Operand) (hop : o.op = Op.next it false) (b r N : Nat) (φ : List UInt8 → Option Value) (left : List UInt8 → Bool) (cnt : Nat)
    (hit : a.eval it = .pointer (some ⟨r, 0, none⟩)) (h : Rng 9 klS okS w b r φ N left cnt)
    (hDone : cnt = 0 → (∀ x, okS x → left x = false) → wpList Try.prog ops Q rest (a.put o.dst (.tuple #[.bool false])) w)
    (hMore : ∀ (x : List UInt8) (v : Value) (w' : World) (cnt' : Nat), okS x → left x = true → φ x = some v → Rng 9 klS okS w' b r φ N (fun y => !decide (y = x) && left y) cnt' → cnt' < cnt → Chg [r] w w' → w'.heap.size = w.heap.size →
      (Instr.entry (.pointer (some ⟨r, 0, none⟩))).run Try.prog w' = .ok (.tuple #[.string ⟨x.toArray⟩, v]) w' → wpList Try.prog ops Q rest (a.put o.dst (.tuple #[.bool true, .string ⟨x.toArray⟩, v])) w') :
    wpList Try.prog ops Q (o :: rest) a w :=
  wpList_nxt keStr w hg it hop b r N φ left cnt hit h hDone fun x v w' cnt' h1 h2 h3 h4 => hMore x v w' cnt' h1 h2 h3 (h4 _ fun y _ => ⟨fun e => by simp [e], fun e => by simp [e]⟩)
end Go.Proofs.Ytaiihklfeoeoeaa.W
