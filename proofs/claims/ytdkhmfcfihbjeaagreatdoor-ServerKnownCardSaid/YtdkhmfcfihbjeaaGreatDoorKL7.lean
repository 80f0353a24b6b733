/- Texts laid together. -/
import Derived.Test.YtdkhmfcfihbjeaaGreatDoorKL6
import Derived.Test.YtdkhmfcfihbjeaaGreatDoorKL5
import Derived.Test.YtdkhmfcfihbjeaaGreatDoorKL4
import Derived.Test.YtdkhmfcfihbjeaaGreatDoorKL2
import Derived.Deep.Slices
import Derived.ChangeSlices
import Derived.Deep.DeepCutAuto
import Derived.Deep.CutBlock
import Derived.Test.YtdkhmfcfihbjeaaGreatDoorKL3
import Derived.Laws.BitsLemmas
/- StoreOrder: ids that came in; Less; plainly. -/
namespace Go.Proofs.YtdkhmfcfihbjeaaGreatDoor.W
open Go.RowKit Go.ChangeShapes Go.WideShapes
set_option linter.unusedVariables false
set_option linter.unusedSimpArgs false

/-- Ids that came in. -/
def IdsIn (w : World) (a : Option Addr) (n : Nat) (f : Nat → Id) : Prop :=
  n = 0 ∨ ∃ g o, a = some ⟨g, o, none⟩ ∧ ∀ i, i < n → okD (f i) ∧ w.cell? ⟨g, o + i * 4, none⟩ = some (.int .i64 (f i).c) ∧ w.cell? ⟨g, o + i * 4 + 1, none⟩ = some (.int .i64 (f i).l) ∧ w.cell? ⟨g, o + i * 4 + 2, none⟩ = some (.int .i64 (f i).n) ∧ w.cell? ⟨g, o + i * 4 + 3, none⟩ = some (.int .i64 (f i).i)
theorem IdsIn.keep {w w' : World} {a : Option Addr} {n : Nat} {f : Nat → Id} (h : IdsIn w a n f) (hc : Chg [] w w') : IdsIn w' a n f := by
  rcases h with h | ⟨g, o, rfl, h⟩
  · exact .inl h
  · refine .inr ⟨g, o, rfl, fun i hi => ?_⟩
    obtain ⟨h1, h2, h3, h4, h5⟩ := h i hi
    exact ⟨h1, hc.cell h2 (by simp), hc.cell h3 (by simp), hc.cell h4 (by simp), hc.cell h5 (by simp)⟩
section
variable {H : Type} {enc : TypeId × Value → H} {w : World} {base : Nat} {held : Bool}
end
/-! ### Plainly -/
structure Ord (t : Sto) (F : Frag) (f : Nat → Id) (j : Nat) : Prop where
  kept : Kept t F
  one : ∀ x b, F x = some b → b = [1]
  has : ∀ i, i < j → mayId (f i) = true → F (f i) = some [1]
  room : 12 ≤ t.room + j
  small : t.s.d.ops ≤ 97 + 20 * j ∧ t.s.d.since.length = 0
theorem Ord.step {t : Sto} {F : Frag} {f : Nat → Id} {j : Nat} (h : Ord t F f j) (hj : j < 12) : ∃ F', Ord (t.put (f j) [1]).2 F' f (j + 1) := by
  obtain ⟨o1, o2, _⟩ := t.put_ok (f j) [1]
  have hsm := h.small
  cases hm : mayId (f j) with
  | false =>
    obtain ⟨_, h2⟩ := h.kept.put_bad (b := [1]) (.inl hm)
    refine ⟨F, ?_⟩
    rw [h2]
    refine ⟨h.kept, h.one, fun i hi hmi => ?_, by have := h.room; omega, by omega, hsm.2⟩
    rcases Nat.lt_or_ge i j with h3 | h3
    · exact h.has i h3 hmi
    · obtain rfl : i = j := by omega
      rw [hm] at hmi; cases hmi
  | true =>
    cases hF : F (f j) with
    | some b =>
      have hb := h.one _ _ hF
      have h2 := h.kept.put_there hF [1] (by simp)
      refine ⟨F, ?_⟩
      rw [h2]
      refine ⟨h.kept, h.one, fun i hi hmi => ?_, by have := h.room; show 12 ≤ t.room + (j + 1); omega, by show t.s.d.ops ≤ _; omega, hsm.2⟩
      rcases Nat.lt_or_ge i j with h3 | h3
      · exact h.has i h3 hmi
      · obtain rfl : i = j := by omega
        rw [hF, hb]
    | none =>
      have hr := h.room
      obtain ⟨p1, p2, p3⟩ := h.kept.put_new hm hF (b := [1]) (by simp) (by omega)
      refine ⟨_, p2, fun x b hx => ?_, fun i hi hmi => ?_, by omega, by omega, by rw [p2.since]; rfl⟩
      · unfold setF at hx
        split at hx
        · exact (Option.some.inj hx).symm
        · exact h.one _ _ hx
      · by_cases e : f i = f j
        · rw [e, setF_self]
        · rw [setF_other _ _ e]
          rcases Nat.lt_or_ge i j with h3 | h3
          · exact h.has i h3 hmi
          · obtain rfl : i = j := by omega
            exact absurd rfl e
theorem Ord.new : ∃ t d, (DS.new 97).format = ((0, some t), d) ∧ ∀ f, Ord t (fun _ => none) f 0 := by
  obtain ⟨t, d, h1, h2, h3, h4, h5, h6, _⟩ := Kept.new 97 (by omega)
  refine ⟨t, d, h1, fun f => ⟨h2, fun x b h => (by cases h), fun i hi => (by omega), ?_, by rw [h3]; omega, by rw [h2.since]; rfl⟩⟩
  unfold Sto.room
  rw [h4]
  decide
end Go.Proofs.YtdkhmfcfihbjeaaGreatDoor.W

/- The reference's List. -/
namespace Go.Proofs.YtdkhmfcfihbjeaaGreatDoor.W
open Go.RowKit Go.Sort
set_option linter.unusedVariables false
set_option linter.unusedSimpArgs false

end Go.Proofs.YtdkhmfcfihbjeaaGreatDoor.W

/- Package server: DecodeReply, and the reference's (printed by gen_svt.py). -/
namespace Go.Proofs.YtdkhmfcfihbjeaaGreatDoor.W
open Go.RowKit
set_option linter.unusedVariables false
set_option linter.unusedSimpArgs false

/-! ### Plainly -/
def giN : Nat → PB → List Id × PB
  | 0, s => ([], s)
  | k + 1, s => if (giS s).2 ≠ 0 then ([], giS s) else (giV s :: (giN k (giS s)).1, (giN k (giS s)).2)
theorem giN_bad {s : PB} (h : s.2 ≠ 0) : ∀ k, giN k s = ([], s)
  | 0 => rfl
  | k + 1 => by
    unfold giN
    rw [giS_bad h, if_pos h]
theorem giN_fail {s : PB} (h : (giS s).2 ≠ 0) (k : Nat) : giN (k + 1) s = ([], giS s) := by
  unfold giN
  rw [if_pos h]
theorem giN_ok {s : PB} (h : (giS s).2 = 0) (k : Nat) : giN (k + 1) s = (giV s :: (giN k (giS s)).1, (giN k (giS s)).2) := by
  rw [giN]
  rw [if_neg (by simp [h])]
/-- How far the ids have been read. -/
def GiAt (n : Nat) (s3 : PB) (A : List Id) (k : Nat) (s : PB) : Prop := giN n s3 = (A ++ (giN k s).1, (giN k s).2)
theorem GiAt.new (n : Nat) (s3 : PB) : GiAt n s3 [] n s3 := by unfold GiAt; simp
theorem GiAt.ok {n k : Nat} {s3 s : PB} {A : List Id} (h : GiAt n s3 A (k + 1) s) (hs : (giS s).2 = 0) : GiAt n s3 (A ++ [giV s]) k (giS s) := by
  unfold GiAt at h ⊢
  rw [h, giN_ok hs]
  simp
theorem GiAt.fail {n k : Nat} {s3 s : PB} {A : List Id} (h : GiAt n s3 A (k + 1) s) (hs : (giS s).2 ≠ 0) (j : Nat) : GiAt n s3 A j (giS s) := by
  unfold GiAt at h ⊢
  rw [h, giN_fail hs, giN_bad hs]
theorem GiAt.done {n k : Nat} {s3 s : PB} {A : List Id} (h : GiAt n s3 A k s) (hk : k = 0 ∨ s.2 ≠ 0) : giN n s3 = (A, s) := by
  unfold GiAt at h
  rw [h]
  rcases hk with rfl | hk
  · simp [giN]
  · rw [giN_bad hk]; simp
/-- The block of bytes, where there are any. -/
def kB (v : Value) (l : List UInt8) : List Nat := if l = [] then [] else v.ownBlock.toList
theorem kB_nil (v : Value) : kB v [] = [] := if_pos rfl
theorem mem_kB {v : Value} {l : List UInt8} (h : l ≠ []) {k : Nat} : k ∈ kB v l ↔ v.ownBlock = some k := by
  unfold kB
  rw [if_neg h]
  simp
theorem bytes_keepL {w w' : World} {v : Value} {l : List UInt8} (h : BytesAt w v l) (hb : l ≠ [] → ∀ g, v.ownBlock = some g → w'.heap[g]? = w.heap[g]?) : BytesAt w' v l := by
  by_cases hl : l = []
  · subst hl
    obtain ⟨a, cap, rfl, h1, h2, h3⟩ := h
    refine ⟨a, cap, rfl, h1, h2, ?_⟩
    rcases h3 with h3 | ⟨g, o, rfl, hc⟩
    · exact .inl h3
    · exact .inr ⟨g, o, rfl, fun i hi => absurd hi (by simp)⟩
  · exact h.keep (hb hl)
theorem row_ne {w : World} {base size n L t : Nat} {e : TypeId} {v : Value} {xs : List Value} {cs : Array Value} {q : Nat × Nat} (h : w.ownsRow base e size v n xs) (hl : w.heap[L]? = some (.cells cs t q)) (hne : e ≠ t) : v.ownBlock ≠ some L := by
  intro hk
  rcases h.2 with ⟨rfl, _⟩ | ⟨g, cap, cur, rfl, hbg, hg, _⟩
  · simp [Value.ownBlock] at hk
  · obtain rfl : g = L := by simpa [Value.ownBlock] using hk
    rw [hl] at hg
    injection hg with hg
    injection hg with h1 h2
    exact hne h2.symm
theorem fvf_cells {w : World} {N t : Nat} {a0 a1 a2 a3 a4 : Value} (h : w.heap[N]? = some (.cells #[a0, a1, a2, a3, a4] t (0, 0))) :
    (w.cell? ⟨N, 0, none⟩ = some a0 ∧ w.cell? ⟨N, 1, none⟩ = some a1 ∧ w.cell? ⟨N, 2, none⟩ = some a2 ∧ w.cell? ⟨N, 3, none⟩ = some a3 ∧ w.cell? ⟨N, 4, none⟩ = some a4) ∧
    w.frozen? ⟨N, 0, none⟩ = false ∧ w.frozen? ⟨N, 1, none⟩ = false ∧ w.frozen? ⟨N, 2, none⟩ = false ∧ w.frozen? ⟨N, 3, none⟩ = false ∧ w.frozen? ⟨N, 4, none⟩ = false :=
  ⟨⟨blk_cell h 0 _ rfl, blk_cell h 1 _ rfl, blk_cell h 2 _ rfl, blk_cell h 3 _ rfl, blk_cell h 4 _ rfl⟩, blk_frozen h 0, blk_frozen h 1, blk_frozen h 2, blk_frozen h 3, blk_frozen h 4⟩
theorem same_fiv {w : World} {b g : Nat} (hb : g ≠ b) (u0 u1 u2 u3 u4 : Value) :
    (((((w.setCell ⟨b, 0, none⟩ u0).setCell ⟨b, 1, none⟩ u1).setCell ⟨b, 2, none⟩ u2).setCell ⟨b, 3, none⟩ u3).setCell ⟨b, 4, none⟩ u4).heap[g]? = w.heap[g]? := by
  rw [Below.heap_setCell _ ⟨b, 4, none⟩ u4 g hb, Below.heap_setCell _ ⟨b, 3, none⟩ u3 g hb, Below.heap_setCell _ ⟨b, 2, none⟩ u2 g hb, Below.heap_setCell _ ⟨b, 1, none⟩ u1 g hb, Below.heap_setCell _ ⟨b, 0, none⟩ u0 g hb]
section
variable {K Y T : List Nat} {w0 w w' : World} {b : Nat} {s s' : PB}
theorem EyeS.wrote (h : EyeS K w0 w b s) (hc : Chg T w w') (hT : ∀ x ∈ T, x ∈ K ∧ w0.heap.size ≤ x) (hY : ∀ k ∈ Y, k ∈ K ∨ (w.heap.size ≤ k ∧ k < w'.heap.size)) : EyeS Y w0 w' b s := by
  obtain ⟨g, he, hg⟩ := h.eye
  have hb := he.blt
  obtain ⟨g', he', hg'⟩ := he.pick (w'.heap.size + b + 1) (by omega)
  have hz := hc.size
  have hgT : g' ∉ T := fun hm => by
    have h1 := h.lim g' (hT g' hm).1
    rcases hg' with ⟨rfl, _⟩ | rfl
    · exact hg (hT _ hm).1
    · omega
  refine ⟨⟨g', he'.keep hc (fun hm => h.own.2 (hT b hm).1) hgT, fun hm => ?_⟩, ⟨h.own.1, fun hm => ?_⟩, h.chg.trans hc (fun x hx => .inr (hT x hx).2), fun x hx => ?_⟩
  · rcases hg' with ⟨rfl, h1⟩ | rfl
    · rcases hY _ hm with h2 | h2
      · exact hg h2
      · omega
    · rcases hY _ hm with h2 | h2
      · have := h.lim _ h2; omega
      · omega
  · rcases hY _ hm with h2 | h2
    · exact h.own.2 h2
    · omega
  · rcases hY x hx with h2 | h2
    · exact Nat.lt_of_lt_of_le (h.lim x h2) hz
    · exact h2.2
/-- A reply that is being read: in block L; the result's own block is R. -/
structure RepO (w0 w : World) (b L R : Nat) (E : Int) (bb : List UInt8) (bv iv : Value) (A : List Id) (room : Int) (wh : Bool) (s : PB) : Prop where
  eye : EyeS (kB bv bb ++ (iv.ownBlock.toList ++ [L, R])) w0 w b s
  row : w.ownsRow w0.heap.size 38 4 iv A.length (A.flatMap idE)
  bytes : BytesAt w bv bb
  brow : bb ≠ [] → BRow w bv bb
  bnew : ∀ k, bv.ownBlock = some k → w0.heap.size ≤ k
  cl : w.heap[L]? = some (.cells #[.int .i64 E, bv, iv, .int .i64 room, .bool wh] 32 (0, 0))
  cr : w.heap[R]? = some (.cells zeroRp 32 (0, 0))
  newL : w0.heap.size ≤ L
  newR : w0.heap.size ≤ R
  ne : R ≠ L
variable {L R : Nat} {E room : Int} {bb : List UInt8} {bv iv : Value} {A : List Id} {wh : Bool}
theorem RepO.same (h : RepO w0 w b L R E bb bv iv A room wh s) (he : EyeS (kB bv bb ++ (iv.ownBlock.toList ++ [L, R])) w0 w' b s') (hk : ∀ x ∈ kB bv bb ++ (iv.ownBlock.toList ++ [L, R]), w'.heap[x]? = w.heap[x]?) : RepO w0 w' b L R E bb bv iv A room wh s' :=
  ⟨he, row_keep h.row (fun g hg => hk g (List.mem_append_right _ (List.mem_append_left _ (by simpa using hg)))), bytes_keepL h.bytes (fun hne g hg => hk g (List.mem_append_left _ ((mem_kB hne).2 hg))),
    fun hne => (h.brow hne).keep (fun g hg => hk g (List.mem_append_left _ ((mem_kB hne).2 hg))), h.bnew, keepO h.cl (hk L (by simp)), keepO h.cr (hk R (by simp)), h.newL, h.newR, h.ne⟩
theorem RepO.notR (h : RepO w0 w b L R E bb bv iv A room wh s) : iv.ownBlock ≠ some R := row_ne h.row h.cr (by decide)
theorem RepO.notBR (h : RepO w0 w b L R E bb bv iv A room wh s) (hne : bb ≠ []) : bv.ownBlock ≠ some R := row_ne (h.brow hne) h.cr (by decide)
/-- The end: the result's block is filled. -/
theorem RepO.ends (h : RepO w0 w b L R E bb bv iv A room wh s) : 
    RpAt w0 (((((w.setCell ⟨R, 0, none⟩ (.int .i64 E)).setCell ⟨R, 1, none⟩ bv).setCell ⟨R, 2, none⟩ iv).setCell ⟨R, 3, none⟩ (.int .i64 room)).setCell ⟨R, 4, none⟩ (.bool wh)) (rpV E bv iv room wh) ⟨E, bb, A, room, wh⟩ :=
  ⟨bv, iv, rfl, bytes_keepL h.bytes (fun hne g hg => same_fiv (fun e => h.notBR hne (by rw [← e]; exact hg)) _ _ _ _ _), h.bnew, row_keep h.row (fun g hg => same_fiv (fun e => h.notR (by rw [← e]; exact hg)) _ _ _ _ _)⟩
end
section
variable {K Y T : List Nat} {w0 w w' : World} {b : Nat} {s s' : PB}
theorem REyeS.wrote (h : REyeS K w0 w b s) (hc : Chg T w w') (hT : ∀ x ∈ T, x ∈ K ∧ w0.heap.size ≤ x) (hY : ∀ k ∈ Y, k ∈ K ∨ (w.heap.size ≤ k ∧ k < w'.heap.size)) : REyeS Y w0 w' b s := by
  obtain ⟨g, he, hg⟩ := h.eye
  have hb := he.blt
  obtain ⟨g', he', hg'⟩ := he.pick (w'.heap.size + b + 1) (by omega)
  have hz := hc.size
  have hgT : g' ∉ T := fun hm => by
    have h1 := h.lim g' (hT g' hm).1
    rcases hg' with ⟨rfl, _⟩ | rfl
    · exact hg (hT _ hm).1
    · omega
  refine ⟨⟨g', he'.keep hc (fun hm => h.own.2 (hT b hm).1) hgT, fun hm => ?_⟩, ⟨h.own.1, fun hm => ?_⟩, h.chg.trans hc (fun x hx => .inr (hT x hx).2), fun x hx => ?_⟩
  · rcases hg' with ⟨rfl, h1⟩ | rfl
    · rcases hY _ hm with h2 | h2
      · exact hg h2
      · omega
    · rcases hY _ hm with h2 | h2
      · have := h.lim _ h2; omega
      · omega
  · rcases hY _ hm with h2 | h2
    · exact h.own.2 h2
    · omega
  · rcases hY x hx with h2 | h2
    · exact Nat.lt_of_lt_of_le (h.lim x h2) hz
    · exact h2.2
/-- A reply that is being read: in block L; the result's own block is R. -/
structure RepR (w0 w : World) (b L R : Nat) (E : Int) (bb : List UInt8) (bv iv : Value) (A : List Id) (room : Int) (wh : Bool) (s : PB) : Prop where
  eye : REyeS (kB bv bb ++ (iv.ownBlock.toList ++ [L, R])) w0 w b s
  row : w.ownsRow w0.heap.size 38 4 iv A.length (A.flatMap idE)
  bytes : BytesAt w bv bb
  brow : bb ≠ [] → BRow w bv bb
  bnew : ∀ k, bv.ownBlock = some k → w0.heap.size ≤ k
  cl : w.heap[L]? = some (.cells #[.int .i64 E, bv, iv, .int .i64 room, .bool wh] 54 (0, 0))
  cr : w.heap[R]? = some (.cells zeroRp 54 (0, 0))
  newL : w0.heap.size ≤ L
  newR : w0.heap.size ≤ R
  ne : R ≠ L
variable {L R : Nat} {E room : Int} {bb : List UInt8} {bv iv : Value} {A : List Id} {wh : Bool}
theorem RepR.same (h : RepR w0 w b L R E bb bv iv A room wh s) (he : REyeS (kB bv bb ++ (iv.ownBlock.toList ++ [L, R])) w0 w' b s') (hk : ∀ x ∈ kB bv bb ++ (iv.ownBlock.toList ++ [L, R]), w'.heap[x]? = w.heap[x]?) : RepR w0 w' b L R E bb bv iv A room wh s' :=
  ⟨he, row_keep h.row (fun g hg => hk g (List.mem_append_right _ (List.mem_append_left _ (by simpa using hg)))), bytes_keepL h.bytes (fun hne g hg => hk g (List.mem_append_left _ ((mem_kB hne).2 hg))),
    fun hne => (h.brow hne).keep (fun g hg => hk g (List.mem_append_left _ ((mem_kB hne).2 hg))), h.bnew, keepO h.cl (hk L (by simp)), keepO h.cr (hk R (by simp)), h.newL, h.newR, h.ne⟩
theorem RepR.notR (h : RepR w0 w b L R E bb bv iv A room wh s) : iv.ownBlock ≠ some R := row_ne h.row h.cr (by decide)
theorem RepR.notBR (h : RepR w0 w b L R E bb bv iv A room wh s) (hne : bb ≠ []) : bv.ownBlock ≠ some R := row_ne (h.brow hne) h.cr (by decide)
/-- The end: the result's block is filled. -/
theorem RepR.ends (h : RepR w0 w b L R E bb bv iv A room wh s) : 
    RpAt w0 (((((w.setCell ⟨R, 0, none⟩ (.int .i64 E)).setCell ⟨R, 1, none⟩ bv).setCell ⟨R, 2, none⟩ iv).setCell ⟨R, 3, none⟩ (.int .i64 room)).setCell ⟨R, 4, none⟩ (.bool wh)) (rpV E bv iv room wh) ⟨E, bb, A, room, wh⟩ :=
  ⟨bv, iv, rfl, bytes_keepL h.bytes (fun hne g hg => same_fiv (fun e => h.notBR hne (by rw [← e]; exact hg)) _ _ _ _ _), h.bnew, row_keep h.row (fun g hg => same_fiv (fun e => h.notR (by rw [← e]; exact hg)) _ _ _ _ _)⟩
end
end Go.Proofs.YtdkhmfcfihbjeaaGreatDoor.W

/- Package server: EncodeReply, and the reference's (printed by gen_svr.py). -/
namespace Go.Proofs.YtdkhmfcfihbjeaaGreatDoor.W
open Go.RowKit
set_option linter.unusedVariables false
set_option linter.unusedSimpArgs false

def repPen (o : Rp) : PB := pbS (pnS (o.ids.foldl penId (pnS (prS (pnS ([], 0) o.e 1) o.b) (o.ids.length : Int) 2)) o.room 2) o.whole
/-- Ids that lie in a row, wherever. -/
structure IdsRow (w : World) (a : Option Addr) (cap : Nat) (l : List Id) : Prop where
  le : l.length ≤ cap
  max : cap ≤ maxLen
  at' : ∀ j (x : Id), l[j]? = some x → ∃ g o, a = some ⟨g, o, none⟩ ∧ g < w.heap.size ∧ w.cell? ⟨g, o + j * 4, none⟩ = some (.int .i64 x.c) ∧ w.cell? ⟨g, o + j * 4 + 1, none⟩ = some (.int .i64 x.l) ∧ w.cell? ⟨g, o + j * 4 + 2, none⟩ = some (.int .i64 x.n) ∧ w.cell? ⟨g, o + j * 4 + 3, none⟩ = some (.int .i64 x.i)
theorem IdsRow.keep {w w' : World} {a : Option Addr} {cap : Nat} {l : List Id} (h : IdsRow w a cap l) (hc : Chg [] w w') : IdsRow w' a cap l :=
  ⟨h.le, h.max, fun j x hx => by
    obtain ⟨g, o, h1, h2, h3, h4, h5, h6⟩ := h.at' j x hx
    exact ⟨g, o, h1, Nat.lt_of_lt_of_le h2 hc.size, hc.cell h3 (by simp), hc.cell h4 (by simp), hc.cell h5 (by simp), hc.cell h6 (by simp)⟩⟩
theorem foldl_take (l : List Id) (j : Nat) {y : Id} (hy : l[j]? = some y) (s : PB) : (l.take (j + 1)).foldl penId s = penId ((l.take j).foldl penId s) y := by
  obtain ⟨hj, rfl⟩ := List.getElem?_eq_some_iff.1 hy
  rw [List.take_succ_eq_append_getElem hj, List.foldl_append]
  rfl

set_option maxHeartbeats 8000000 in
set_option maxRecDepth 100000 in
theorem svencr_any (o : Rp) (bv : Value) (ia : Option Addr) (ic : Nat) (w : World) (hb : BytesAt w bv o.b) (hbl : o.b.length ≤ 900000) (hbo : o.b ≠ [] → ∀ k, bv.ownBlock = some k → k < w.heap.size) (hi : IdsRow w ia ic o.ids) (hil : o.ids.length ≤ 65535) :
    Calls Tryz.prog 28 #[rpV o.e bv (.slice ia o.ids.length ic) o.room o.whole] w (EncPost w (penOut (repPen o))) := by
  obtain ⟨w1, hw1⟩ : ∃ w1, w1 = w.alloc (.cells (rpL o.e bv (.slice ia o.ids.length ic) o.room o.whole).toArray 32) := ⟨_, rfl⟩
  obtain ⟨N, hN⟩ : ∃ N, N = w.heap.size := ⟨_, rfl⟩
  have hc1 : Chg [] w w1 := by rw [hw1]; exact (Chg.refl [] w).alloc _
  have hb1 : w1.heap[N]? = some (.cells (rpL o.e bv (.slice ia o.ids.length ic) o.room o.whole).toArray 32 (0, 0)) := by rw [hw1, hN]; exact heap_alloc_new w _
  have hn1 : N < w1.heap.size := blk_lt hb1
  have HB := Lib.hid hb
  have HBO := Lib.hid hbo
  have HI := Lib.hid hi
  obtain ⟨oe, b, ids, room, wh⟩ := o
  obtain ⟨ba, bc, hbv⟩ := hb.slice
  subst hbv
  dsimp only at HB HBO HI hbl hil
  have HF := Lib.hid (PenN.fresh (K := [N]) 110 hc1 (fun x hx => by rw [List.mem_singleton.1 hx]; exact hn1))
  obtain ⟨w2, hw2⟩ : ∃ w2, w2 = w1.alloc (.cells #[.slice none 0 0, .int .i64 0] 110) := ⟨_, rfl⟩
  obtain ⟨P, hP⟩ : ∃ P, P = w1.heap.size := ⟨_, rfl⟩
  rw [← hw2, ← hP] at HF
  have hb2 : w2.heap[N]? = w1.heap[N]? := by rw [hw2]; exact heap_alloc_old w1 _ hn1
  have HB2 := Lib.hid (keepO hb1 hb2)
  have HP2 : Hid (N + 1 = P) := Lib.hid (by rw [hP, hw1, hN]; simp)
  have HRE : Hid (repPen ⟨oe, b, ids, room, wh⟩ = pbS (pnS (ids.foldl penId (pnS (prS (pnS ([], 0) oe 1) b) (ids.length : Int) 2)) room 2) wh) := Lib.hid rfl
  generalize repPen ⟨oe, b, ids, room, wh⟩ = res at *
  have HW1 := Lib.hid hw1
  have HN := Lib.hid hN
  have HC1 := Lib.hid hc1
  have HW2 := Lib.hid hw2
  have HP := Lib.hid hP
  obtain ⟨n, hn⟩ : ∃ n, n = ids.length := ⟨_, rfl⟩
  dsimp only at HB2 ⊢
  rw [← hn] at HB2 HW1 HRE hil ⊢
  have HNN := Lib.hid hn
  have hic : n ≤ ic := by rw [hn]; exact HI.out.le
  unfold rpL at HW1
  unfold rpV rpL
  dsimp only at HW1
  have p0 : ((w.alloc (.cells #[.int .i64 oe, .slice ba b.length bc, .slice ia n ic, .int .i64 room, .bool wh] 32)).alloc (.cells #[.slice none 0 0, .int .i64 0] 110)).cell? ⟨w.heap.size, 0, none⟩ = some (.int .i64 oe) := by
    have := HW1.out
    rw [← this, ← HW2.out, ← HN.out]; exact (rp_cells HB2.out).1
  clear hw1 hN hc1 hb1 hn1 hb hbo hw2 hP hb2 hi hn
  have C0 := Lib.hid (pnN HF.out oe 1 (by omega) (by omega))
  go_enter Tryz.func28, Tryz.ntmps28
  go_wp2_with fail
  rw [← HW1.out, ← HN.out, ← HW2.out]
  first | rw [← HP.out] | rw [HP2.out]
  refine C0.out.mono ?_
  rintro e w3 ⟨rfl, h3, hk3⟩
  have HB3 := Lib.hid (keepO HB2.out (hk3 N (by simp)))
  have C1 := Lib.hid (prN h3 (.slice ba b.length bc) b (HB.out.chg h3.chg (by simp)) hbl (fun hne k hk => .inl (HBO.out hne k hk)))
  clear p0
  obtain ⟨q0, q1, q2, q3, q4⟩ := rp_cells HB3.out
  clear h3 hk3 C0
  go_wp2_with fail
  refine C1.out.mono ?_
  rintro e w4 ⟨rfl, h4, hk4⟩
  have HB4 := Lib.hid (keepO HB3.out (hk4 N (by simp)))
  have C2 := Lib.hid (pnN h4 (n : Int) 2 (by omega) (by omega))
  clear q0 q1 q2 q3 q4
  obtain ⟨q0, q1, q2, q3, q4⟩ := rp_cells HB4.out
  clear h4 hk4 C1
  go_wp2_with fail
  refine C2.out.mono ?_
  rintro e w5 ⟨rfl, h5, hk5⟩
  have HB5 := Lib.hid (keepO HB4.out (hk5 N (by simp)))
  have H5 := Lib.hid h5
  clear q0 q1 q2 q3 q4
  obtain ⟨q0, q1, q2, q3, q4⟩ := rp_cells HB5.out
  obtain ⟨s5, hs5⟩ : ∃ s5, s5 = pnS (prS (pnS ([], 0) oe 1) b) (n : Int) 2 := ⟨_, rfl⟩
  rw [← hs5] at HRE H5
  clear h5 hk5 C2 hs5
  go_wp2_with fail
  go_loopg [6, 30] n (fun g' s6 s30 wr => ∃ i : Nat, s30 = .int .i64 (i : Int) ∧ i ≤ n ∧ n ≤ i + g' ∧ Hid (PenN 110 [N] w wr P ((ids.take i).foldl penId s5)) ∧ Hid (wr.heap[N]? = some (.cells (rpL oe (.slice ba b.length bc) (.slice ia n ic) room wh).toArray 32 (0, 0))))
  case atStart => exact ⟨0, rfl, by omega, by omega, H5, HB5⟩
  case round =>
    obtain ⟨i, rfl, hi, hig, HJ, HJB⟩ := hrel
    clear q0 q1 q2 q3 q4
    by_cases hlt : i < n
    · have hiz : (i : Int) < (n : Int) := by omega
      have hiz1 : (i : Int).toNat = i := by omega
      obtain ⟨⟨xc, xl, xn, xi⟩, hx⟩ : ∃ x, ids[i]? = some x := ⟨_, List.getElem?_eq_getElem (by have := HNN.out; omega)⟩
      obtain ⟨g, o, hia, hg, m0, m1, m2, m3⟩ := HI.out.at' i ⟨xc, xl, xn, xi⟩ hx
      have hcw := HJ.out.chg
      replace m0 := hcw.cell m0 (by simp)
      replace m1 := hcw.cell m1 (by simp)
      replace m2 := hcw.cell m2 (by simp)
      replace m3 := hcw.cell m3 (by simp)
      dsimp only at m0 m1 m2 m3
      have HT := Lib.hid (foldl_take ids i hx s5)
      have hcA : Chg [] wr (wr.alloc (.cells #[.int .i64 xc, .int .i64 xl, .int .i64 xn, .int .i64 xi] 38)) := (Chg.refl [] wr).alloc _
      have C := Lib.hid (putid_any (HJ.out.add (Y := [N]) hcA (fun k hk => .inl hk)) ⟨xc, xl, xn, xi⟩)
      have HJA := Lib.hid (hcA.keep HJB.out (by simp))
      clear hcw hcA hx
      subst hia
      go_wp2_with fail
      refine C.out.mono ?_
      rintro e w9 ⟨rfl, h9, hk9⟩
      have H9 := Lib.hid h9
      have HB9 := Lib.hid (keepO HJA.out (hk9 N (by simp)))
      clear h9 hk9 C m0 m1 m2 m3
      go_wp2_with fail
      go_roundg (gk - 1)
      case measure => omega
      case rel => exact ⟨i + 1, by go_num, by omega, by omega, by rw [HT.out]; exact H9, HB9⟩
    have hie : i = n := by omega
    have hiz : ¬ (i : Int) < (n : Int) := by omega
    have htk : ids.take i = ids := List.take_of_length_le (by have := HNN.out; omega)
    rw [htk] at HJ
    have C3 := Lib.hid (pnN HJ.out room 2 (by omega) (by omega))
    obtain ⟨q0, q1, q2, q3, q4⟩ := rp_cells HJB.out
    clear htk HJ
    go_wp2_with fail
    refine C3.out.mono ?_
    rintro e w6 ⟨rfl, h6, hk6⟩
    have HB6 := Lib.hid (keepO HJB.out (hk6 N (by simp)))
    have C4 := Lib.hid (pbN h6 wh)
    clear q0 q1 q2 q3 q4
    obtain ⟨q0, q1, q2, q3, q4⟩ := rp_cells HB6.out
    clear h6 hk6 C3
    go_wp2_with fail
    refine C4.out.mono ?_
    rintro e w7 ⟨rfl, h7, hk7⟩
    have C5 := Lib.hid (poN h7)
    clear h7 hk7 C4 q0 q1 q2 q3 q4
    go_wp2_with fail
    refine C5.out.mono ?_
    rintro e w8 ⟨v8, rfl, h8⟩
    have H8 := Lib.hid h8
    clear h8 C5
    go_wp2
    go_ret2
    rw [HRE.out]
    exact ⟨v8, rfl, H8.out⟩

end Go.Proofs.YtdkhmfcfihbjeaaGreatDoor.W

/- Bytes that came in. -/
namespace Go.Proofs.YtdkhmfcfihbjeaaGreatDoor.W
open Go.RowKit Go.ChangeShapes Go.WideShapes
set_option linter.unusedVariables false
set_option linter.unusedSimpArgs false

/-- Bytes that came in. -/
def Came (w : World) (v : Value) (l : List UInt8) : Prop := BytesAt w v l ∧ (l ≠ [] → ∀ k, v.ownBlock = some k → k < w.heap.size)
theorem Came.chg {w w' : World} {v : Value} {l : List UInt8} (h : Came w v l) (hc : Chg [] w w') : Came w' v l := ⟨h.1.chg hc (by simp), fun hl k hk => Nat.lt_of_lt_of_le (h.2 hl k hk) hc.size⟩
theorem toU8 (z : Int) (h : (Lit.int .u8 z).wf = true) : .int .u8 z = bv (UInt8.ofNat z.toNat) := by
  simp [Lit.wf, IntKind.min, IntKind.max, IntKind.signed, IntKind.bits] at h
  unfold bv
  rw [UInt8.toNat_ofNat']
  congr 1
  omega

section
variable {H : Type} {enc : TypeId × Value → H} {w : World} {base : Nat} {held : Bool}
end
theorem IsRow.came {w : World} {a : Option Addr} {len cap : Nat} {zs : List Int} (h : IsRow .u8 w a len cap zs) : ∃ l, l.length = len ∧ len ≤ maxLen ∧ Came w (.slice a len cap) l := by
  rcases h with ⟨rfl, rfl, rfl, rfl⟩ | ⟨x, rfl, h1, h2, h3, h4, h5⟩
  · exact ⟨[], rfl, by unfold maxLen; omega, BytesAt.nil w, by simp⟩
  · have hlen : ((zs.take len).map (fun z => UInt8.ofNat z.toNat)).length = len := by rw [List.length_map, List.length_take]; omega
    have hg : ∀ i, i < len → ((zs.take len).map (fun z => UInt8.ofNat z.toNat)).getD i 0 = UInt8.ofNat (zs.getD i 0).toNat := by
      intro i hi
      rw [List.getD_eq_getElem?_getD, List.getElem?_map, List.getElem?_take, if_pos hi, List.getD_eq_getElem?_getD, List.getElem?_eq_getElem (by omega)]
      rfl
    have hw : ∀ i, i < zs.length → (Lit.int .u8 (zs.getD i 0)).wf = true := fun i hi => h5 _ (by
      rw [List.getD_eq_getElem?_getD, List.getElem?_eq_getElem hi]
      exact List.getElem_mem hi)
    refine ⟨_, hlen, by omega, ?_⟩
    by_cases hl0 : len = 0
    · subst hl0
      have hnil : (zs.take 0).map (fun z => UInt8.ofNat z.toNat) = [] := by simp
      rw [hnil]
      by_cases hc0 : cap = 0
      · subst hc0
        exact ⟨⟨some x, 0, rfl, Nat.le_refl _, by unfold maxLen; omega, .inl ⟨rfl, rfl⟩⟩, by simp⟩
      · obtain ⟨g, o, spot⟩ := x
        have hc := h4 0 (by omega)
        have hspot : spot = none := by simpa [Addr.add] using World.cell?_spot hc
        subst hspot
        exact ⟨⟨some ⟨g, o, none⟩, cap, rfl, by simp, h2, .inr ⟨g, o, rfl, by simp⟩⟩, by simp⟩
    · obtain ⟨g, o, spot⟩ := x
      have hc := h4 0 (by omega)
      have hspot : spot = none := by simpa [Addr.add] using World.cell?_spot hc
      subst hspot
      have hlt : g < w.heap.size := by
        have := World.block_lt_of_cell? w _ hc
        simpa [Addr.add] using this
      refine ⟨⟨some ⟨g, o, none⟩, cap, by rw [hlen], by omega, h2, .inr ⟨g, o, rfl, fun i hi => ?_⟩⟩, fun _ k hk => ?_⟩
      · rw [hlen] at hi
        have := h4 i (by omega)
        rw [add_none] at this
        rw [this, hg i hi, ← toU8 _ (hw i (by omega))]
      · obtain rfl : g = k := by simpa [Value.ownBlock] using hk
        exact hlt
end Go.Proofs.YtdkhmfcfihbjeaaGreatDoor.W

/- Package server: the other deeds (printed by gen_svb.py). -/
namespace Go.Proofs.YtdkhmfcfihbjeaaGreatDoor.W
open Go.RowKit
set_option linter.unusedVariables false
set_option linter.unusedSimpArgs false

theorem five_cells {w : World} {N t : Nat} {a0 a1 a2 a3 a4 : Value} (h : w.heap[N]? = some (.cells #[a0, a1, a2, a3, a4] t (0, 0))) :
    (w.cell? ⟨N, 0, none⟩ = some a0 ∧ w.cell? ⟨N, 1, none⟩ = some a1 ∧ w.cell? ⟨N, 2, none⟩ = some a2 ∧ w.cell? ⟨N, 3, none⟩ = some a3 ∧ w.cell? ⟨N, 4, none⟩ = some a4) ∧
    w.frozen? ⟨N, 0, none⟩ = false ∧ w.frozen? ⟨N, 1, none⟩ = false ∧ w.frozen? ⟨N, 2, none⟩ = false ∧ w.frozen? ⟨N, 3, none⟩ = false ∧ w.frozen? ⟨N, 4, none⟩ = false :=
  ⟨⟨blk_cell h 0 _ rfl, blk_cell h 1 _ rfl, blk_cell h 2 _ rfl, blk_cell h 3 _ rfl, blk_cell h 4 _ rfl⟩, blk_frozen h 0, blk_frozen h 1, blk_frozen h 2, blk_frozen h 3, blk_frozen h 4⟩
theorem Std.calm {G U : List Nat} {w w' : World} {q p : Nat} {t : Sto} (h : StAt G w q p U t) (hc : Chg [] w w') : Std G w w' q p U t := ⟨U, h.keep0 hc, fun x hx => .inl hx, hc.mono (by simp)⟩
section
variable {G U : List Nat} {z q p : Nat} {t : Sto}
theorem Begins.calm {w w2 w3 : World} {r : Rq} {bv : Value} (hb : Begins G w w2 z q p U t r bv) (h : SvAt G w z q p U t) (hc : Chg [] w2 w3) (u : List Value) : Std G w (w3.setCells (w.heap.size + 1) 0 u) q p U t :=
  hb.ends h (Std.calm hb.st hc) u

set_option maxHeartbeats 4000000 in
set_option maxRecDepth 100000 in
theorem svget_any (r : Rq) (bv : Value) (w : World) (h : SvAt G w z q p U t) (hb : ∃ a n c, bv = .slice a n c) (hx : okD r.x) :
    Calls Tryz.prog 83 #[.pointer (some ⟨z, 0, none⟩), rqV r bv] w (DeedPost G w q p U ⟨lostOf t.whole (t.get r.x).2, (t.get r.x).1, [], 0, false⟩ t) := by
  have HE0 := Lib.hid (h.begins r bv)
  obtain ⟨w2, hw2⟩ : ∃ w2, w2 = (w.alloc (.cells (rqL r bv).toArray 40)).alloc (.cells zeroRp 32) := ⟨_, rfl⟩
  rw [← hw2] at HE0
  have HE := Lib.hid HE0.out.drew
  have c0 := blk_cell HE0.out.head 0 _ rfl
  have c00 := blk_cell h.head 0 _ rfl
  obtain ⟨B, hB⟩ : ∃ B, B = w.heap.size := ⟨_, rfl⟩
  have hrq := HE0.out.rq
  rw [← hB] at hrq
  have q1 := blk_cell hrq 1 _ rfl
  have q2 := blk_cell hrq 2 _ rfl
  have q3 := blk_cell hrq 3 _ rfl
  have q4 := blk_cell hrq 4 _ rfl
  have q5 := blk_cell hrq 5 _ rfl
  have HRP := Lib.hid HE0.out.rp
  rw [← hB] at HRP
  have HH := Lib.hid h
  have HW2 := Lib.hid hw2
  have HB := Lib.hid hB
  have CP := Lib.hid (stget_any q p U t r.x w2.drew HE.out.st hx)
  obtain ⟨o, hoe⟩ : ∃ o, o = t.get r.x := ⟨_, rfl⟩
  rw [← hoe] at CP
  rw [← hoe]
  obtain ⟨b3, e3⟩ := o
  have CWH := Lib.hid (fun w' (hc : Chg [] w2.drew w') => stwhole_any q p U t w' (HE.out.st.keep0 hc))
  obtain ⟨wh, hwh⟩ : ∃ wh, wh = t.whole := ⟨_, rfl⟩
  rw [← hwh] at CWH
  rw [← hwh]
  clear hx hoe hwh
  obtain ⟨k, ⟨xc, xl, xn, xi⟩, b⟩ := r
  obtain ⟨ba, bn, bc, hbv⟩ := hb
  subst hbv
  clear hw2 hB hrq HE0 h
  unfold rqV rqL
  unfold rqL at HW2
  try dsimp only at q1 q2 q3 q4 q5
  unfold idV idC at CP
  try dsimp only at CP
  rw [show zeroRp = #[.int .i64 0, .slice none 0 0, .slice none 0 0, .int .i64 0, .bool false] from rfl] at HW2
  have c0L := c0
  rw [HW2.out] at c0L
  go_enter Tryz.func83, Tryz.ntmps83
  go_wp2_with fail
  clear c0L
  rw [← HB.out]
  rw [← HW2.out]
  refine wp_region_L [(6, fun w' => w'.cell? ⟨z, 0, none⟩ = some (.pointer (some ⟨q, 0, none⟩))), (6, fun w' => (w'.cell? ⟨B, 1, none⟩ = some (.int .i64 xc) ∧ w'.cell? ⟨B, 2, none⟩ = some (.int .i64 xl) ∧ w'.cell? ⟨B, 3, none⟩ = some (.int .i64 xn) ∧ w'.cell? ⟨B, 4, none⟩ = some (.int .i64 xi)))] (by kernel_rfl) ?_ (fun hHeld => ?_)
  · exact (HoldC.cons (c0) (HoldC.cons (⟨q1, q2, q3, q4⟩) HoldC.nil))
  refine wpAnyL_take (i := 0) (oi := _) (v := ?_) rfl (by kernel_rfl) (by kernel_rfl) (by kernel_rfl) (by kernel_rfl) (by kernel_rfl) (fun _ _ _ h => h) (Or.inl ⟨by rfl, ?_⟩) (by assumption) (fun hNew => ?_)
  rotate_left
  · intro w _
    go_simp
    try with_reducible rfl
  clear hHeld
  have hHeld := hNew
  clear hNew
  try simp only [List.getElem_toArray, List.getElem_cons_succ, List.getElem_cons_zero, Act.put, List.setIfInBounds_toArray, List.set_cons_zero, List.set_cons_succ]
  refine wpAnyL_take (i := 1) (oi := _) (v := ?_) rfl (by kernel_rfl) (by kernel_rfl) (by kernel_rfl) (by kernel_rfl) (by kernel_rfl) (fun _ _ _ h => h) (Or.inl ⟨by rfl, ?_⟩) (by assumption) (fun hNew => ?_)
  rotate_left
  · intro w _
    go_simp
    try with_reducible rfl
  clear hHeld
  have hHeld := hNew
  clear hNew
  try simp only [List.getElem_toArray, List.getElem_cons_succ, List.getElem_cons_zero, Act.put, List.setIfInBounds_toArray, List.set_cons_zero, List.set_cons_succ]
  refine wpAnyL_take (i := 2) (oi := _) (v := ?_) rfl (by kernel_rfl) (by kernel_rfl) (by kernel_rfl) (by kernel_rfl) (by kernel_rfl) (fun _ _ _ h => h) (Or.inl ⟨by rfl, ?_⟩) (by assumption) (fun hNew => ?_)
  rotate_left
  · intro w _
    go_simp
    try with_reducible rfl
  clear hHeld
  have hHeld := hNew
  clear hNew
  try simp only [List.getElem_toArray, List.getElem_cons_succ, List.getElem_cons_zero, Act.put, List.setIfInBounds_toArray, List.set_cons_zero, List.set_cons_succ]
  refine wpAnyL_take (i := 4) (oi := _) (v := ?_) rfl (by kernel_rfl) (by kernel_rfl) (by kernel_rfl) (by kernel_rfl) (by kernel_rfl) (fun _ _ _ h => h) (Or.inl ⟨by rfl, ?_⟩) (by assumption) (fun hNew => ?_)
  rotate_left
  · intro w _
    go_simp
    try with_reducible rfl
  clear hHeld
  have hHeld := hNew
  clear hNew
  try simp only [List.getElem_toArray, List.getElem_cons_succ, List.getElem_cons_zero, Act.put, List.setIfInBounds_toArray, List.set_cons_zero, List.set_cons_succ]
  refine wpAnyL_load 0 (i := 3) (oi := _) (v := ?_) rfl rfl (by kernel_rfl) (by kernel_rfl) (by kernel_rfl) (by kernel_rfl) (by kernel_rfl) (by kernel_rfl) (fun _ _ _ h => h) (Or.inl ⟨by rfl, ?_⟩) (by assumption) (fun hNew => ?_)
  rotate_left
  · intro w hSw
    (try dsimp only at hSw)
    go_simp
    try with_reducible rfl
  clear hHeld
  have hHeld := hNew
  clear hNew
  try simp only [List.getElem_toArray, List.getElem_cons_succ, List.getElem_cons_zero, Act.put, List.setIfInBounds_toArray, List.set_cons_zero, List.set_cons_succ]
  refine wpAnyL_load 1 (i := 5) (oi := _) (v := ?_) rfl rfl (by kernel_rfl) (by kernel_rfl) (by kernel_rfl) (by kernel_rfl) (by kernel_rfl) (by kernel_rfl) (fun _ _ _ h => h) (Or.inl ⟨by rfl, ?_⟩) (by assumption) (fun hNew => ?_)
  rotate_left
  · intro w hSw
    (try dsimp only at hSw)
    go_simp
    try with_reducible rfl
  clear hHeld
  have hHeld := hNew
  clear hNew
  try simp only [List.getElem_toArray, List.getElem_cons_succ, List.getElem_cons_zero, Act.put, List.setIfInBounds_toArray, List.set_cons_zero, List.set_cons_succ]
  refine wpAnyL_ready (rs := [6]) (by kernel_rfl) (by simp) ?_
  refine AllReadyL.cons (o := _) rfl (fun K hK => ?_) AllReadyL.nil
  try simp only [List.getElem_toArray, List.getElem_cons_succ, List.getElem_cons_zero]
  go_simp
  refine CP.out.mono ?_
  rintro e w3 ⟨⟨v3, rfl, hb3, hn3⟩, hc3⟩
  dsimp only at hb3
  obtain ⟨a3, c3, rfl⟩ := hb3.slice
  have hz3 := hc3.keep HE.out.rp (by simp)
  rw [← HB.out] at hz3
  have HZ3 := Lib.hid hz3
  have HN3 : Hid (∀ g, (Value.slice a3 b3.length c3).ownBlock = some g → w.heap.size ≤ g) := Lib.hid (fun g hg => Nat.le_trans HE.out.chg.size (hn3 g hg))
  have HBX : Hid (∀ u, BytesAt (w3.setCells (B + 1) 0 u) (.slice a3 b3.length c3) b3) := Lib.hid (fun u => hb3.chg (S := [B + 1]) ((Chg.refl _ w3).setCells (.inl (by simp)) u) (fun g hg hm => by
    have h1 := hn3 g hg
    have h2 := (HE.out.new _ (List.mem_cons_self ..)).2
    rw [← HB.out] at h2
    have := List.mem_singleton.1 hm
    omega))
  have CW3 := Lib.hid (CWH.out w3 hc3)
  have HC3 := Lib.hid hc3
  have c3z := hc3.cell (show w2.drew.cell? ⟨z, 0, none⟩ = some (.pointer (some ⟨q, 0, none⟩)) from c0) (by simp)
  clear hz3 hb3 hn3 hc3 CP CWH c0 c00 q1 q2 q3 q4 q5
  clear hHeld
  refine hK.out _ _ ?_ (fun hHeld => ?_)
  · exact (HoldC.past (by kernel_rfl) (HoldC.past (by kernel_rfl) HoldC.nil))
  clear hK K
  try simp only [List.getElem_toArray, List.getElem_cons_succ, List.getElem_cons_zero, Act.put, List.setIfInBounds_toArray, List.set_cons_zero, List.set_cons_succ]
  refine wpAnyL_take (i := 7) (oi := _) (v := ?_) rfl (by kernel_rfl) (by kernel_rfl) (by kernel_rfl) (by kernel_rfl) (by kernel_rfl) (fun _ _ _ h => h) (Or.inl ⟨by rfl, ?_⟩) (by assumption) (fun hNew => ?_)
  rotate_left
  · intro w _
    go_simp
    try with_reducible rfl
  clear hHeld
  have hHeld := hNew
  clear hNew
  try simp only [List.getElem_toArray, List.getElem_cons_succ, List.getElem_cons_zero, Act.put, List.setIfInBounds_toArray, List.set_cons_zero, List.set_cons_succ]
  refine wpAnyL_take (i := 8) (oi := _) (v := ?_) rfl (by kernel_rfl) (by kernel_rfl) (by kernel_rfl) (by kernel_rfl) (by kernel_rfl) (fun _ _ _ h => h) (Or.inl ⟨by rfl, ?_⟩) (by assumption) (fun hNew => ?_)
  rotate_left
  · intro w _
    go_simp
    try with_reducible rfl
  clear hHeld
  have hHeld := hNew
  clear hNew
  try simp only [List.getElem_toArray, List.getElem_cons_succ, List.getElem_cons_zero, Act.put, List.setIfInBounds_toArray, List.set_cons_zero, List.set_cons_succ]
  refine wpAnyL_take (i := 9) (oi := _) (v := ?_) rfl (by kernel_rfl) (by kernel_rfl) (by kernel_rfl) (by kernel_rfl) (by kernel_rfl) (fun _ _ _ h => h) (Or.inl ⟨by rfl, ?_⟩) (by assumption) (fun hNew => ?_)
  rotate_left
  · intro w _
    go_simp
    try with_reducible rfl
  clear hHeld
  have hHeld := hNew
  clear hNew
  try simp only [List.getElem_toArray, List.getElem_cons_succ, List.getElem_cons_zero, Act.put, List.setIfInBounds_toArray, List.set_cons_zero, List.set_cons_succ]
  refine wpAnyL_take (i := 10) (oi := _) (v := ?_) rfl (by kernel_rfl) (by kernel_rfl) (by kernel_rfl) (by kernel_rfl) (by kernel_rfl) (fun _ _ _ h => h) (Or.inl ⟨by rfl, ?_⟩) (by assumption) (fun hNew => ?_)
  rotate_left
  · intro w _
    go_simp
    try with_reducible rfl
  clear hHeld
  have hHeld := hNew
  clear hNew
  try simp only [List.getElem_toArray, List.getElem_cons_succ, List.getElem_cons_zero, Act.put, List.setIfInBounds_toArray, List.set_cons_zero, List.set_cons_succ]
  refine wpAnyL_take (i := 11) (oi := _) (v := ?_) rfl (by kernel_rfl) (by kernel_rfl) (by kernel_rfl) (by kernel_rfl) (by kernel_rfl) (fun _ _ _ h => h) (Or.inl ⟨by rfl, ?_⟩) (by assumption) (fun hNew => ?_)
  rotate_left
  · intro w _
    go_simp
    try with_reducible rfl
  clear hHeld
  have hHeld := hNew
  clear hNew
  try simp only [List.getElem_toArray, List.getElem_cons_succ, List.getElem_cons_zero, Act.put, List.setIfInBounds_toArray, List.set_cons_zero, List.set_cons_succ]
  refine wpAnyL_done (by kernel_rfl) ?_ _
  clear hHeld
  by_cases he : e3 = 6
  · subst he
    cases wh
    · go_wp2_with fail
      refine CW3.out.mono ?_
      rintro e w' ⟨rfl, hq⟩
      subst hq
      have HS := Lib.hid (HE.out.calm HH.out HC3.out (rpL 15 (.slice a3 b3.length c3) (.slice none 0 0) 0 false))
      rw [← HB.out] at HS
      have HZ := Lib.hid (five_set HZ3.out (.int .i64 15) (.slice a3 b3.length c3) (.slice none 0 0) (.int .i64 0) (.bool false))
      obtain ⟨⟨m0, m1, m2, m3, m4⟩, f0, f1, f2, f3, f4⟩ := five_cells HZ3.out
      go_wp2_with fail
      exact bodyPost_ret (ret_rp rfl _ rfl HZ.out) rfl ⟨_, rfl, ⟨.slice a3 b3.length c3, .slice none 0 0, by unfold lostOf; rw [if_pos ⟨rfl, rfl⟩], HBX.out (rpL 15 (.slice a3 b3.length c3) (.slice none 0 0) 0 false), HN3.out, World.ownsRow_nil _ _ _ _⟩, HS.out⟩

    · go_wp2_with fail
      refine CW3.out.mono ?_
      rintro e w' ⟨rfl, hq⟩
      subst hq
      have HS := Lib.hid (HE.out.calm HH.out HC3.out (rpL 6 (.slice a3 b3.length c3) (.slice none 0 0) 0 false))
      rw [← HB.out] at HS
      have HZ := Lib.hid (five_set HZ3.out (.int .i64 6) (.slice a3 b3.length c3) (.slice none 0 0) (.int .i64 0) (.bool false))
      obtain ⟨⟨m0, m1, m2, m3, m4⟩, f0, f1, f2, f3, f4⟩ := five_cells HZ3.out
      go_wp2_with fail
      exact bodyPost_ret (ret_rp rfl _ rfl HZ.out) rfl ⟨_, rfl, ⟨.slice a3 b3.length c3, .slice none 0 0, by unfold lostOf; rw [if_neg (by simp)], HBX.out (rpL 6 (.slice a3 b3.length c3) (.slice none 0 0) 0 false), HN3.out, World.ownsRow_nil _ _ _ _⟩, HS.out⟩

  · have qe : (e3 == 6) = false := by simp [he]
    have HEN := Lib.hid he
    clear he
    have HS := Lib.hid (HE.out.calm HH.out HC3.out (rpL e3 (.slice a3 b3.length c3) (.slice none 0 0) 0 false))
    rw [← HB.out] at HS
    have HZ := Lib.hid (five_set HZ3.out (.int .i64 e3) (.slice a3 b3.length c3) (.slice none 0 0) (.int .i64 0) (.bool false))
    obtain ⟨⟨m0, m1, m2, m3, m4⟩, f0, f1, f2, f3, f4⟩ := five_cells HZ3.out
    go_wp2_with fail
    exact bodyPost_ret (ret_rp rfl _ rfl HZ.out) rfl ⟨_, rfl, ⟨.slice a3 b3.length c3, .slice none 0 0, by unfold lostOf; rw [if_neg (fun hh => HEN.out hh.1)], HBX.out (rpL e3 (.slice a3 b3.length c3) (.slice none 0 0) 0 false), HN3.out, World.ownsRow_nil _ _ _ _⟩, HS.out⟩

set_option maxHeartbeats 4000000 in
set_option maxRecDepth 100000 in
theorem svdel_any (r : Rq) (bv : Value) (w : World) (h : SvAt G w z q p U t) (hb : ∃ a n c, bv = .slice a n c) (hx : okD r.x) (ho : t.s.d.ops ≤ 800000000) (hw : t.s.d.since.length ≤ 800000) :
    Calls Tryz.prog 84 #[.pointer (some ⟨z, 0, none⟩), rqV r bv] w (DeedPost G w q p U (errRp (t.del r.x).1) (t.del r.x).2) := by
  have HE0 := Lib.hid (h.begins r bv)
  obtain ⟨w2, hw2⟩ : ∃ w2, w2 = (w.alloc (.cells (rqL r bv).toArray 40)).alloc (.cells zeroRp 32) := ⟨_, rfl⟩
  rw [← hw2] at HE0
  have HE := Lib.hid HE0.out.drew
  have c0 := blk_cell HE0.out.head 0 _ rfl
  have c00 := blk_cell h.head 0 _ rfl
  obtain ⟨B, hB⟩ : ∃ B, B = w.heap.size := ⟨_, rfl⟩
  have hrq := HE0.out.rq
  rw [← hB] at hrq
  have q1 := blk_cell hrq 1 _ rfl
  have q2 := blk_cell hrq 2 _ rfl
  have q3 := blk_cell hrq 3 _ rfl
  have q4 := blk_cell hrq 4 _ rfl
  have q5 := blk_cell hrq 5 _ rfl
  have HRP := Lib.hid HE0.out.rp
  rw [← hB] at HRP
  have HH := Lib.hid h
  have HW2 := Lib.hid hw2
  have HB := Lib.hid hB
  have CP := Lib.hid (stdel_any q p U t r.x w2.drew HE.out.st hx ho hw)
  obtain ⟨o, hoe⟩ : ∃ o, o = t.del r.x := ⟨_, rfl⟩
  rw [← hoe] at CP
  rw [← hoe]
  clear hx hoe
  obtain ⟨k, ⟨xc, xl, xn, xi⟩, b⟩ := r
  obtain ⟨ba, bn, bc, hbv⟩ := hb
  subst hbv
  clear hw2 hB hrq HE0 h
  unfold rqV rqL
  unfold rqL at HW2
  try dsimp only at q1 q2 q3 q4 q5
  unfold idV idC at CP
  try dsimp only at CP
  rw [show zeroRp = #[.int .i64 0, .slice none 0 0, .slice none 0 0, .int .i64 0, .bool false] from rfl] at HW2
  have c0L := c0
  rw [HW2.out] at c0L
  go_enter Tryz.func84, Tryz.ntmps84
  go_wp2_with fail
  clear c0L
  rw [← HB.out]
  rw [← HW2.out]
  refine wp_region_L [(6, fun w' => w'.cell? ⟨z, 0, none⟩ = some (.pointer (some ⟨q, 0, none⟩))), (6, fun w' => (w'.cell? ⟨B, 1, none⟩ = some (.int .i64 xc) ∧ w'.cell? ⟨B, 2, none⟩ = some (.int .i64 xl) ∧ w'.cell? ⟨B, 3, none⟩ = some (.int .i64 xn) ∧ w'.cell? ⟨B, 4, none⟩ = some (.int .i64 xi)))] (by kernel_rfl) ?_ (fun hHeld => ?_)
  · exact (HoldC.cons (c0) (HoldC.cons (⟨q1, q2, q3, q4⟩) HoldC.nil))
  refine wpAnyL_take (i := 0) (oi := _) (v := ?_) rfl (by kernel_rfl) (by kernel_rfl) (by kernel_rfl) (by kernel_rfl) (by kernel_rfl) (fun _ _ _ h => h) (Or.inl ⟨by rfl, ?_⟩) (by assumption) (fun hNew => ?_)
  rotate_left
  · intro w _
    go_simp
    try with_reducible rfl
  clear hHeld
  have hHeld := hNew
  clear hNew
  try simp only [List.getElem_toArray, List.getElem_cons_succ, List.getElem_cons_zero, Act.put, List.setIfInBounds_toArray, List.set_cons_zero, List.set_cons_succ]
  refine wpAnyL_take (i := 1) (oi := _) (v := ?_) rfl (by kernel_rfl) (by kernel_rfl) (by kernel_rfl) (by kernel_rfl) (by kernel_rfl) (fun _ _ _ h => h) (Or.inl ⟨by rfl, ?_⟩) (by assumption) (fun hNew => ?_)
  rotate_left
  · intro w _
    go_simp
    try with_reducible rfl
  clear hHeld
  have hHeld := hNew
  clear hNew
  try simp only [List.getElem_toArray, List.getElem_cons_succ, List.getElem_cons_zero, Act.put, List.setIfInBounds_toArray, List.set_cons_zero, List.set_cons_succ]
  refine wpAnyL_take (i := 2) (oi := _) (v := ?_) rfl (by kernel_rfl) (by kernel_rfl) (by kernel_rfl) (by kernel_rfl) (by kernel_rfl) (fun _ _ _ h => h) (Or.inl ⟨by rfl, ?_⟩) (by assumption) (fun hNew => ?_)
  rotate_left
  · intro w _
    go_simp
    try with_reducible rfl
  clear hHeld
  have hHeld := hNew
  clear hNew
  try simp only [List.getElem_toArray, List.getElem_cons_succ, List.getElem_cons_zero, Act.put, List.setIfInBounds_toArray, List.set_cons_zero, List.set_cons_succ]
  refine wpAnyL_take (i := 4) (oi := _) (v := ?_) rfl (by kernel_rfl) (by kernel_rfl) (by kernel_rfl) (by kernel_rfl) (by kernel_rfl) (fun _ _ _ h => h) (Or.inl ⟨by rfl, ?_⟩) (by assumption) (fun hNew => ?_)
  rotate_left
  · intro w _
    go_simp
    try with_reducible rfl
  clear hHeld
  have hHeld := hNew
  clear hNew
  try simp only [List.getElem_toArray, List.getElem_cons_succ, List.getElem_cons_zero, Act.put, List.setIfInBounds_toArray, List.set_cons_zero, List.set_cons_succ]
  refine wpAnyL_load 0 (i := 3) (oi := _) (v := ?_) rfl rfl (by kernel_rfl) (by kernel_rfl) (by kernel_rfl) (by kernel_rfl) (by kernel_rfl) (by kernel_rfl) (fun _ _ _ h => h) (Or.inl ⟨by rfl, ?_⟩) (by assumption) (fun hNew => ?_)
  rotate_left
  · intro w hSw
    (try dsimp only at hSw)
    go_simp
    try with_reducible rfl
  clear hHeld
  have hHeld := hNew
  clear hNew
  try simp only [List.getElem_toArray, List.getElem_cons_succ, List.getElem_cons_zero, Act.put, List.setIfInBounds_toArray, List.set_cons_zero, List.set_cons_succ]
  refine wpAnyL_load 1 (i := 5) (oi := _) (v := ?_) rfl rfl (by kernel_rfl) (by kernel_rfl) (by kernel_rfl) (by kernel_rfl) (by kernel_rfl) (by kernel_rfl) (fun _ _ _ h => h) (Or.inl ⟨by rfl, ?_⟩) (by assumption) (fun hNew => ?_)
  rotate_left
  · intro w hSw
    (try dsimp only at hSw)
    go_simp
    try with_reducible rfl
  clear hHeld
  have hHeld := hNew
  clear hNew
  try simp only [List.getElem_toArray, List.getElem_cons_succ, List.getElem_cons_zero, Act.put, List.setIfInBounds_toArray, List.set_cons_zero, List.set_cons_succ]
  refine wpAnyL_ready (rs := [6]) (by kernel_rfl) (by simp) ?_
  refine AllReadyL.cons (o := _) rfl (fun K hK => ?_) AllReadyL.nil
  try simp only [List.getElem_toArray, List.getElem_cons_succ, List.getElem_cons_zero]
  go_simp
  refine CP.out.mono ?_
  rintro e w3 ⟨rfl, hs3⟩
  have hz3 := hs3.blk HE.out.rp HE.out.out
  rw [← HB.out] at hz3
  have HZ := Lib.hid (five_set hz3 (.int .i64 o.1) (.slice none 0 0) (.slice none 0 0) (.int .i64 0) (.bool false))
  have HTH := Lib.hid (five_there hz3 _ rfl)
  have HS := Lib.hid (HE.out.ends HH.out hs3 (rpL o.1 (.slice none 0 0) (.slice none 0 0) 0 false))
  rw [← HB.out] at HS
  clear hz3 hs3 CP c0 c00 q1 q2 q3 q4 q5
  clear hHeld
  refine hK.out _ _ ?_ (fun hHeld => ?_)
  · exact (HoldC.past (by kernel_rfl) (HoldC.past (by kernel_rfl) HoldC.nil))
  clear hK K
  try simp only [List.getElem_toArray, List.getElem_cons_succ, List.getElem_cons_zero, Act.put, List.setIfInBounds_toArray, List.set_cons_zero, List.set_cons_succ]
  refine wpAnyL_take (i := 7) (oi := _) (v := ?_) rfl (by kernel_rfl) (by kernel_rfl) (by kernel_rfl) (by kernel_rfl) (by kernel_rfl) (fun _ _ _ h => h) (Or.inl ⟨by rfl, ?_⟩) (by assumption) (fun hNew => ?_)
  rotate_left
  · intro w _
    go_simp
    try with_reducible rfl
  clear hHeld
  have hHeld := hNew
  clear hNew
  try simp only [List.getElem_toArray, List.getElem_cons_succ, List.getElem_cons_zero, Act.put, List.setIfInBounds_toArray, List.set_cons_zero, List.set_cons_succ]
  refine wpAnyL_ready (rs := [8]) (by kernel_rfl) (by simp) ?_
  refine AllReadyL.cons (o := _) rfl (fun K hK => ?_) AllReadyL.nil
  try simp only [List.getElem_toArray, List.getElem_cons_succ, List.getElem_cons_zero]
  rw [if_pos (by rfl)]
  refine wp_store_mid 32 (.tmp 4) (.tmp 12) (by rfl) (B + 1) 0 (rpL o.1 (.slice none 0 0) (.slice none 0 0) 0 false).toArray (by rfl) (by rfl) HTH.out (rp_size _ _ _ _ _) (err_all _) ?_
  clear hHeld
  refine hK.out _ _ ?_ (fun hHeld => ?_)
  · exact (HoldC.past (by kernel_rfl) (HoldC.past (by kernel_rfl) HoldC.nil))
  clear hK K
  try simp only [List.getElem_toArray, List.getElem_cons_succ, List.getElem_cons_zero, Act.put, List.setIfInBounds_toArray, List.set_cons_zero, List.set_cons_succ]
  refine wpAnyL_done (by kernel_rfl) ?_ _
  clear hHeld
  go_wp2
  exact bodyPost_ret (ret_rp rfl _ rfl HZ.out) rfl ⟨_, rfl, RpAt.err _, HS.out⟩

set_option maxHeartbeats 4000000 in
set_option maxRecDepth 100000 in
theorem svlist_any (r : Rq) (bv : Value) (w : World) (h : SvAt G w z q p U t) (hb : ∃ a n c, bv = .slice a n c) :
    Calls Tryz.prog 85 #[.pointer (some ⟨z, 0, none⟩), rqV r bv] w (DeedPost G w q p U ⟨0, [], t.ids, 0, false⟩ t) := by
  have HE0 := Lib.hid (h.begins r bv)
  obtain ⟨w2, hw2⟩ : ∃ w2, w2 = (w.alloc (.cells (rqL r bv).toArray 40)).alloc (.cells zeroRp 32) := ⟨_, rfl⟩
  rw [← hw2] at HE0
  have HE := Lib.hid HE0.out
  have c0 := blk_cell HE0.out.head 0 _ rfl
  have c00 := blk_cell h.head 0 _ rfl
  obtain ⟨B, hB⟩ : ∃ B, B = w.heap.size := ⟨_, rfl⟩
  have hrq := HE0.out.rq
  rw [← hB] at hrq
  have q1 := blk_cell hrq 1 _ rfl
  have q2 := blk_cell hrq 2 _ rfl
  have q3 := blk_cell hrq 3 _ rfl
  have q4 := blk_cell hrq 4 _ rfl
  have q5 := blk_cell hrq 5 _ rfl
  have HRP := Lib.hid HE0.out.rp
  rw [← hB] at HRP
  have HH := Lib.hid h
  have HW2 := Lib.hid hw2
  have HB := Lib.hid hB
  have CP := Lib.hid (stlist_any q p U t w2 HE.out.st)
  obtain ⟨ids, hids⟩ : ∃ ids, ids = t.ids := ⟨_, rfl⟩
  rw [← hids] at CP
  rw [← hids]
  clear hids
  obtain ⟨k, ⟨xc, xl, xn, xi⟩, b⟩ := r
  obtain ⟨ba, bn, bc, hbv⟩ := hb
  subst hbv
  clear hw2 hB hrq HE0 h
  unfold rqV rqL
  unfold rqL at HW2
  try dsimp only at q1 q2 q3 q4 q5

  rw [show zeroRp = #[.int .i64 0, .slice none 0 0, .slice none 0 0, .int .i64 0, .bool false] from rfl] at HW2
  have c0L := c0
  rw [HW2.out] at c0L
  go_enter Tryz.func85, Tryz.ntmps85
  go_wp2_with fail
  clear c0L
  rw [← HB.out]
  rw [← HW2.out]

  refine CP.out.mono ?_
  rintro e w3 ⟨v3, rfl, hr3, hc3⟩
  have hz3 := hc3.keep HE.out.rp (by simp)
  rw [← HB.out] at hz3
  obtain ⟨a3, c3, rfl⟩ : ∃ a c, v3 = .slice a ids.length c := by
    rcases hr3.2 with ⟨h1, h2⟩ | ⟨g, cap, cur, h1, _⟩
    · exact ⟨none, 0, by rw [h1, h2]⟩
    · exact ⟨_, cap, h1⟩
  have HZ := Lib.hid (five_set hz3 (.int .i64 0) (.slice none 0 0) (.slice a3 ids.length c3) (.int .i64 0) (.bool false))
  have HS := Lib.hid (HE.out.calm HH.out hc3 (rpL 0 (.slice none 0 0) (.slice a3 ids.length c3) 0 false))
  have HR : Hid ((w3.setCells (w.heap.size + 1) 0 (rpL 0 (.slice none 0 0) (.slice a3 ids.length c3) 0 false)).ownsRow w.heap.size 38 4 (.slice a3 ids.length c3) ids.length (ids.flatMap idE)) := Lib.hid (by
    have hlo : ∀ g, (Value.slice a3 ids.length c3).ownBlock = some g → w2.heap.size ≤ g := fun g hg => (World.ownsRow.lt hr3 g hg).1
    have hb2 := HE.out.new _ (List.mem_cons_self ..)
    refine row_keep (row_base hr3 w.heap.size (fun g hg => ?_)) (fun g hg => setCells_far _ _ _ _ ?_)
    · have := hlo g hg; omega
    · have := hlo g hg; omega)
  rw [← HB.out] at HS HR
  obtain ⟨⟨m0, m1, m2, m3, m4⟩, f0, f1, f2, f3, f4⟩ := five_cells hz3
  clear hz3 hr3 hc3 CP c0 c00 q1 q2 q3 q4 q5
  go_wp2_with fail
  refine bodyPost_ret (ret_rp rfl _ rfl HZ.out) rfl ⟨_, rfl, ⟨.slice none 0 0, .slice a3 ids.length c3, rfl, BytesAt.nil _, by simp [Value.ownBlock], ?_⟩, HS.out⟩
  rw [← HB.out]
  exact HR.out

set_option maxHeartbeats 4000000 in
set_option maxRecDepth 100000 in
theorem svinfo_any (r : Rq) (bv : Value) (w : World) (h : SvAt G w z q p U t) (hb : ∃ a n c, bv = .slice a n c) :
    Calls Tryz.prog 86 #[.pointer (some ⟨z, 0, none⟩), rqV r bv] w (DeedPost G w q p U ⟨0, [], [], (t.room : Int), t.whole⟩ t) := by
  have HE0 := Lib.hid (h.begins r bv)
  obtain ⟨w2, hw2⟩ : ∃ w2, w2 = (w.alloc (.cells (rqL r bv).toArray 40)).alloc (.cells zeroRp 32) := ⟨_, rfl⟩
  rw [← hw2] at HE0
  have HE := Lib.hid HE0.out.drew
  have c0 := blk_cell HE0.out.head 0 _ rfl
  have c00 := blk_cell h.head 0 _ rfl
  obtain ⟨B, hB⟩ : ∃ B, B = w.heap.size := ⟨_, rfl⟩
  have hrq := HE0.out.rq
  rw [← hB] at hrq
  have q1 := blk_cell hrq 1 _ rfl
  have q2 := blk_cell hrq 2 _ rfl
  have q3 := blk_cell hrq 3 _ rfl
  have q4 := blk_cell hrq 4 _ rfl
  have q5 := blk_cell hrq 5 _ rfl
  have HRP := Lib.hid HE0.out.rp
  rw [← hB] at HRP
  have HH := Lib.hid h
  have HW2 := Lib.hid hw2
  have HB := Lib.hid hB
  have CR := Lib.hid (stroom_any q p U t w2.drew HE.out.st)
  have CWH := Lib.hid (stwhole_any q p U t w2.drew HE.out.st)
  obtain ⟨rm, hrm⟩ : ∃ rm, rm = t.room := ⟨_, rfl⟩
  obtain ⟨wh, hwh⟩ : ∃ wh, wh = t.whole := ⟨_, rfl⟩
  rw [← hrm] at CR
  rw [← hwh] at CWH
  rw [← hrm, ← hwh]
  clear hrm hwh
  obtain ⟨k, ⟨xc, xl, xn, xi⟩, b⟩ := r
  obtain ⟨ba, bn, bc, hbv⟩ := hb
  subst hbv
  clear hw2 hB hrq HE0 h
  unfold rqV rqL
  unfold rqL at HW2
  try dsimp only at q1 q2 q3 q4 q5

  rw [show zeroRp = #[.int .i64 0, .slice none 0 0, .slice none 0 0, .int .i64 0, .bool false] from rfl] at HW2
  have c0L := c0
  rw [HW2.out] at c0L
  go_enter Tryz.func86, Tryz.ntmps86
  go_wp2_with fail
  clear c0L
  rw [← HB.out]
  rw [← HW2.out]

  have hz3 := HE.out.rp
  rw [← HB.out] at hz3
  have HZ := Lib.hid (five_set hz3 (.int .i64 0) (.slice none 0 0) (.slice none 0 0) (.int .i64 (rm : Int)) (.bool wh))
  have HTH := Lib.hid (five_there hz3 _ rfl)
  have HS := Lib.hid (HE.out.calm HH.out (Chg.refl [] _) (rpL 0 (.slice none 0 0) (.slice none 0 0) (rm : Int) wh))
  rw [← HB.out] at HS
  clear hz3
  refine wp_region_L [(4, fun w' => w'.cell? ⟨z, 0, none⟩ = some (.pointer (some ⟨q, 0, none⟩))), (9, fun w' => w'.cell? ⟨z, 0, none⟩ = some (.pointer (some ⟨q, 0, none⟩)))] (by kernel_rfl) ?_ (fun hHeld => ?_)
  · exact (HoldC.cons (c0) (HoldC.cons (c0) HoldC.nil))
  refine wpAnyL_take (i := 0) (oi := _) (v := ?_) rfl (by kernel_rfl) (by kernel_rfl) (by kernel_rfl) (by kernel_rfl) (by kernel_rfl) (fun _ _ _ h => h) (Or.inl ⟨by rfl, ?_⟩) (by assumption) (fun hNew => ?_)
  rotate_left
  · intro w _
    go_simp
    try with_reducible rfl
  clear hHeld
  have hHeld := hNew
  clear hNew
  try simp only [List.getElem_toArray, List.getElem_cons_succ, List.getElem_cons_zero, Act.put, List.setIfInBounds_toArray, List.set_cons_zero, List.set_cons_succ]
  refine wpAnyL_take (i := 1) (oi := _) (v := ?_) rfl (by kernel_rfl) (by kernel_rfl) (by kernel_rfl) (by kernel_rfl) (by kernel_rfl) (fun _ _ _ h => h) (Or.inl ⟨by rfl, ?_⟩) (by assumption) (fun hNew => ?_)
  rotate_left
  · intro w _
    go_simp
    try with_reducible rfl
  clear hHeld
  have hHeld := hNew
  clear hNew
  try simp only [List.getElem_toArray, List.getElem_cons_succ, List.getElem_cons_zero, Act.put, List.setIfInBounds_toArray, List.set_cons_zero, List.set_cons_succ]
  refine wpAnyL_take (i := 2) (oi := _) (v := ?_) rfl (by kernel_rfl) (by kernel_rfl) (by kernel_rfl) (by kernel_rfl) (by kernel_rfl) (fun _ _ _ h => h) (Or.inl ⟨by rfl, ?_⟩) (by assumption) (fun hNew => ?_)
  rotate_left
  · intro w _
    go_simp
    try with_reducible rfl
  clear hHeld
  have hHeld := hNew
  clear hNew
  try simp only [List.getElem_toArray, List.getElem_cons_succ, List.getElem_cons_zero, Act.put, List.setIfInBounds_toArray, List.set_cons_zero, List.set_cons_succ]
  refine wpAnyL_take (i := 5) (oi := _) (v := ?_) rfl (by kernel_rfl) (by kernel_rfl) (by kernel_rfl) (by kernel_rfl) (by kernel_rfl) (fun _ _ _ h => h) (Or.inl ⟨by rfl, ?_⟩) (by assumption) (fun hNew => ?_)
  rotate_left
  · intro w _
    go_simp
    try with_reducible rfl
  clear hHeld
  have hHeld := hNew
  clear hNew
  try simp only [List.getElem_toArray, List.getElem_cons_succ, List.getElem_cons_zero, Act.put, List.setIfInBounds_toArray, List.set_cons_zero, List.set_cons_succ]
  refine wpAnyL_take (i := 6) (oi := _) (v := ?_) rfl (by kernel_rfl) (by kernel_rfl) (by kernel_rfl) (by kernel_rfl) (by kernel_rfl) (fun _ _ _ h => h) (Or.inl ⟨by rfl, ?_⟩) (by assumption) (fun hNew => ?_)
  rotate_left
  · intro w _
    go_simp
    try with_reducible rfl
  clear hHeld
  have hHeld := hNew
  clear hNew
  try simp only [List.getElem_toArray, List.getElem_cons_succ, List.getElem_cons_zero, Act.put, List.setIfInBounds_toArray, List.set_cons_zero, List.set_cons_succ]
  refine wpAnyL_take (i := 7) (oi := _) (v := ?_) rfl (by kernel_rfl) (by kernel_rfl) (by kernel_rfl) (by kernel_rfl) (by kernel_rfl) (fun _ _ _ h => h) (Or.inl ⟨by rfl, ?_⟩) (by assumption) (fun hNew => ?_)
  rotate_left
  · intro w _
    go_simp
    try with_reducible rfl
  clear hHeld
  have hHeld := hNew
  clear hNew
  try simp only [List.getElem_toArray, List.getElem_cons_succ, List.getElem_cons_zero, Act.put, List.setIfInBounds_toArray, List.set_cons_zero, List.set_cons_succ]
  refine wpAnyL_load 0 (i := 3) (oi := _) (v := ?_) rfl rfl (by kernel_rfl) (by kernel_rfl) (by kernel_rfl) (by kernel_rfl) (by kernel_rfl) (by kernel_rfl) (fun _ _ _ h => h) (Or.inl ⟨by rfl, ?_⟩) (by assumption) (fun hNew => ?_)
  rotate_left
  · intro w hSw
    (try dsimp only at hSw)
    go_simp
    try with_reducible rfl
  clear hHeld
  have hHeld := hNew
  clear hNew
  try simp only [List.getElem_toArray, List.getElem_cons_succ, List.getElem_cons_zero, Act.put, List.setIfInBounds_toArray, List.set_cons_zero, List.set_cons_succ]
  refine wpAnyL_load 1 (i := 8) (oi := _) (v := ?_) rfl rfl (by kernel_rfl) (by kernel_rfl) (by kernel_rfl) (by kernel_rfl) (by kernel_rfl) (by kernel_rfl) (fun _ _ _ h => h) (Or.inl ⟨by rfl, ?_⟩) (by assumption) (fun hNew => ?_)
  rotate_left
  · intro w hSw
    (try dsimp only at hSw)
    go_simp
    try with_reducible rfl
  clear hHeld
  have hHeld := hNew
  clear hNew
  try simp only [List.getElem_toArray, List.getElem_cons_succ, List.getElem_cons_zero, Act.put, List.setIfInBounds_toArray, List.set_cons_zero, List.set_cons_succ]
  refine wpAnyL_ready (rs := [4]) (by kernel_rfl) (by simp) ?_
  refine AllReadyL.cons (o := _) rfl (fun K hK => ?_) AllReadyL.nil
  try simp only [List.getElem_toArray, List.getElem_cons_succ, List.getElem_cons_zero]
  go_simp
  refine CR.out.mono ?_
  rintro e w' ⟨rfl, hq⟩
  subst hq
  clear hHeld
  refine hK.out _ _ ?_ (fun hHeld => ?_)
  · exact (HoldC.past (by kernel_rfl) (HoldC.cons (c0) HoldC.nil))
  clear hK K
  try simp only [List.getElem_toArray, List.getElem_cons_succ, List.getElem_cons_zero, Act.put, List.setIfInBounds_toArray, List.set_cons_zero, List.set_cons_succ]
  refine wpAnyL_ready (rs := [9]) (by kernel_rfl) (by simp) ?_
  refine AllReadyL.cons (o := _) rfl (fun K hK => ?_) AllReadyL.nil
  try simp only [List.getElem_toArray, List.getElem_cons_succ, List.getElem_cons_zero]
  go_simp
  refine CWH.out.mono ?_
  rintro e w' ⟨rfl, hq⟩
  subst hq
  clear hHeld
  refine hK.out _ _ ?_ (fun hHeld => ?_)
  · exact (HoldC.past (by kernel_rfl) (HoldC.past (by kernel_rfl) HoldC.nil))
  clear hK K
  try simp only [List.getElem_toArray, List.getElem_cons_succ, List.getElem_cons_zero, Act.put, List.setIfInBounds_toArray, List.set_cons_zero, List.set_cons_succ]
  refine wpAnyL_take (i := 10) (oi := _) (v := ?_) rfl (by kernel_rfl) (by kernel_rfl) (by kernel_rfl) (by kernel_rfl) (by kernel_rfl) (fun _ _ _ h => h) (Or.inl ⟨by rfl, ?_⟩) (by assumption) (fun hNew => ?_)
  rotate_left
  · intro w _
    go_simp
    try with_reducible rfl
  clear hHeld
  have hHeld := hNew
  clear hNew
  try simp only [List.getElem_toArray, List.getElem_cons_succ, List.getElem_cons_zero, Act.put, List.setIfInBounds_toArray, List.set_cons_zero, List.set_cons_succ]
  refine wpAnyL_ready (rs := [11]) (by kernel_rfl) (by simp) ?_
  refine AllReadyL.cons (o := _) rfl (fun K hK => ?_) AllReadyL.nil
  try simp only [List.getElem_toArray, List.getElem_cons_succ, List.getElem_cons_zero]
  rw [if_pos (by rfl)]
  refine wp_store_mid 32 (.tmp 4) (.tmp 15) (by rfl) (B + 1) 0 (rpL 0 (.slice none 0 0) (.slice none 0 0) (rm : Int) wh).toArray (by rfl) (by rfl) HTH.out (rp_size _ _ _ _ _) (rp_all _ _ _ _ _ _ _ _ _) ?_
  clear hHeld
  refine hK.out _ _ ?_ (fun hHeld => ?_)
  · exact (HoldC.past (by kernel_rfl) (HoldC.past (by kernel_rfl) HoldC.nil))
  clear hK K
  try simp only [List.getElem_toArray, List.getElem_cons_succ, List.getElem_cons_zero, Act.put, List.setIfInBounds_toArray, List.set_cons_zero, List.set_cons_succ]
  refine wpAnyL_done (by kernel_rfl) ?_ _
  clear hHeld
  go_wp2
  exact bodyPost_ret (ret_rp rfl _ rfl HZ.out) rfl ⟨_, rfl, ⟨.slice none 0 0, .slice none 0 0, rfl, BytesAt.nil _, by simp [Value.ownBlock], World.ownsRow_nil _ _ _ _⟩, HS.out⟩

set_option maxHeartbeats 4000000 in
set_option maxRecDepth 100000 in
theorem svset_any (r : Rq) (bv : Value) (w : World) (h : SvAt G w z q p U t) (hb : ∃ a n c, bv = .slice a n c) (hn : 1 ≤ t.s.d.n) (ho : t.s.d.ops ≤ 900000000) (hw : t.s.d.since.length ≤ 900000) :
    Calls Tryz.prog 87 #[.pointer (some ⟨z, 0, none⟩), rqV r bv] w (DeedPost G w q p U (errRp t.setWhole.1) t.setWhole.2) := by
  have HE0 := Lib.hid (h.begins r bv)
  obtain ⟨w2, hw2⟩ : ∃ w2, w2 = (w.alloc (.cells (rqL r bv).toArray 40)).alloc (.cells zeroRp 32) := ⟨_, rfl⟩
  rw [← hw2] at HE0
  have HE := Lib.hid HE0.out
  have c0 := blk_cell HE0.out.head 0 _ rfl
  have c00 := blk_cell h.head 0 _ rfl
  obtain ⟨B, hB⟩ : ∃ B, B = w.heap.size := ⟨_, rfl⟩
  have hrq := HE0.out.rq
  rw [← hB] at hrq
  have q1 := blk_cell hrq 1 _ rfl
  have q2 := blk_cell hrq 2 _ rfl
  have q3 := blk_cell hrq 3 _ rfl
  have q4 := blk_cell hrq 4 _ rfl
  have q5 := blk_cell hrq 5 _ rfl
  have HRP := Lib.hid HE0.out.rp
  rw [← hB] at HRP
  have HH := Lib.hid h
  have HW2 := Lib.hid hw2
  have HB := Lib.hid hB
  have CP := Lib.hid (stsetw_any q p U t w2 HE.out.st hn ho hw)
  obtain ⟨o, hoe⟩ : ∃ o, o = t.setWhole := ⟨_, rfl⟩
  rw [← hoe] at CP
  rw [← hoe]
  clear hoe
  obtain ⟨k, ⟨xc, xl, xn, xi⟩, b⟩ := r
  obtain ⟨ba, bn, bc, hbv⟩ := hb
  subst hbv
  clear hw2 hB hrq HE0 h
  unfold rqV rqL
  unfold rqL at HW2
  try dsimp only at q1 q2 q3 q4 q5

  rw [show zeroRp = #[.int .i64 0, .slice none 0 0, .slice none 0 0, .int .i64 0, .bool false] from rfl] at HW2
  have c0L := c0
  rw [HW2.out] at c0L
  go_enter Tryz.func87, Tryz.ntmps87
  go_wp2_with fail
  clear c0L
  rw [← HB.out]
  rw [← HW2.out]

  refine CP.out.mono ?_
  rintro e w3 ⟨rfl, hs3⟩
  have hz3 := hs3.blk HE.out.rp HE.out.out
  rw [← HB.out] at hz3
  have HZ := Lib.hid (five_set hz3 (.int .i64 o.1) (.slice none 0 0) (.slice none 0 0) (.int .i64 0) (.bool false))
  have HS := Lib.hid (HE.out.ends HH.out hs3 (rpL o.1 (.slice none 0 0) (.slice none 0 0) 0 false))
  rw [← HB.out] at HS
  obtain ⟨⟨m0, m1, m2, m3, m4⟩, f0, f1, f2, f3, f4⟩ := five_cells hz3
  clear hz3 hs3 CP c0 c00 q1 q2 q3 q4 q5
  go_wp2_with fail
  exact bodyPost_ret (ret_rp rfl _ rfl HZ.out) rfl ⟨_, rfl, RpAt.err _, HS.out⟩

set_option maxHeartbeats 4000000 in
set_option maxRecDepth 100000 in
theorem svno_any (r : Rq) (bv : Value) (w : World) (h : SvAt G w z q p U t) (hb : ∃ a n c, bv = .slice a n c) :
    Calls Tryz.prog 88 #[.pointer (some ⟨z, 0, none⟩), rqV r bv] w (DeedPost G w q p U (errRp 1) t) := by
  have HE0 := Lib.hid (h.begins r bv)
  obtain ⟨w2, hw2⟩ : ∃ w2, w2 = (w.alloc (.cells (rqL r bv).toArray 40)).alloc (.cells zeroRp 32) := ⟨_, rfl⟩
  rw [← hw2] at HE0
  have HE := Lib.hid HE0.out
  have c0 := blk_cell HE0.out.head 0 _ rfl
  have c00 := blk_cell h.head 0 _ rfl
  obtain ⟨B, hB⟩ : ∃ B, B = w.heap.size := ⟨_, rfl⟩
  have hrq := HE0.out.rq
  rw [← hB] at hrq
  have q1 := blk_cell hrq 1 _ rfl
  have q2 := blk_cell hrq 2 _ rfl
  have q3 := blk_cell hrq 3 _ rfl
  have q4 := blk_cell hrq 4 _ rfl
  have q5 := blk_cell hrq 5 _ rfl
  have HRP := Lib.hid HE0.out.rp
  rw [← hB] at HRP
  have HH := Lib.hid h
  have HW2 := Lib.hid hw2
  have HB := Lib.hid hB

  obtain ⟨k, ⟨xc, xl, xn, xi⟩, b⟩ := r
  obtain ⟨ba, bn, bc, hbv⟩ := hb
  subst hbv
  clear hw2 hB hrq HE0 h
  unfold rqV rqL
  unfold rqL at HW2
  try dsimp only at q1 q2 q3 q4 q5

  rw [show zeroRp = #[.int .i64 0, .slice none 0 0, .slice none 0 0, .int .i64 0, .bool false] from rfl] at HW2
  have c0L := c0
  rw [HW2.out] at c0L
  go_enter Tryz.func88, Tryz.ntmps88
  go_wp2_with fail

  rw [← HB.out]
  have hX : Hid (((w.alloc (.cells #[.int .i64 k, .int .i64 xc, .int .i64 xl, .int .i64 xn, .int .i64 xi, .slice ba bn bc] 40)).alloc (.cells #[.int .i64 1, .slice none 0 0, .slice none 0 0, .int .i64 0, .bool false] 32)).heap[B + 1]? = some (.cells (rpL 1 (.slice none 0 0) (.slice none 0 0) 0 false).toArray 32 (0, 0))) := Lib.hid (heap_at (by rw [HB.out]; simp))
  have HS := Lib.hid (Std.calm HH.out.st (((Chg.refl [] w).alloc (.cells #[.int .i64 k, .int .i64 xc, .int .i64 xl, .int .i64 xn, .int .i64 xi, .slice ba bn bc] 40)).alloc (.cells #[.int .i64 1, .slice none 0 0, .slice none 0 0, .int .i64 0, .bool false] 32)))
  exact bodyPost_ret (ret_rp rfl _ rfl hX.out) rfl ⟨_, rfl, RpAt.err _, HS.out⟩
end
end Go.Proofs.YtdkhmfcfihbjeaaGreatDoor.W

/- Package server: deedOf, Do. -/
namespace Go.Proofs.YtdkhmfcfihbjeaaGreatDoor.W
open Go.RowKit
set_option linter.unusedVariables false
set_option linter.unusedSimpArgs false

def deedN (k : Int) : Nat := if k = 1 then 82 else if k = 2 then 83 else if k = 3 then 84 else if k = 4 then 85 else if k = 5 then 86 else if k = 6 then 87 else 88
set_option maxHeartbeats 2000000 in
theorem deedof_any (k : Int) (w : World) : Calls Tryz.prog 39 #[.int .i64 k] w fun e w' => e = .returned (.func (.func (deedN k)) #[] #[]) ∧ w = w' := by
  unfold deedN
  by_cases h1 : k = 1
  · subst h1
    go_enter Tryz.func39, Tryz.ntmps39
    go_wp2
    go_ret
    exact ⟨rfl, rfl⟩
  by_cases h2 : k = 2
  · subst h2
    go_enter Tryz.func39, Tryz.ntmps39
    go_wp2
    go_ret
    exact ⟨rfl, rfl⟩
  by_cases h3 : k = 3
  · subst h3
    go_enter Tryz.func39, Tryz.ntmps39
    go_wp2
    go_ret
    exact ⟨rfl, rfl⟩
  by_cases h4 : k = 4
  · subst h4
    go_enter Tryz.func39, Tryz.ntmps39
    go_wp2
    go_ret
    exact ⟨rfl, rfl⟩
  by_cases h5 : k = 5
  · subst h5
    go_enter Tryz.func39, Tryz.ntmps39
    go_wp2
    go_ret
    exact ⟨rfl, rfl⟩
  by_cases h6 : k = 6
  · subst h6
    go_enter Tryz.func39, Tryz.ntmps39
    go_wp2
    go_ret
    exact ⟨rfl, rfl⟩
  rw [if_neg h1, if_neg h2, if_neg h3, if_neg h4, if_neg h5, if_neg h6]
  have q1 : (k == 1) = false := by simp [h1]
  have q2 : (k == 2) = false := by simp [h2]
  have q3 : (k == 3) = false := by simp [h3]
  have q4 : (k == 4) = false := by simp [h4]
  have q5 : (k == 5) = false := by simp [h5]
  have q6 : (k == 6) = false := by simp [h6]
  clear h1 h2 h3 h4 h5 h6
  go_enter Tryz.func39, Tryz.ntmps39
  go_wp2
  go_ret
  exact ⟨rfl, rfl⟩
theorem deed_enters (k : Int) : ∀ args w, (callFunc (deedN k) args).run Tryz.prog w = .ok (.enter (deedN k) args) w := by
  unfold deedN
  repeat' split
  · exact enters_of Tryz.func82 (by kernel_rfl) rfl
  · exact enters_of Tryz.func83 (by kernel_rfl) rfl
  · exact enters_of Tryz.func84 (by kernel_rfl) rfl
  · exact enters_of Tryz.func85 (by kernel_rfl) rfl
  · exact enters_of Tryz.func86 (by kernel_rfl) rfl
  · exact enters_of Tryz.func87 (by kernel_rfl) rfl
  · exact enters_of Tryz.func88 (by kernel_rfl) rfl
section
variable {G U : List Nat} {z q p : Nat} {t : Sto}
theorem sdeed_any (r : Rq) (bv : Value) (w : World) (h : SvAt G w z q p U t) (hx : okD r.x) (hb : BytesAt w bv r.b) (hbU : r.b ≠ [] → ∀ k, bv.ownBlock = some k → k ∉ U) (hbl : r.b.length ≤ 1000000) (hn : 1 ≤ t.s.d.n) (ho : t.s.d.ops ≤ 800000000) (hw : t.s.d.since.length ≤ 800000) :
    Calls Tryz.prog (deedN r.k) #[.pointer (some ⟨z, 0, none⟩), rqV r bv] w (DeedPost G w q p U (t.step r).1 (t.step r).2) := by
  have hbs : ∃ a n c, bv = .slice a n c := by obtain ⟨a, c, e⟩ := hb.slice; exact ⟨a, _, c, e⟩
  by_cases h0 : r.k < 1 ∨ 6 < r.k
  · rw [step0 t r h0]
    have e : deedN r.k = 88 := by unfold deedN; rw [if_neg (by omega), if_neg (by omega), if_neg (by omega), if_neg (by omega), if_neg (by omega), if_neg (by omega)]
    rw [e]
    exact svno_any r bv w h hbs
  · obtain ⟨k, x, b⟩ := r
    dsimp only at h0
    obtain rfl | rfl | rfl | rfl | rfl | rfl : k = 1 ∨ k = 2 ∨ k = 3 ∨ k = 4 ∨ k = 5 ∨ k = 6 := by omega
    · exact svput_any _ bv w h hx hb hbU hbl (by omega) (by omega)
    · exact svget_any _ bv w h hbs hx
    · exact svdel_any _ bv w h hbs hx ho hw
    · exact svlist_any _ bv w h hbs
    · exact svinfo_any _ bv w h hbs
    · exact svset_any _ bv w h hbs hn (by omega) (by omega)
theorem stdisk_any (w : World) (h : StAt G w q p U t) : Calls Tryz.prog 17 #[.pointer (some ⟨q, 0, none⟩)] w fun e w' => e = .returned (.pointer (some ⟨p, 0, none⟩)) ∧ w = w' := by
  obtain ⟨sp, mb, Us, φ, N, h, rfl⟩ := h
  have c0 := blk_cell h.head 0 _ rfl
  clear h
  go_enter Tryz.func17, Tryz.ntmps17
  go_wp2
  go_ret
  exact ⟨rfl, rfl⟩
theorem ret_rp2 {fn : Func} {p u : Tmp} (h : fn.results = #[.cell p 32, .tmp u]) (tmps : Array Value) {w : World} {b t : Nat} {e room : Int} {bv iv q : Value} {wh : Bool} (hp : tmps.getD p undef = .pointer (some ⟨b, 0, none⟩)) (hu : tmps.getD u undef = q) (hb : w.heap[b]? = some (.cells (rpL e bv iv room wh).toArray t (0, 0))) :
    (results fn tmps).run Tryz.prog w = .ok (.tuple #[rpV e bv iv room wh, q]) w := by
  have hl := run_loadVar_row (P := Tryz.prog) w b t 32 (rpL e bv iv room wh).toArray (0, 0) _ hb Tryz.underlying32 rfl (rp_size _ _ _ _ _)
  rw [results_cell_tmp h, hp, hu]
  simp only [asAddr, Sem.run_pure, Result.andThen_ok, hl]
  rfl
/-- What Do answers, and what it leaves. -/
def DoPost (G : List Nat) (w : World) (q p : Nat) (U : List Nat) (r : (Rp × Int) × Sto) (e : Ending) (w' : World) : Prop := ∃ v, e = .returned (.tuple #[v, .int .i64 r.1.2]) ∧ RpAt w w' v r.1.1 ∧ Std G w w' q p U r.2
/-- Do under way: the deed is done, its reply lies in block C. -/
def DoMid (G : List Nat) (w w2 : World) (q p : Nat) (U : List Nat) (o : Rp) (t' : Sto) (C : Nat) (wx : World) : Prop :=
  ∃ a n c a' n' c', wx.heap[C]? = some (.cells (rpL o.e (.slice a n c) (.slice a' n' c') o.room o.whole).toArray 32 (0, 0)) ∧ BytesAt wx (.slice a n c) o.b ∧ wx.ownsRow w.heap.size 38 4 (.slice a' n' c') o.ids.length (o.ids.flatMap idE) ∧
    (∀ k, (Value.slice a n c).ownBlock = some k ∨ (Value.slice a' n' c').ownBlock = some k → w.heap.size ≤ k ∧ k ≠ w.heap.size + 1) ∧ Std ([w.heap.size + 1] ++ G) w2 wx q p U t' ∧ C ≠ w.heap.size + 1 ∧ w.heap.size ≤ C

theorem SvAt.add {w w2 : World} (h : SvAt G w z q p U t) (hc : Chg [] w w2) (hw : w.heap.size < w2.heap.size) : SvAt ([w.heap.size] ++ G) w2 z q p U t :=
  ⟨hc.keep h.head (by simp), h.st.with h.far hc (fun x hx => by rw [List.mem_singleton.1 hx]; exact ⟨Nat.le_refl _, hw⟩), h.out, fun x hx hm => by
    rcases List.mem_append.1 hm with hm | hm
    · have := h.st.lim x hx; have := List.mem_singleton.1 hm; omega
    · exact h.far x hx hm⟩
theorem SvAt.mid {w w2 : World} {r : Rq} {bv : Value} (h : SvAt G w z q p U t) (hE : Begins G w w2 z q p U t r bv) : SvAt ([w.heap.size + 1] ++ G) w2.drew z q p U t :=
  ⟨hE.head, hE.st.keep0 ((Chg.refl [] w2).drew), h.out, fun x hx hm => by
    rcases List.mem_append.1 hm with hm | hm
    · exact hE.out (by rw [← List.mem_singleton.1 hm]; exact hx)
    · exact h.far x hx hm⟩
theorem doMid_late {w w2 w3 : World} {r : Rq} {bv : Value} {o : Rp} {t' : Sto} {a a' : Option Addr} {n n' c c' : Nat} (hE : Begins G w w2 z q p U t r bv) (h : SvAt G w z q p U t) (hb : BytesAt w3 (.slice a n c) o.b)
    (hn : ∀ k, (Value.slice a n c).ownBlock = some k → w2.drew.heap.size ≤ k) (ho : w3.ownsRow w2.drew.heap.size 38 4 (.slice a' n' c') o.ids.length (o.ids.flatMap idE)) (hs : Std ([w.heap.size + 1] ++ G) w2.drew w3 q p U t') :
    DoMid G w w2 q p U o t' w3.heap.size ((w3.alloc (.cells #[.int .i64 0, .slice none 0 0, .slice none 0 0, .int .i64 0, .bool false] 32)).setCells w3.heap.size 0 (rpL o.e (.slice a n c) (.slice a' n' c') o.room o.whole)) := by
  have hs23 : w2.heap.size ≤ w3.heap.size := by obtain ⟨_, _, _, hc⟩ := hs; exact hc.size
  have hA := (hE.new _ (List.mem_cons_self ..))
  have hc1 : Chg [] w3 (w3.alloc (.cells #[.int .i64 0, .slice none 0 0, .slice none 0 0, .int .i64 0, .bool false] 32)) := (Chg.refl [] w3).alloc _
  have hz := heap_alloc_new w3 (.cells #[.int .i64 0, .slice none 0 0, .slice none 0 0, .int .i64 0, .bool false] 32)
  generalize w3.alloc (.cells #[.int .i64 0, .slice none 0 0, .slice none 0 0, .int .i64 0, .bool false] 32) = w4 at *
  have hc2 : Chg [] w3 (w4.setCells w3.heap.size 0 (rpL o.e (.slice a n c) (.slice a' n' c') o.room o.whole)) := hc1.setCells (.inr (Nat.le_refl _)) _
  have hd : w2.drew.heap.size = w2.heap.size := rfl
  refine ⟨a, n, c, a', n', c', five_set hz _ _ _ _ _, hb.chg hc2 (by simp), row_keep (row_base ho w.heap.size (fun g hg => ?_)) (fun g hg => hc2.block g (World.ownsRow.lt ho g hg).2 (by simp)), fun k hk => ?_, (Std.pre ((Chg.refl [] w2).drew) hs).post hc2, by omega, by omega⟩
  · have := (World.ownsRow.lt ho g hg).1; omega
  · rcases hk with hk | hk
    · have := hn k hk; omega
    · have := (World.ownsRow.lt ho k hk).1; omega
theorem doMid_early {w w2 w3 : World} {r : Rq} {bv : Value} {o : Rp} {t' : Sto} {a a' : Option Addr} {n n' c c' : Nat} (hE : Begins G w w2 z q p U t r bv) (h : SvAt G w z q p U t) (hb : BytesAt w3 (.slice a n c) o.b)
    (hn : ∀ k, (Value.slice a n c).ownBlock = some k → (w2.alloc (.cells #[.int .i64 0, .slice none 0 0, .slice none 0 0, .int .i64 0, .bool false] 32)).drew.heap.size ≤ k) (ho : w3.ownsRow (w2.alloc (.cells #[.int .i64 0, .slice none 0 0, .slice none 0 0, .int .i64 0, .bool false] 32)).drew.heap.size 38 4 (.slice a' n' c') o.ids.length (o.ids.flatMap idE))
    (hs : Std ([w2.heap.size] ++ ([w.heap.size + 1] ++ G)) (w2.alloc (.cells #[.int .i64 0, .slice none 0 0, .slice none 0 0, .int .i64 0, .bool false] 32)).drew w3 q p U t') :
    DoMid G w w2 q p U o t' w2.heap.size (w3.setCells w2.heap.size 0 (rpL o.e (.slice a n c) (.slice a' n' c') o.room o.whole)) := by
  have hA := (hE.new _ (List.mem_cons_self ..))
  have hcX : Chg [] w2 (w2.alloc (.cells #[.int .i64 0, .slice none 0 0, .slice none 0 0, .int .i64 0, .bool false] 32)).drew := ((Chg.refl [] w2).alloc _).drew
  have hzX : (w2.alloc (.cells #[.int .i64 0, .slice none 0 0, .slice none 0 0, .int .i64 0, .bool false] 32)).drew.heap[w2.heap.size]? = some (.cells #[.int .i64 0, .slice none 0 0, .slice none 0 0, .int .i64 0, .bool false] 32 (0, 0)) := heap_alloc_new w2 _
  have hsX : (w2.alloc (.cells #[.int .i64 0, .slice none 0 0, .slice none 0 0, .int .i64 0, .bool false] 32)).drew.heap.size = w2.heap.size + 1 := by show (w2.alloc _).heap.size = _; simp
  generalize (w2.alloc (.cells #[.int .i64 0, .slice none 0 0, .slice none 0 0, .int .i64 0, .bool false] 32)).drew = wX at *
  have hl2 : ∀ x ∈ U, x < w2.heap.size := fun x hx => Nat.lt_of_lt_of_le (h.st.lim x hx) hE.chg.size
  have hz3 := hs.blk hzX (fun hm => by have := hl2 _ hm; omega)
  have hc : Chg [w2.heap.size] w3 (w3.setCells w2.heap.size 0 (rpL o.e (.slice a n c) (.slice a' n' c') o.room o.whole)) := (Chg.refl _ w3).setCells (.inl (by simp)) _
  refine ⟨a, n, c, a', n', c', five_set hz3 _ _ _ _ _, hb.chg hc (fun k hk hm => ?_), row_keep (row_base ho w.heap.size (fun g hg => ?_)) (fun g hg => hc.block g (World.ownsRow.lt ho g hg).2 (fun hm => ?_)), fun k hk => ?_, Std.local (T := [w2.heap.size]) (fun x hx => ?_) (fun x hx hm => ?_) hl2 hcX (fun x hx => by rw [List.mem_singleton.1 hx]; omega) hs (fun x hx => by rw [List.mem_singleton.1 hx]; exact zeroRp_no8 hz3) hc, by omega, by omega⟩
  · have := hn k hk; have := List.mem_singleton.1 hm; omega
  · have := (World.ownsRow.lt ho g hg).1; omega
  · have := (World.ownsRow.lt ho g hg).1; have := List.mem_singleton.1 hm; omega
  · rcases hk with hk | hk
    · have := hn k hk; omega
    · have := (World.ownsRow.lt ho k hk).1; omega
  · rcases List.mem_append.1 hx with hx | hx
    · rw [List.mem_singleton.1 hx]; exact hA.2
    · exact Nat.lt_of_lt_of_le (h.st.gl x hx) hE.chg.size
  · rcases List.mem_append.1 hm with hm | hm
    · exact hE.out (by rw [← List.mem_singleton.1 hm]; exact hx)
    · exact h.far x hx hm
set_option maxHeartbeats 8000000 in
set_option maxRecDepth 100000 in
theorem svdo_any (r : Rq) (bv : Value) (w : World) (h : SvAt G w z q p U t) (hx : okD r.x) (hb : BytesAt w bv r.b) (hbU : r.b ≠ [] → ∀ k, bv.ownBlock = some k → k ∉ U) (hbl : r.b.length ≤ 1000000) (hn : 1 ≤ t.s.d.n) (ho : t.s.d.ops ≤ 800000000) (hw : t.s.d.since.length ≤ 800000) :
    Calls Tryz.prog 12 #[.pointer (some ⟨z, 0, none⟩), rqV r bv] w (DoPost G w q p U (t.run r)) := by
  have HE0 := Lib.hid (h.begins r bv)
  obtain ⟨w2, hw2⟩ : ∃ w2, w2 = (w.alloc (.cells (rqL r bv).toArray 40)).alloc (.cells zeroRp 32) := ⟨_, rfl⟩
  rw [← hw2] at HE0
  have hst2 := h.st.keep0 HE0.out.chg
  have CDK := Lib.hid (stdisk_any w2 hst2)
  have CDD := Lib.hid hst2.dead
  have c0 := blk_cell HE0.out.head 0 _ rfl
  obtain ⟨B, hB⟩ : ∃ B, B = w.heap.size := ⟨_, rfl⟩
  have hrq := HE0.out.rq
  rw [← hB] at hrq
  have HRP := Lib.hid HE0.out.rp
  rw [← hB] at HRP
  have HH := Lib.hid h
  have HBY := Lib.hid (hb.chg HE0.out.chg (by simp))
  have HBU := Lib.hid hbU
  have HXO := Lib.hid hx
  have HW2 := Lib.hid hw2
  have HB := Lib.hid hB
  have HLIM := Lib.hid (And.intro hbl (And.intro hn (And.intro ho hw)))
  have HRUN : Hid (t.run r = if t.s.d.dead then ((noRp, 14), t) else if (t.step r).2.s.d.dead then ((noRp, 14), (t.step r).2) else (((t.step r).1, 0), (t.step r).2)) := Lib.hid rfl
  obtain ⟨R, hR⟩ : ∃ R, R = t.run r := ⟨_, rfl⟩
  rw [← hR] at HRUN
  rw [← hR]
  obtain ⟨k, ⟨xc, xl, xn, xi⟩, b⟩ := r
  obtain ⟨ba, bc, hbv⟩ := hb.slice
  subst hbv
  obtain ⟨q0, ⟨q1, q2, q3, q4⟩, q5⟩ := rq_cells hrq
  have HRQ := Lib.hid hrq
  unfold rqV rqL
  unfold rqL at HW2
  rw [show zeroRp = #[.int .i64 0, .slice none 0 0, .slice none 0 0, .int .i64 0, .bool false] from rfl] at HW2
  have c0L := c0
  rw [HW2.out] at c0L
  clear hw2 hB hrq h hx hb hbU hst2 hR hn ho hw hbl
  go_enter Tryz.func12, Tryz.ntmps12
  go_wp2_with fail
  clear c0L
  rw [← HB.out, ← HW2.out]
  refine CDK.out.mono ?_
  rintro e w' ⟨rfl, hq⟩
  subst hq
  go_wp2_with fail
  refine CDD.out.mono ?_
  rintro e w' ⟨rfl, hq⟩
  subst hq
  cases hdd : t.s.d.dead
  · rw [hdd] at HRUN
    rw [if_neg (by simp)] at HRUN
    go_upto_region 3 with (fail)
    go_cut [6] (fun s6 wx => ∃ C, s6 = .pointer (some ⟨C, 0, none⟩) ∧ Hid (DoMid G w w2 q p U (t.step ⟨k, ⟨xc, xl, xn, xi⟩, b⟩).1 (t.step ⟨k, ⟨xc, xl, xn, xi⟩, b⟩).2 C wx))
    case first =>
      have hent := deed_enters k
      have hG1 : SvAt ([w.heap.size + 1] ++ G) w2.drew z q p U t := HH.out.mid HE0.out
      have CPY := Lib.hid (sdeed_any ⟨k, ⟨xc, xl, xn, xi⟩, b⟩ (.slice ba b.length bc) w2.drew hG1 HXO.out (HBY.out.keep (fun _ _ => rfl)) HBU.out HLIM.out.1 HLIM.out.2.1 HLIM.out.2.2.1 HLIM.out.2.2.2)
      have hcX : Chg [] w2 (w2.alloc (.cells #[.int .i64 0, .slice none 0 0, .slice none 0 0, .int .i64 0, .bool false] 32)).drew := ((Chg.refl [] w2).alloc _).drew
      have hG2 : SvAt ([w2.heap.size] ++ ([w.heap.size + 1] ++ G)) (w2.alloc (.cells #[.int .i64 0, .slice none 0 0, .slice none 0 0, .int .i64 0, .bool false] 32)).drew z q p U t := (hG1.add (w2 := (w2.alloc (.cells #[.int .i64 0, .slice none 0 0, .slice none 0 0, .int .i64 0, .bool false] 32)).drew) ⟨hcX.os, hcX.tape, hcX.output, hcX.size, hcX.block⟩ (by
        rw [show w2.drew.heap.size = w2.heap.size from rfl]
        show w2.heap.size < (w2.alloc _).heap.size
        simp))
      have CPX := Lib.hid (sdeed_any ⟨k, ⟨xc, xl, xn, xi⟩, b⟩ (.slice ba b.length bc) _ hG2 HXO.out (HBY.out.chg hcX (by simp)) HBU.out HLIM.out.1 HLIM.out.2.1 HLIM.out.2.2.1 HLIM.out.2.2.2)
      obtain ⟨r0, ⟨r1, r2, r3, r4⟩, r5⟩ := rq_cells (hcX.keep HRQ.out (by simp))
      unfold rqV rqL at CPX CPY
      clear hG1 hG2
      have HCX := Lib.hid hcX
      clear hcX
      go_wp2_with fail
      refine wp_region_L [(2, fun w' => w'.cell? ⟨B, 0, none⟩ = some (.int .i64 k)), (5, fun w' => (w'.cell? ⟨B, 0, none⟩ = some (.int .i64 k) ∧ w'.cell? ⟨B, 1, none⟩ = some (.int .i64 xc) ∧ w'.cell? ⟨B, 2, none⟩ = some (.int .i64 xl) ∧ w'.cell? ⟨B, 3, none⟩ = some (.int .i64 xn) ∧ w'.cell? ⟨B, 4, none⟩ = some (.int .i64 xi) ∧ w'.cell? ⟨B, 5, none⟩ = some (.slice ba b.length bc)))] (by kernel_rfl) ?_ (fun hHeld => ?_)
      · exact (HoldC.cons (q0) (HoldC.cons (⟨q0, q1, q2, q3, q4, q5⟩) HoldC.nil))
      refine wpAnyL_take (i := 0) (oi := _) (v := ?_) rfl (by kernel_rfl) (by kernel_rfl) (by kernel_rfl) (by kernel_rfl) (by kernel_rfl) (fun _ _ _ h => h) (Or.inl ⟨by rfl, ?_⟩) (by assumption) (fun hNew => ?_)
      rotate_left
      · intro w _
        go_simp
        try with_reducible rfl
      clear hHeld
      have hHeld := hNew
      clear hNew
      try simp only [List.getElem_toArray, List.getElem_cons_succ, List.getElem_cons_zero, Act.put, List.setIfInBounds_toArray, List.set_cons_zero, List.set_cons_succ]
      refine wpAnyL_take (i := 3) (oi := _) (v := ?_) rfl (by kernel_rfl) (by kernel_rfl) (by kernel_rfl) (by kernel_rfl) (by kernel_rfl) (fun _ _ _ h => h) (Or.inl ⟨by rfl, ?_⟩) (by assumption) (fun hNew => ?_)
      rotate_left
      · intro w _
        go_simp
        try with_reducible rfl
      clear hHeld
      have hHeld := hNew
      clear hNew
      try simp only [List.getElem_toArray, List.getElem_cons_succ, List.getElem_cons_zero, Act.put, List.setIfInBounds_toArray, List.set_cons_zero, List.set_cons_succ]
      refine wpAnyL_load 0 (i := 1) (oi := _) (v := ?_) rfl rfl (by kernel_rfl) (by kernel_rfl) (by kernel_rfl) (by kernel_rfl) (by kernel_rfl) (by kernel_rfl) (fun _ _ _ h => h) (Or.inl ⟨by rfl, ?_⟩) (by assumption) (fun hNew => ?_)
      rotate_left
      · intro w hSw
        (try dsimp only at hSw)
        go_simp
        try with_reducible rfl
      clear hHeld
      have hHeld := hNew
      clear hNew
      try simp only [List.getElem_toArray, List.getElem_cons_succ, List.getElem_cons_zero, Act.put, List.setIfInBounds_toArray, List.set_cons_zero, List.set_cons_succ]
      refine wpAnyL_load 1 (i := 4) (oi := _) (v := ?_) rfl rfl (by kernel_rfl) (by kernel_rfl) (by kernel_rfl) (by kernel_rfl) (by kernel_rfl) (by kernel_rfl) (fun _ _ _ h => h) (Or.inl ⟨by rfl, ?_⟩) (by assumption) (fun hNew => ?_)
      rotate_left
      · intro w hSw
        (try dsimp only at hSw)
        go_simp
        try with_reducible rfl
      clear hHeld
      have hHeld := hNew
      clear hNew
      try simp only [List.getElem_toArray, List.getElem_cons_succ, List.getElem_cons_zero, Act.put, List.setIfInBounds_toArray, List.set_cons_zero, List.set_cons_succ]
      refine wpAnyL_ready (rs := [2, 6]) (by kernel_rfl) (by simp) ?_
      refine AllReadyL.cons (o := _) rfl (fun K hK => ?_) (AllReadyL.cons (o := _) rfl (fun K hK => ?_) AllReadyL.nil)
      · try simp only [List.getElem_toArray, List.getElem_cons_succ, List.getElem_cons_zero]
        go_simp
        refine (deedof_any k w2.drew).mono ?_
        rintro e w' ⟨rfl, hq⟩
        subst hq
        clear hHeld
        refine hK.out _ _ ?_ (fun hHeld => ?_)
        · exact (HoldC.past (by kernel_rfl) (HoldC.cons (⟨q0, q1, q2, q3, q4, q5⟩) HoldC.nil))
        clear hK K
        try simp only [List.getElem_toArray, List.getElem_cons_succ, List.getElem_cons_zero, Act.put, List.setIfInBounds_toArray, List.set_cons_zero, List.set_cons_succ]
        refine wpAnyL_ready (rs := [5, 6]) (by kernel_rfl) (by simp) ?_
        refine AllReadyL.cons (o := _) rfl (fun K hK => ?_) (AllReadyL.cons (o := _) rfl (fun K hK => ?_) AllReadyL.nil)
        · try simp only [List.getElem_toArray, List.getElem_cons_succ, List.getElem_cons_zero]
          go_simp
          refine CPY.out.mono ?_
          rintro e w3 ⟨v3, rfl, hr3, hs3⟩
          obtain ⟨bv3, iv3, rfl, hb3, hn3, ho3⟩ := hr3
          obtain ⟨a3, c3, rfl⟩ := hb3.slice
          obtain ⟨a4, n4, c4, rfl⟩ : ∃ a n c, iv3 = .slice a n c := by
            rcases ho3.2 with ⟨h1, h2⟩ | ⟨g, cap, cur, h1, _⟩
            · exact ⟨none, 0, 0, h1⟩
            · exact ⟨_, _, cap, h1⟩
          have HM := Lib.hid (doMid_late HE0.out HH.out hb3 hn3 ho3 hs3)
          clear hb3 hn3 ho3 hs3
          clear hHeld
          refine hK.out _ _ ?_ (fun hHeld => ?_)
          · exact (HoldC.past (by kernel_rfl) (HoldC.past (by kernel_rfl) HoldC.nil))
          clear hK K
          try simp only [List.getElem_toArray, List.getElem_cons_succ, List.getElem_cons_zero, Act.put, List.setIfInBounds_toArray, List.set_cons_zero, List.set_cons_succ]
          refine wpAnyL_ready (rs := [6]) (by kernel_rfl) (by simp) ?_
          refine AllReadyL.cons (o := _) rfl (fun K hK => ?_) AllReadyL.nil
          try simp only [List.getElem_toArray, List.getElem_cons_succ, List.getElem_cons_zero]
          go_simp
          obtain ⟨w4, hw4⟩ : ∃ w4, w4 = w3.alloc (.cells #[.int .i64 0, .slice none 0 0, .slice none 0 0, .int .i64 0, .bool false] 32) := ⟨_, rfl⟩
          rw [← hw4]
          have HW4 := Lib.hid hw4
          have hz4 : w4.heap[w3.heap.size]? = some (.cells #[.int .i64 0, .slice none 0 0, .slice none 0 0, .int .i64 0, .bool false] 32 (0, 0)) := by rw [hw4]; exact heap_alloc_new w3 _
          have HTH := Lib.hid (five_there hz4 _ rfl)
          clear hw4 hz4
          clear hHeld
          refine hK.out _ _ ?_ (fun hHeld => ?_)
          · exact (HoldC.past (by kernel_rfl) (HoldC.past (by kernel_rfl) HoldC.nil))
          clear hK K
          try simp only [List.getElem_toArray, List.getElem_cons_succ, List.getElem_cons_zero, Act.put, List.setIfInBounds_toArray, List.set_cons_zero, List.set_cons_succ]
          refine wpAnyL_ready (rs := [7]) (by kernel_rfl) (by simp) ?_
          refine AllReadyL.cons (o := _) rfl (fun K hK => ?_) AllReadyL.nil
          try simp only [List.getElem_toArray, List.getElem_cons_succ, List.getElem_cons_zero]
          rw [if_pos (by rfl)]
          refine wp_store_mid 32 (.tmp 6) (.tmp 30) (by rfl) w3.heap.size 0 (rpL (t.step ⟨k, ⟨xc, xl, xn, xi⟩, b⟩).1.e (.slice a3 (t.step ⟨k, ⟨xc, xl, xn, xi⟩, b⟩).1.b.length c3) (.slice a4 n4 c4) (t.step ⟨k, ⟨xc, xl, xn, xi⟩, b⟩).1.room (t.step ⟨k, ⟨xc, xl, xn, xi⟩, b⟩).1.whole).toArray (by rfl) (by rfl) HTH.out (rp_size _ _ _ _ _) (rp_all _ _ _ _ _ _ _ _ _) ?_
          clear hHeld
          refine hK.out _ _ ?_ (fun hHeld => ?_)
          · exact (HoldC.past (by kernel_rfl) (HoldC.past (by kernel_rfl) HoldC.nil))
          clear hK K
          try simp only [List.getElem_toArray, List.getElem_cons_succ, List.getElem_cons_zero, Act.put, List.setIfInBounds_toArray, List.set_cons_zero, List.set_cons_succ]
          refine wpAnyL_done (by kernel_rfl) ?_ _
          clear hHeld
          go_wp2_with fail
          go_meet
          exact ⟨_, rfl, by rw [HW4.out]; exact HM⟩
        · try simp only [List.getElem_toArray, List.getElem_cons_succ, List.getElem_cons_zero]
          go_simp
          clear hHeld
          refine hK.out _ _ ?_ (fun hHeld => ?_)
          · exact (HoldC.past (by kernel_rfl) (HoldC.cons (⟨r0, r1, r2, r3, r4, r5⟩) HoldC.nil))
          clear hK K
          try simp only [List.getElem_toArray, List.getElem_cons_succ, List.getElem_cons_zero, Act.put, List.setIfInBounds_toArray, List.set_cons_zero, List.set_cons_succ]
          refine wpAnyL_ready (rs := [5]) (by kernel_rfl) (by simp) ?_
          refine AllReadyL.cons (o := _) rfl (fun K hK => ?_) AllReadyL.nil
          try simp only [List.getElem_toArray, List.getElem_cons_succ, List.getElem_cons_zero]
          go_simp
          refine CPX.out.mono ?_
          rintro e w3 ⟨v3, rfl, hr3, hs3⟩
          obtain ⟨bv3, iv3, rfl, hb3, hn3, ho3⟩ := hr3
          obtain ⟨a3, c3, rfl⟩ := hb3.slice
          obtain ⟨a4, n4, c4, rfl⟩ : ∃ a n c, iv3 = .slice a n c := by
            rcases ho3.2 with ⟨h1, h2⟩ | ⟨g, cap, cur, h1, _⟩
            · exact ⟨none, 0, 0, h1⟩
            · exact ⟨_, _, cap, h1⟩
          have HM := Lib.hid (doMid_early HE0.out HH.out hb3 hn3 ho3 hs3)
          have hz4 := hs3.blk (show (w2.alloc (.cells #[.int .i64 0, .slice none 0 0, .slice none 0 0, .int .i64 0, .bool false] 32)).drew.heap[w2.heap.size]? = some (.cells #[.int .i64 0, .slice none 0 0, .slice none 0 0, .int .i64 0, .bool false] 32 (0, 0)) from heap_alloc_new w2 _) (fun hm => by have := HH.out.st.lim _ hm; have := HE0.out.chg.size; omega)
          have HTH := Lib.hid (five_there hz4 _ rfl)
          clear hb3 hn3 ho3 hs3 hz4
          clear hHeld
          refine hK.out _ _ ?_ (fun hHeld => ?_)
          · exact (HoldC.past (by kernel_rfl) (HoldC.past (by kernel_rfl) HoldC.nil))
          clear hK K
          try simp only [List.getElem_toArray, List.getElem_cons_succ, List.getElem_cons_zero, Act.put, List.setIfInBounds_toArray, List.set_cons_zero, List.set_cons_succ]
          refine wpAnyL_ready (rs := [7]) (by kernel_rfl) (by simp) ?_
          refine AllReadyL.cons (o := _) rfl (fun K hK => ?_) AllReadyL.nil
          try simp only [List.getElem_toArray, List.getElem_cons_succ, List.getElem_cons_zero]
          rw [if_pos (by rfl)]
          refine wp_store_mid 32 (.tmp 6) (.tmp 30) (by rfl) w2.heap.size 0 (rpL (t.step ⟨k, ⟨xc, xl, xn, xi⟩, b⟩).1.e (.slice a3 (t.step ⟨k, ⟨xc, xl, xn, xi⟩, b⟩).1.b.length c3) (.slice a4 n4 c4) (t.step ⟨k, ⟨xc, xl, xn, xi⟩, b⟩).1.room (t.step ⟨k, ⟨xc, xl, xn, xi⟩, b⟩).1.whole).toArray (by rfl) (by rfl) HTH.out (rp_size _ _ _ _ _) (rp_all _ _ _ _ _ _ _ _ _) ?_
          clear hHeld
          refine hK.out _ _ ?_ (fun hHeld => ?_)
          · exact (HoldC.past (by kernel_rfl) (HoldC.past (by kernel_rfl) HoldC.nil))
          clear hK K
          try simp only [List.getElem_toArray, List.getElem_cons_succ, List.getElem_cons_zero, Act.put, List.setIfInBounds_toArray, List.set_cons_zero, List.set_cons_succ]
          refine wpAnyL_done (by kernel_rfl) ?_ _
          clear hHeld
          go_wp2_with fail
          go_meet
          exact ⟨_, rfl, HM⟩
      · try simp only [List.getElem_toArray, List.getElem_cons_succ, List.getElem_cons_zero]
        go_simp
        clear hHeld
        refine hK.out _ _ ?_ (fun hHeld => ?_)
        · exact (HoldC.cons (r0) (HoldC.cons (⟨r0, r1, r2, r3, r4, r5⟩) HoldC.nil))
        clear hK K
        try simp only [List.getElem_toArray, List.getElem_cons_succ, List.getElem_cons_zero, Act.put, List.setIfInBounds_toArray, List.set_cons_zero, List.set_cons_succ]
        refine wpAnyL_ready (rs := [2]) (by kernel_rfl) (by simp) ?_
        refine AllReadyL.cons (o := _) rfl (fun K hK => ?_) AllReadyL.nil
        try simp only [List.getElem_toArray, List.getElem_cons_succ, List.getElem_cons_zero]
        go_simp
        refine (deedof_any k _).mono ?_
        rintro e w' ⟨rfl, hq⟩
        subst hq
        clear hHeld
        refine hK.out _ _ ?_ (fun hHeld => ?_)
        · exact (HoldC.past (by kernel_rfl) (HoldC.cons (⟨r0, r1, r2, r3, r4, r5⟩) HoldC.nil))
        clear hK K
        try simp only [List.getElem_toArray, List.getElem_cons_succ, List.getElem_cons_zero, Act.put, List.setIfInBounds_toArray, List.set_cons_zero, List.set_cons_succ]
        refine wpAnyL_ready (rs := [5]) (by kernel_rfl) (by simp) ?_
        refine AllReadyL.cons (o := _) rfl (fun K hK => ?_) AllReadyL.nil
        try simp only [List.getElem_toArray, List.getElem_cons_succ, List.getElem_cons_zero]
        go_simp
        refine CPX.out.mono ?_
        rintro e w3 ⟨v3, rfl, hr3, hs3⟩
        obtain ⟨bv3, iv3, rfl, hb3, hn3, ho3⟩ := hr3
        obtain ⟨a3, c3, rfl⟩ := hb3.slice
        obtain ⟨a4, n4, c4, rfl⟩ : ∃ a n c, iv3 = .slice a n c := by
          rcases ho3.2 with ⟨h1, h2⟩ | ⟨g, cap, cur, h1, _⟩
          · exact ⟨none, 0, 0, h1⟩
          · exact ⟨_, _, cap, h1⟩
        have HM := Lib.hid (doMid_early HE0.out HH.out hb3 hn3 ho3 hs3)
        have hz4 := hs3.blk (show (w2.alloc (.cells #[.int .i64 0, .slice none 0 0, .slice none 0 0, .int .i64 0, .bool false] 32)).drew.heap[w2.heap.size]? = some (.cells #[.int .i64 0, .slice none 0 0, .slice none 0 0, .int .i64 0, .bool false] 32 (0, 0)) from heap_alloc_new w2 _) (fun hm => by have := HH.out.st.lim _ hm; have := HE0.out.chg.size; omega)
        have HTH := Lib.hid (five_there hz4 _ rfl)
        clear hb3 hn3 ho3 hs3 hz4
        clear hHeld
        refine hK.out _ _ ?_ (fun hHeld => ?_)
        · exact (HoldC.past (by kernel_rfl) (HoldC.past (by kernel_rfl) HoldC.nil))
        clear hK K
        try simp only [List.getElem_toArray, List.getElem_cons_succ, List.getElem_cons_zero, Act.put, List.setIfInBounds_toArray, List.set_cons_zero, List.set_cons_succ]
        refine wpAnyL_ready (rs := [7]) (by kernel_rfl) (by simp) ?_
        refine AllReadyL.cons (o := _) rfl (fun K hK => ?_) AllReadyL.nil
        try simp only [List.getElem_toArray, List.getElem_cons_succ, List.getElem_cons_zero]
        rw [if_pos (by rfl)]
        refine wp_store_mid 32 (.tmp 6) (.tmp 30) (by rfl) w2.heap.size 0 (rpL (t.step ⟨k, ⟨xc, xl, xn, xi⟩, b⟩).1.e (.slice a3 (t.step ⟨k, ⟨xc, xl, xn, xi⟩, b⟩).1.b.length c3) (.slice a4 n4 c4) (t.step ⟨k, ⟨xc, xl, xn, xi⟩, b⟩).1.room (t.step ⟨k, ⟨xc, xl, xn, xi⟩, b⟩).1.whole).toArray (by rfl) (by rfl) HTH.out (rp_size _ _ _ _ _) (rp_all _ _ _ _ _ _ _ _ _) ?_
        clear hHeld
        refine hK.out _ _ ?_ (fun hHeld => ?_)
        · exact (HoldC.past (by kernel_rfl) (HoldC.past (by kernel_rfl) HoldC.nil))
        clear hK K
        try simp only [List.getElem_toArray, List.getElem_cons_succ, List.getElem_cons_zero, Act.put, List.setIfInBounds_toArray, List.set_cons_zero, List.set_cons_succ]
        refine wpAnyL_done (by kernel_rfl) ?_ _
        clear hHeld
        go_wp2_with fail
        go_meet
        exact ⟨_, rfl, HM⟩
    case rest =>
    obtain ⟨C, rfl, HM⟩ := hcut
    obtain ⟨a3, n3, c3, a4, n4, c4, hC, hbC, hoC, hown, hs, hCA, hCw⟩ := HM.out
    have HZA := Lib.hid (hs.blk HE0.out.rp HE0.out.out)
    rw [← HB.out] at HZA
    have HZC := Lib.hid hC
    have HBC := Lib.hid hbC
    have HOC := Lib.hid hoC
    have HOW := Lib.hid hown
    have HSS := Lib.hid hs
    have hzz := blk_cell (hs.blk HE0.out.head HH.out.out) 0 _ rfl
    obtain ⟨U', a1, a2, a3'⟩ := hs
    have CDK2 := Lib.hid (stdisk_any wc a1)
    have CDD2 := Lib.hid a1.dead
    have HE1 := HE0
    clear hC hbC hoC hown a1 a2 a3' CDK CDD c0 q0 q1 q2 q3 q4 q5 HM hCA hCw
    obtain ⟨o, ho⟩ : ∃ o, o = t.step ⟨k, ⟨xc, xl, xn, xi⟩, b⟩ := ⟨_, rfl⟩
    rw [← ho] at HRUN HZC HBC HOC HSS CDD2
    clear ho
    obtain ⟨⟨oe, ob, oi, orm, ow⟩, t'⟩ := o
    dsimp only at HZC HBC HOC HSS CDD2
    go_wp2_with fail
    refine CDK2.out.mono ?_
    rintro e w' ⟨rfl, hq⟩
    subst hq
    go_wp2_with fail
    refine CDD2.out.mono ?_
    rintro e w' ⟨rfl, hq⟩
    subst hq
    clear hzz CDK2 CDD2
    cases hd2 : t'.s.d.dead
    · rw [if_neg (by rw [hd2]; simp)] at HRUN
      obtain ⟨⟨p0, p1, p2, p3, p4⟩, g0, g1, g2, g3, g4⟩ := five_cells HZC.out
      obtain ⟨⟨m0, m1, m2, m3, m4⟩, f0, f1, f2, f3, f4⟩ := five_cells HZA.out
      have HZ := Lib.hid (five_set HZA.out (.int .i64 oe) (.slice a3 n3 c3) (.slice a4 n4 c4) (.int .i64 orm) (.bool ow))
      have HS := Lib.hid (HE0.out.ends HH.out HSS.out (rpL oe (.slice a3 n3 c3) (.slice a4 n4 c4) orm ow))
      rw [← HB.out] at HS
      have HBX : Hid (BytesAt (wc.setCells (B + 1) 0 (rpL oe (.slice a3 n3 c3) (.slice a4 n4 c4) orm ow)) (.slice a3 n3 c3) ob ∧ (wc.setCells (B + 1) 0 (rpL oe (.slice a3 n3 c3) (.slice a4 n4 c4) orm ow)).ownsRow w.heap.size 38 4 (.slice a4 n4 c4) oi.length (oi.flatMap idE)) := Lib.hid (by
        have hc : Chg [B + 1] wc (wc.setCells (B + 1) 0 (rpL oe (.slice a3 n3 c3) (.slice a4 n4 c4) orm ow)) := (Chg.refl _ wc).setCells (.inl (by simp)) _
        have hB := HB.out
        refine ⟨HBC.out.chg hc (fun k hk hm => ?_), row_keep HOC.out (fun g hg => hc.block g (World.ownsRow.lt HOC.out g hg).2 (fun hm => ?_))⟩
        · exact (HOW.out k (.inl hk)).2 (by rw [List.mem_singleton.1 hm, hB])
        · exact (HOW.out g (.inr hg)).2 (by rw [List.mem_singleton.1 hm, hB]))
      go_wp2_with fail
      refine bodyPost_ret (ret_rp2 rfl _ rfl rfl HZ.out) rfl ?_
      rw [HRUN.out]
      exact ⟨_, rfl, ⟨.slice a3 n3 c3, .slice a4 n4 c4, rfl, HBX.out.1, fun k hk => (HOW.out k (.inl hk)).1, HBX.out.2⟩, HS.out⟩
    · rw [if_pos (by rw [hd2])] at HRUN
      obtain ⟨⟨m0, m1, m2, m3, m4⟩, f0, f1, f2, f3, f4⟩ := five_cells HZA.out
      have HZ := Lib.hid (five_set HZA.out (.int .i64 0) (.slice none 0 0) (.slice none 0 0) (.int .i64 0) (.bool false))
      have HS := Lib.hid (HE0.out.ends HH.out HSS.out (rpL 0 (.slice none 0 0) (.slice none 0 0) 0 false))
      rw [← HB.out] at HS
      go_wp2_with fail
      refine bodyPost_ret (ret_rp2 rfl _ rfl rfl HZ.out) rfl ?_
      rw [HRUN.out]
      exact ⟨_, rfl, RpAt.err 0, HS.out⟩
  · rw [hdd] at HRUN
    rw [if_pos rfl] at HRUN
    have hz := HRP.out
    obtain ⟨⟨m0, m1, m2, m3, m4⟩, f0, f1, f2, f3, f4⟩ := five_cells hz
    have HZ := Lib.hid (five_set hz (.int .i64 0) (.slice none 0 0) (.slice none 0 0) (.int .i64 0) (.bool false))
    have HS := Lib.hid (HE0.out.calm HH.out (Chg.refl [] w2) (rpL 0 (.slice none 0 0) (.slice none 0 0) 0 false))
    rw [← HB.out] at HS
    clear hz
    go_wp2_with fail
    refine bodyPost_ret (ret_rp2 rfl _ rfl rfl HZ.out) rfl ?_
    rw [HRUN.out]
    exact ⟨_, rfl, RpAt.err 0, HS.out⟩
end
end Go.Proofs.YtdkhmfcfihbjeaaGreatDoor.W

/- Regions in a fence at whatever exit: none but the plain one is met. -/
namespace Go.Proofs.YtdkhmfcfihbjeaaGreatDoor.W
open Go.RowKit
set_option linter.unusedVariables false
set_option linter.unusedSimpArgs false

section
variable {F : Fence} {n : Nat} {P : Program} {ops : Array Oper} {Q : Exit → Act → World → Prop} {a : Act} {w : World}
end
end Go.Proofs.YtdkhmfcfihbjeaaGreatDoor.W

/- Package disk: Crash. -/
namespace Go.Proofs.YtdkhmfcfihbjeaaGreatDoor.W
open Go.RowKit Go.Shelf
set_option linter.unusedVariables false
set_option linter.unusedSimpArgs false
attribute [local go_sem] Oper.semAt_some

structure CrashAt (w W : World) (n Bi Bh pc Bc gl : Nat) (k : Nat) (cv : Value) (f : Nat → List UInt8) : Prop where
  ci : W.heap[Bi]? = some (.cells #[.int .i64 (k : Int)] 3 (0, 0))
  ch : W.heap[Bh]? = some (.cells #[cv] 30 (0, 0))
  cc : W.heap[Bc]? = some (.cells #[.pointer (some ⟨pc, 0, none⟩)] 44 (0, 0))
  obj : W.heap[pc]? = some (.cells #[.slice none 0 0, .slice (some ⟨gl, 0, none⟩) n n, .slice none 0 0, .int .i64 (-1), .int .i64 0, .bool false] 94 (0, 0))
  secs : SecsAt W gl n f
  chg : Chg [] w W
  lo : w.heap.size ≤ Bi ∧ w.heap.size ≤ Bh ∧ w.heap.size ≤ Bc ∧ w.heap.size ≤ pc ∧ w.heap.size ≤ gl
  ne : Bi ≠ Bh ∧ Bi ≠ Bc ∧ Bi ≠ pc ∧ Bi ≠ gl ∧ Bh ≠ gl ∧ Bc ≠ gl ∧ pc ≠ gl

theorem CrashAt.keep {w W W' : World} {n Bi Bh pc Bc gl k : Nat} {cv : Value} {f : Nat → List UInt8} (h : CrashAt w W n Bi Bh pc Bc gl k cv f) (hc : Chg [] W W') : CrashAt w W' n Bi Bh pc Bc gl k cv f :=
  ⟨hc.keep h.ci (by simp), hc.keep h.ch (by simp), hc.keep h.cc (by simp), hc.keep h.obj (by simp), h.secs.keep (hc.block _ h.secs.lt (by simp)), h.chg.trans hc (by simp), h.lo, h.ne⟩
theorem CrashAt.turn {w W W' : World} {row : Option Nat} {n Bi Bh pc Bc gl k : Nat} {cv : Value} {f : Nat → List UInt8} (h : CrashAt w W n Bi Bh pc Bc gl k cv f) (hg : W.grownBy W' row)
    (hr : ∀ r, row = some r → w.heap.size ≤ r ∧ ∃ o : Obj, W.heap[r]? = some o ∧ o.isCells = false) : CrashAt w W' n Bi Bh pc Bc gl k cv f := by
  have hr2 := fun r e => (hr r e).2
  obtain ⟨cs, h1, h2⟩ := h.secs
  exact ⟨(blk_turn h.ci hg hr2).trans h.ci, (blk_turn h.ch hg hr2).trans h.ch, (blk_turn h.cc hg hr2).trans h.cc, (blk_turn h.obj hg hr2).trans h.obj, h.secs.keep (blk_turn h1 hg hr2), chg_turn h.chg hg (fun r e => (hr r e).1), h.lo, h.ne⟩

end Go.Proofs.YtdkhmfcfihbjeaaGreatDoor.W

/- Package server: a server of the law's own; New, Open, Store. -/
namespace Go.Proofs.YtdkhmfcfihbjeaaGreatDoor.W
open Go.RowKit
set_option linter.unusedVariables false
set_option linter.unusedSimpArgs false

/-- A server all of whose blocks are new since w0, beside the law's own blocks X. -/
structure OwnS (X : List Nat) (w0 w : World) (z q p : Nat) (t : Sto) : Prop where
  sv : ∃ U, SvAt X w z q p U t ∧ ∀ x ∈ U, w0.heap.size ≤ x
  chg : Chg [] w0 w
  newz : w0.heap.size ≤ z
  outz : z ∉ X
section
variable {X Y : List Nat} {w0 w w' : World} {z q p : Nat} {t t' : Sto}
theorem OwnS.gl (h : OwnS X w0 w z q p t) : ∀ x ∈ X, x < w.heap.size := by obtain ⟨U, h1, _⟩ := h.sv; exact h1.st.gl
theorem OwnS.zl (h : OwnS X w0 w z q p t) : z < w.heap.size := by obtain ⟨U, h1, _⟩ := h.sv; exact blk_lt h1.head
theorem OwnS.keep0 (h : OwnS X w0 w z q p t) (hc : Chg [] w w') : OwnS X w0 w' z q p t := by
  obtain ⟨U, h1, h2⟩ := h.sv
  exact ⟨⟨U, h1.keep0 hc, h2⟩, h.chg.trans hc (by simp), h.newz, h.outz⟩
theorem OwnS.kp (h : OwnS X w0 w z q p t) (hc : Chg [] w w') : Kp X w w' := fun x hx => hc.block x (h.gl x hx) (by simp)
/-- The law writes blocks of its own. -/
theorem OwnS.wrote {T : List Nat} (h : OwnS X w0 w z q p t) (hc : Chg T w w') (hT : ∀ x ∈ T, x ∈ X ∧ w0.heap.size ≤ x) (h8 : ∀ x ∈ T, NoU8 w x) (hY : ∀ x ∈ Y, (x ∈ X ∨ w.heap.size ≤ x) ∧ x < w'.heap.size) : OwnS Y w0 w' z q p t := by
  obtain ⟨U, h1, h2⟩ := h.sv
  have hzT : z ∉ T := fun hm => h.outz (hT z hm).1
  have hzl := h.zl
  refine ⟨⟨U, ⟨hc.keep h1.head hzT, h1.st.regroup hc (fun x hx => (hT x hx).1) h8 h1.far hY, h1.out, fun x hx hm => ?_⟩, h2⟩, h.chg.trans hc (fun x hx => .inr (hT x hx).2), h.newz, fun hm => ?_⟩
  · rcases (hY x hm).1 with h3 | h3
    · exact h1.far x hx h3
    · have := h1.st.lim x hx; omega
  · rcases (hY z hm).1 with h3 | h3
    · exact h.outz h3
    · omega
theorem OwnS.add (h : OwnS X w0 w z q p t) (hc : Chg [] w w') (hY : ∀ x ∈ Y, (x ∈ X ∨ w.heap.size ≤ x) ∧ x < w'.heap.size) : OwnS Y w0 w' z q p t := h.wrote hc (by simp) (by simp) hY
theorem OwnS.sub (h : OwnS X w0 w z q p t) (hY : ∀ x ∈ Y, x ∈ X) : OwnS Y w0 w z q p t := h.add (Chg.refl _ _) (fun x hx => ⟨.inl (hY x hx), h.gl x (hY x hx)⟩)
theorem SvAt.did {U : List Nat} (h : SvAt X w z q p U t) (hs : Std X w w' q p U t') : ∃ U', SvAt X w' z q p U' t' ∧ (∀ x ∈ U', x ∈ U ∨ w.heap.size ≤ x) ∧ Chg U w w' := by
  obtain ⟨U', a1, a2, a3⟩ := hs
  have hz := blk_lt h.head
  refine ⟨U', ⟨a3.keep h.head h.out, a1, fun hm => ?_, fun x hx hm => ?_⟩, a2, a3⟩
  · rcases a2 z hm with h3 | h3
    · exact h.out h3
    · omega
  · rcases a2 x hx with h3 | h3
    · exact h.far x h3 hm
    · have := h.st.gl x hm; omega
theorem OwnS.did (h : OwnS X w0 w z q p t) (hs : ∀ U, SvAt X w z q p U t → (∀ x ∈ U, w0.heap.size ≤ x) → Std X w w' q p U t') : OwnS X w0 w' z q p t' ∧ Kp X w w' := by
  obtain ⟨U, h1, h2⟩ := h.sv
  obtain ⟨U', b1, b2, b3⟩ := h1.did (hs U h1 h2)
  have hsz := h.chg.size
  refine ⟨⟨⟨U', b1, fun x hx => ?_⟩, h.chg.trans b3 (fun x hx => .inr (h2 x hx)), h.newz, h.outz⟩, fun x hx => b3.block x (h1.st.gl x hx) (fun hm => h1.far x hm hx)⟩
  rcases b2 x hx with h3 | h3
  · exact h2 x h3
  · omega
/-- Do. -/
def OwnDo (X : List Nat) (w0 w : World) (z q p : Nat) (r : (Rp × Int) × Sto) (e : Ending) (w' : World) : Prop := ∃ v, e = .returned (.tuple #[v, .int .i64 r.1.2]) ∧ RpAt w w' v r.1.1 ∧ OwnS X w0 w' z q p r.2 ∧ Kp X w w'
theorem own_do (h : OwnS X w0 w z q p t) (r : Rq) (bv : Value) (hx : okD r.x) (hb : BytesAt w bv r.b) (hbX : r.b ≠ [] → ∀ k, bv.ownBlock = some k → k < w0.heap.size ∨ k ∈ X) (hbl : r.b.length ≤ 1000000) (hn : 1 ≤ t.s.d.n) (ho : t.s.d.ops ≤ 800000000) (hw : t.s.d.since.length ≤ 800000) :
    Calls Tryz.prog 12 #[.pointer (some ⟨z, 0, none⟩), rqV r bv] w (OwnDo X w0 w z q p (t.run r)) := by
  obtain ⟨U, h1, h2⟩ := h.sv
  refine (svdo_any r bv w h1 hx hb (fun hne k hk hm => ?_) hbl hn ho hw).mono ?_
  · rcases hbX hne k hk with h3 | h3
    · have := h2 k hm; omega
    · exact h1.far k hm h3
  · rintro e w' ⟨v, rfl, hr, hs⟩
    obtain ⟨U', b1, b2, b3⟩ := h1.did hs
    have hsz := h.chg.size
    refine ⟨v, rfl, hr, ⟨⟨U', b1, fun x hx => ?_⟩, h.chg.trans b3 (fun x hx => .inr (h2 x hx)), h.newz, h.outz⟩, fun x hx => b3.block x (h1.st.gl x hx) (fun hm => h1.far x hm hx)⟩
    rcases b2 x hx with h3 | h3
    · exact h2 x h3
    · omega
/-- Do, its outcome told. -/
def DoIs (X : List Nat) (w0 w : World) (z q p : Nat) (o : Rp) (code : Int) (t' : Sto) (e : Ending) (w' : World) : Prop := ∃ a c a' c', e = .returned (.tuple #[.agg #[.int .i64 o.e, .slice a o.b.length c, .slice a' o.ids.length c', .int .i64 o.room, .bool o.whole], .int .i64 code]) ∧
  BytesAt w' (.slice a o.b.length c) o.b ∧ (∀ k, (Value.slice a o.b.length c).ownBlock = some k → w.heap.size ≤ k) ∧ w'.ownsRow w.heap.size 38 4 (.slice a' o.ids.length c') o.ids.length (o.ids.flatMap idE) ∧ OwnS X w0 w' z q p t' ∧ Kp X w w'
theorem own_doI {o : Rp} {code : Int} (h : OwnS X w0 w z q p t) (r : Rq) (bv : Value) (hrun : t.run r = ((o, code), t')) (hx : okD r.x) (hb : BytesAt w bv r.b) (hbX : r.b ≠ [] → ∀ k, bv.ownBlock = some k → k < w0.heap.size ∨ k ∈ X) (hbl : r.b.length ≤ 1000000) (hn : 1 ≤ t.s.d.n) (ho : t.s.d.ops ≤ 800000000) (hw : t.s.d.since.length ≤ 800000) :
    Calls Tryz.prog 12 #[.pointer (some ⟨z, 0, none⟩), .agg #[.int .i64 r.k, .int .i64 r.x.c, .int .i64 r.x.l, .int .i64 r.x.n, .int .i64 r.x.i, bv]] w (DoIs X w0 w z q p o code t') := by
  refine (own_do h r bv hx hb hbX hbl hn ho hw).mono ?_
  rw [hrun]
  rintro e w' ⟨v, rfl, ⟨bv', iv', rfl, hb', hn', hi'⟩, ho', hk'⟩
  obtain ⟨a, c, rfl⟩ := hb'.slice
  obtain ⟨a', c', rfl⟩ : ∃ a c, iv' = .slice a o.ids.length c := by
    rcases hi'.2 with ⟨h1, h2⟩ | ⟨g, cap, cur, h1, _⟩
    · exact ⟨none, 0, by rw [h1]; rw [show o.ids.length = 0 from h2]⟩
    · exact ⟨_, cap, h1⟩
  exact ⟨a, c, a', c', rfl, hb', hn', hi', ho', hk'⟩
/-- A new server. -/
def NewS (w0 : World) (t : Sto) (e : Ending) (w' : World) : Prop := ∃ z q p, e = .returned (.tuple #[.pointer (some ⟨z, 0, none⟩), .int .i64 0]) ∧ OwnS [] w0 w' z q p t
theorem ownS_of {w3 : World} (h : Own6 [] w0 w q p t) (hw3 : w3 = w.alloc (.cells #[.pointer (some ⟨q, 0, none⟩)] 87)) : OwnS [] w0 w3 w.heap.size q p t := by
  obtain ⟨U, h1, h2, h3, h4⟩ := h
  subst hw3
  refine ⟨⟨U, ⟨heap_alloc_new w _, h1.keep0 ((Chg.refl [] w).alloc _), fun hm => by have := h1.lim _ hm; omega, by simp⟩, h2⟩, h3.alloc _, h3.size, by simp⟩
set_option maxHeartbeats 4000000 in
set_option maxRecDepth 100000 in
theorem own_newS (hc : Chg [] w0 w) (n : Nat) (h9 : 9 ≤ n) (hm : n ≤ 4160) {d : DS} (hf : (DS.new n).format = ((0, some t), d)) : Calls Tryz.prog 11 #[.int .i64 (n : Int)] w (NewS w0 t) := by
  have CN := Lib.hid (own_disk n w (by omega) hm)
  have HC := Lib.hid hc
  have HF := Lib.hid hf
  clear hc hf
  go_enter Tryz.func11, Tryz.ntmps11
  go_wp2_with fail
  refine CN.out.mono ?_
  rintro e w1 ⟨p, S, rfl, hd1, hS1, hc1⟩
  have CF := Lib.hid (own_format (w0 := w0) hd1 (fun x hx => Nat.le_trans HC.out.size (hS1 x hx)) (HC.out.trans hc1 (by simp)) HF.out)
  clear hd1 hS1 hc1 CN
  go_wp2_with fail
  refine CF.out.mono ?_
  rintro e w2 ⟨q, rfl, ho2⟩
  have HO := Lib.hid (ownS_of ho2 rfl)
  clear ho2 CF
  go_wp2
  go_ret2
  exact ⟨_, q, p, rfl, HO.out⟩
end
end Go.Proofs.YtdkhmfcfihbjeaaGreatDoor.W

/- Requests that came in; the laws' Small and Request. -/
namespace Go.Proofs.YtdkhmfcfihbjeaaGreatDoor.W
open Go.RowKit Go.ChangeShapes Go.WideShapes
set_option linter.unusedVariables false
set_option linter.unusedSimpArgs false

structure RqIn (w : World) (r : Rq) (bv : Value) : Prop where
  came : Came w bv r.b
  long : r.b.length ≤ maxLen
  wk : okW r.k
  wx : okD r.x
instance : Inhabited (Rq × Value) := ⟨⟨0, ⟨0, 0, 0, 0⟩, []⟩, .slice none 0 0⟩
structure RqAt (w : World) (g p : Nat) (r : Rq × Value) : Prop where
  c0 : w.cell? ⟨g, p, none⟩ = some (.int .i64 r.1.k)
  c1 : w.cell? ⟨g, p + 1, none⟩ = some (.int .i64 r.1.x.c)
  c2 : w.cell? ⟨g, p + 2, none⟩ = some (.int .i64 r.1.x.l)
  c3 : w.cell? ⟨g, p + 3, none⟩ = some (.int .i64 r.1.x.n)
  c4 : w.cell? ⟨g, p + 4, none⟩ = some (.int .i64 r.1.x.i)
  c5 : w.cell? ⟨g, p + 5, none⟩ = some r.2
  inn : RqIn w r.1 r.2
def RqsAt (w : World) (a : Option Addr) (n : Nat) (f : Nat → Rq × Value) : Prop := n = 0 ∨ ∃ g o, a = some ⟨g, o, none⟩ ∧ ∀ i, i < n → RqAt w g (o + i * 6) (f i)
theorem RqIn.keep {w w' : World} {r : Rq} {bv : Value} (h : RqIn w r bv) (hc : Chg [] w w') : RqIn w' r bv := ⟨h.came.chg hc, h.long, h.wk, h.wx⟩
theorem RqAt.keep {w w' : World} {g p : Nat} {r : Rq × Value} (h : RqAt w g p r) (hc : Chg [] w w') : RqAt w' g p r :=
  ⟨hc.cell h.c0 (by simp), hc.cell h.c1 (by simp), hc.cell h.c2 (by simp), hc.cell h.c3 (by simp), hc.cell h.c4 (by simp), hc.cell h.c5 (by simp), h.inn.keep hc⟩
theorem RqsAt.keep {w w' : World} {a : Option Addr} {n : Nat} {f : Nat → Rq × Value} (h : RqsAt w a n f) (hc : Chg [] w w') : RqsAt w' a n f := by
  rcases h with h | ⟨g, o, rfl, h⟩
  · exact .inl h
  · exact .inr ⟨g, o, rfl, fun i hi => (h i hi).keep hc⟩
section
variable {H : Type} {enc : TypeId × Value → H} {w : World} {base : Nat} {held : Bool}
end
end Go.Proofs.YtdkhmfcfihbjeaaGreatDoor.W

/- SameIds; the law's looks. -/
namespace Go.Proofs.YtdkhmfcfihbjeaaGreatDoor.W
open Go.RowKit
set_option linter.unusedVariables false
set_option linter.unusedSimpArgs false
variable {G : List Nat}

/-- A slice of ids, to be read. -/
def IdRow (w : World) (v : Value) (l : List Id) : Prop := ∃ a cap, v = .slice a l.length cap ∧ ∀ j, j < l.length → ∃ g x, a = some ⟨g, 0, none⟩ ∧ l[j]? = some x ∧ w.cell? ⟨g, j * 4, none⟩ = some (.int .i64 x.c) ∧ w.cell? ⟨g, j * 4 + 1, none⟩ = some (.int .i64 x.l) ∧ w.cell? ⟨g, j * 4 + 2, none⟩ = some (.int .i64 x.n) ∧ w.cell? ⟨g, j * 4 + 3, none⟩ = some (.int .i64 x.i)
theorem IdRow.of {w : World} {base : Nat} {v : Value} {l : List Id} (h : w.ownsRow base 38 4 v l.length (l.flatMap idE)) : IdRow w v l := by
  rcases h.2 with ⟨h1, h2⟩ | ⟨g, cap, cur, h1, _⟩
  · exact ⟨none, 0, by rw [h1, h2], fun j hj => by omega⟩
  · refine ⟨_, cap, h1, fun j hj => ⟨g, l[j], rfl, List.getElem?_eq_getElem hj, ?_⟩⟩
    rw [h1] at h
    exact id_row h j hj _ (List.getElem?_eq_getElem hj)
theorem IdRow.keep {w w' : World} {v : Value} {l : List Id} (h : IdRow w v l) (hc : Chg [] w w') : IdRow w' v l := by
  obtain ⟨a, cap, h1, h2⟩ := h
  refine ⟨a, cap, h1, fun j hj => ?_⟩
  obtain ⟨g, x, k1, k2, m0, m1, m2, m3⟩ := h2 j hj
  exact ⟨g, x, k1, k2, hc.cell m0 (by simp), hc.cell m1 (by simp), hc.cell m2 (by simp), hc.cell m3 (by simp)⟩

end Go.Proofs.YtdkhmfcfihbjeaaGreatDoor.W

/- The law's same, of two replies that are one. -/
namespace Go.Proofs.YtdkhmfcfihbjeaaGreatDoor.W
open Go.RowKit
set_option linter.unusedVariables false
set_option linter.unusedSimpArgs false

end Go.Proofs.YtdkhmfcfihbjeaaGreatDoor.W

/- The law's awake of package server; Request, Small. -/
namespace Go.Proofs.YtdkhmfcfihbjeaaGreatDoor.W
open Go.RowKit
set_option linter.unusedVariables false
set_option linter.unusedSimpArgs false

structure Wake20 where
  t0 : Sto
  t1 : Sto
  d : DS
  fmt : (DS.new 25).format = ((0, some t0), d)
  lim0 : 1 ≤ t0.s.d.n ∧ t0.s.d.ops ≤ 25 ∧ t0.s.d.since.length = 0
  lim1 : 1 ≤ t1.s.d.n ∧ t1.s.d.ops ≤ 65 ∧ t1.s.d.since.length = 0
  put : t0.run ⟨1, ⟨1, 0, 5, 2⟩, [9]⟩ = ((⟨0, [], [], 0, false⟩, 0), t1)
  get : t1.run ⟨2, ⟨1, 0, 5, 2⟩, []⟩ = ((⟨0, [9], [], 0, false⟩, 0), t1)
theorem wake20_is : Nonempty Wake20 := by
  obtain ⟨t, d, h1, h2, h3, h4, h5, h6⟩ := Keep.new 25 (by omega)
  have hm : mayId ⟨1, 0, 5, 2⟩ = true := by decide
  obtain ⟨F, p1, p2, p3⟩ := h2.put ⟨1, 0, 5, 2⟩ [9]
  have hr : t.s.rows.length ≤ 20 := by have := h2.kept.full.1; omega
  have hf := step_far t ⟨1, ⟨1, 0, 5, 2⟩, [9]⟩ hr
  have hput : (t.put ⟨1, 0, 5, 2⟩ [9]).1 = 0 ∧ F = setF (fun _ => none) ⟨1, 0, 5, 2⟩ (some [9]) := by
    rcases h2.kept.put_may hm rfl (b := [9]) (by simp) (by omega) with ⟨e1, _⟩ | ⟨_, e2, _⟩
    · rcases p3 with ⟨_, _, e3, _⟩ | ⟨e3, _, _⟩
      · exact ⟨e1, e3⟩
      · exact absurd (e3 e1) (by simp)
    · rw [p1.alive] at e2; cases e2
  have hn' := hf.n
  have ho' := hf.ops
  rw [step1] at hn' ho'
  dsimp only at hn' ho'
  refine ⟨⟨t, (t.put ⟨1, 0, 5, 2⟩ [9]).2, d, h1, ⟨by omega, by omega, by rw [h2.since]; rfl⟩, ⟨by omega, by omega, by rw [p1.since]; rfl⟩, ?_, ?_⟩⟩
  · rw [h2.run, step1, hput.1]
    rfl
  · rw [p1.run, p1.gets, hput.2, setF_self, if_neg (by rw [hm]; simp)]
    rfl
set_option maxHeartbeats 8000000 in
set_option maxRecDepth 100000 in
theorem awake20_any (w : World) : Calls Tryz.prog 9 #[] w fun e w' => e = .returned (.bool true) ∧ Chg [] w w' := by
  obtain ⟨⟨t0, t1, d, hf, hl0, hl1, hp, hg⟩⟩ := wake20_is
  have CN := Lib.hid (own_newS (Chg.refl [] w) 25 (by omega) (by omega) hf)
  have HP := Lib.hid hp
  have HG := Lib.hid hg
  have HL0 := Lib.hid hl0
  have HL1 := Lib.hid hl1
  clear hf hp hg hl0 hl1
  go_enter Tryz.func9, Tryz.ntmps9
  go_wp2_with fail
  refine CN.out.mono ?_
  rintro e w1 ⟨z, q, p, rfl, ho1⟩
  have CI := Lib.hid (lawid_any 1 0 5 2 w1)
  have HO1 := Lib.hid ho1
  clear ho1 CN
  go_wp2_with fail
  refine CI.out.mono ?_
  rintro e w2 ⟨rfl, hc2⟩
  have hcA : Chg [] w2 (w2.alloc (.cells #[bv 9] 5)) := (Chg.refl _ _).alloc _
  have HO2 := Lib.hid ((HO1.out.keep0 hc2).add (Y := [w2.heap.size]) hcA (fun x hx => by rw [List.mem_singleton.1 hx]; exact ⟨.inr (Nat.le_refl _), by simp⟩))
  have CP := Lib.hid (own_doI HO2.out ⟨1, ⟨1, 0, 5, 2⟩, [9]⟩ (.slice (some ⟨w2.heap.size, 0, none⟩) 1 1) HP.out okD_c (one_byte6 w2 9) (fun _ k hk => .inr (by
    obtain rfl : w2.heap.size = k := by simpa [Value.ownBlock] using hk
    simp)) (by simp) HL0.out.1 (by have := HL0.out.2.1; omega) (by have := HL0.out.2.2; omega))
  rw [show bv 9 = .int .u8 9 from rfl] at CP
  dsimp only at CP
  clear hc2 hcA CI HO1
  go_wp2_with fail
  refine CP.out.mono ?_
  rintro e w4 ⟨a4, c4, a5, c5, he, hb4, hn4, hi4, ho4, hk4⟩
  dsimp only at he
  subst he
  have hcB : Chg [] w4 (w4.alloc (.cells #[.int .i64 0, .slice a4 0 c4, .slice a5 0 c5, .int .i64 0, .bool false] 32)) := (Chg.refl _ _).alloc _
  have HO4 := Lib.hid (ho4.add (Y := [w4.heap.size]) hcB (fun x hx => by rw [List.mem_singleton.1 hx]; exact ⟨.inr (Nat.le_refl _), by simp⟩))
  have HA4 := Lib.hid (heap_alloc_new w4 (.cells #[.int .i64 0, .slice a4 0 c4, .slice a5 0 c5, .int .i64 0, .bool false] 32))
  clear hb4 hn4 hi4 ho4 hk4 hcB CP
  have CI := Lib.hid (lawid_any 1 0 5 2 (w4.alloc (.cells #[.int .i64 0, .slice a4 0 c4, .slice a5 0 c5, .int .i64 0, .bool false] 32)))
  go_wp2_with fail
  refine CI.out.mono ?_
  rintro e w5 ⟨rfl, hc5⟩
  have HA5 := Lib.hid (hc5.keep HA4.out (by simp))
  have CG := Lib.hid (own_doI (HO4.out.keep0 hc5) ⟨2, ⟨1, 0, 5, 2⟩, []⟩ (.slice none 0 0) HG.out okD_c (BytesAt.nil _) (by simp) (by simp) HL1.out.1 (by have := HL1.out.2.1; omega) (by have := HL1.out.2.2; omega))
  dsimp only at CG
  clear hc5 CI
  go_wp2_with fail
  refine CG.out.mono ?_
  rintro e w6 ⟨a6, c6, a7, c7, he, hb6, hn6, hi6, ho6, hk6⟩
  dsimp only at he hb6
  subst he
  have HA6 := Lib.hid ((hk6 w4.heap.size (by simp)).trans HA5.out)
  have hcC : Chg [] w6 (w6.alloc (.cells #[.int .i64 0, .slice a6 1 c6, .slice a7 0 c7, .int .i64 0, .bool false] 32)) := (Chg.refl _ _).alloc _
  have HB6 := Lib.hid (hb6.chg hcC (by simp))
  have HC6 := Lib.hid (ho6.chg.trans hcC (by simp))
  have HA7 := Lib.hid (hcC.keep HA6.out (by simp))
  have HN6 := Lib.hid (heap_alloc_new w6 (.cells #[.int .i64 0, .slice a6 1 c6, .slice a7 0 c7, .int .i64 0, .bool false] 32))
  clear hb6 hn6 hi6 ho6 hk6 hcC CG
  obtain ⟨w7, hw7⟩ : ∃ w7, w7 = w6.alloc (.cells #[.int .i64 0, .slice a6 1 c6, .slice a7 0 c7, .int .i64 0, .bool false] 32) := ⟨_, rfl⟩
  rw [← hw7] at HB6 HC6 HA7 HN6
  have p0 := blk_cell HA7.out 0 _ rfl
  have p1 := blk_cell HN6.out 0 _ rfl
  have p2 := blk_cell HN6.out 1 _ rfl
  rw [hw7] at p0 p1 p2
  have HW7 := Lib.hid hw7
  have hcD : Chg [] w7 (w7.alloc (.cells #[bv 9] 5)) := (Chg.refl _ _).alloc _
  have CS := Lib.hid (same_any (.slice a6 1 c6) (.slice (some ⟨w7.heap.size, 0, none⟩) 1 1) [9] [9] (w7.alloc (.cells #[bv 9] 5)) (HB6.out.chg hcD (by simp)) (one_byte6 w7 9) (by simp) (by simp))
  rw [decide_eq_true rfl, show bv 9 = .int .u8 9 from rfl, show w7.heap.size = w6.heap.size + 1 by rw [hw7]; simp] at CS
  have HCD := Lib.hid hcD
  clear hw7 hcD
  go_wp2_with fail
  rw [← HW7.out]
  refine CS.out.mono ?_
  rintro e w8 ⟨rfl, nn, hq⟩
  have HCF : Hid (Chg [] w w8) := Lib.hid (by rw [hq]; exact (HC6.out.trans HCD.out (by simp)).drewN nn)
  clear hq
  go_wp2
  go_ret
  exact ⟨rfl, HCF.out⟩
end Go.Proofs.YtdkhmfcfihbjeaaGreatDoor.W

/- ServerCodes: a reply that came in; the walk. -/
namespace Go.Proofs.YtdkhmfcfihbjeaaGreatDoor.W
open Go.RowKit Go.ChangeShapes Go.WideShapes
set_option linter.unusedVariables false
set_option linter.unusedSimpArgs false

/-! ### How long -/
theorem erV_len (s : PB) : (erV s).length ≤ 65535 := by
  unfold erV eyeRaw
  split
  · simp
  · split
    · simp
    · split
      · simp
      · split
        · simp
        · rw [List.length_take]
          omega
theorem reqDec_len (l : List UInt8) : (reqDec l).1.b.length ≤ 1000000 := by
  unfold reqDec
  split
  · simp [noRq]
  · split
    · simp [noRq]
    · exact Nat.le_trans (erV_len _) (by omega)

/-! ### Ids lie in rows -/
theorem okW_of {z : Int} (h0 : 0 ≤ z) (h1 : z < 72057594037927936) : okW z := by
  unfold okW
  simp [Lit.wf, IntKind.min, IntKind.max, IntKind.signed, IntKind.bits]
  omega
theorem enV_ok (s : PB) (n : Nat) (h : n ≤ 7) : okW (enV s n) := by
  unfold enV eyeNum
  split
  · exact okW_of (by omega) (by omega)
  · split
    · exact okW_of (by omega) (by omega)
    · have h := beNum_lt (s.1.take n)
      have h2 : 256 ^ (s.1.take n).length ≤ 256 ^ 7 := Nat.pow_le_pow_right (by omega) (Nat.le_trans (List.length_take_le _ _) (by omega))
      exact okW_of (by omega) (by show ((beNum (s.1.take n) : Nat) : Int) < _; omega)
theorem giV_ok (s : PB) : okD (giV s) := ⟨enV_ok _ _ (by omega), enV_ok _ _ (by omega), enV_ok _ _ (by omega), enV_ok _ _ (by omega)⟩
theorem noRq_ok : okD noRq.x := ⟨okW_of (by decide) (by decide), okW_of (by decide) (by decide), okW_of (by decide) (by decide), okW_of (by decide) (by decide)⟩
theorem reqDec_ok (l : List UInt8) : okD (reqDec l).1.x := by
  unfold reqDec
  split
  · exact noRq_ok
  · split
    · exact noRq_ok
    · exact giV_ok _
theorem IdsIn.at {w : World} {a : Option Addr} {n cap : Nat} {f : Nat → Id} (h : IdsIn w a n f) (h1 : n ≤ cap) (h2 : cap ≤ maxLen) : ∃ l, l.length = n ∧ IdsRow w a cap l := by
  refine ⟨(List.range n).map f, by simp, by simpa using h1, h2, fun j x hx => ?_⟩
  obtain ⟨hj, rfl⟩ := List.getElem?_eq_some_iff.1 hx
  have hj' : j < n := by simpa using hj
  rcases h with h | ⟨g, o, ha, hc⟩
  · omega
  · obtain ⟨_, c0, c1, c2, c3⟩ := hc j hj'
    simp only [List.getElem_map, List.getElem_range]
    exact ⟨g, o, ha, World.block_lt_of_cell? _ _ c0, c0, c1, c2, c3⟩
theorem IdsRow.of {w : World} {base : Nat} {a : Option Addr} {n c : Nat} {l : List Id} (h : w.ownsRow base 38 4 (.slice a n c) l.length (l.flatMap idE)) : IdsRow w a c l := by
  have hr := IdRow.of h
  rcases h.2 with ⟨h1, h2⟩ | ⟨g, cap, cur, h1, hb, hg, hn, hc, _⟩
  · injection h1 with h3 h4 h5
    subst h5
    refine ⟨by omega, by unfold maxLen; omega, fun j x hx => ?_⟩
    have := (List.getElem?_eq_some_iff.1 hx).1
    omega
  · injection h1 with h3 h4 h5
    subst h5
    refine ⟨hn, hc, fun j x hx => ?_⟩
    have hj := (List.getElem?_eq_some_iff.1 hx).1
    obtain ⟨a', c', e, hcells⟩ := hr
    injection e with e1 e2 e3
    obtain ⟨g', y, ha, hy, c0, c1, c2, c3⟩ := hcells j hj
    rw [hx] at hy
    obtain rfl : x = y := by simpa using hy
    exact ⟨g', 0, by rw [e1, ha], World.block_lt_of_cell? _ _ c0, by simpa using c0, by simpa using c1, by simpa using c2, by simpa using c3⟩

/-! ### A reply that came in -/
section
variable {H : Type} {enc : TypeId × Value → H} {w : World} {base : Nat} {held : Bool}
end
end Go.Proofs.YtdkhmfcfihbjeaaGreatDoor.W

/- Package server: Handle, of a server of the law's own. -/
namespace Go.Proofs.YtdkhmfcfihbjeaaGreatDoor.W
open Go.RowKit
set_option linter.unusedVariables false
set_option linter.unusedSimpArgs false

theorem six_sixX {w : World} {b t : Nat} {k xc xl xn xi : Int} {bv : Value} (h : w.heap[b]? = some (.cells #[.int .i64 k, .int .i64 xc, .int .i64 xl, .int .i64 xn, .int .i64 xi, bv] t (0, 0))) : (w.cell? ⟨b, 0, none⟩ = some (.int .i64 k) ∧ w.cell? ⟨b, 1, none⟩ = some (.int .i64 xc) ∧ w.cell? ⟨b, 2, none⟩ = some (.int .i64 xl) ∧ w.cell? ⟨b, 3, none⟩ = some (.int .i64 xn) ∧ w.cell? ⟨b, 4, none⟩ = some (.int .i64 xi) ∧ w.cell? ⟨b, 5, none⟩ = some bv) :=
  ⟨blk_cell h 0 _ rfl, blk_cell h 1 _ rfl, blk_cell h 2 _ rfl, blk_cell h 3 _ rfl, blk_cell h 4 _ rfl, blk_cell h 5 _ rfl⟩
theorem row_sliceX {w : World} {base e size : Nat} {iv : Value} {n : Nat} {xs : List Value} (h : w.ownsRow base e size iv n xs) : ∃ a c, iv = .slice a n c := by
  rcases h.2 with ⟨h1, h2⟩ | ⟨g, cap, cur, h1, _⟩
  · exact ⟨none, 0, by rw [h1, h2]⟩
  · exact ⟨_, cap, h1⟩
theorem bytes_lt {w : World} {v : Value} {l : List UInt8} (h : BytesAt w v l) (hl : l ≠ []) : ∀ k, v.ownBlock = some k → k < w.heap.size := by
  obtain ⟨a, cap, rfl, h1, h2, h3⟩ := h
  intro k hk
  rcases h3 with h3 | ⟨g, o, rfl, hc⟩
  · exact absurd h3.1 hl
  · obtain rfl : g = k := by simpa [Value.ownBlock] using hk
    exact World.block_lt_of_cell? _ _ (hc 0 (List.length_pos_iff.2 hl))
/-- What Handle answers, and what it leaves. -/
def handleR (t : Sto) (l : List UInt8) : (List UInt8 × Int) × Sto :=
  if (reqDec l).2 ≠ 0 then (([], (reqDec l).2), t) else
  if (t.run (reqDec l).1).1.2 ≠ 0 then (([], (t.run (reqDec l).1).1.2), (t.run (reqDec l).1).2) else (penOut (repPen (t.run (reqDec l).1).1.1), (t.run (reqDec l).1).2)
def HandP (X : List Nat) (w0 w : World) (z q p : Nat) (r : (List UInt8 × Int) × Sto) (e : Ending) (w' : World) : Prop :=
  ∃ v, e = .returned (.tuple #[v, .int .i64 r.1.2]) ∧ BytesAt w' v r.1.1 ∧ (∀ k, v.ownBlock = some k → w.heap.size ≤ k) ∧ OwnS X w0 w' z q p r.2 ∧ Kp X w w'
set_option maxHeartbeats 16000000 in
set_option maxRecDepth 100000 in
theorem own_handle {X : List Nat} {w0 w : World} {z q p : Nat} {t : Sto} (h : OwnS X w0 w z q p t) (v : Value) (l : List UInt8) (hv : BytesAt w v l) (hl : l.length ≤ 1000000) (hn : 1 ≤ t.s.d.n) (ho : t.s.d.ops ≤ 800000000) (hw : t.s.d.since.length ≤ 800000)
    (hlim : (t.run (reqDec l).1).1.1.b.length ≤ 900000 ∧ (t.run (reqDec l).1).1.1.ids.length ≤ 65535) : Calls Tryz.prog 23 #[.pointer (some ⟨z, 0, none⟩), v] w (HandP X w0 w z q p (handleR t l)) := by
  obtain ⟨U, hsv, -⟩ := h.sv
  have c0 := blk_cell hsv.head 0 _ rfl
  have HH := Lib.hid h
  have CC := Lib.hid (clone_any v l w hv (by omega))
  have HLIM := Lib.hid hlim
  obtain ⟨rD, hrD⟩ : ∃ rD, rD = reqDec l := ⟨_, rfl⟩
  have HRD := Lib.hid hrD
  have hxo : okD rD.1.x := by rw [hrD]; exact reqDec_ok l
  have hdl : rD.1.b.length ≤ 1000000 := by rw [hrD]; exact reqDec_len l
  have HR : Hid (handleR t l = if rD.2 ≠ 0 then (([], rD.2), t) else if (t.run rD.1).1.2 ≠ 0 then (([], (t.run rD.1).1.2), (t.run rD.1).2) else (penOut (repPen (t.run rD.1).1.1), (t.run rD.1).2)) := Lib.hid (by rw [hrD]; rfl)
  rw [← hrD] at HLIM
  generalize handleR t l = res at *
  obtain ⟨va, vc, hvv⟩ := hv.slice
  subst hvv
  clear h hv hsv hlim hrD
  go_enter Tryz.func23, Tryz.ntmps23
  go_wp2_with fail
  refine CC.out.mono ?_
  rintro e w1 ⟨v1, rfl, hb1, hn1, hc1⟩
  have CD := Lib.hid (svdec_any v1 l w1 hb1.bytes (by omega))
  rw [← HRD.out] at CD
  have HC1 := Lib.hid hc1
  obtain ⟨a1, c1, rfl⟩ := hb1.slice
  clear hb1 hn1 hc1 CC c0
  go_wp2_with fail
  refine CD.out.mono ?_
  obtain ⟨⟨dk, ⟨yc, yl, yn, yi⟩, db⟩, dc⟩ := rD
  rintro e w2 ⟨x2, rfl, hx2, hn2, hc2⟩
  obtain ⟨a2, c2, rfl⟩ := hx2.slice
  unfold rqV rqL
  dsimp only at hx2 hxo hdl HR HLIM ⊢
  obtain ⟨w3, hw3⟩ : ∃ w3, w3 = w2.alloc (.cells #[.int .i64 dk, .int .i64 yc, .int .i64 yl, .int .i64 yn, .int .i64 yi, .slice a2 db.length c2] 40) := ⟨_, rfl⟩
  have hcA : Chg [] w2 w3 := by rw [hw3]; exact (Chg.refl _ _).alloc _
  have hd3 : w3.heap[w2.heap.size]? = some (.cells #[.int .i64 dk, .int .i64 yc, .int .i64 yl, .int .i64 yn, .int .i64 yi, .slice a2 db.length c2] 40 (0, 0)) := by rw [hw3]; exact heap_alloc_new w2 _
  have hc13 := hc2.trans hcA (by simp)
  have HC3 := Lib.hid (HC1.out.trans hc13 (by simp))
  have HX3 := Lib.hid (hx2.chg hcA (by simp))
  have hY : ∀ x ∈ w2.heap.size :: (kB (.slice a2 db.length c2) db ++ X), (x ∈ X ∨ w.heap.size ≤ x) ∧ x < w3.heap.size := fun x hx => by
    have h3 := HC1.out.size
    have h4 := hcA.size
    have h5 := hc2.size
    have h6 := blk_lt hd3
    rcases List.mem_cons.1 hx with rfl | hx
    · exact ⟨.inr (by omega), h6⟩
    rcases List.mem_append.1 hx with hx | hx
    · have hne : db ≠ [] := fun e => by rw [e, kB_nil] at hx; cases hx
      have hk := (mem_kB hne).1 hx
      have h1 := hn2 x hk
      have h2 := bytes_lt hx2 hne x hk
      exact ⟨.inr (by omega), by omega⟩
    · exact ⟨.inl hx, Nat.lt_of_lt_of_le (HH.out.gl x hx) HC3.out.size⟩
  have HO3 := Lib.hid (HH.out.add HC3.out hY)
  have HW3 := Lib.hid hw3
  have HD3 := Lib.hid hd3
  have hs2 : w.heap.size ≤ w2.heap.size := Nat.le_trans HC1.out.size hc2.size
  have HS2 := Lib.hid hs2
  have HKX : Hid (Kp X w w3) := Lib.hid (HH.out.kp HC3.out)
  clear hx2 hn2 hc2 hw3 hcA hd3 hc13 hY CD hs2
  by_cases hz : dc = 0
  · subst hz
    rw [if_neg (by simp)] at HR
    go_upto_region 4 with (fail)
    rw [← HW3.out]
    obtain ⟨p0, p1, p2, p3, p4, p5⟩ := six_sixX HD3.out
    have CO := Lib.hid (own_do HO3.out ⟨dk, ⟨yc, yl, yn, yi⟩, db⟩ (.slice a2 db.length c2) hxo HX3.out (fun hne k hk => .inr (List.mem_cons_of_mem _ (List.mem_append_left _ ((mem_kB hne).2 hk)))) hdl hn ho hw)
    obtain ⟨ro, hro⟩ : ∃ ro, ro = t.run ⟨dk, ⟨yc, yl, yn, yi⟩, db⟩ := ⟨_, rfl⟩
    rw [← hro] at CO HR HLIM
    unfold rqV rqL at CO
    dsimp only at CO
    clear hro
    go_wp2_with fail
    refine CO.out.mono ?_
    obtain ⟨⟨⟨fe, fb, fi, fr, fw⟩, fc⟩, t'⟩ := ro
    rintro e w4 ⟨x4, rfl, ⟨bf, jf, rfl, hbf, hnf, hjf⟩, ho4, hk4⟩
    dsimp only at hbf hjf HR HLIM ho4 ⊢
    obtain ⟨a4, c4, rfl⟩ := hbf.slice
    obtain ⟨a5, c5, rfl⟩ := row_sliceX hjf
    unfold rpV rpL
    try dsimp only
    obtain ⟨w5, hw5⟩ : ∃ w5, w5 = w4.alloc (.cells #[.int .i64 fe, .slice a4 fb.length c4, .slice a5 fi.length c5, .int .i64 fr, .bool fw] 32) := ⟨_, rfl⟩
    have hcB : Chg [] w4 w5 := by rw [hw5]; exact (Chg.refl _ _).alloc _
    have hd5 : w5.heap[w4.heap.size]? = some (.cells #[.int .i64 fe, .slice a4 fb.length c4, .slice a5 fi.length c5, .int .i64 fr, .bool fw] 32 (0, 0)) := by rw [hw5]; exact heap_alloc_new w4 _
    have HB5 := Lib.hid (hbf.chg hcB (by simp))
    have hi4 := IdsRow.of hjf
    have HI5 := Lib.hid (hi4.keep hcB)
    have HW5 := Lib.hid hw5
    have HD5 := Lib.hid hd5
    have hsub : ∀ x ∈ X, x ∈ w2.heap.size :: (kB (.slice a2 db.length c2) db ++ X) := fun x hx => List.mem_cons_of_mem _ (List.mem_append_right _ hx)
    have HO5 := Lib.hid ((ho4.keep0 hcB).sub (Y := X) hsub)
    have HK5 : Hid (Kp X w w5) := Lib.hid (fun x hx => (ho4.kp hcB x (hsub x hx)).trans ((hk4 x (hsub x hx)).trans (HKX.out x hx)))
    have HS5 : Hid (w.heap.size ≤ w5.heap.size) := Lib.hid (by
      have h1 := hk4 w2.heap.size (by simp)
      rw [HD3.out] at h1
      have h2 := blk_lt h1
      have h3 := hcB.size
      have h4 := HS2.out
      omega)
    clear hbf hnf hjf ho4 hk4 CO hw5 hcB hd5 hi4 hsub p0 p1 p2 p3 p4 p5
    by_cases hz2 : fc = 0
    · subst hz2
      rw [if_neg (by simp)] at HR
      go_upto_region 7 with (fail)
      rw [← HW5.out]
      obtain ⟨⟨q0, q1, q2, q3, q4⟩, -⟩ := fvf_cells HD5.out
      have CR := Lib.hid (svencr_any ⟨fe, fb, fi, fr, fw⟩ (.slice a4 fb.length c4) a5 c5 w5 HB5.out HLIM.out.1 (fun hne => bytes_lt HB5.out hne) HI5.out HLIM.out.2)
      unfold rpV rpL at CR
      dsimp only at CR
      go_wp2_with fail
      refine CR.out.mono ?_
      rintro e w6 ⟨x6, rfl, hx6, hn6, hc6⟩
      have HE : Hid (HandP X w0 w z q p res (.returned (.tuple #[x6, .int .i64 (penOut (repPen ⟨fe, fb, fi, fr, fw⟩)).2])) w6) := Lib.hid (by
        rw [HR.out]
        exact ⟨x6, rfl, hx6, fun k hk => Nat.le_trans HS5.out (hn6 k hk), HO5.out.keep0 hc6, HK5.out.trans (HO5.out.kp hc6)⟩)
      clear hx6 hn6 hc6 CR q0 q1 q2 q3 q4
      go_wp2
      go_ret2
      exact HE.out
    · rw [if_pos hz2] at HR
      have qb : (fc != 0) = true := by simp [hz2]
      have HE : Hid (HandP X w0 w z q p res (.returned (.tuple #[.slice none 0 0, .int .i64 fc])) w5) := Lib.hid (by
        rw [HR.out]
        exact ⟨_, rfl, BytesAt.nil _, by simp [Value.ownBlock], HO5.out, HK5.out⟩)
      clear hz2
      go_upto_region 7 with (fail)
      rw [← HW5.out]
      go_wp2
      go_ret2
      exact HE.out
  · rw [if_pos hz] at HR
    have qb : (dc != 0) = true := by simp [hz]
    have HE : Hid (HandP X w0 w z q p res (.returned (.tuple #[.slice none 0 0, .int .i64 dc])) w3) := Lib.hid (by
      rw [HR.out]
      exact ⟨_, rfl, BytesAt.nil _, by simp [Value.ownBlock], HH.out.keep0 HC3.out, HKX.out⟩)
    clear hz
    go_upto_region 4 with (fail)
    rw [← HW3.out]
    go_wp2
    go_ret2
    exact HE.out
end Go.Proofs.YtdkhmfcfihbjeaaGreatDoor.W

/- ServerKnown: the walk. -/
namespace Go.Proofs.YtdkhmfcfihbjeaaGreatDoor.W
open Go.RowKit
set_option linter.unusedVariables false
set_option linter.unusedSimpArgs false

structure Known20 where
  t0 : Sto
  t1 : Sto
  d : DS
  fmt : (DS.new 17).format = ((0, some t0), d)
  lim0 : 1 ≤ t0.s.d.n ∧ t0.s.d.ops ≤ 800000000 ∧ t0.s.d.since.length ≤ 800000
  lim1 : 1 ≤ t1.s.d.n ∧ t1.s.d.ops ≤ 800000000 ∧ t1.s.d.since.length ≤ 800000
  run1 : t0.run ⟨2, ⟨0, 0, 0, 0⟩, []⟩ = ((⟨15, [], [], 0, false⟩, 0), t0)
  run2 : t0.run ⟨6, ⟨0, 0, 0, 0⟩, []⟩ = ((⟨0, [], [], 0, false⟩, 0), t1)
  run3 : t1.run ⟨2, ⟨0, 0, 0, 0⟩, []⟩ = ((⟨6, [], [], 0, false⟩, 0), t1)
  run4 : t1.run ⟨99, ⟨0, 0, 0, 0⟩, []⟩ = ((⟨1, [], [], 0, false⟩, 0), t1)
  hand : handleR t1 [1] = (([], 2), t1)
  handl : (t1.run (reqDec [1]).1).1.1.b.length ≤ 900000 ∧ (t1.run (reqDec [1]).1).1.1.ids.length ≤ 65535
theorem reqDec_one : reqDec [1] = (noRq, 2) := by kernel_rfl
theorem known20_is : Nonempty Known20 := by
  obtain ⟨t, d, h1, h2, h3, h4, h5, h6⟩ := Keep.new 17 (by omega)
  have hm : ¬ mayId ⟨0, 0, 0, 0⟩ = false := by decide
  obtain ⟨s1, s2, s3, s4⟩ := h2.sets
  have hr : t.s.rows.length ≤ 20 := by have := h2.kept.full.1; omega
  have hf := step_far t ⟨6, ⟨0, 0, 0, 0⟩, []⟩ hr
  have hn' := hf.n
  have ho' := hf.ops
  rw [step6] at hn' ho'
  dsimp only at hn' ho'
  have hsince : t.setWhole.2.s.d.since.length = 0 := by rw [s2.since]; rfl
  have hsince0 : t.s.d.since.length = 0 := by rw [h2.since]; rfl
  refine ⟨⟨t, t.setWhole.2, d, h1, ⟨by omega, by omega, by omega⟩, ⟨by omega, by omega, by omega⟩, ?_, ?_, ?_, ?_, ?_, ?_⟩⟩
  · rw [h2.run, h2.gets, if_neg hm, h6]
    rfl
  · rw [h2.run, step6, s1]
    rfl
  · rw [s2.run, s2.gets, if_neg hm, s3]
    rfl
  · rw [s2.run, step0 _ _ (.inr (by decide))]
    rfl
  · unfold handleR
    rw [reqDec_one, if_pos (by decide)]
  · rw [reqDec_one, s2.run, step0 _ _ (.inl (by decide))]
    exact ⟨by simp [errRp], by simp [errRp]⟩
set_option maxHeartbeats 4000000 in
set_option maxRecDepth 100000 in
theorem stopenX_nil (w : World) : Calls Tryz.prog 40 #[.pointer none] w fun e w' => e = .returned (.tuple #[.pointer none, .int .i64 1]) ∧ w = w' := by
  go_enter Tryz.func40, Tryz.ntmps40
  go_wp2
  go_ret2
  exact ⟨rfl, rfl⟩
set_option maxHeartbeats 4000000 in
set_option maxRecDepth 100000 in
theorem svopen_nil (w : World) : Calls Tryz.prog 15 #[.pointer none] w fun e w' => e = .returned (.tuple #[.pointer none, .int .i64 1]) ∧ w = w' := by
  have CO := Lib.hid (stopenX_nil w)
  go_enter Tryz.func15, Tryz.ntmps15
  go_wp2_with fail
  refine CO.out.mono ?_
  rintro e w' ⟨rfl, hq⟩
  subst hq
  go_wp2
  go_ret2
  exact ⟨rfl, rfl⟩
theorem OwnS.blk {X : List Nat} {w0 w : World} {z q p : Nat} {t : Sto} {w2 : World} {cs : Array Value} {ty : TypeId} (h : OwnS X w0 w z q p t) (hw : w2 = w.alloc (.cells cs ty)) : OwnS (w.heap.size :: X) w0 w2 z q p t ∧ w2.heap[w.heap.size]? = some (.cells cs ty (0, 0)) ∧ (∀ x ∈ X, w2.heap[x]? = w.heap[x]?) := by
  subst hw
  have hc : Chg [] w (w.alloc (.cells cs ty)) := (Chg.refl _ _).alloc _
  have hb := heap_alloc_new w (.cells cs ty)
  refine ⟨h.add hc (fun x hx => ?_), hb, fun x hx => hc.block x (h.gl x hx) (by simp)⟩
  rcases List.mem_cons.1 hx with rfl | hx
  · exact ⟨.inr (Nat.le_refl _), blk_lt hb⟩
  · exact ⟨.inl hx, Nat.lt_of_lt_of_le (h.gl x hx) hc.size⟩
theorem one_byteX (w : World) : BytesAt (w.alloc (.cells #[.int .u8 1] 5)) (.slice (some ⟨w.heap.size, 0, none⟩) 1 1) [1] :=
  one_byte6 w 1
set_option maxHeartbeats 16000000 in
set_option maxRecDepth 100000 in
theorem known20_any (w : World) : Calls Tryz.prog 6 #[] w fun e w' => e = .returned (.bool true) ∧ Chg [] w w' := by
  obtain ⟨⟨t0, t1, d, hfm, hl0, hl1, hr1, hr2, hr3, hr4, hh, hhl⟩⟩ := known20_is
  have CW := Lib.hid (awake20_any w)
  have HFM := Lib.hid hfm
  have HR1 := Lib.hid hr1
  have HR2 := Lib.hid hr2
  have HR3 := Lib.hid hr3
  have HR4 := Lib.hid hr4
  have HH := Lib.hid hh
  have HHL := Lib.hid hhl
  have HL0 := Lib.hid hl0
  have HL1 := Lib.hid hl1
  clear hfm hl0 hl1 hr1 hr2 hr3 hr4 hh hhl
  go_enter Tryz.func6, Tryz.ntmps6
  go_wp2_with fail
  refine CW.out.mono ?_
  rintro e w1 ⟨rfl, hc1⟩
  have HC1 := Lib.hid hc1
  have CN := Lib.hid (own_newS (Chg.refl [] w1) 17 (by omega) (by omega) HFM.out)
  clear hc1 CW
  go_wp2_with fail
  refine CN.out.mono ?_
  rintro e w3 ⟨z, q, p, rfl, ho3⟩
  have HO3 := Lib.hid ho3
  have CO := Lib.hid (svopen_nil w3)
  clear ho3 CN
  go_wp2_with fail
  refine CO.out.mono ?_
  rintro e w' ⟨rfl, hq⟩
  subst hq
  have C1 := Lib.hid (own_doI HO3.out ⟨2, ⟨0, 0, 0, 0⟩, []⟩ (.slice none 0 0) HR1.out (by decide) (BytesAt.nil _) (by simp) (by simp) HL0.out.1 HL0.out.2.1 HL0.out.2.2)
  dsimp only at C1
  clear CO
  go_wp2_with fail
  refine C1.out.mono ?_
  rintro e w5 ⟨a1, c1, a2, c2, he, -, -, -, ho5, -⟩
  dsimp only at he
  subst he
  obtain ⟨w6, hw6⟩ : ∃ w6, w6 = w5.alloc (.cells #[.int .i64 15, .slice a1 0 c1, .slice a2 0 c2, .int .i64 0, .bool false] 32) := ⟨_, rfl⟩
  obtain ⟨ho6, hb6, -⟩ := ho5.blk hw6
  have HO6 := Lib.hid ho6
  have HA6 := Lib.hid hb6
  have HW6 := Lib.hid hw6
  obtain ⟨A, hA⟩ : ∃ A, A = w5.heap.size := ⟨_, rfl⟩
  have C2 := Lib.hid (own_doI HO6.out ⟨6, ⟨0, 0, 0, 0⟩, []⟩ (.slice none 0 0) HR2.out (by decide) (BytesAt.nil _) (by simp) (by simp) HL0.out.1 HL0.out.2.1 HL0.out.2.2)
  dsimp only at C2
  clear ho5 ho6 hb6 hw6 C1
  go_wp2_with fail
  rw [← HW6.out, ← hA]
  rw [← hA] at C2 HA6 HO6
  refine C2.out.mono ?_
  rintro e w7 ⟨a3, c3, a4, c4, he, -, -, -, ho7, hk7⟩
  dsimp only at he
  subst he
  have HO7 := Lib.hid ho7
  have HA7 := Lib.hid ((hk7 A (by simp)).trans HA6.out)
  have C3 := Lib.hid (own_doI HO7.out ⟨2, ⟨0, 0, 0, 0⟩, []⟩ (.slice none 0 0) HR3.out (by decide) (BytesAt.nil _) (by simp) (by simp) HL1.out.1 HL1.out.2.1 HL1.out.2.2)
  dsimp only at C3
  clear ho7 hk7 C2 hA
  go_wp2_with fail
  refine C3.out.mono ?_
  rintro e w8 ⟨a5, c5, a6, c6, he, -, -, -, ho8, hk8⟩
  dsimp only at he
  subst he
  obtain ⟨w9, hw9⟩ : ∃ w9, w9 = w8.alloc (.cells #[.int .i64 6, .slice a5 0 c5, .slice a6 0 c6, .int .i64 0, .bool false] 32) := ⟨_, rfl⟩
  obtain ⟨ho9, hb9, hk9⟩ := ho8.blk hw9
  have HO9 := Lib.hid ho9
  have HA9 := Lib.hid ((hk9 A (by simp)).trans ((hk8 A (by simp)).trans HA7.out))
  have HB9 := Lib.hid hb9
  have HW9 := Lib.hid hw9
  obtain ⟨B, hB⟩ : ∃ B, B = w8.heap.size := ⟨_, rfl⟩
  have C4 := Lib.hid (own_doI HO9.out ⟨99, ⟨0, 0, 0, 0⟩, []⟩ (.slice none 0 0) HR4.out (by decide) (BytesAt.nil _) (by simp) (by simp) HL1.out.1 HL1.out.2.1 HL1.out.2.2)
  dsimp only at C4
  clear ho8 ho9 hb9 hw9 hk8 hk9 C3
  go_wp2_with fail
  rw [← HW9.out, ← hB]
  rw [← hB] at C4 HB9 HO9
  refine C4.out.mono ?_
  rintro e wa ⟨a7, c7, a8, c8, he, -, -, -, hoa, hka⟩
  dsimp only at he
  subst he
  obtain ⟨wb, hwb⟩ : ∃ wb, wb = wa.alloc (.cells #[.int .i64 1, .slice a7 0 c7, .slice a8 0 c8, .int .i64 0, .bool false] 32) := ⟨_, rfl⟩
  obtain ⟨hob, hbb, hkb⟩ := hoa.blk hwb
  have HAb := Lib.hid ((hkb A (by simp)).trans ((hka A (by simp)).trans HA9.out))
  have HBb := Lib.hid ((hkb B (by simp)).trans ((hka B (by simp)).trans HB9.out))
  obtain ⟨C, hC⟩ : ∃ C, C = wa.heap.size := ⟨_, rfl⟩
  rw [← hC] at hob hbb
  have hcd : Chg [] wb (wb.alloc (.cells #[.int .u8 1] 5)) := (Chg.refl _ _).alloc _
  have HOc := Lib.hid (hob.keep0 hcd)
  have HAc := Lib.hid (hcd.keep HAb.out (by simp))
  have HBc := Lib.hid (hcd.keep HBb.out (by simp))
  have HCc := Lib.hid (hcd.keep hbb (by simp))
  have HWb := Lib.hid hwb
  have C5 := Lib.hid (own_handle HOc.out _ [1] (one_byteX wb) (by simp) HL1.out.1 HL1.out.2.1 HL1.out.2.2 HHL.out)
  rw [HH.out] at C5
  clear hoa hob hbb hwb hka hkb hcd C4 hB
  go_upto_region 11 with (fail)
  rw [← HWb.out, ← hC]
  clear hC
  go_wp2_with fail
  refine C5.out.mono ?_
  rintro e we ⟨ve, rfl, -, -, hoe, hke⟩
  have m0 := blk_cell ((hke A (by simp)).trans HAc.out) 0 _ rfl
  have m1 := blk_cell ((hke B (by simp)).trans HBc.out) 0 _ rfl
  have m2 := blk_cell ((hke C (by simp)).trans HCc.out) 0 _ rfl
  have HE := Lib.hid (HC1.out.trans hoe.chg (by simp))
  clear hoe hke C5
  go_wp2_with fail
  go_ret
  exact ⟨rfl, HE.out⟩
end Go.Proofs.YtdkhmfcfihbjeaaGreatDoor.W

/- ServerKnown: what the row asks. -/
namespace Go.Proofs.YtdkhmfcfihbjeaaGreatDoor.serverKnown
open Go.RowKit Go.ChangeShapes Go.WideShapes
theorem walk (X : World) : Calls Tryz.prog 6 #[] X fun e w' => e = .returned (.bool true) ∧ Below X.heap.size X w' :=
  (Go.Proofs.YtdkhmfcfihbjeaaGreatDoor.W.known20_any X).mono fun e w' ⟨h1, h2⟩ => ⟨h1, h2.below (by simp)⟩
end Go.Proofs.YtdkhmfcfihbjeaaGreatDoor.serverKnown
