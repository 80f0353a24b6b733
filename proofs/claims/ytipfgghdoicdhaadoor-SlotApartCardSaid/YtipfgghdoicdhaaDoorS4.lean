/- Package slot: a row is set; Put. -/
import Derived.Test.YtipfgghdoicdhaaDoorS3
namespace Go.Proofs.YtipfgghdoicdhaaDoor.W
open Go.RowKit
set_option linter.unusedVariables false
set_option linter.unusedSimpArgs false

theorem Chg.grownBy {g : Nat} {w w' : World} (h : Chg [g] w w') : w.grownBy w' (some g) := ⟨h.os, h.tape, h.output, h.size, fun k hk hn => h.block k hk (by simpa using fun e : k = g => hn (by rw [e]))⟩
theorem SlotsOk.row {w : World} {q p : Nat} {S U : List Nat} {s : SS} {rv : Value} {R : List (SRow × Value)} (h : SlotsOk w q p S U s rv R) : w.ownsRow 0 89 3 rv R.length (rcells R) := h.obj.rows _ (List.mem_singleton.2 rfl)
theorem SlotsOk.there {w : World} {q p : Nat} {S U : List Nat} {s : SS} {rv : Value} {R : List (SRow × Value)} (h : SlotsOk w q p S U s rv R) (i : Nat) (hi : i < s.rows.length) (g cap : Nat) (hrv : rv = .slice (some ⟨g, 0, none⟩) s.rows.length cap) : w.there g (i * 3) 3 := by
  have hl := h.len
  rcases h.row.2 with ⟨h1, h2⟩ | ⟨g', cap', cur, h1, _, hb, h3, h4, h5, _⟩
  · omega
  · rw [hrv] at h1
    obtain ⟨rfl, -, rfl⟩ : g = g' ∧ s.rows.length = R.length ∧ cap = cap' := by simpa using h1
    intro j hj
    have hlt : i * 3 + j < cur.size := by
      have : (i + 1) * 3 ≤ cap * 3 := Nat.mul_le_mul_right _ (by omega)
      omega
    exact ⟨by rw [blk_cell hb _ _ (Array.getElem?_eq_getElem hlt)]; rfl, blk_frozen hb _⟩
theorem SlotsOk.setRow {w : World} {q p : Nat} {S U : List Nat} {s : SS} {rv : Value} {R : List (SRow × Value)} (h : SlotsOk w q p S U s rv R) (i : Nat) (hi : i < s.rows.length) (g cap : Nat) (hrv : rv = .slice (some ⟨g, 0, none⟩) s.rows.length cap)
    (r : SRow) (kv : Value) (hk : BytesAt w kv r.key) (hkU : ∀ k, kv.ownBlock = some k → k < w.heap.size ∧ k ∉ U) (hr : r.n ≤ 448 ∧ r.key.length ≤ 40) :
    Sid w (w.setCells g (i * 3) [.bool r.used, .int .i64 (r.n : Int), kv]) q p U { s with rows := s.rows.set i r } := by
  have hl := h.len
  have hC : Chg [g] w (w.setCells g (i * 3) [.bool r.used, .int .i64 (r.n : Int), kv]) := (Chg.refl _ _).setCells (.inl (by simp)) _
  have hob : rv.ownBlock = some g := by rw [hrv]; rfl
  have hgb : g ∈ blks q [rowD rv R] := blks_row (r := rowD rv R) (List.mem_singleton.2 rfl) hob
  have hgU := h.uB g hgb
  have hrow := h.row
  have hR' : (rowD rv (R.set i (r, kv))).At (w.setCells g (i * 3) [.bool r.used, .int .i64 (r.n : Int), kv]) := by
    show (w.setCells g (i * 3) [.bool r.used, .int .i64 (r.n : Int), kv]).ownsRow 0 89 3 rv (R.set i (r, kv)).length (rcells (R.set i (r, kv)))
    rw [List.length_set, rcells_set R i _ (by omega)]
    rw [hrv, ← hl] at hrow ⊢
    exact row_set (row_set (row_set hrow (i * 3) _ (by omega)) (i * 3 + 1) _ (by omega)) (i * 3 + 2) _ (by omega)
  have hgr := ObjAt.grow (a := []) (b := []) h.obj (r' := rowD rv (R.set i (r, kv))) (by rw [show (rowD rv R).v.ownBlock = some g from hob]; exact hC.grownBy) hR' (fun k hk => .inl hk)
  generalize w.setCells g (i * 3) [.bool r.used, .int .i64 (r.n : Int), kv] = W at *
  have hgu : ∀ x ∈ [g], x ∈ U := fun x hx => (List.mem_singleton.1 hx) ▸ hgU
  have hnot : ∀ k, k ∉ U → k ∉ [g] := fun k hk hm => hk (hgu k hm)
  refine ⟨U, ⟨S, rv, R.set i (r, kv), hgr.1, h.disk.keep hC (fun x hx hm => ?_), ?_, h.sep, fun x hx => ?_, h.uS, h.uB, fun x hx => Nat.lt_of_lt_of_le (h.uL x hx) hC.size, ⟨?_, fun x hx => ?_⟩⟩, fun x hx => .inl hx, hC.mono (fun x hx => .inl (hgu x hx))⟩
  · exact h.sep _ hgb (by rw [← List.mem_singleton.1 hm]; exact hx)
  · rw [List.map_set, h.rows]
  · rcases List.mem_or_eq_of_mem_set hx with hx | rfl
    · obtain ⟨k1, k2⟩ := h.keys x hx
      exact ⟨k1.chg hC (fun k hk => hnot k (k2 k hk).2), fun g' hg' => ⟨Nat.lt_of_lt_of_le (k2 g' hg').1 hC.size, (k2 g' hg').2⟩⟩
    · exact ⟨hk.chg hC (fun k hk => hnot k (hkU k hk).2), fun g' hg' => ⟨Nat.lt_of_lt_of_le (hkU g' hg').1 hC.size, (hkU g' hg').2⟩⟩
  · show s.first + 8 * (s.rows.set i r).length ≤ s.d.n
    rw [List.length_set]
    exact h.ok.room
  · rcases List.mem_or_eq_of_mem_set hx with hx | rfl
    · exact h.ok.rows x hx
    · exact hr

/-- The three steps of a head. -/
def h1 : List UInt8 × Int := penNum [] 0 1 1
def h2 (n : Nat) : List UInt8 × Int := penNum h1.1 h1.2 n 2
def h3 (n : Nat) (key : List UInt8) : List UInt8 × Int := penRaw (h2 n).1 (h2 n).2 key
theorem h1_eq : h1 = ([1], 0) := rfl
theorem h2_eq (n : Nat) (hn : n ≤ 448) : h2 n = ([1] ++ beBytes 2 n, 0) := by
  unfold h2
  rw [h1_eq]
  unfold penNum
  dsimp only
  rw [if_neg (by simp), if_neg (by omega)]
  unfold penAdd
  rw [if_neg (by simp), if_neg (by simp [beBytes_len]), Int.toNat_natCast]
theorem h3_eq (n : Nat) (key : List UInt8) (hn : n ≤ 448) (hk : key.length ≤ 40) : h3 n key = ([1] ++ beBytes 2 n ++ (beBytes 2 key.length ++ key), 0) := by
  unfold h3
  rw [h2_eq n hn]
  unfold penRaw
  rw [if_neg (by simp), if_neg (by omega)]
  unfold penAdd
  rw [if_neg (by simp), if_neg (by simp [beBytes_len]; omega)]
theorem head_h3 (n : Nat) (key : List UInt8) : headBytes n key = (h3 n key).1 := rfl
theorem headBytes_len (n : Nat) (key : List UInt8) (hn : n ≤ 448) (hk : key.length ≤ 40) : (headBytes n key).length = 5 + key.length := by
  rw [head_h3, h3_eq n key hn hk]
  simp [beBytes_len]; omega
theorem DS.lays_ok (d : DS) (pos : Nat) (b : List UInt8) : (d.lays pos b).2.n = d.n ∧ (d.lays pos b).2.ops ≤ d.ops + nsec b.length + 1 ∧ (d.lays pos b).2.since.length ≤ d.since.length + nsec b.length := DS.lay_ok _ _ _ _ _
end Go.Proofs.YtipfgghdoicdhaaDoor.W
