/- A tree in memory; package tree: made, walk, Look, place. -/
import Derived.Test.YtaiihklfeoeoeaaTP
import Derived.Test.YtaiihklfeoeoeaaMapF
import Derived.Test.YtaiihklfeoeoeaaNMJoin
namespace Go.Proofs.Ytaiihklfeoeoeaa.W
open Go.RowKit
open Go.Proofs.Ytaiihklfeoeoeaa.NM
set_option linter.unusedVariables false
set_option linter.unusedSimpArgs false

/-- What a number names. -/
def thOf (T : PT) (a : Nat) : Th := if a = 1 then rootTh else (tGet T a).getD rootTh
theorem thOf_mem {T : PT} (h : TOk T) {x : Th} (hx : x ∈ T) : thOf T x.ino = x := by
  have := (h.nums x hx).1
  unfold thOf
  rw [if_neg (by omega), get_mem h hx]; rfl
theorem isDir_thOf {T : PT} (a : Nat) (h : tHas T a = true) : tIsDir T a = (thOf T a).isDir := by
  unfold tIsDir thOf
  by_cases e : a = 1
  · subst e; rfl
  · rw [if_neg e]
    have e' : (a == 1) = false := by simpa using e
    rw [e', Bool.false_or]
    unfold tHas at h
    rw [e', Bool.false_or] at h
    obtain ⟨x, hx⟩ := Option.isSome_iff_exists.1 h
    rw [hx]; rfl
def pth (b : Nat) : Value := .pointer (some ⟨b, 0, none⟩)
def φT (T : PT) (f : Nat → Nat) : Int → Option Value := fun a => if 0 ≤ a ∧ tHas T a.toNat = true then some (pth (f a.toNat)) else none
def φK (T : PT) (d : Nat) : List UInt8 → Option Value := fun s => (tKidOf T d s).map (fun x => .int .i64 (x.ino : Int))
def nKids (T : PT) (d : Nat) : Nat := (T.filter (fun x => x.dir == d)).length
def thCells (x : Th) (m : Option Nat) : Array Value := #[.int .i64 (x.dir : Int), .string ⟨x.name.toArray⟩, .bool x.isDir, .map m]
/-- A tree in block t: bm: its things' map; f: where each thing lies; g: where what is in a directory lies. -/
structure TreeOk (w : World) (t : Nat) (S : List Nat) (T : PT) (bm : Nat) (f g : Nat → Nat) : Prop where
  head : w.heap[t]? = some (.cells #[.map (some bm)] 63 (0, 0))
  things : MapF 3 klI okI w bm (φT T f) (T.length + 1)
  each : ∀ a, tHas T a = true → w.heap[f a]? = some (.cells (thCells (thOf T a) (if tIsDir T a then some (g a) else none)) 69 (0, 0))
  ins : ∀ a, tIsDir T a = true → MapF 9 klS okS w (g a) (φK T a) (nKids T a)
  finj : ∀ a b, tHas T a = true → tHas T b = true → f a = f b → a = b
  ginj : ∀ a b, tIsDir T a = true → tIsDir T b = true → g a = g b → a = b
  gm : ∀ a, tIsDir T a = true → g a ≠ bm
  mem : t ∈ S ∧ bm ∈ S ∧ (∀ a, tHas T a = true → f a ∈ S) ∧ ∀ a, tIsDir T a = true → g a ∈ S
  lim : ∀ x ∈ S, x < w.heap.size
  ok : TOk T
def TreeAt (w : World) (t : Nat) (S : List Nat) (T : PT) : Prop := ∃ bm f g, TreeOk w t S T bm f g
theorem TreeOk.keep {w w' : World} {t : Nat} {S U : List Nat} {T : PT} {bm : Nat} {f g : Nat → Nat} (h : TreeOk w t S T bm f g) (hc : Chg U w w') (ha : ∀ x ∈ S, x ∉ U) : TreeOk w' t S T bm f g where
  head := hc.keep h.head (ha _ h.mem.1)
  things := h.things.chg hc (ha _ h.mem.2.1)
  each a ha' := hc.keep (h.each a ha') (ha _ (h.mem.2.2.1 a ha'))
  ins a ha' := (h.ins a ha').chg hc (ha _ (h.mem.2.2.2 a ha'))
  finj := h.finj
  ginj := h.ginj
  gm := h.gm
  mem := h.mem
  lim x hx := Nat.lt_of_lt_of_le (h.lim x hx) hc.size
  ok := h.ok
theorem TreeAt.keep {w w' : World} {t : Nat} {S U : List Nat} {T : PT} (h : TreeAt w t S T) (hc : Chg U w w') (ha : ∀ x ∈ S, x ∉ U) : TreeAt w' t S T := by
  obtain ⟨bm, f, g, h⟩ := h
  exact ⟨bm, f, g, h.keep hc ha⟩
theorem TreeAt.keep0 {w w' : World} {t : Nat} {S : List Nat} {T : PT} (h : TreeAt w t S T) (hc : Chg [] w w') : TreeAt w' t S T := h.keep hc (by simp)
theorem TreeAt.ok {w : World} {t : Nat} {S : List Nat} {T : PT} (h : TreeAt w t S T) : TOk T := by obtain ⟨bm, f, g, h⟩ := h; exact h.ok
theorem TreeAt.lim {w : World} {t : Nat} {S : List Nat} {T : PT} (h : TreeAt w t S T) : ∀ x ∈ S, x < w.heap.size := by obtain ⟨bm, f, g, h⟩ := h; exact h.lim
/-- What doing with a tree leaves. -/
def TDid (w w' : World) (t : Nat) (S : List Nat) (T : PT) : Prop := ∃ S', TreeAt w' t S' T ∧ (∀ x ∈ S', x ∈ S ∨ w.heap.size ≤ x) ∧ Chg S w w'
theorem TDid.same {w w' : World} {t : Nat} {S : List Nat} {T : PT} (h : TreeAt w t S T) (hc : Chg [] w w') : TDid w w' t S T := ⟨S, h.keep0 hc, fun x hx => .inl hx, hc.mono (by simp)⟩
theorem TDid.trans {w w1 w2 : World} {t : Nat} {S : List Nat} {T1 T2 : PT} (h1 : TDid w w1 t S T1) (h2 : ∀ S1, TreeAt w1 t S1 T1 → TDid w1 w2 t S1 T2) : TDid w w2 t S T2 := by
  obtain ⟨S1, a1, a2, a3⟩ := h1
  obtain ⟨S2, b1, b2, b3⟩ := h2 S1 a1
  refine ⟨S2, b1, fun x hx => ?_, a3.trans b3 a2⟩
  rcases b2 x hx with h | h
  · exact a2 x h
  · exact .inr (Nat.le_trans a3.size h)

theorem zeroPT (w : World) : (zeroValue 59).run Try.prog w = .ok (.pointer none) w := by kernel_rfl
theorem zeroInt (w : World) : (zeroValue 3).run Try.prog w = .ok (.int .i64 0) w := by kernel_rfl
theorem i64_ok {a : Int} (h1 : -9223372036854775808 ≤ a) (h2 : a ≤ 9223372036854775807) : okI a := by
  unfold okI; exact WalkArith.wf_i64 ⟨h1, h2⟩
theorem φT_has {T : PT} {f : Nat → Nat} {a : Nat} (h : tHas T a = true) : φT T f (a : Int) = some (pth (f a)) := by
  unfold φT; rw [if_pos ⟨by omega, by simpa using h⟩]; rfl
/-- 't.things[a]'. -/
theorem TreeOk.at {w : World} {t : Nat} {S : List Nat} {T : PT} {bm : Nat} {f g : Nat → Nat} (h : TreeOk w t S T bm f g) {a : Nat} (ha : tHas T a = true) :
    (Instr.lookup 61 (.map (some bm)) (.int .i64 (a : Int)) false).run Try.prog w = .ok (.pointer (some ⟨f a, 0, none⟩)) w := by
  have hs := has_small h.ok ha
  have := h.things.look keInt Try.underlying61 zeroPT (x := (a : Int)) (i64_ok (by omega) (by omega))
  rw [φT_has ha] at this
  exact this
/-- 'x.in[s]'. -/
theorem TreeOk.kid {w : World} {t : Nat} {S : List Nat} {T : PT} {bm : Nat} {f g : Nat → Nat} (h : TreeOk w t S T bm f g) {a : Nat} (ha : tIsDir T a = true) (s : List UInt8) (hs : s.length ≤ maxLen) :
    (Instr.lookup 67 (.map (some (g a))) (.string ⟨s.toArray⟩) true).run Try.prog w = .ok (.tuple #[.int .i64 (tKid T a s : Int), .bool (tKidOf T a s).isSome]) w := by
  have := (h.ins a ha).lookOk keStr Try.underlying67 zeroInt (x := s) hs
  have e1 : (φK T a s).getD (.int .i64 0) = .int .i64 (tKid T a s : Int) := by
    unfold φK tKid
    cases tKidOf T a s <;> rfl
  have e2 : (φK T a s).isSome = (tKidOf T a s).isSome := by
    unfold φK
    cases tKidOf T a s <;> rfl
  rw [e1, e2] at this
  exact this
theorem TreeOk.cells {w : World} {t : Nat} {S : List Nat} {T : PT} {bm : Nat} {f g : Nat → Nat} (h : TreeOk w t S T bm f g) {a : Nat} (ha : tHas T a = true) :
    w.cell? ⟨f a, 0, none⟩ = some (.int .i64 ((thOf T a).dir : Int)) ∧ w.cell? ⟨f a, 1, none⟩ = some (.string ⟨(thOf T a).name.toArray⟩) ∧ w.cell? ⟨f a, 2, none⟩ = some (.bool (tIsDir T a)) ∧ w.cell? ⟨f a, 3, none⟩ = some (.map (if tIsDir T a then some (g a) else none)) :=
  ⟨blk_cell (h.each a ha) 0 _ rfl, blk_cell (h.each a ha) 1 _ rfl, blk_cell (h.each a ha) 2 _ (by rw [isDir_thOf a ha]; rfl), blk_cell (h.each a ha) 3 _ rfl⟩

set_option maxHeartbeats 2000000 in
set_option maxRecDepth 100000 in
theorem tmade_any (t : Nat) (S : List Nat) (T : PT) (w : World) (h : TreeAt w t S T) : Calls Try.prog 25 #[.pointer (some ⟨t, 0, none⟩)] w fun e w' => e = .returned (.bool true) ∧ w = w' := by
  obtain ⟨bm, f, g, H⟩ := h
  have c0 := blk_cell H.head 0 _ rfl
  clear H
  have hq : ∀ w, (binOp .neq 61 (.map (some bm)) (.map none)).run Try.prog w = .ok (.bool true) w := fun w => run_neq_map_nil w 61 3 59 (some bm) Try.underlying61
  go_enter Try.func25, Try.ntmps25
  go_wp2
  go_ret
  exact ⟨rfl, rfl⟩

def WalkPost (w : World) (r : Nat × Int) (e : Ending) (w' : World) : Prop := e = .returned (.tuple #[.int .i64 (r.1 : Int), .int .i64 r.2]) ∧ w = w'
theorem walk_cons {T : PT} {s : List UInt8} {l : List (List UInt8)} {a : Nat} : tWalk T (s :: l) a = if tIsDir T a = false then (0, 10) else if tKid T a s = 0 then (0, 6) else tWalk T l (tKid T a s) := rfl

set_option maxHeartbeats 4000000 in
set_option maxRecDepth 100000 in
theorem twalk_any (t : Nat) (S : List Nat) (T : PT) (v : Value) (l : List (List UInt8)) (w : World) (h : TreeAt w t S T) (hv : IsStrs w v l) (hl : l.length ≤ 1000) (hn : ∀ s ∈ l, s.length ≤ 1000) :
    Calls Try.prog 37 #[.pointer (some ⟨t, 0, none⟩), v] w (WalkPost w (tWalk T l 1)) := by
  obtain ⟨bm, f, g, H⟩ := h
  obtain ⟨va, vc, rfl, hlc, hrow⟩ := hv
  have c0 := blk_cell H.head 0 _ rfl
  have HH := Lib.hid H
  have HR := Lib.hid hrow
  have HN := Lib.hid hn
  clear H hrow hn
  go_enter Try.func37, Try.ntmps37
  go_wp2
  go_loop [6, 14] (fun v6 v14 => ∃ (k a : Nat), v14 = .int .i64 k ∧ v6 = .int .i64 a ∧ k ≤ l.length ∧ a ≤ 128 ∧ Hid (tHas T a = true) ∧ Hid (tWalk T l 1 = tWalk T (l.drop k) a)) (fun _ v14 => l.length - (intOf v14).toNat)
  case atStart => exact ⟨0, 1, rfl, rfl, by omega, by omega, Lib.hid rfl, Lib.hid rfl⟩
  case round =>
    obtain ⟨k, a, rfl, rfl, hk, ha, HA, HW⟩ := hrel
    by_cases hlt : k < l.length
    · obtain ⟨b, off, rfl, hb, hcs⟩ : ∃ b off, va = some ⟨b, off, none⟩ ∧ b < w.heap.size ∧ ∀ i, i < l.length → w.cell? ⟨b, off + i, none⟩ = some (.string (mk (l.getD i []))) := by
        rcases HR.out with h0 | h0
        · omega
        · exact h0
      have ck := hcs k hlt
      have HD : Hid (l.drop k = l.getD k [] :: l.drop (k + 1)) := Lib.hid (by
        rw [List.drop_eq_getElem_cons hlt]
        simp [List.getD_eq_getElem?_getD, List.getElem?_eq_getElem hlt])
      have hsl : (l.getD k []).length ≤ maxLen := by
        have := HN.out (l.getD k []) (by simp [List.getD_eq_getElem?_getD, List.getElem?_eq_getElem hlt])
        unfold maxLen; omega
      generalize hs : l.getD k [] = s at ck hsl HD
      clear hs hcs
      have hlk := HH.out.at HA.out
      obtain ⟨d0, d1, d2, d3⟩ := HH.out.cells HA.out
      have HX : Hid (tWalk T l 1 = if tIsDir T a = false then (0, 10) else if tKid T a s = 0 then (0, 6) else tWalk T (l.drop (k + 1)) (tKid T a s)) := Lib.hid (by rw [HW.out, HD.out, walk_cons])
      clear d0 d1
      cases hd : tIsDir T a with
      | false =>
        have HE : Hid (tWalk T l 1 = (0, 10)) := Lib.hid (by rw [HX.out, if_pos hd])
        rw [hd] at d2 d3
        clear hd
        go_wp2
        go_ret2
        rw [HE.out]
        exact ⟨rfl, rfl⟩
      | true =>
        have hkd := HH.out.kid hd s hsl
        rw [hd] at d2 d3
        have d3' : w.cell? ⟨f a, 3, none⟩ = some (.map (some (g a))) := d3
        clear d3
        have HX' : Hid (tWalk T l 1 = if tKid T a s = 0 then (0, 6) else tWalk T (l.drop (k + 1)) (tKid T a s)) := Lib.hid (by rw [HX.out, if_neg (by rw [hd]; simp)])
        clear hd
        cases ho : tKidOf T a s with
        | none =>
          have HE : Hid (tWalk T l 1 = (0, 6)) := Lib.hid (by rw [HX'.out, if_pos ((kid_zero HH.out.ok).2 ho)])
          rw [ho] at hkd
          clear ho
          go_wp2
          go_ret2
          rw [HE.out]
          exact ⟨rfl, rfl⟩
        | some x =>
          have hk0 : tKid T a s ≠ 0 := fun h0 => by rw [(kid_zero HH.out.ok).1 h0] at ho; cases ho
          have HE : Hid (tWalk T l 1 = tWalk T (l.drop (k + 1)) (tKid T a s)) := Lib.hid (by rw [HX'.out, if_neg hk0])
          have HA2 := Lib.hid (kid_has hk0)
          have hks := has_small HH.out.ok HA2.out
          rw [ho] at hkd
          clear ho hk0
          generalize tKid T a s = c at *
          go_wp2
          go_round
          case rel => exact ⟨k + 1, c, by go_num, rfl, by omega, by omega, HA2, HE⟩
          case measure => simp [intOf]; omega
    · have HE : Hid (tWalk T l 1 = (a, 0)) := Lib.hid (by
        rw [HW.out, List.drop_of_length_le (by omega)]; rfl)
      go_wp2
      go_ret2
      rw [HE.out]
      exact ⟨rfl, rfl⟩
end Go.Proofs.Ytaiihklfeoeoeaa.W
