/- What the two regions of TokensPlays call, each over worlds that grow from one. -/
import Derived.Test.YtembgdjdljflhaaP9
import Derived.Test.YtembgdjdljflhaaSame
import Derived.Test.YtembgdjdljflhaaR5
namespace Go.Proofs.Ytembgdjdljflhaa
open Go.RowKit
set_option linter.unusedVariables false
set_option linter.unusedSimpArgs false

theorem bel_drewN' {B : Nat} {a w : World} (h : Below B a w) (n : Nat) : Below B a (w.drewN n) := ⟨h.os, h.tape, h.output, h.size, h.block⟩
theorem cellK {X Y : World} (hb : Hid (Below X.heap.size X Y)) {p : Addr} {v : Value} (h : X.cell? p = some v) : Y.cell? p = some v :=
  (hb.out.cell (p := p) (World.block_lt_of_cell? X p h)).trans h

theorem c_rows {w X : World} {tb : Nat} {l : List TRow} (h : TokS w X tb l) (Y : World) (hW : Below X.heap.size X Y) :
    Calls Try.prog 12 #[.pointer (some ⟨tb, 0, none⟩)] Y fun e w' => ∃ a c, e = .returned (.slice a l.length c) ∧ Hid (RowsAt w' w'.heap.size a l.length (fun i => l.getD i default)) ∧ Hid (Below X.heap.size X w') := by
  refine (rows_s (h.below hW)).mono ?_
  rintro e w' ⟨a, c, rfl, hr, ht, hb⟩
  exact ⟨a, c, rfl, hr, hW.trans (hb.mono hW.size)⟩
theorem c_rows0 {X : World} {tb base : Nat} {v : Value} {l : List TRow} (h : IsTok X tb v base l) (Y : World) (hW : Below X.heap.size X Y) :
    Calls Try.prog 12 #[.pointer (some ⟨tb, 0, none⟩)] Y fun e w' => ∃ a c, e = .returned (.slice a l.length c) ∧ Hid (RowsAt w' w'.heap.size a l.length (fun i => l.getD i default)) ∧ Hid (Below X.heap.size X w') := by
  refine (copy_any tb v base l Y (h.below hW)).mono ?_
  rintro e w' ⟨v', rfl, ho, hb⟩
  obtain ⟨a, c, rfl, hcap, hr⟩ := own_rows ho
  exact ⟨a, c, rfl, hr, hW.trans (hb.mono hW.size)⟩
theorem c_model {X : World} {l : List TRow} (hl : l.length ≤ 100000) (Y : World) (a : Option Addr) (c : Nat) (h1 : RowsAt Y Y.heap.size a l.length (fun i => l.getD i default)) (hW : Below X.heap.size X Y) :
    Calls Try.prog 20 #[.slice a l.length c] Y fun e w' => ∃ a c, e = .returned (.slice a l.length c) ∧ Hid (RowsAt w' w'.heap.size a l.length (fun i => l.getD i default)) ∧ Hid (Below X.heap.size X w') := by
  refine (model_any a c l Y h1 hl).mono ?_
  rintro e w' ⟨v', rfl, ho, hb⟩
  obtain ⟨a, c, rfl, _, hr⟩ := rown_rows ho
  exact ⟨a, c, rfl, hr, hW.trans (hb.mono hW.size)⟩
theorem c_samet {X : World} {l : List TRow} (hl : l.length ≤ 100000) {ar : Option Addr} {cr : Nat} (hR : RowsAt X X.heap.size ar l.length (fun i => l.getD i default)) (Y : World) (a : Option Addr) (c : Nat) (h1 : RowsAt Y Y.heap.size a l.length (fun i => l.getD i default)) (hW : Below X.heap.size X Y) :
    Calls Try.prog 19 #[.slice a l.length c, .slice ar l.length cr] Y fun e w' => e = .returned (.bool true) ∧ Hid (Below X.heap.size X w') := by
  refine (samet_any a ar c cr l Y h1 ?_ hl).mono ?_
  · rcases hR.below hW with h | ⟨g, h1, h2, h3⟩
    · exact .inl h
    · exact .inr ⟨g, h1, Nat.lt_of_lt_of_le h2 hW.size, h3⟩
  · rintro e w' ⟨rfl, n, rfl⟩
    exact ⟨rfl, bel_drewN' hW n⟩
theorem c_busy {w X : World} {tb : Nat} {l : List TRow} (h : TokS w X tb l) {n : Int} {z : Bool} (hz : z = has (fun r => r.i == n) l) (Y : World) (hW : Below X.heap.size X Y) :
    Calls Try.prog 13 #[.pointer (some ⟨tb, 0, none⟩), .int .i64 n] Y fun e w' => e = .returned (.bool z) ∧ Hid (Below X.heap.size X w') := by
  refine (busy_s (h.below hW) n).mono ?_
  rintro e w' ⟨rfl, ht, hb⟩
  exact ⟨by rw [hz], hW.trans (hb.mono hW.size)⟩
theorem c_rbusy {X : World} {mb base : Nat} {v : Value} {l : List TRow} (h : RTok X mb v base l) (hl : l.length ≤ 100000) {n : Int} {z : Bool} (hz : z = has (fun r => r.i == n) l) (Y : World) (hW : Below X.heap.size X Y) :
    Calls Try.prog 27 #[.pointer (some ⟨mb, 0, none⟩), .int .i64 n] Y fun e w' => e = .returned (.bool z) ∧ Hid (Below X.heap.size X w') := by
  refine (rbusy_any mb v base l n Y (h.below hW) hl).mono ?_
  rintro e w' ⟨rfl, rfl⟩
  exact ⟨by rw [hz], hW⟩
theorem c_bytes {w X : World} {tb : Nat} {l : List TRow} (h : TokS w X tb l) (hin : ∀ r ∈ l, inR r) (hl : l.length ≤ 200) {B : List UInt8} (hB : B = tokBytes l) (Y : World) (hW : Below X.heap.size X Y) :
    Calls Try.prog 29 #[.pointer (some ⟨tb, 0, none⟩)] Y fun e w' => ∃ a c, e = .returned (.slice a B.length c) ∧ Hid (W.BytesAt w' (.slice a B.length c) B) ∧ Hid (Below X.heap.size X w') := by
  obtain ⟨v, base, h1, _⟩ := h.below hW
  refine (bytes_any tb v base l Y h1 hin hl).mono ?_
  rintro e w' ⟨v', rfl, hv, _, hb⟩
  rw [← hB] at hv
  obtain ⟨a, c, rfl, _⟩ := id hv
  exact ⟨a, c, rfl, hv, hW.trans (hb.mono hW.size)⟩
theorem c_same {X : World} {B : List UInt8} (hl : B.length ≤ 1000000000) {ap : Option Addr} {cp : Nat} (hR : W.BytesAt X (.slice ap B.length cp) B) (Y : World) (a : Option Addr) (c : Nat) (h1 : W.BytesAt Y (.slice a B.length c) B) (hap : ∀ g, (Value.slice ap B.length cp).ownBlock = some g → g < X.heap.size) (hW : Below X.heap.size X Y) :
    Calls Try.prog 28 #[.slice a B.length c, .slice ap B.length cp] Y fun e w' => e = .returned (.bool true) ∧ Hid (Below X.heap.size X w') := by
  refine (W.same_any _ _ B B Y h1 (hR.keep fun g hg => hW.block g (hap g hg)) hl hl).mono ?_
  rintro e w' ⟨rfl, n, rfl⟩
  exact ⟨by simp, bel_drewN' hW n⟩
theorem c_clone {w X : World} {tb : Nat} {l : List TRow} (h : TokS w X tb l) (Y : World) (hW : Below X.heap.size X Y) :
    Calls Try.prog 30 #[.pointer (some ⟨tb, 0, none⟩)] Y fun e w' => ∃ t2, e = .returned (.pointer (some ⟨t2, 0, none⟩)) ∧ Hid (∃ v base, IsTok w' t2 v base l) ∧ Hid (Below X.heap.size X w') := by
  obtain ⟨v, base, h1, _⟩ := h.below hW
  refine (tclone_any tb v base l Y h1).mono ?_
  rintro e w' ⟨tb', v', rfl, _, ht, hb⟩
  exact ⟨tb', rfl, ⟨v', _, ht⟩, hW.trans (hb.mono hW.size)⟩
theorem c_rows1 {X : World} {tb : Nat} {l : List TRow} (Y : World) (h : ∃ v base, IsTok Y tb v base l) (hW : Below X.heap.size X Y) :
    Calls Try.prog 12 #[.pointer (some ⟨tb, 0, none⟩)] Y fun e w' => ∃ a c, e = .returned (.slice a l.length c) ∧ Hid (RowsAt w' w'.heap.size a l.length (fun i => l.getD i default)) ∧ Hid (Below X.heap.size X w') := by
  obtain ⟨v, base, h⟩ := h
  refine (copy_any tb v base l Y h).mono ?_
  rintro e w' ⟨v', rfl, ho, hb⟩
  obtain ⟨a, c, rfl, hcap, hr⟩ := own_rows ho
  exact ⟨a, c, rfl, hr, hW.trans (hb.mono hW.size)⟩
end Go.Proofs.Ytembgdjdljflhaa
