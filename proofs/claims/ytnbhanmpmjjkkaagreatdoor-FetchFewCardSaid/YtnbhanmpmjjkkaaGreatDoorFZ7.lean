/- Texts laid together. -/
import Derived.Test.YtnbhanmpmjjkkaaGreatDoorFZ6
import Derived.Test.YtnbhanmpmjjkkaaGreatDoorFZ2
import Derived.Test.YtnbhanmpmjjkkaaGreatDoorFZ5
set_option linter.unusedVariables false
set_option linter.unusedSimpArgs false
set_option maxHeartbeats 64000000
set_option maxRecDepth 100000
namespace Go.Proofs.YtnbhanmpmjjkkaaGreatDoor.W
open Go.RowKit
section
open Go.RowKit Go.Shelf
structure FS where
 at' : Nat
 len : Nat
 whole : Bool
 known : List Nat
 asked : Int
 done : Bool
 out : List UInt8
 e : Int
def FS.size (f : FS) (L : Nat) : Int := if 1 ∈ f.known then (L : Int) else -1
def FS.lo (f : FS) (L n : Nat) : Nat := if f.whole then 0 else f.at' / eachN L n
def FS.hi (f : FS) (L n : Nat) : Nat := if f.whole then n - 2 else (f.at' + f.len - 1) / eachN L n
def ftL (s xs : Sp) (n : Nat) (L : Nat) (f : FS) (kb gb rb : Nat) (ov : Value) : List Value :=
 [.int .i64 s.c, .int .i64 s.l, .int .i64 s.n, .int .i64 xs.c, .int .i64 xs.l, .int .i64 xs.n, .int .i64 (f.at' : Int), .int .i64 (f.len : Int), .bool f.whole, .int .i64 (n : Int), .int .i64 (f.size L),
  .slice (some ⟨kb, 0, none⟩) n n, .slice (some ⟨gb, 0, none⟩) n n, .slice (some ⟨rb, 0, none⟩) n n, .int .i64 f.asked, .bool f.done, ov, .int .i64 f.e]
structure Env where
 s : Sp
 data : List UInt8
 n : Nat
 fb : Nat
 kb : Nat
 gb : Nat
 rb : Nat
abbrev Env.T (E : Env) : List Nat := [E.fb, E.kb, E.gb, E.rb]
structure Env.Ok (E : Env) : Prop where
 s : E.s.Ok
 n3 : 3 <= E.n
 n16 : E.n <= 16
 l1 : 1 <= E.data.length
 l2 : E.data.length <= 400 * (E.n - 1)
 nd : E.T.Nodup
def kvs (l : List Nat) : List Value := l.map (fun (k : Nat) => .int .i64 (k : Int))
structure FtOk (E : Env) (w : World) (f : FS) (F T : List VRow) (ov : Value) (xs : Sp) : Prop where
 head : w.heap[E.fb]? = some (.cells (ftL E.s xs E.n E.data.length f E.kb E.gb E.rb ov).toArray 78 (0, 0))
 kn : w.heap[E.kb]? = some (.cells (kvs f.known).toArray 3 (0, 0))
 fr : w.heap[E.gb]? = some (.cells (F.map (·.1)).toArray 22 (0, 0))
 rs : w.heap[E.rb]? = some (.cells (T.map (·.1)).toArray 22 (0, 0))
 klen : f.known.length = E.n
 flen : F.length = E.n
 tlen : T.length = E.n
 k3 : ∀ k ∈ f.known, k <= 2
 frag : ∀ i x, F[i]? = some x -> BytesAt w x.1 x.2 /\ x.2 = (if f.known.getD i 0 = 1 then fragN E.s E.data E.n i else []) /\ (x.2 ≠ [] -> ∀ q, x.1.ownBlock = some q -> q ∉ E.T)
 rest : ∀ i x, T[i]? = some x -> BytesAt w x.1 x.2 /\ x.2 = (if f.known.getD i 0 = 1 then rowN E.data E.n i else []) /\ (x.2 ≠ [] -> ∀ q, x.1.ownBlock = some q -> q ∉ E.T)
 out : BytesAt w ov f.out
 outT : f.out ≠ [] -> ∀ q, ov.ownBlock = some q -> q ∉ E.T
def FtAt (E : Env) (w : World) (f : FS) : Prop := ∃ F T ov xs, FtOk E w f F T ov xs
theorem FtOk.keep {E : Env} {w w' : World} {f : FS} {F T : List VRow} {ov : Value} {xs : Sp} (h : FtOk E w f F T ov xs) (hc : Chg [] w w') : FtOk E w' f F T ov xs :=
 ⟨hc.keep h.head (by simp), hc.keep h.kn (by simp), hc.keep h.fr (by simp), hc.keep h.rs (by simp), h.klen, h.flen, h.tlen, h.k3, fun i x hx => ⟨(h.frag i x hx).1.chg hc (by simp), (h.frag i x hx).2⟩, fun i x hx => ⟨(h.rest i x hx).1.chg hc (by simp), (h.rest i x hx).2⟩, h.out.chg hc (by simp), h.outT⟩
theorem FtAt.keep {E : Env} {w w' : World} {f : FS} (h : FtAt E w f) (hc : Chg [] w w') : FtAt E w' f := by
 obtain ⟨F, T, ov, xs, h⟩ := h
 exact ⟨F, T, ov, xs, h.keep hc⟩
theorem FtOk.lim {E : Env} {w : World} {f : FS} {F T : List VRow} {ov : Value} {xs : Sp} (h : FtOk E w f F T ov xs) : ∀ x ∈ E.T, x < w.heap.size := fun x hx => by
 simp at hx
 rcases hx with rfl | rfl | rfl | rfl
 ·exact blk_lt h.head
 ·exact blk_lt h.kn
 ·exact blk_lt h.fr
 ·exact blk_lt h.rs
theorem FtAt.lim {E : Env} {w : World} {f : FS} (h : FtAt E w f) : ∀ x ∈ E.T, x < w.heap.size := by
 obtain ⟨F, T, ov, xs, h⟩ := h
 exact h.lim
theorem FtOk.kcell {E : Env} {w : World} {f : FS} {F T : List VRow} {ov : Value} {xs : Sp} (h : FtOk E w f F T ov xs) (i : Nat) (hi : i < E.n) : w.cell? ⟨E.kb, i, none⟩ = some (.int .i64 ((f.known.getD i 0 : Nat) : Int)) := by
 refine blk_cell h.kn i _ ?_
 have hl : i < f.known.length := by rw [h.klen]; exact hi
 simp [kvs, hl]
theorem FtOk.c0 {E : Env} {w : World} {f : FS} {F T : List VRow} {ov : Value} {xs : Sp} (h : FtOk E w f F T ov xs) : w.cell? ⟨E.fb, 0, none⟩ = some (.int .i64 E.s.c) := blk_cell h.head 0 _ rfl
theorem FtOk.c1 {E : Env} {w : World} {f : FS} {F T : List VRow} {ov : Value} {xs : Sp} (h : FtOk E w f F T ov xs) : w.cell? ⟨E.fb, 1, none⟩ = some (.int .i64 E.s.l) := blk_cell h.head 1 _ rfl
theorem FtOk.c2 {E : Env} {w : World} {f : FS} {F T : List VRow} {ov : Value} {xs : Sp} (h : FtOk E w f F T ov xs) : w.cell? ⟨E.fb, 2, none⟩ = some (.int .i64 E.s.n) := blk_cell h.head 2 _ rfl
theorem FtOk.c6 {E : Env} {w : World} {f : FS} {F T : List VRow} {ov : Value} {xs : Sp} (h : FtOk E w f F T ov xs) : w.cell? ⟨E.fb, 6, none⟩ = some (.int .i64 (f.at' : Int)) := blk_cell h.head 6 _ rfl
theorem FtOk.c7 {E : Env} {w : World} {f : FS} {F T : List VRow} {ov : Value} {xs : Sp} (h : FtOk E w f F T ov xs) : w.cell? ⟨E.fb, 7, none⟩ = some (.int .i64 (f.len : Int)) := blk_cell h.head 7 _ rfl
theorem FtOk.c8 {E : Env} {w : World} {f : FS} {F T : List VRow} {ov : Value} {xs : Sp} (h : FtOk E w f F T ov xs) : w.cell? ⟨E.fb, 8, none⟩ = some (.bool f.whole) := blk_cell h.head 8 _ rfl
theorem FtOk.c9 {E : Env} {w : World} {f : FS} {F T : List VRow} {ov : Value} {xs : Sp} (h : FtOk E w f F T ov xs) : w.cell? ⟨E.fb, 9, none⟩ = some (.int .i64 (E.n : Int)) := blk_cell h.head 9 _ rfl
theorem FtOk.c10 {E : Env} {w : World} {f : FS} {F T : List VRow} {ov : Value} {xs : Sp} (h : FtOk E w f F T ov xs) : w.cell? ⟨E.fb, 10, none⟩ = some (.int .i64 (f.size E.data.length)) := blk_cell h.head 10 _ rfl
theorem FtOk.c11 {E : Env} {w : World} {f : FS} {F T : List VRow} {ov : Value} {xs : Sp} (h : FtOk E w f F T ov xs) : w.cell? ⟨E.fb, 11, none⟩ = some (.slice (some ⟨E.kb, 0, none⟩) E.n E.n) := blk_cell h.head 11 _ rfl
theorem FtOk.c12 {E : Env} {w : World} {f : FS} {F T : List VRow} {ov : Value} {xs : Sp} (h : FtOk E w f F T ov xs) : w.cell? ⟨E.fb, 12, none⟩ = some (.slice (some ⟨E.gb, 0, none⟩) E.n E.n) := blk_cell h.head 12 _ rfl
theorem FtOk.c13 {E : Env} {w : World} {f : FS} {F T : List VRow} {ov : Value} {xs : Sp} (h : FtOk E w f F T ov xs) : w.cell? ⟨E.fb, 13, none⟩ = some (.slice (some ⟨E.rb, 0, none⟩) E.n E.n) := blk_cell h.head 13 _ rfl
theorem FtOk.c14 {E : Env} {w : World} {f : FS} {F T : List VRow} {ov : Value} {xs : Sp} (h : FtOk E w f F T ov xs) : w.cell? ⟨E.fb, 14, none⟩ = some (.int .i64 f.asked) := blk_cell h.head 14 _ rfl
theorem FtOk.c15 {E : Env} {w : World} {f : FS} {F T : List VRow} {ov : Value} {xs : Sp} (h : FtOk E w f F T ov xs) : w.cell? ⟨E.fb, 15, none⟩ = some (.bool f.done) := blk_cell h.head 15 _ rfl
theorem FtOk.c16 {E : Env} {w : World} {f : FS} {F T : List VRow} {ov : Value} {xs : Sp} (h : FtOk E w f F T ov xs) : w.cell? ⟨E.fb, 16, none⟩ = some (ov) := blk_cell h.head 16 _ rfl
theorem FtOk.c17 {E : Env} {w : World} {f : FS} {F T : List VRow} {ov : Value} {xs : Sp} (h : FtOk E w f F T ov xs) : w.cell? ⟨E.fb, 17, none⟩ = some (.int .i64 f.e) := blk_cell h.head 17 _ rfl
theorem FtOk.fz {E : Env} {w : World} {f : FS} {F T : List VRow} {ov : Value} {xs : Sp} (h : FtOk E w f F T ov xs) (j : Nat) : w.frozen? ⟨E.fb, j, none⟩ = false := blk_frozen h.head j
abbrev fpV (E : Env) : Value := .pointer (some ⟨E.fb, 0, none⟩)
theorem fmade_any {E : Env} {f : FS} (w : World) (hE : E.Ok) (h : FtAt E w f) : Calls Tryz.prog 30 #[fpV E] w fun e w' => e = .returned (.bool true) /\ w = w' := by
 obtain ⟨F, T, ov, xs, h⟩ := h
 have c9 := h.c9
 have hn := hE.n3
 have h0 : (0 : Int) < (E.n : Int) := by omega
 have h0n : 0 < E.n := by omega
 clear h
 go_enter Tryz.func30, Tryz.ntmps30
 go_wp2
 go_ret
 exact ⟨rfl, rfl⟩
theorem fcount_any {E : Env} {f : FS} (k : Nat) (w : World) (hE : E.Ok) (h : FtAt E w f) : Calls Tryz.prog 38 #[fpV E, .int .i64 (k : Int)] w fun e w' => e = .returned (.int .i64 ((f.known.count k : Nat) : Int)) /\ w = w' := by
 obtain ⟨F, T, ov, xs, h⟩ := h
 have c11 := h.c11
 have hn := hE.n16
 have hkl := h.klen
 have HKC := LH h.kcell
 clear h
 go_enter Tryz.func38, Tryz.ntmps38
 go_wp2
 go_loopg [5, 13] E.n (fun gm s5 s13 wr => ∃ i : Nat, s5 = .int .i64 (((f.known.take i).count k : Nat) : Int) /\ s13 = .int .i64 i /\ i <= E.n /\ E.n <= i + gm /\ w = wr)
 case atStart => exact ⟨0, by simp, rfl, by omega, by omega, rfl⟩
 case round =>
  obtain ⟨i, rfl, rfl, hi, hig, rfl⟩ := hrel
  by_cases hlt : i < E.n
  ·have ck := HKC.out i hlt
   have hiz : (i : Int) < (E.n : Int) := by omega
   have hiz1 : (i : Int).toNat = i := by omega
   have hcl : (f.known.take i).count k <= i := Nat.le_trans (List.count_le_length) (by rw [List.length_take]; omega)
   have HT : Hid ((f.known.take (i + 1)).count k = (f.known.take i).count k + (if f.known.getD i 0 = k then 1 else 0)) := LH (by
    rw [List.take_succ_eq_append_getElem (by omega), List.count_append, List.getD_eq_getElem?_getD, List.getElem?_eq_getElem (by omega)]
    simp [List.count_singleton])
   generalize f.known.getD i 0 = v at *
   by_cases hv : v = k
   ·subst hv
    rw [if_pos rfl] at HT
    go_wp2
    go_roundg (gk - 1)
    case measure => omega
    case rel => exact ⟨i + 1, by rw [HT.out]; go_num, by go_num, by omega, by omega, rfl⟩
   ·rw [if_neg hv] at HT
    have hv2 : ¬ (v : Int) = (k : Int) := by omega
    have hv3 : ((v : Int) == (k : Int)) = false := beq_eq_false_iff_ne.2 hv2
    go_wp2
    go_roundg (gk - 1)
    case measure => omega
    case rel => exact ⟨i + 1, by rw [HT.out]; rfl, by go_num, by omega, by omega, rfl⟩
  ·have hin : i = E.n := by omega
   have HT : Hid (f.known.take i = f.known) := LH (by rw [hin, <- hkl, List.take_length])
   rw [HT.out]
   go_wp2
   go_ret
   exact ⟨rfl, rfl⟩
end
section
open Go.RowKit Go.Shelf
attribute [local go_sem] Oper.semAt_some
def FS.Within (f : FS) (L : Nat) : Prop := 1 ∈ f.known /\ (f.whole = true ∨ (1 <= f.len /\ f.at' + f.len <= L))
theorem FS.size_known {f : FS} {L : Nat} (h : 1 ∈ f.known) : f.size L = (L : Int) := by unfold FS.size; rw [if_pos h]
theorem FS.size_not {f : FS} {L : Nat} (h : 1 ∉ f.known) : f.size L = -1 := by unfold FS.size; rw [if_neg h]
theorem FS.hi_lt {f : FS} {L n : Nat} (h : f.Within L) (h1 : 1 <= L) (hn : 3 <= n) : f.hi L n < n - 1 := by
 unfold FS.hi
 split
 ·omega
 ·rcases h.2 with h2 | ⟨h2, h3⟩
  ·simp_all
  ·have ha := each_all (size := L) (n := n) h1 (by omega)
   exact (Nat.div_lt_iff_lt_mul (each_pos h1)).2 (by omega)
theorem fspan_any {E : Env} {f : FS} (w : World) (hE : E.Ok) (h : FtAt E w f) (hw : f.Within E.data.length) : Calls Tryz.prog 71 #[fpV E] w fun e w' => e = .returned (.tuple #[.int .i64 (f.lo E.data.length E.n : Int), .int .i64 (f.hi E.data.length E.n : Int)]) /\ Chg [] w w' := by
 obtain ⟨F, T, ov, xs, h⟩ := h
 have c6 := h.c6
 have c7 := h.c7
 have c8 := h.c8
 have c9 := h.c9
 have c10 := h.c10
 rw [FS.size_known hw.1] at c10
 have hn3 := hE.n3
 have hn16 := hE.n16
 have hl2 := hE.l2
 cases hwh : f.whole with
 | true =>
  rw [hwh] at c8
  have hlo : f.lo E.data.length E.n = 0 := by unfold FS.lo; rw [hwh]; rfl
  have hhi : f.hi E.data.length E.n = E.n - 2 := by unfold FS.hi; rw [hwh]; rfl
  rw [hlo, hhi]
  have hw2 : IntKind.i64.wrap ((E.n : Int) - 2) = ((E.n - 2 : Nat) : Int) := by rw [IntWalk.i64_in _ ⟨by omega, by omega⟩]; omega
  clear h hw
  go_enter Tryz.func71, Tryz.ntmps71
  go_wp2_with fail
  refine wp_region_L [(6, fun w' => w'.cell? ⟨E.fb, 9, none⟩ = some (.int .i64 (E.n : Int)))] (by kernel_rfl) ?_ (fun hHeld => ?_)
  ·exact (HoldC.cons (c9) HoldC.nil)
  refine tk 0 ?_ rfl (by kernel_rfl) (fun _ _ _ h => h) (.inl ⟨by rfl, ?_⟩) hHeld ?_; rotate_left; · (intro w _; go_simp; try with_reducible rfl)
  clear hHeld; intro hHeld; try simp only [gA,gB,gC,Act.put,gD,gE,gF]
  refine tk 1 ?_ rfl (by kernel_rfl) (fun _ _ _ h => h) (.inl ⟨by rfl, ?_⟩) hHeld ?_; rotate_left; · (intro w _; go_simp; try with_reducible rfl)
  clear hHeld; intro hHeld; try simp only [gA,gB,gC,Act.put,gD,gE,gF]
  refine tk 2 ?_ rfl (by kernel_rfl) (fun _ _ _ h => h) (.inl ⟨by rfl, ?_⟩) hHeld ?_; rotate_left; · (intro w _; go_simp; try with_reducible rfl)
  clear hHeld; intro hHeld; try simp only [gA,gB,gC,Act.put,gD,gE,gF]
  refine tk 5 ?_ rfl (by kernel_rfl) (fun _ _ _ h => h) (.inl ⟨by rfl, ?_⟩) hHeld ?_; rotate_left; · (intro w _; go_simp; try with_reducible rfl)
  clear hHeld; intro hHeld; try simp only [gA,gB,gC,Act.put,gD,gE,gF]
  refine ld 0 3 ?_ rfl rfl (by kernel_rfl) (fun _ _ _ h => h) (.inl ⟨by rfl, ?_⟩) hHeld ?_; rotate_left; · (intro w hSw; (try dsimp only at hSw); go_simp; try with_reducible rfl)
  clear hHeld; intro hHeld; try simp only [gA,gB,gC,Act.put,gD,gE,gF]
  refine tk 4 ?_ rfl (by kernel_rfl) (fun _ _ _ h => h) (.inl ⟨by rfl, ?_⟩) hHeld ?_; rotate_left; · (intro w _; go_simp; try with_reducible rfl)
  clear hHeld; intro hHeld; try simp only [gA,gB,gC,Act.put,gD,gE,gF]
  refine wpAnyL_ready (rs := [6]) (by kernel_rfl) (by simp) (AllReadyL.cons (o := _) rfl (fun K hK => ?_) AllReadyL.nil)
  try simp only [gA,gB,gC]
  go_simp
  clear hHeld
  refine hK.out _ _ ?_ (fun hHeld => ?_)
  ·exact (HoldC.past (by kernel_rfl) HoldC.nil)
  clear hK K
  try simp only [gA,gB,gC,Act.put,gD,gE,gF]
  refine wpAnyL_done (by kernel_rfl) ?_ _
  clear hHeld
  go_wp2
  go_ret2
  exact ⟨rfl, (Chg.refl [] w).drew⟩
 | false =>
  rw [hwh] at c8
  have hlo : f.lo E.data.length E.n = f.at' / eachN E.data.length E.n := by unfold FS.lo; rw [hwh]; rfl
  have hhi : f.hi E.data.length E.n = (f.at' + f.len - 1) / eachN E.data.length E.n := by unfold FS.hi; rw [hwh]; rfl
  rw [hlo, hhi]
  obtain ⟨h1, h2⟩ : 1 <= f.len /\ f.at' + f.len <= E.data.length := by
   rcases hw.2 with h2 | h2
   ·rw [hwh] at h2; cases h2
   ·exact h2
  have CS := LH (fun w => lspan_ok f.at' f.len E.data.length E.n w h1 h2 hl2 hn3 hn16)
  clear h hw
  go_enter Tryz.func71, Tryz.ntmps71
  go_wp2_with fail
  refine wp_region_L [(18, fun w' => (w'.cell? ⟨E.fb, 6, none⟩ = some (.int .i64 (f.at' : Int)) /\ w'.cell? ⟨E.fb, 7, none⟩ = some (.int .i64 (f.len : Int)) /\ w'.cell? ⟨E.fb, 10, none⟩ = some (.int .i64 (E.data.length : Int)) /\ w'.cell? ⟨E.fb, 9, none⟩ = some (.int .i64 (E.n : Int))))] (by kernel_rfl) ?_ (fun hHeld => ?_)
  ·exact (HoldC.cons (⟨c6, c7, c10, c9⟩) HoldC.nil)
  refine tk 0 ?_ rfl (by kernel_rfl) (fun _ _ _ h => h) (.inl ⟨by rfl, ?_⟩) hHeld ?_; rotate_left; · (intro w _; go_simp; try with_reducible rfl)
  clear hHeld; intro hHeld; try simp only [gA,gB,gC,Act.put,gD,gE,gF]
  refine tk 1 ?_ rfl (by kernel_rfl) (fun _ _ _ h => h) (.inl ⟨by rfl, ?_⟩) hHeld ?_; rotate_left; · (intro w _; go_simp; try with_reducible rfl)
  clear hHeld; intro hHeld; try simp only [gA,gB,gC,Act.put,gD,gE,gF]
  refine tk 2 ?_ rfl (by kernel_rfl) (fun _ _ _ h => h) (.inl ⟨by rfl, ?_⟩) hHeld ?_; rotate_left; · (intro w _; go_simp; try with_reducible rfl)
  clear hHeld; intro hHeld; try simp only [gA,gB,gC,Act.put,gD,gE,gF]
  refine tk 3 ?_ rfl (by kernel_rfl) (fun _ _ _ h => h) (.inl ⟨by rfl, ?_⟩) hHeld ?_; rotate_left; · (intro w _; go_simp; try with_reducible rfl)
  clear hHeld; intro hHeld; try simp only [gA,gB,gC,Act.put,gD,gE,gF]
  refine tk 5 ?_ rfl (by kernel_rfl) (fun _ _ _ h => h) (.inl ⟨by rfl, ?_⟩) hHeld ?_; rotate_left; · (intro w _; go_simp; try with_reducible rfl)
  clear hHeld; intro hHeld; try simp only [gA,gB,gC,Act.put,gD,gE,gF]
  refine tk 6 ?_ rfl (by kernel_rfl) (fun _ _ _ h => h) (.inl ⟨by rfl, ?_⟩) hHeld ?_; rotate_left; · (intro w _; go_simp; try with_reducible rfl)
  clear hHeld; intro hHeld; try simp only [gA,gB,gC,Act.put,gD,gE,gF]
  refine tk 7 ?_ rfl (by kernel_rfl) (fun _ _ _ h => h) (.inl ⟨by rfl, ?_⟩) hHeld ?_; rotate_left; · (intro w _; go_simp; try with_reducible rfl)
  clear hHeld; intro hHeld; try simp only [gA,gB,gC,Act.put,gD,gE,gF]
  refine tk 8 ?_ rfl (by kernel_rfl) (fun _ _ _ h => h) (.inl ⟨by rfl, ?_⟩) hHeld ?_; rotate_left; · (intro w _; go_simp; try with_reducible rfl)
  clear hHeld; intro hHeld; try simp only [gA,gB,gC,Act.put,gD,gE,gF]
  refine tk 10 ?_ rfl (by kernel_rfl) (fun _ _ _ h => h) (.inl ⟨by rfl, ?_⟩) hHeld ?_; rotate_left; · (intro w _; go_simp; try with_reducible rfl)
  clear hHeld; intro hHeld; try simp only [gA,gB,gC,Act.put,gD,gE,gF]
  refine tk 11 ?_ rfl (by kernel_rfl) (fun _ _ _ h => h) (.inl ⟨by rfl, ?_⟩) hHeld ?_; rotate_left; · (intro w _; go_simp; try with_reducible rfl)
  clear hHeld; intro hHeld; try simp only [gA,gB,gC,Act.put,gD,gE,gF]
  refine tk 12 ?_ rfl (by kernel_rfl) (fun _ _ _ h => h) (.inl ⟨by rfl, ?_⟩) hHeld ?_; rotate_left; · (intro w _; go_simp; try with_reducible rfl)
  clear hHeld; intro hHeld; try simp only [gA,gB,gC,Act.put,gD,gE,gF]
  refine tk 14 ?_ rfl (by kernel_rfl) (fun _ _ _ h => h) (.inl ⟨by rfl, ?_⟩) hHeld ?_; rotate_left; · (intro w _; go_simp; try with_reducible rfl)
  clear hHeld; intro hHeld; try simp only [gA,gB,gC,Act.put,gD,gE,gF]
  refine tk 15 ?_ rfl (by kernel_rfl) (fun _ _ _ h => h) (.inl ⟨by rfl, ?_⟩) hHeld ?_; rotate_left; · (intro w _; go_simp; try with_reducible rfl)
  clear hHeld; intro hHeld; try simp only [gA,gB,gC,Act.put,gD,gE,gF]
  refine tk 16 ?_ rfl (by kernel_rfl) (fun _ _ _ h => h) (.inl ⟨by rfl, ?_⟩) hHeld ?_; rotate_left; · (intro w _; go_simp; try with_reducible rfl)
  clear hHeld; intro hHeld; try simp only [gA,gB,gC,Act.put,gD,gE,gF]
  refine ld 0 4 ?_ rfl rfl (by kernel_rfl) (fun _ _ _ h => h) (.inl ⟨by rfl, ?_⟩) hHeld ?_; rotate_left; · (intro w hSw; (try dsimp only at hSw); go_simp; try with_reducible rfl)
  clear hHeld; intro hHeld; try simp only [gA,gB,gC,Act.put,gD,gE,gF]
  refine ld 0 9 ?_ rfl rfl (by kernel_rfl) (fun _ _ _ h => h) (.inl ⟨by rfl, ?_⟩) hHeld ?_; rotate_left; · (intro w hSw; (try dsimp only at hSw); go_simp; try with_reducible rfl)
  clear hHeld; intro hHeld; try simp only [gA,gB,gC,Act.put,gD,gE,gF]
  refine ld 0 13 ?_ rfl rfl (by kernel_rfl) (fun _ _ _ h => h) (.inl ⟨by rfl, ?_⟩) hHeld ?_; rotate_left; · (intro w hSw; (try dsimp only at hSw); go_simp; try with_reducible rfl)
  clear hHeld; intro hHeld; try simp only [gA,gB,gC,Act.put,gD,gE,gF]
  refine ld 0 17 ?_ rfl rfl (by kernel_rfl) (fun _ _ _ h => h) (.inl ⟨by rfl, ?_⟩) hHeld ?_; rotate_left; · (intro w hSw; (try dsimp only at hSw); go_simp; try with_reducible rfl)
  clear hHeld; intro hHeld; try simp only [gA,gB,gC,Act.put,gD,gE,gF]
  refine wpAnyL_ready (rs := [18]) (by kernel_rfl) (by simp) (AllReadyL.cons (o := _) rfl (fun K hK => ?_) AllReadyL.nil)
  try simp only [gA,gB,gC]
  go_simp
  refine (CS.out _).mono ?_
  rintro e w1 ⟨rfl, hc1⟩
  have HC := LH ((Chg.refl [] w).drew.trans hc1 (by simp))
  clear hc1
  clear hHeld
  refine hK.out _ _ ?_ (fun hHeld => ?_)
  ·exact (HoldC.past (by kernel_rfl) HoldC.nil)
  clear hK K
  try simp only [gA,gB,gC,Act.put,gD,gE,gF]
  refine tk 19 ?_ rfl (by kernel_rfl) (fun _ _ _ h => h) (.inl ⟨by rfl, ?_⟩) hHeld ?_; rotate_left; · (intro w _; go_simp; try with_reducible rfl)
  clear hHeld; intro hHeld; try simp only [gA,gB,gC,Act.put,gD,gE,gF]
  refine tk 20 ?_ rfl (by kernel_rfl) (fun _ _ _ h => h) (.inl ⟨by rfl, ?_⟩) hHeld ?_; rotate_left; · (intro w _; go_simp; try with_reducible rfl)
  clear hHeld; intro hHeld; try simp only [gA,gB,gC,Act.put,gD,gE,gF]
  refine tk 21 ?_ rfl (by kernel_rfl) (fun _ _ _ h => h) (.inl ⟨by rfl, ?_⟩) hHeld ?_; rotate_left; · (intro w _; go_simp; try with_reducible rfl)
  clear hHeld; intro hHeld; try simp only [gA,gB,gC,Act.put,gD,gE,gF]
  refine tk 22 ?_ rfl (by kernel_rfl) (fun _ _ _ h => h) (.inl ⟨by rfl, ?_⟩) hHeld ?_; rotate_left; · (intro w _; go_simp; try with_reducible rfl)
  clear hHeld; intro hHeld; try simp only [gA,gB,gC,Act.put,gD,gE,gF]
  refine tk 23 ?_ rfl (by kernel_rfl) (fun _ _ _ h => h) (.inl ⟨by rfl, ?_⟩) hHeld ?_; rotate_left; · (intro w _; go_simp; try with_reducible rfl)
  clear hHeld; intro hHeld; try simp only [gA,gB,gC,Act.put,gD,gE,gF]
  refine tk 24 ?_ rfl (by kernel_rfl) (fun _ _ _ h => h) (.inl ⟨by rfl, ?_⟩) hHeld ?_; rotate_left; · (intro w _; go_simp; try with_reducible rfl)
  clear hHeld; intro hHeld; try simp only [gA,gB,gC,Act.put,gD,gE,gF]
  refine tk 25 ?_ rfl (by kernel_rfl) (fun _ _ _ h => h) (.inl ⟨by rfl, ?_⟩) hHeld ?_; rotate_left; · (intro w _; go_simp; try with_reducible rfl)
  clear hHeld; intro hHeld; try simp only [gA,gB,gC,Act.put,gD,gE,gF]
  refine wpAnyL_done (by kernel_rfl) ?_ _
  clear hHeld
  go_wp2
  go_ret2
  exact ⟨rfl, HC.out⟩
def FS.ends (f : FS) (out : List UInt8) (e : Int) : FS := { f with done := true, out := out, e := e }
theorem fend_any {E : Env} {f : FS} (out : List UInt8) (v : Value) (e : Int) (w : World) (hE : E.Ok) (h : FtAt E w f) (hv : BytesAt w v out) (hvT : out ≠ [] -> ∀ q, v.ownBlock = some q -> q ∉ E.T) : Calls Tryz.prog 36 #[fpV E, v, .int .i64 e] w fun e' w' => e' = .returned (.tuple #[]) /\ FtAt E w' (f.ends out e) /\ Chg E.T w w' := by
 obtain ⟨F, T, ov, xs, h⟩ := h
 obtain ⟨va, vc, hve⟩ := hv.slice
 have c15 := h.c15
 have c16 := h.c16
 have c17 := h.c17
 have z15 := h.fz 15
 have z16 := h.fz 16
 have z17 := h.fz 17
 have l0 := blk_lt h.head
 obtain ⟨w', hw'⟩ : ∃ w', w' = ((w.setCell ⟨E.fb, 15, none⟩ (.bool true)).setCell ⟨E.fb, 16, none⟩ v).setCell ⟨E.fb, 17, none⟩ (.int .i64 e) := ⟨_, rfl⟩
 have hcf : Chg [E.fb] w w' := by rw [hw']; exact (((Chg.refl _ w).setCell (p := ⟨E.fb, 15, none⟩) (.inl (by simp)) _).setCell (p := ⟨E.fb, 16, none⟩) (.inl (by simp)) _).setCell (p := ⟨E.fb, 17, none⟩) (.inl (by simp)) _
 have hnd := hE.nd
 simp only [List.nodup_cons, List.mem_cons, List.mem_nil_iff, or_false, not_or] at hnd
 have HF : Hid (FtAt E w' (f.ends out e) /\ Chg E.T w w') := LH (by
  refine ⟨⟨F, T, v, xs, ⟨?_, hcf.keep h.kn (by simp; exact fun e => hnd.1.1 e.symm), hcf.keep h.fr (by simp; exact fun e => hnd.1.2.1 e.symm), hcf.keep h.rs (by simp; exact fun e => hnd.1.2.2 e.symm), h.klen, h.flen, h.tlen, h.k3, fun i x hx => ⟨(h.frag i x hx).1.chgW hcf (fun hne q hq hm => (h.frag i x hx).2.2 hne q hq (by simp at hm; simp [hm])), (h.frag i x hx).2⟩, fun i x hx => ⟨(h.rest i x hx).1.chgW hcf (fun hne q hq hm => (h.rest i x hx).2.2 hne q hq (by simp at hm; simp [hm])), (h.rest i x hx).2⟩, hv.chgW hcf (fun hne q hq hm => hvT hne q hq (by simp at hm; simp [hm])), hvT⟩⟩, hcf.mono (fun x hx => .inl (by simp at hx; simp [hx]))⟩
  rw [hw']
  exact set_blk (set_blk (set_blk h.head)))
 have HW := LH hw'
 subst hve
 clear h hv hvT hcf hnd hw'
 go_enter Tryz.func36, Tryz.ntmps36
 go_wp2
 rw [<- HW.out]
 go_end0
 exact ⟨rfl, HF.out⟩
end
def Qn (Q : Exit -> Act -> World -> Prop) : Exit -> Act -> World -> Prop
 | .normal, a, w => Q .normal a w
 | _, _, _ => False
theorem Qn_lets {Q : Exit -> Act -> World -> Prop} : ¬ LetsOut (Qn Q) := by
 rintro ⟨_, _, h⟩
 exact h
section
variable {F : Fence} {n : Nat} {P : Program} {ops : Array Oper} {Q : Exit -> Act -> World -> Prop} {a : Act} {w : World}
theorem wpIn_of_opN {o : Oper} {K : Act -> World -> Prop} (hF : Wide F) (hnd : ∀ c, o.op ≠ .defer c) (h : o.wp P a w K (Qn Q)) : o.wpIn F n P a w K Q := by
 unfold Oper.wpIn
 refine ⟨fun f _ => hF.fn f, ?_⟩
 rw [Oper.semAt_eq _ _ _ hnd]
 unfold Oper.wp at h
 revert h
 generalize hr : (execOp a.eval o).run P w = r
 intro h
 cases r with
 | ok x w' =>
  cases x <;> simp only [Oper.upon, Oper.uponIn] at h ⊢
  case value => exact h
  case skip => exact h
  case defer => exact h
  case enter f args =>
   refine ⟨fun hd => (by rw [hF.depth] at hd; cases hd), hF.calls (Calls.mono h (fun e w'' he => ?_))⟩
   cases e with
   | returned v => exact he
   | panicked c => exact he.elim
   | outgrown => exact absurd he Qn_lets
  case row row args => exact ⟨fun hd => (by rw [hF.depth] at hd; cases hd), hF.rows h⟩
 | halt x w' => cases x <;> simp only [Oper.upon, Oper.uponIn] at h ⊢ <;> exact h.elim
theorem wpOpIn_ofN {i : Nat} {K : Act -> World -> Prop} (hF : Wide F) (hnd : ∀ (o : Oper), ops[i]? = some o -> ∀ c, o.op ≠ .defer c) (h : wpOp P ops (Qn Q) i K a w) : wpOpIn F n P ops Q i K a w := by
 unfold wpOp at h
 unfold wpOpIn
 cases ho : ops[i]? with
 | none => rw [ho] at h; exact h
 | some o =>
  simp only [ho] at h ⊢
  by_cases hw : Region.wanted o (yielded ops a.tmps) = true
  ·simp only [hw, if_true] at h ⊢
   rcases h with h | h
   ·exact wpIn_of_opN hF (hnd o ho) h
   ·exact absurd h.2 Qn_lets
  ·simp only [hw] at h ⊢
   exact ⟨fun f _ => hF.fn f, h⟩
theorem wpAnyIn_ofN {md : Region.Mode} (hF : Wide F) (hnd : ∀ (i : Nat) (o : Oper), ops[i]? = some o -> ∀ c, o.op ≠ .defer c) :
  ∀ (k : Nat) (L : Array Bool) (a : Act) (w : World), wpAny P md ops (Qn Q) k L a w -> wpAnyIn F n P md ops Q k L a w
 | 0, _, _, _, h => h
 | k + 1, _, _, _, h => ⟨h.1, fun i hi => wpOpIn_ofN hF (hnd i) (wpOp_mono (fun a' w' h' => wpAnyIn_ofN hF hnd k _ a' w' h') (h.2 i hi))⟩
theorem wpIn_region_LN {id : Nat} (hF : Wide F) (hnd : noDefer ops = true) (cs : List (Nat × (World -> Prop))) (hm : P.follows .mixedOrders = true) (hS : HoldC cs (Array.replicate ops.size false) w.drew)
  (h : HoldC cs (Array.replicate ops.size false) w.drew -> wpAnyL P .any ops (Qn Q) cs ops.size (Array.replicate ops.size false) a w.drew) : (Code.region id ops true).wpIn F n P Q a w :=
 wpIn_region_any hm (wpAnyIn_ofN hF (noDefer_spec hnd) _ _ _ _ (wpAny_of_L _ _ _ _ (h hS)))
end
section
open Go.RowKit Go.Shelf
attribute [local go_sem] Oper.semAt_some
def NeedsP (lo hi : Nat) (known : List Nat) (e : Ending) : Prop := ∃ b, e = .returned (.bool b) /\ (b = true ↔ ∃ i, lo <= i /\ i <= hi /\ known.getD i 0 = 2)
theorem fneeds_any {E : Env} {f : FS} (w : World) (hE : E.Ok) (h : FtAt E w f) (hw : f.Within E.data.length) : Calls Tryz.prog 49 #[fpV E] w fun e w' => NeedsP (f.lo E.data.length E.n) (f.hi E.data.length E.n) f.known e /\ Chg [] w w' := by
 have CS := LH (fspan_any w hE h hw)
 have hhi := FS.hi_lt hw hE.l1 hE.n3
 have hn16 := hE.n16
 have HW := LH h
 clear h hw
 generalize f.lo E.data.length E.n = lo at *
 generalize f.hi E.data.length E.n = hi at *
 go_enter Tryz.func49, Tryz.ntmps49
 go_wp2_with fail
 refine CS.out.mono ?_
 rintro e w1 ⟨rfl, hc1⟩
 have HC := LH hc1
 obtain ⟨F, T, ov, xs, h1⟩ := HW.out.keep hc1
 have c11 := h1.c11
 have HKC := LH h1.kcell
 clear hc1 h1 CS
 go_wp2
 go_loopg [5] (E.n + lo) (fun gm s5 wr => ∃ i : Nat, s5 = .int .i64 i /\ lo <= i /\ (i <= hi + 1 ∨ i = lo) /\ E.n + lo <= i + gm /\ w1 = wr /\ ∀ j, lo <= j -> j < i -> f.known.getD j 0 ≠ 2)
 case atStart => exact ⟨lo, rfl, by omega, by omega, by omega, rfl, by omega⟩
 case round =>
  obtain ⟨i, rfl, hli, hi1, hig, rfl, hno⟩ := hrel
  by_cases hlt : i <= hi
  ·have ck := HKC.out i (by omega)
   have hiz : (i : Int) <= (hi : Int) := by omega
   have hizn : (i : Int) < (E.n : Int) := by omega
   have hiz1 : (i : Int).toNat = i := by omega
   have HNO := LH hno
   clear hno
   obtain ⟨v, hv⟩ : ∃ v, v = f.known.getD i 0 := ⟨_, rfl⟩
   rw [<- hv] at ck
   have HV := LH hv
   clear hv
   by_cases hv2 : v = 2
   ·subst hv2
    go_wp2
    go_ret
    exact ⟨⟨true, rfl, fun _ => ⟨i, hli, hlt, HV.out.symm⟩, fun _ => rfl⟩, HC.out⟩
   ·have hv3 : ((v : Int) == 2) = false := beq_eq_false_iff_ne.2 (by omega)
    go_wp2
    go_roundg (gk - 1)
    case measure => omega
    case rel => exact ⟨i + 1, by go_num, by omega, by omega, by omega, rfl, fun j h1 h2 => by
     by_cases hj : j = i
     ·rw [hj, <- HV.out]; exact hv2
     ·exact HNO.out j h1 (by omega)⟩
  ·have HNO := LH hno
   clear hno
   have hiz : ¬ (i : Int) <= (hi : Int) := by omega
   go_wp2
   go_ret
   exact ⟨⟨false, rfl, fun h => (by cases h), fun ⟨j, h1, h2, h3⟩ => absurd h3 (HNO.out j h1 (by omega))⟩, HC.out⟩
theorem fwanted_any {E : Env} (w : World) : Calls Tryz.prog 48 #[fpV E] w fun e w' => e = .returned (.func (.func 70) #[] #[.pointer (some ⟨w.heap.size, 0, none⟩)]) /\ w' = w.alloc (.cells #[fpV E] 30) := by
 have hmf : ∀ (fn : Fn) (first cap : Array Value) (w : World), (Instr.makeFunc fn first cap).run Tryz.prog w = .ok (.func fn first cap) w := fun _ _ _ _ => rfl
 go_enter Tryz.func48, Tryz.ntmps48
 go_wp2
 go_ret
 exact ⟨rfl, rfl⟩
def unask (known : List Nat) (a b : Nat) : List Nat := (List.range b).filter (fun i => decide (a <= i /\ known.getD i 0 = 0))
theorem unask_le (known : List Nat) {a b : Nat} (h : b <= a) : unask known a b = [] := by
 unfold unask
 refine List.filter_eq_nil_iff.2 (fun i hi => ?_)
 have := List.mem_range.1 hi
 simp; omega
theorem unask_yes (known : List Nat) {a i : Nat} (h : a <= i) (h0 : known.getD i 0 = 0) : unask known a (i + 1) = unask known a i ++ [i] := by
 unfold unask
 rw [List.range_succ, List.filter_append]
 congr 1
 simp only [List.filter_cons, List.filter_nil]
 rw [if_pos (by simpa using ⟨h, by simpa using h0⟩)]
theorem unask_no (known : List Nat) {a i : Nat} (h0 : known.getD i 0 ≠ 0) : unask known a (i + 1) = unask known a i := by
 unfold unask
 rw [List.range_succ, List.filter_append]
 simp only [List.filter_cons, List.filter_nil]
 rw [if_neg (by simpa using fun _ => by simpa using h0), List.append_nil]
theorem unask_pre (known : List Nat) (a : Nat) : ∀ (d b : Nat), unask known a b <+: unask known a (b + d)
 | 0, b => List.prefix_refl _
 | d + 1, b => by
  refine (unask_pre known a d b).trans ?_
  rw [<- Nat.add_assoc]
  by_cases h : known.getD (b + d) 0 = 0
  ·by_cases ha : a <= b + d
   ·rw [unask_yes known ha h]; exact List.prefix_append _ _
   ·rw [unask_le known (show b + d <= a by omega)]; exact List.nil_prefix
  ·rw [unask_no known h]
   exact List.prefix_refl _
def FS.wlo (f : FS) (L n : Nat) : Nat := if 1 ∈ f.known /\ f.known.count 2 = 0 then f.lo L n else 0
def FS.whi (f : FS) (L n : Nat) : Nat := if 1 ∈ f.known /\ f.known.count 2 = 0 then f.hi L n else n - 1
def FS.want (f : FS) (L n : Nat) : List Nat := unask f.known (f.wlo L n) (f.whi L n + 1)
def KpF (E : Env) (B : Nat) (W W' : World) : Prop := W'.heap[E.fb]? = W.heap[E.fb]? /\ W'.heap[E.kb]? = W.heap[E.kb]? /\ W'.heap[B]? = W.heap[B]?
def wien (i : Nat) : Array Value := #[.int .i64 (i : Int)]
theorem wanted1_in (n : Nat) (hn : 1 <= n) {E : Env} {f : FS} (l B : Nat) (J Jx : List Nat -> World -> Prop) (W : World) (hJ : AbidesFrom W.heap.size J)
  (hY : ∀ pre x W1, J pre W1 -> pre.length < (f.want E.data.length E.n).length -> YieldAt Fence.wide (n - 1) Tryz.prog l (wien x) W1 fun e W' =>
   (e = .returned (.bool true) /\ J (pre ++ [x]) W' /\ KpF E B W1 W') ∨ (e = .returned (.bool false) /\ Jx (pre ++ [x]) W'))
  (hE : E.Ok) (h : FtAt E W f) (hw : 1 ∈ f.known -> f.Within E.data.length) (hB : W.heap[B]? = some (.cells #[fpV E] 30 (0, 0))) (h0 : J [] W) :
  CallsIn Fence.wide n Tryz.prog 70 #[.func (.yield l) #[] #[], .pointer (some ⟨B, 0, none⟩)] W fun e W' => (∃ v, e = .returned v) /\
   ((∃ ys, ys = f.want E.data.length E.n /\ J ys W') ∨ (∃ pre, pre <+: f.want E.data.length E.n /\ Jx pre W')) := by
 have hn3 := hE.n3
 have hn16 := hE.n16
 have CC := LH (fcount_any 2 W hE h)
 have hB0 := blk_cell hB 0 _ rfl
 have HB := LH hB
 have HJ := LH hJ
 have HY := LH hY
 have HH := LH h
 obtain ⟨F, T, ov, xs, h1⟩ := h
 have c9 := h1.c9
 have c10 := h1.c10
 have HC11 := LH h1.c11
 have HKC := LH h1.kcell
 have HFB := LH h1.head
 have HKB := LH h1.kn
 have hklen := h1.klen
 have hfbl := blk_lt h1.head
 have hkbl := blk_lt h1.kn
 have hBl := blk_lt hB
 have hw1 : IntKind.i64.wrap ((E.n : Int) - 1) = ((E.n - 1 : Nat) : Int) := by rw [IntWalk.i64_in _ ⟨by omega, by omega⟩]; omega
 clear h1 hB hJ hY
 obtain ⟨lo, hlo⟩ : ∃ lo, lo = f.wlo E.data.length E.n := ⟨_, rfl⟩
 obtain ⟨hi, hhi⟩ : ∃ hi, hi = f.whi E.data.length E.n := ⟨_, rfl⟩
 have HWT : Hid (f.want E.data.length E.n = unask f.known lo (hi + 1)) := LH (by unfold FS.want; rw [hlo, hhi])
 have hbig : hi < E.n /\ lo <= hi + 1 := by
  rw [hlo, hhi]
  unfold FS.wlo FS.whi
  by_cases hk : 1 ∈ f.known /\ f.known.count 2 = 0
  ·rw [if_pos hk, if_pos hk]
   have h1 := FS.hi_lt (hw hk.1) hE.l1 hE.n3
   refine ⟨by omega, ?_⟩
   unfold FS.lo FS.hi
   split
   ·omega
   ·rcases (hw hk.1).2 with h2 | ⟨h2, h3⟩
    ·simp_all
    ·have := Nat.div_le_div_right (c := eachN E.data.length E.n) (show f.at' <= f.at' + f.len - 1 by omega)
     omega
  ·rw [if_neg hk, if_neg hk]
   omega
 rw [HWT.out] at HY ⊢
 refine callsIn_of_wp Tryz.func70 rfl trivial ?_ rfl
 simp only [Tryz.ntmps70, List.size_toArray, List.length_cons, List.length_nil, Nat.reduceAdd, Nat.reduceSub, Array.replicate_succ, Array.replicate_zero, List.push_toArray, List.append_toArray, List.nil_append, List.cons_append]
 gi_wp2_with fail
 refine wpIn_region_LN (wide_w) (by kernel_rfl) [(6, fun w' => w'.cell? ⟨B, 0, none⟩ = some (fpV E)), (6, fun w' => w'.cell? ⟨E.fb, 9, none⟩ = some (.int .i64 (E.n : Int)))] (by kernel_rfl) ?_ (fun hHeld => ?_)
 ·exact (HoldC.cons (hB0) (HoldC.cons (c9) HoldC.nil))
 refine tk 5 ?_ rfl (by kernel_rfl) (fun _ _ _ h => h) (.inl ⟨by rfl, ?_⟩) hHeld ?_; rotate_left; · (intro w _; go_simp; try with_reducible rfl)
 clear hHeld; intro hHeld; try simp only [gA,gB,gC,Act.put,gD,gE,gF]
 refine ld 0 0 ?_ rfl rfl (by kernel_rfl) (fun _ _ _ h => h) (.inl ⟨by rfl, ?_⟩) hHeld ?_; rotate_left; · (intro w hSw; (try dsimp only at hSw); go_simp; try with_reducible rfl)
 clear hHeld; intro hHeld; try simp only [gA,gB,gC,Act.put,gD,gE,gF]
 refine tk 1 ?_ rfl (by kernel_rfl) (fun _ _ _ h => h) (.inl ⟨by rfl, ?_⟩) hHeld ?_; rotate_left; · (intro w _; go_simp; try with_reducible rfl)
 clear hHeld; intro hHeld; try simp only [gA,gB,gC,Act.put,gD,gE,gF]
 refine tk 2 ?_ rfl (by kernel_rfl) (fun _ _ _ h => h) (.inl ⟨by rfl, ?_⟩) hHeld ?_; rotate_left; · (intro w _; go_simp; try with_reducible rfl)
 clear hHeld; intro hHeld; try simp only [gA,gB,gC,Act.put,gD,gE,gF]
 refine ld 1 3 ?_ rfl rfl (by kernel_rfl) (fun _ _ _ h => h) (.inl ⟨by rfl, ?_⟩) hHeld ?_; rotate_left; · (intro w hSw; (try dsimp only at hSw); go_simp; try with_reducible rfl)
 clear hHeld; intro hHeld; try simp only [gA,gB,gC,Act.put,gD,gE,gF]
 refine tk 4 ?_ rfl (by kernel_rfl) (fun _ _ _ h => h) (.inl ⟨by rfl, ?_⟩) hHeld ?_; rotate_left; · (intro w _; go_simp; try with_reducible rfl)
 clear hHeld; intro hHeld; try simp only [gA,gB,gC,Act.put,gD,gE,gF]
 refine wpAnyL_ready (rs := [6]) (by kernel_rfl) (by simp) (AllReadyL.cons (o := _) rfl (fun K hK => ?_) AllReadyL.nil)
 try simp only [gA,gB,gC]
 go_simp
 clear hHeld
 refine hK.out _ _ ?_ (fun hHeld => ?_)
 ·exact (HoldC.past (by kernel_rfl) (HoldC.past (by kernel_rfl) HoldC.nil))
 clear hK K
 try simp only [gA,gB,gC,Act.put,gD,gE,gF]
 refine wpAnyL_done (by kernel_rfl) ?_ _
 clear hHeld
 simp only [Qn]
 have hJd : J [] W.drew := HJ.out _ W _ none h0 ⟨rfl, rfl, rfl, Nat.le_refl _, fun _ _ _ => rfl⟩ (fun r e => by cases e)
 have hHd : FtAt E W.drew f := HH.out.keep (Chg.refl [] W).drew
 have hB0d : W.drew.cell? ⟨B, 0, none⟩ = some (fpV E) := hB0
 have c10d : W.drew.cell? ⟨E.fb, 10, none⟩ = some (.int .i64 (f.size E.data.length)) := c10
 have CC2 := LH (fcount_any 2 W.drew hE hHd)
 have HKE : Hid (∀ x, x < W.heap.size -> W.drew.heap[x]? = W.heap[x]?) := LH (fun _ _ => rfl)
 have HSE : Hid (W.drew.heap.size = W.heap.size) := LH rfl
 have HSP : Hid (1 ∈ f.known -> Calls Tryz.prog 71 #[fpV E] W.drew fun e w' => e = .returned (.tuple #[.int .i64 (f.lo E.data.length E.n : Int), .int .i64 (f.hi E.data.length E.n : Int)]) /\ Chg [] W.drew w') := LH (fun hk => fspan_any W.drew hE hHd (hw hk))
 generalize W.drew = Wd at *
 have HJD := LH hJd
 have hwlo : Hid ((1 ∈ f.known /\ f.known.count 2 = 0 -> lo = f.lo E.data.length E.n /\ hi = f.hi E.data.length E.n) /\ (¬ (1 ∈ f.known /\ f.known.count 2 = 0) -> lo = 0 /\ hi = E.n - 1)) := LH (by
  rw [hlo, hhi]
  unfold FS.wlo FS.whi
  exact ⟨fun h => by rw [if_pos h, if_pos h]; exact ⟨rfl, rfl⟩, fun h => by rw [if_neg h, if_neg h]; exact ⟨rfl, rfl⟩⟩)
 clear hlo hhi hJd hHd hB0 c10 c9 CC hw h0
 by_cases hk : 1 ∈ f.known
 ·rw [FS.size_known hk] at c10d
  by_cases hc2 : f.known.count 2 = 0
  ·rw [hc2] at CC2
   have CSP := LH (HSP.out hk)
   obtain ⟨e1, e2⟩ := hwlo.out.1 ⟨hk, hc2⟩
   rw [<- e1, <- e2] at CSP
   gi_wp2_with (refine ⟨trivial, (wide_w.calls CC2.out).mono ?_⟩; rintro e w' ⟨rfl, hq⟩; subst hq)
   refine ⟨trivial, (wide_w.calls CSP.out).mono ?_⟩
   rintro e Wl ⟨rfl, hcs⟩
   have HJL := LH (HJ.out _ Wd Wl none HJD.out ⟨hcs.os, hcs.tape, hcs.output, hcs.size, fun b hb _ => hcs.block b hb (by simp)⟩ (fun r e => by cases e))
   have HHL : Hid (Wl.heap[E.fb]? = W.heap[E.fb]? /\ Wl.heap[E.kb]? = W.heap[E.kb]? /\ Wl.heap[B]? = W.heap[B]?) := LH (by
    have hs := HSE.out
    exact ⟨(hcs.block _ (by omega) (by simp)).trans (HKE.out _ hfbl), (hcs.block _ (by omega) (by simp)).trans (HKE.out _ hkbl), (hcs.block _ (by omega) (by simp)).trans (HKE.out _ hBl)⟩)
   clear hcs CSP CC2 c10d hB0d e1 e2
   gi_wp2
   gi_loopw [5] (fun i wr => ∃ j : Nat, lo <= j /\ (j <= hi + 1) /\ i = .int .i64 j /\ J (unask f.known lo j) wr /\ wr.heap[E.fb]? = W.heap[E.fb]? /\ wr.heap[E.kb]? = W.heap[E.kb]? /\ wr.heap[B]? = W.heap[B]?) (fun i _ => hi + 1 - (intOf i).toNat)
   case atStart => exact ⟨lo, Nat.le_refl _, hbig.2, by first | rfl | (rw [e1]; rfl), by rw [unask_le _ (Nat.le_refl _)]; exact HJL.out, HHL.out⟩
   case round =>
    obtain ⟨j, hlj, hj, rfl, hJs, k1, k2, k3⟩ := hrel
    have d0 : wr.cell? ⟨B, 0, none⟩ = some (fpV E) := (World.cell?_of_block (w := W) (a := ⟨B, 0, none⟩) k3).trans (blk_cell HB.out 0 _ rfl)
    have d11 : wr.cell? ⟨E.fb, 11, none⟩ = some (.slice (some ⟨E.kb, 0, none⟩) E.n E.n) := (World.cell?_of_block (w := W) (a := ⟨E.fb, 11, none⟩) k1).trans HC11.out
    by_cases hlt : j <= hi
    ·have hjn : j < E.n := by omega
     have dk : wr.cell? ⟨E.kb, j, none⟩ = some (.int .i64 ((f.known.getD j 0 : Nat) : Int)) := (World.cell?_of_block (w := W) (a := ⟨E.kb, j, none⟩) k2).trans (HKC.out j hjn)
     have hjz : (j : Int) <= (hi : Int) := by omega
     have hjzn : (j : Int) < (E.n : Int) := by omega
     have hjz1 : (j : Int).toNat = j := by omega
     obtain ⟨v, hv⟩ : ∃ v, v = f.known.getD j 0 := ⟨_, rfl⟩
     rw [<- hv] at dk
     have HK := LH (And.intro k1 (And.intro k2 k3))
     by_cases hv0 : v = 0
     ·subst hv0
      have HST := LH (unask_yes f.known hlj hv.symm)
      have hpl : (unask f.known lo j).length < (unask f.known lo (hi + 1)).length := by
       have h1 := (unask_pre f.known lo (hi - j) (j + 1)).length_le
       rw [show j + 1 + (hi - j) = hi + 1 by omega, HST.out, List.length_append] at h1
       simp at h1
       omega
      have HPR : Hid (unask f.known lo (j + 1) <+: unask f.known lo (hi + 1)) := LH (by
       have h1 := unask_pre f.known lo (hi - j) (j + 1)
       rwa [show j + 1 + (hi - j) = hi + 1 by omega] at h1)
      obtain ⟨fn, tmps, assign, body, hy, hR⟩ := HY.out _ j wr hJs hpl
      unfold wien at hy
      have HRn := LH hR
      clear hR hJs k1 k2 k3 hv hpl
      gi_wp2_with fail
      refine HRn.out.mono ?_
      rintro e W3 (⟨rfl, hJ3, m1, m2, m3⟩ | ⟨rfl, hJx3⟩)
      ·have HJ3 := LH hJ3
       have HK4 := LH (And.intro (m1.trans HK.out.1) (And.intro (m2.trans HK.out.2.1) (m3.trans HK.out.2.2)))
       clear hJ3 m1 m2 m3 hy
       gi_wp2
       go_roundw
       case rel => exact ⟨j + 1, by omega, by omega, by go_num, by rw [HST.out]; exact HJ3.out, HK4.out⟩
       case measure => simp [intOf]; omega
      ·clear hy
       gi_wp2
       refine bodyPost_ret (results_none rfl _ _ _) rfl ?_
       exact ⟨⟨_, rfl⟩, .inr ⟨_, by rw [<- HST.out]; exact HPR.out, hJx3⟩⟩
     ·have hv3 : ((v : Int) == 0) = false := beq_eq_false_iff_ne.2 (by omega)
      have HJS := LH (show J (unask f.known lo (j + 1)) wr by rw [unask_no f.known (by rw [<- hv]; exact hv0)]; exact hJs)
      clear hJs k1 k2 k3 hv
      gi_wp2_with fail
      refine ⟨by simp, ?_⟩
      gi_wp2
      go_roundw
      case rel => exact ⟨j + 1, by omega, by omega, by go_num, HJS.out, HK.out⟩
      case measure => simp [intOf]; omega
    ·obtain rfl : j = hi + 1 := by omega
     have hjz : ¬ ((hi + 1 : Nat) : Int) <= (hi : Int) := by omega
     have HJS := LH hJs
     clear hJs k1 k2 k3
     gi_wp2
     go_end0
     first | exact ⟨⟨_, rfl⟩, .inl ⟨_, rfl, HJS.out⟩⟩ | exact ⟨⟨_, rfl⟩, .inl HJS.out⟩ | exact ⟨⟨_, rfl⟩, .inl (by rw [e1, e2] at HJS; exact HJS.out)⟩
  ·obtain ⟨e1, e2⟩ := hwlo.out.2 (fun h => hc2 h.2)
   have HJL := HJD
   have HHL : Hid (Wd.heap[E.fb]? = W.heap[E.fb]? /\ Wd.heap[E.kb]? = W.heap[E.kb]? /\ Wd.heap[B]? = W.heap[B]?) := LH ⟨HKE.out _ hfbl, HKE.out _ hkbl, HKE.out _ hBl⟩
   have hc2z : ((f.known.count 2 : Nat) : Int) ≠ 0 := by omega
   have hc2b : (((f.known.count 2 : Nat) : Int) == 0) = false := beq_eq_false_iff_ne.2 hc2z
   rw [<- e2]
   gi_wp2_with (refine ⟨trivial, (wide_w.calls CC2.out).mono ?_⟩; rintro e w' ⟨rfl, hq⟩; subst hq)
   clear CC2 c10d hB0d hc2z hc2b
   gi_loopw [5] (fun i wr => ∃ j : Nat, lo <= j /\ (j <= hi + 1) /\ i = .int .i64 j /\ J (unask f.known lo j) wr /\ wr.heap[E.fb]? = W.heap[E.fb]? /\ wr.heap[E.kb]? = W.heap[E.kb]? /\ wr.heap[B]? = W.heap[B]?) (fun i _ => hi + 1 - (intOf i).toNat)
   case atStart => exact ⟨lo, Nat.le_refl _, hbig.2, by first | rfl | (rw [e1]; rfl), by rw [unask_le _ (Nat.le_refl _)]; exact HJL.out, HHL.out⟩
   case round =>
    obtain ⟨j, hlj, hj, rfl, hJs, k1, k2, k3⟩ := hrel
    have d0 : wr.cell? ⟨B, 0, none⟩ = some (fpV E) := (World.cell?_of_block (w := W) (a := ⟨B, 0, none⟩) k3).trans (blk_cell HB.out 0 _ rfl)
    have d11 : wr.cell? ⟨E.fb, 11, none⟩ = some (.slice (some ⟨E.kb, 0, none⟩) E.n E.n) := (World.cell?_of_block (w := W) (a := ⟨E.fb, 11, none⟩) k1).trans HC11.out
    by_cases hlt : j <= hi
    ·have hjn : j < E.n := by omega
     have dk : wr.cell? ⟨E.kb, j, none⟩ = some (.int .i64 ((f.known.getD j 0 : Nat) : Int)) := (World.cell?_of_block (w := W) (a := ⟨E.kb, j, none⟩) k2).trans (HKC.out j hjn)
     have hjz : (j : Int) <= (hi : Int) := by omega
     have hjzn : (j : Int) < (E.n : Int) := by omega
     have hjz1 : (j : Int).toNat = j := by omega
     obtain ⟨v, hv⟩ : ∃ v, v = f.known.getD j 0 := ⟨_, rfl⟩
     rw [<- hv] at dk
     have HK := LH (And.intro k1 (And.intro k2 k3))
     by_cases hv0 : v = 0
     ·subst hv0
      have HST := LH (unask_yes f.known hlj hv.symm)
      have hpl : (unask f.known lo j).length < (unask f.known lo (hi + 1)).length := by
       have h1 := (unask_pre f.known lo (hi - j) (j + 1)).length_le
       rw [show j + 1 + (hi - j) = hi + 1 by omega, HST.out, List.length_append] at h1
       simp at h1
       omega
      have HPR : Hid (unask f.known lo (j + 1) <+: unask f.known lo (hi + 1)) := LH (by
       have h1 := unask_pre f.known lo (hi - j) (j + 1)
       rwa [show j + 1 + (hi - j) = hi + 1 by omega] at h1)
      obtain ⟨fn, tmps, assign, body, hy, hR⟩ := HY.out _ j wr hJs hpl
      unfold wien at hy
      have HRn := LH hR
      clear hR hJs k1 k2 k3 hv hpl
      gi_wp2_with fail
      refine HRn.out.mono ?_
      rintro e W3 (⟨rfl, hJ3, m1, m2, m3⟩ | ⟨rfl, hJx3⟩)
      ·have HJ3 := LH hJ3
       have HK4 := LH (And.intro (m1.trans HK.out.1) (And.intro (m2.trans HK.out.2.1) (m3.trans HK.out.2.2)))
       clear hJ3 m1 m2 m3 hy
       gi_wp2
       go_roundw
       case rel => exact ⟨j + 1, by omega, by omega, by go_num, by rw [HST.out]; exact HJ3.out, HK4.out⟩
       case measure => simp [intOf]; omega
      ·clear hy
       gi_wp2
       refine bodyPost_ret (results_none rfl _ _ _) rfl ?_
       exact ⟨⟨_, rfl⟩, .inr ⟨_, by rw [<- HST.out]; exact HPR.out, hJx3⟩⟩
     ·have hv3 : ((v : Int) == 0) = false := beq_eq_false_iff_ne.2 (by omega)
      have HJS := LH (show J (unask f.known lo (j + 1)) wr by rw [unask_no f.known (by rw [<- hv]; exact hv0)]; exact hJs)
      clear hJs k1 k2 k3 hv
      gi_wp2_with fail
      refine ⟨by simp, ?_⟩
      gi_wp2
      go_roundw
      case rel => exact ⟨j + 1, by omega, by omega, by go_num, HJS.out, HK.out⟩
      case measure => simp [intOf]; omega
    ·obtain rfl : j = hi + 1 := by omega
     have hjz : ¬ ((hi + 1 : Nat) : Int) <= (hi : Int) := by omega
     have HJS := LH hJs
     clear hJs k1 k2 k3
     gi_wp2
     go_end0
     first | exact ⟨⟨_, rfl⟩, .inl ⟨_, rfl, HJS.out⟩⟩ | exact ⟨⟨_, rfl⟩, .inl HJS.out⟩ | exact ⟨⟨_, rfl⟩, .inl (by rw [e1, e2] at HJS; exact HJS.out)⟩
 ·rw [FS.size_not hk] at c10d
  obtain ⟨e1, e2⟩ := hwlo.out.2 (fun h => hk h.1)
  have HJL := HJD
  have HHL : Hid (Wd.heap[E.fb]? = W.heap[E.fb]? /\ Wd.heap[E.kb]? = W.heap[E.kb]? /\ Wd.heap[B]? = W.heap[B]?) := LH ⟨HKE.out _ hfbl, HKE.out _ hkbl, HKE.out _ hBl⟩
  rw [<- e2]
  gi_wp2_with fail
  refine ⟨trivial, ?_⟩
  clear c10d hB0d CC2
  gi_wp2
  gi_loopw [5] (fun i wr => ∃ j : Nat, lo <= j /\ (j <= hi + 1) /\ i = .int .i64 j /\ J (unask f.known lo j) wr /\ wr.heap[E.fb]? = W.heap[E.fb]? /\ wr.heap[E.kb]? = W.heap[E.kb]? /\ wr.heap[B]? = W.heap[B]?) (fun i _ => hi + 1 - (intOf i).toNat)
  case atStart => exact ⟨lo, Nat.le_refl _, hbig.2, by first | rfl | (rw [e1]; rfl), by rw [unask_le _ (Nat.le_refl _)]; exact HJL.out, HHL.out⟩
  case round =>
   obtain ⟨j, hlj, hj, rfl, hJs, k1, k2, k3⟩ := hrel
   have d0 : wr.cell? ⟨B, 0, none⟩ = some (fpV E) := (World.cell?_of_block (w := W) (a := ⟨B, 0, none⟩) k3).trans (blk_cell HB.out 0 _ rfl)
   have d11 : wr.cell? ⟨E.fb, 11, none⟩ = some (.slice (some ⟨E.kb, 0, none⟩) E.n E.n) := (World.cell?_of_block (w := W) (a := ⟨E.fb, 11, none⟩) k1).trans HC11.out
   by_cases hlt : j <= hi
   ·have hjn : j < E.n := by omega
    have dk : wr.cell? ⟨E.kb, j, none⟩ = some (.int .i64 ((f.known.getD j 0 : Nat) : Int)) := (World.cell?_of_block (w := W) (a := ⟨E.kb, j, none⟩) k2).trans (HKC.out j hjn)
    have hjz : (j : Int) <= (hi : Int) := by omega
    have hjzn : (j : Int) < (E.n : Int) := by omega
    have hjz1 : (j : Int).toNat = j := by omega
    obtain ⟨v, hv⟩ : ∃ v, v = f.known.getD j 0 := ⟨_, rfl⟩
    rw [<- hv] at dk
    have HK := LH (And.intro k1 (And.intro k2 k3))
    by_cases hv0 : v = 0
    ·subst hv0
     have HST := LH (unask_yes f.known hlj hv.symm)
     have hpl : (unask f.known lo j).length < (unask f.known lo (hi + 1)).length := by
      have h1 := (unask_pre f.known lo (hi - j) (j + 1)).length_le
      rw [show j + 1 + (hi - j) = hi + 1 by omega, HST.out, List.length_append] at h1
      simp at h1
      omega
     have HPR : Hid (unask f.known lo (j + 1) <+: unask f.known lo (hi + 1)) := LH (by
      have h1 := unask_pre f.known lo (hi - j) (j + 1)
      rwa [show j + 1 + (hi - j) = hi + 1 by omega] at h1)
     obtain ⟨fn, tmps, assign, body, hy, hR⟩ := HY.out _ j wr hJs hpl
     unfold wien at hy
     have HRn := LH hR
     clear hR hJs k1 k2 k3 hv hpl
     gi_wp2_with fail
     refine HRn.out.mono ?_
     rintro e W3 (⟨rfl, hJ3, m1, m2, m3⟩ | ⟨rfl, hJx3⟩)
     ·have HJ3 := LH hJ3
      have HK4 := LH (And.intro (m1.trans HK.out.1) (And.intro (m2.trans HK.out.2.1) (m3.trans HK.out.2.2)))
      clear hJ3 m1 m2 m3 hy
      gi_wp2
      go_roundw
      case rel => exact ⟨j + 1, by omega, by omega, by go_num, by rw [HST.out]; exact HJ3.out, HK4.out⟩
      case measure => simp [intOf]; omega
     ·clear hy
      gi_wp2
      refine bodyPost_ret (results_none rfl _ _ _) rfl ?_
      exact ⟨⟨_, rfl⟩, .inr ⟨_, by rw [<- HST.out]; exact HPR.out, hJx3⟩⟩
    ·have hv3 : ((v : Int) == 0) = false := beq_eq_false_iff_ne.2 (by omega)
     have HJS := LH (show J (unask f.known lo (j + 1)) wr by rw [unask_no f.known (by rw [<- hv]; exact hv0)]; exact hJs)
     clear hJs k1 k2 k3 hv
     gi_wp2_with fail
     refine ⟨by simp, ?_⟩
     gi_wp2
     go_roundw
     case rel => exact ⟨j + 1, by omega, by omega, by go_num, HJS.out, HK.out⟩
     case measure => simp [intOf]; omega
   ·obtain rfl : j = hi + 1 := by omega
    have hjz : ¬ ((hi + 1 : Nat) : Int) <= (hi : Int) := by omega
    have HJS := LH hJs
    clear hJs k1 k2 k3
    gi_wp2
    go_end0
    first | exact ⟨⟨_, rfl⟩, .inl ⟨_, rfl, HJS.out⟩⟩ | exact ⟨⟨_, rfl⟩, .inl HJS.out⟩ | exact ⟨⟨_, rfl⟩, .inl (by rw [e1, e2] at HJS; exact HJS.out)⟩
end
section
open Go.RowKit Go.Shelf
def FS.aim (f : FS) (data : List UInt8) : List UInt8 := if f.whole then data else (data.drop f.at').take f.len
theorem BRow.piece {w : World} {va : Option Addr} {vc : Nat} {l : List UInt8} (h : BRow w (.slice va l.length vc) l) (a n : Nat) (hn : a + n <= l.length) (h1 : 1 <= n) : ∃ g, va = some ⟨g, 0, none⟩ /\ l.length <= vc /\ BytesAt w (.slice (some ⟨g, a, none⟩) n (vc - a)) ((l.drop a).take n) := by
 have hb := h.bytes
 have hne : l ≠ [] := fun e => by rw [e] at hn; simp at hn; omega
 rcases h.2 with ⟨e, h0⟩ | ⟨g, cap, cur, e, _, hg, hnc, hcm, hcs, htake⟩
 ·exfalso; exact hne (List.eq_nil_of_length_eq_zero h0)
 ·cases e
  have e1 : ((l.drop a).take n).length = n := by rw [List.length_take, List.length_drop]; omega
  refine ⟨g, rfl, hnc, _, vc - a, by rw [e1], by omega, by omega, .inr ⟨g, a, rfl, fun i hi => ?_⟩⟩
  rw [e1] at hi
  have h3 := h.cells (g := g) rfl (a + i) _ (bvs_at l (a + i) (by omega))
  rw [add_none, Nat.zero_add] at h3
  rw [h3]
  congr 2
  simp only [List.getD_eq_getElem?_getD]
  rw [List.getElem?_take_of_lt hi, List.getElem?_drop]
theorem ffinish_any {E : Env} {f : FS} (k : Nat) (w : World) (hE : E.Ok) (h : FtAt E w f) (hw : f.Within E.data.length) (hk : k < E.n) (hone : ∀ i, i < E.n -> (f.known.getD i 0 = 1 ↔ i ≠ k)) :
  Calls Tryz.prog 50 #[fpV E] w fun e w' => e = .returned (.tuple #[]) /\ FtAt E w' (f.ends (f.aim E.data) 0) /\ Chg E.T w w' := by
 have HW := LH h
 obtain ⟨F, T, ov, xs, h⟩ := h
 have c0 := h.c0
 have c1 := h.c1
 have c2 := h.c2
 have c9 := h.c9
 have c12 := h.c12
 have hn3 := hE.n3
 have hn16 := hE.n16
 have hl1 := hE.l1
 have hl2 := hE.l2
 have CJ := LH (fun w' (hc : Chg [] w w') => ljoin_any (g := E.gb) (cap := E.n) (k := k) (F := F) E.s E.data w' hE.s hk hn3 hn16 hl1 hl2 (by
  refine ⟨h.flen, ⟨Nat.lt_of_lt_of_le (blk_lt h.fr) hc.size, by rw [h.flen]; omega, fun j x hx => hc.cell (blk_cell h.fr j _ (by simp [hx])) (by simp)⟩, fun i x hx => ⟨(h.frag i x hx).1.chg hc (by simp), ?_⟩⟩
  have hi : i < E.n := by rw [<- h.flen]; exact (List.getElem?_eq_some_iff.1 hx).1
  rw [(h.frag i x hx).2.1]
  by_cases hik : i = k
  ·rw [if_neg (fun e => ((hone i hi).1 e) hik), if_pos hik]
  ·rw [if_pos ((hone i hi).2 hik), if_neg hik]))
 have hTl := h.lim
 have HE := LH hE
 have HWI := LH hw
 clear h hone
 go_enter Tryz.func50, Tryz.ntmps50
 go_wp2_with fail
 refine wp_region_L [(12, fun w' => (w'.cell? ⟨E.fb, 0, none⟩ = some (.int .i64 E.s.c) /\ w'.cell? ⟨E.fb, 1, none⟩ = some (.int .i64 E.s.l) /\ w'.cell? ⟨E.fb, 2, none⟩ = some (.int .i64 E.s.n))), (12, fun w' => w'.cell? ⟨E.fb, 12, none⟩ = some (.slice (some ⟨E.gb, 0, none⟩) E.n E.n)), (12, fun w' => w'.cell? ⟨E.fb, 9, none⟩ = some (.int .i64 (E.n : Int)))] (by kernel_rfl) ?_ (fun hHeld => ?_)
 ·exact (HoldC.cons (⟨c0, c1, c2⟩) (HoldC.cons (c12) (HoldC.cons (c9) HoldC.nil)))
 refine tk 0 ?_ rfl (by kernel_rfl) (fun _ _ _ h => h) (.inl ⟨by rfl, ?_⟩) hHeld ?_; rotate_left; · (intro w _; go_simp; try with_reducible rfl)
 clear hHeld; intro hHeld; try simp only [gA,gB,gC,Act.put,gD,gE,gF]
 refine tk 1 ?_ rfl (by kernel_rfl) (fun _ _ _ h => h) (.inl ⟨by rfl, ?_⟩) hHeld ?_; rotate_left; · (intro w _; go_simp; try with_reducible rfl)
 clear hHeld; intro hHeld; try simp only [gA,gB,gC,Act.put,gD,gE,gF]
 refine tk 2 ?_ rfl (by kernel_rfl) (fun _ _ _ h => h) (.inl ⟨by rfl, ?_⟩) hHeld ?_; rotate_left; · (intro w _; go_simp; try with_reducible rfl)
 clear hHeld; intro hHeld; try simp only [gA,gB,gC,Act.put,gD,gE,gF]
 refine tk 4 ?_ rfl (by kernel_rfl) (fun _ _ _ h => h) (.inl ⟨by rfl, ?_⟩) hHeld ?_; rotate_left; · (intro w _; go_simp; try with_reducible rfl)
 clear hHeld; intro hHeld; try simp only [gA,gB,gC,Act.put,gD,gE,gF]
 refine tk 5 ?_ rfl (by kernel_rfl) (fun _ _ _ h => h) (.inl ⟨by rfl, ?_⟩) hHeld ?_; rotate_left; · (intro w _; go_simp; try with_reducible rfl)
 clear hHeld; intro hHeld; try simp only [gA,gB,gC,Act.put,gD,gE,gF]
 refine tk 6 ?_ rfl (by kernel_rfl) (fun _ _ _ h => h) (.inl ⟨by rfl, ?_⟩) hHeld ?_; rotate_left; · (intro w _; go_simp; try with_reducible rfl)
 clear hHeld; intro hHeld; try simp only [gA,gB,gC,Act.put,gD,gE,gF]
 refine tk 8 ?_ rfl (by kernel_rfl) (fun _ _ _ h => h) (.inl ⟨by rfl, ?_⟩) hHeld ?_; rotate_left; · (intro w _; go_simp; try with_reducible rfl)
 clear hHeld; intro hHeld; try simp only [gA,gB,gC,Act.put,gD,gE,gF]
 refine tk 9 ?_ rfl (by kernel_rfl) (fun _ _ _ h => h) (.inl ⟨by rfl, ?_⟩) hHeld ?_; rotate_left; · (intro w _; go_simp; try with_reducible rfl)
 clear hHeld; intro hHeld; try simp only [gA,gB,gC,Act.put,gD,gE,gF]
 refine tk 10 ?_ rfl (by kernel_rfl) (fun _ _ _ h => h) (.inl ⟨by rfl, ?_⟩) hHeld ?_; rotate_left; · (intro w _; go_simp; try with_reducible rfl)
 clear hHeld; intro hHeld; try simp only [gA,gB,gC,Act.put,gD,gE,gF]
 refine ld 0 3 ?_ rfl rfl (by kernel_rfl) (fun _ _ _ h => h) (.inl ⟨by rfl, ?_⟩) hHeld ?_; rotate_left; · (intro w hSw; (try dsimp only at hSw); go_simp; try with_reducible rfl)
 clear hHeld; intro hHeld; try simp only [gA,gB,gC,Act.put,gD,gE,gF]
 refine ld 1 7 ?_ rfl rfl (by kernel_rfl) (fun _ _ _ h => h) (.inl ⟨by rfl, ?_⟩) hHeld ?_; rotate_left; · (intro w hSw; (try dsimp only at hSw); go_simp; try with_reducible rfl)
 clear hHeld; intro hHeld; try simp only [gA,gB,gC,Act.put,gD,gE,gF]
 refine ld 2 11 ?_ rfl rfl (by kernel_rfl) (fun _ _ _ h => h) (.inl ⟨by rfl, ?_⟩) hHeld ?_; rotate_left; · (intro w hSw; (try dsimp only at hSw); go_simp; try with_reducible rfl)
 clear hHeld; intro hHeld; try simp only [gA,gB,gC,Act.put,gD,gE,gF]
 refine wpAnyL_ready (rs := [12]) (by kernel_rfl) (by simp) (AllReadyL.cons (o := _) rfl (fun K hK => ?_) AllReadyL.nil)
 try simp only [gA,gB,gC]
 go_simp
 refine (CJ.out _ (Chg.refl [] w).drew).mono ?_
 rintro e w1 ⟨v, rfl, hv, hvn, hc1⟩
 have HC1 := LH ((Chg.refl [] w).drew.trans hc1 (by simp))
 obtain ⟨va, vc, hve⟩ := hv.bytes.slice
 subst hve
 have HV := LH hv
 have hzd : w.drew.heap.size = w.heap.size := rfl
 have HVN : Hid (∀ q, (Value.slice va E.data.length vc).ownBlock = some q -> q ∉ E.T) := LH (fun q hq hm => by have h1 := hvn q hq; have h2 := hTl q hm; omega)
 clear hc1 hv hvn CJ
 clear hHeld
 refine hK.out _ _ ?_ (fun hHeld => ?_)
 ·exact (HoldC.past (by kernel_rfl) (HoldC.past (by kernel_rfl) (HoldC.past (by kernel_rfl) HoldC.nil)))
 clear hK K
 try simp only [gA,gB,gC,Act.put,gD,gE,gF]
 refine tk 13 ?_ rfl (by kernel_rfl) (fun _ _ _ h => h) (.inl ⟨by rfl, ?_⟩) hHeld ?_; rotate_left; · (intro w _; go_simp; try with_reducible rfl)
 clear hHeld; intro hHeld; try simp only [gA,gB,gC,Act.put,gD,gE,gF]
 refine tk 14 ?_ rfl (by kernel_rfl) (fun _ _ _ h => h) (.inl ⟨by rfl, ?_⟩) hHeld ?_; rotate_left; · (intro w _; go_simp; try with_reducible rfl)
 clear hHeld; intro hHeld; try simp only [gA,gB,gC,Act.put,gD,gE,gF]
 refine tk 15 ?_ rfl (by kernel_rfl) (fun _ _ _ h => h) (.inl ⟨by rfl, ?_⟩) hHeld ?_; rotate_left; · (intro w _; go_simp; try with_reducible rfl)
 clear hHeld; intro hHeld; try simp only [gA,gB,gC,Act.put,gD,gE,gF]
 refine tk 16 ?_ rfl (by kernel_rfl) (fun _ _ _ h => h) (.inl ⟨by rfl, ?_⟩) hHeld ?_; rotate_left; · (intro w _; go_simp; try with_reducible rfl)
 clear hHeld; intro hHeld; try simp only [gA,gB,gC,Act.put,gD,gE,gF]
 refine tk 17 ?_ rfl (by kernel_rfl) (fun _ _ _ h => h) (.inl ⟨by rfl, ?_⟩) hHeld ?_; rotate_left; · (intro w _; go_simp; try with_reducible rfl)
 clear hHeld; intro hHeld; try simp only [gA,gB,gC,Act.put,gD,gE,gF]
 refine wpAnyL_done (by kernel_rfl) ?_ _
 clear hHeld
 obtain ⟨F, T, ov, xs, h1⟩ := HW.out.keep HC1.out
 have d8 := h1.c8
 have d6 := h1.c6
 have d7 := h1.c7
 clear h1 c0 c1 c2 c9 c12
 cases hwh : f.whole with
 | true =>
  rw [hwh] at d8
  have HA : Hid (f.aim E.data = E.data) := LH (by unfold FS.aim; rw [hwh]; rfl)
  have CE := LH (fend_any E.data _ 0 w1 HE.out (HW.out.keep HC1.out) HV.out.bytes (fun _ => HVN.out))
  go_wp2_with fail
  refine CE.out.mono ?_
  rintro e w2 ⟨rfl, hf, hc⟩
  rw [<- HA.out] at hf
  have HF := LH (And.intro hf ((HC1.out.mono (T := E.T) (by simp)).trans hc (fun x hx => .inl hx)))
  clear hf hc CE
  go_wp2
  go_end0
  exact ⟨rfl, HF.out⟩
 | false =>
  rw [hwh] at d8
  obtain ⟨b1, b2⟩ : 1 <= f.len /\ f.at' + f.len <= E.data.length := by
   rcases HWI.out.2 with h2 | h2
   ·rw [hwh] at h2; cases h2
   ·exact h2
  have HA : Hid (f.aim E.data = (E.data.drop f.at').take f.len) := LH (by unfold FS.aim; rw [hwh]; rfl)
  obtain ⟨g, rfl, hvc, hpc⟩ := HV.out.piece f.at' f.len b2 b1
  have CC := LH (fun w' (hc : Chg [] w1 w') => clone_any _ _ w' (hpc.chg hc (by simp)) (by rw [List.length_take]; omega))
  have hpl : ((E.data.drop f.at').take f.len).length = f.len := by rw [List.length_take, List.length_drop]; omega
  have hwa : IntKind.i64.wrap ((f.at' : Int) + (f.len : Int)) = (f.at' : Int) + (f.len : Int) := IntWalk.i64_in _ ⟨by omega, by omega⟩
  have hx1 : (f.at' : Int) <= (f.at' : Int) + (f.len : Int) := by omega
  have hx2 : (f.at' : Int) + (f.len : Int) <= (vc : Int) := by omega
  have hvne : ¬ vc = f.at' := by omega
  have e3 : ((f.at' : Int) + (f.len : Int)).toNat - f.at' = f.len := by omega
  clear hpc
  go_wp2_with fail
  refine wp_region_L [(19, fun w' => w'.cell? ⟨E.fb, 6, none⟩ = some (.int .i64 (f.at' : Int))), (19, fun w' => w'.cell? ⟨E.fb, 7, none⟩ = some (.int .i64 (f.len : Int)))] (by kernel_rfl) ?_ (fun hHeld => ?_)
  ·exact (HoldC.cons (d6) (HoldC.cons (d7) HoldC.nil))
  refine tk 0 ?_ rfl (by kernel_rfl) (fun _ _ _ h => h) (.inl ⟨by rfl, ?_⟩) hHeld ?_; rotate_left; · (intro w _; go_simp; try with_reducible rfl)
  clear hHeld; intro hHeld; try simp only [gA,gB,gC,Act.put,gD,gE,gF]
  refine tk 1 ?_ rfl (by kernel_rfl) (fun _ _ _ h => h) (.inl ⟨by rfl, ?_⟩) hHeld ?_; rotate_left; · (intro w _; go_simp; try with_reducible rfl)
  clear hHeld; intro hHeld; try simp only [gA,gB,gC,Act.put,gD,gE,gF]
  refine tk 2 ?_ rfl (by kernel_rfl) (fun _ _ _ h => h) (.inl ⟨by rfl, ?_⟩) hHeld ?_; rotate_left; · (intro w _; go_simp; try with_reducible rfl)
  clear hHeld; intro hHeld; try simp only [gA,gB,gC,Act.put,gD,gE,gF]
  refine tk 3 ?_ rfl (by kernel_rfl) (fun _ _ _ h => h) (.inl ⟨by rfl, ?_⟩) hHeld ?_; rotate_left; · (intro w _; go_simp; try with_reducible rfl)
  clear hHeld; intro hHeld; try simp only [gA,gB,gC,Act.put,gD,gE,gF]
  refine tk 4 ?_ rfl (by kernel_rfl) (fun _ _ _ h => h) (.inl ⟨by rfl, ?_⟩) hHeld ?_; rotate_left; · (intro w _; go_simp; try with_reducible rfl)
  clear hHeld; intro hHeld; try simp only [gA,gB,gC,Act.put,gD,gE,gF]
  refine tk 5 ?_ rfl (by kernel_rfl) (fun _ _ _ h => h) (.inl ⟨by rfl, ?_⟩) hHeld ?_; rotate_left; · (intro w _; go_simp; try with_reducible rfl)
  clear hHeld; intro hHeld; try simp only [gA,gB,gC,Act.put,gD,gE,gF]
  refine tk 7 ?_ rfl (by kernel_rfl) (fun _ _ _ h => h) (.inl ⟨by rfl, ?_⟩) hHeld ?_; rotate_left; · (intro w _; go_simp; try with_reducible rfl)
  clear hHeld; intro hHeld; try simp only [gA,gB,gC,Act.put,gD,gE,gF]
  refine tk 8 ?_ rfl (by kernel_rfl) (fun _ _ _ h => h) (.inl ⟨by rfl, ?_⟩) hHeld ?_; rotate_left; · (intro w _; go_simp; try with_reducible rfl)
  clear hHeld; intro hHeld; try simp only [gA,gB,gC,Act.put,gD,gE,gF]
  refine tk 9 ?_ rfl (by kernel_rfl) (fun _ _ _ h => h) (.inl ⟨by rfl, ?_⟩) hHeld ?_; rotate_left; · (intro w _; go_simp; try with_reducible rfl)
  clear hHeld; intro hHeld; try simp only [gA,gB,gC,Act.put,gD,gE,gF]
  refine tk 10 ?_ rfl (by kernel_rfl) (fun _ _ _ h => h) (.inl ⟨by rfl, ?_⟩) hHeld ?_; rotate_left; · (intro w _; go_simp; try with_reducible rfl)
  clear hHeld; intro hHeld; try simp only [gA,gB,gC,Act.put,gD,gE,gF]
  refine tk 12 ?_ rfl (by kernel_rfl) (fun _ _ _ h => h) (.inl ⟨by rfl, ?_⟩) hHeld ?_; rotate_left; · (intro w _; go_simp; try with_reducible rfl)
  clear hHeld; intro hHeld; try simp only [gA,gB,gC,Act.put,gD,gE,gF]
  refine tk 13 ?_ rfl (by kernel_rfl) (fun _ _ _ h => h) (.inl ⟨by rfl, ?_⟩) hHeld ?_; rotate_left; · (intro w _; go_simp; try with_reducible rfl)
  clear hHeld; intro hHeld; try simp only [gA,gB,gC,Act.put,gD,gE,gF]
  refine tk 14 ?_ rfl (by kernel_rfl) (fun _ _ _ h => h) (.inl ⟨by rfl, ?_⟩) hHeld ?_; rotate_left; · (intro w _; go_simp; try with_reducible rfl)
  clear hHeld; intro hHeld; try simp only [gA,gB,gC,Act.put,gD,gE,gF]
  refine tk 15 ?_ rfl (by kernel_rfl) (fun _ _ _ h => h) (.inl ⟨by rfl, ?_⟩) hHeld ?_; rotate_left; · (intro w _; go_simp; try with_reducible rfl)
  clear hHeld; intro hHeld; try simp only [gA,gB,gC,Act.put,gD,gE,gF]
  refine ld 0 6 ?_ rfl rfl (by kernel_rfl) (fun _ _ _ h => h) (.inl ⟨by rfl, ?_⟩) hHeld ?_; rotate_left; · (intro w hSw; (try dsimp only at hSw); go_simp; try with_reducible rfl)
  clear hHeld; intro hHeld; try simp only [gA,gB,gC,Act.put,gD,gE,gF]
  refine ld 0 11 ?_ rfl rfl (by kernel_rfl) (fun _ _ _ h => h) (.inl ⟨by rfl, ?_⟩) hHeld ?_; rotate_left; · (intro w hSw; (try dsimp only at hSw); go_simp; try with_reducible rfl)
  clear hHeld; intro hHeld; try simp only [gA,gB,gC,Act.put,gD,gE,gF]
  refine ld 1 16 ?_ rfl rfl (by kernel_rfl) (fun _ _ _ h => h) (.inl ⟨by rfl, ?_⟩) hHeld ?_; rotate_left; · (intro w hSw; (try dsimp only at hSw); go_simp; try with_reducible rfl)
  clear hHeld; intro hHeld; try simp only [gA,gB,gC,Act.put,gD,gE,gF]
  refine tk 17 ?_ rfl (by kernel_rfl) (fun _ _ _ h => h) (.inl ⟨by rfl, ?_⟩) hHeld ?_; rotate_left; · (intro w _; go_simp; try with_reducible rfl)
  clear hHeld; intro hHeld; try simp only [gA,gB,gC,Act.put,gD,gE,gF]
  refine tk 18 ?_ rfl (by kernel_rfl) (fun _ _ _ h => h) (.inl ⟨by rfl, ?_⟩) hHeld ?_; rotate_left; · (intro w _; go_simp; try with_reducible rfl)
  clear hHeld; intro hHeld; try simp only [gA,gB,gC,Act.put,gD,gE,gF]
  refine wpAnyL_ready (rs := [19]) (by kernel_rfl) (by simp) (AllReadyL.cons (o := _) rfl (fun K hK => ?_) AllReadyL.nil)
  try simp only [gA,gB,gC]
  go_simp
  refine (CC.out _ (Chg.refl [] w1).drew).mono ?_
  rintro e w2 ⟨u, rfl, hu, hun, hc2⟩
  have hc12 : Chg [] w1 w2 := (Chg.refl [] w1).drew.trans hc2 (by simp)
  have hz1 : w1.drew.heap.size = w1.heap.size := rfl
  have CE := LH (fend_any _ u 0 w2 HE.out ((HW.out.keep HC1.out).keep hc12) hu.bytes (fun _ q hq hm => by have h1 := hun q hq; have h2 := hTl q hm; have := HC1.out.size; omega))
  have HC2 := LH (HC1.out.trans hc12 (by simp))
  clear hu hun hc2 hc12 CC
  clear hHeld
  refine hK.out _ _ ?_ (fun hHeld => ?_)
  ·exact (HoldC.past (by kernel_rfl) (HoldC.past (by kernel_rfl) HoldC.nil))
  clear hK K
  try simp only [gA,gB,gC,Act.put,gD,gE,gF]
  refine wpAnyL_ready (rs := [20]) (by kernel_rfl) (by simp) (AllReadyL.cons (o := _) rfl (fun K hK => ?_) AllReadyL.nil)
  try simp only [gA,gB,gC]
  go_simp
  refine CE.out.mono ?_
  rintro e w3 ⟨rfl, hf, hc⟩
  rw [<- HA.out] at hf
  have HF := LH (And.intro hf ((HC2.out.mono (T := E.T) (by simp)).trans hc (fun x hx => .inl hx)))
  clear hf hc CE
  clear hHeld
  refine hK.out _ _ ?_ (fun hHeld => ?_)
  ·exact (HoldC.past (by kernel_rfl) (HoldC.past (by kernel_rfl) HoldC.nil))
  clear hK K
  try simp only [gA,gB,gC,Act.put,gD,gE,gF]
  refine wpAnyL_done (by kernel_rfl) ?_ _
  clear hHeld
  go_wp2
  go_end0
  exact ⟨rfl, HF.out⟩
end
section
open Go.RowKit Go.Shelf
theorem fpart_any {E : Env} {f : FS} (w : World) (hE : E.Ok) (h : FtAt E w f) (hw : f.Within E.data.length) (hwh : f.whole = false) (hall : ∀ i, f.lo E.data.length E.n <= i -> i <= f.hi E.data.length E.n -> f.known.getD i 0 = 1) :
  Calls Tryz.prog 51 #[fpV E] w fun e w' => e = .returned (.tuple #[]) /\ FtAt E w' (f.ends (f.aim E.data) 0) /\ Chg E.T w w' := by
 have HW := LH h
 obtain ⟨F, T, ov, xs, h⟩ := h
 have c6 := h.c6
 have c7 := h.c7
 have c9 := h.c9
 have c10 := h.c10
 rw [FS.size_known hw.1] at c10
 have HC13 := LH h.c13
 have hn3 := hE.n3
 have hn16 := hE.n16
 have hl1 := hE.l1
 have hl2 := hE.l2
 obtain ⟨b1, b2⟩ : 1 <= f.len /\ f.at' + f.len <= E.data.length := by
  rcases hw.2 with h2 | h2
  ·rw [hwh] at h2; cases h2
  ·exact h2
 have HA : Hid (f.aim E.data = (E.data.drop f.at').take f.len) := LH (by unfold FS.aim; rw [hwh]; rfl)
 have hp := each_pos (size := E.data.length) (n := E.n) hl1
 have hel := each_le (size := E.data.length) (n := E.n) hl1
 have HB : Hid (∀ p, f.at' <= p -> p < f.at' + f.len -> ∃ g o n c, w.cell? ⟨E.rb, p / eachN E.data.length E.n, none⟩ = some (.slice (some ⟨g, o, none⟩) n c) /\ p / eachN E.data.length E.n < E.n /\ p % eachN E.data.length E.n < n /\ w.cell? ⟨g, o + p % eachN E.data.length E.n, none⟩ = some (.int .u8 ((E.data.getD p 0).toNat : Int))) := LH (fun p hp1 hp2 => by
  obtain ⟨q1, q2, q3⟩ := byte_at (data := E.data) (n := E.n) (by omega) (show p < E.data.length by omega)
  have hlo : f.lo E.data.length E.n <= p / eachN E.data.length E.n := by unfold FS.lo; rw [hwh]; exact Nat.div_le_div_right hp1
  have hhi : p / eachN E.data.length E.n <= f.hi E.data.length E.n := by unfold FS.hi; rw [hwh]; exact Nat.div_le_div_right (by omega)
  have hk := hall _ hlo hhi
  generalize p / eachN E.data.length E.n = q at *
  generalize p % eachN E.data.length E.n = r at *
  obtain ⟨x, hx⟩ : ∃ x, T[q]? = some x := ⟨_, List.getElem?_eq_getElem (by rw [h.tlen]; omega)⟩
  obtain ⟨r1, r2, _⟩ := h.rest q _ hx
  rw [if_pos hk] at r2
  have hrow : rowN E.data E.n q = partN E.data E.n q := by unfold rowN; rw [if_neg (by omega)]
  rw [r2, hrow] at r1
  obtain ⟨va, vc, hv, g1, g2, g3⟩ := r1
  rcases g3 with ⟨e, _⟩ | ⟨g, o, rfl, hcell⟩
  ·rw [e] at q2; simp at q2
  ·refine ⟨g, o, (partN E.data E.n q).length, vc, ?_, by omega, q2, ?_⟩
   ·rw [<- hv]; exact blk_cell h.rs q _ (by simp [hx])
   ·rw [<- q3]; exact hcell r q2)
 have CE0 := LH (fun w => leach_ok E.data.length E.n w hl1 (by omega) hn3 hn16)
 have hTl := h.lim
 have HE := LH hE
 clear h hall
 go_enter Tryz.func51, Tryz.ntmps51
 go_wp2_with fail
 refine wp_region_L [(8, fun w' => w'.cell? ⟨E.fb, 10, none⟩ = some (.int .i64 (E.data.length : Int))), (8, fun w' => w'.cell? ⟨E.fb, 9, none⟩ = some (.int .i64 (E.n : Int)))] (by kernel_rfl) ?_ (fun hHeld => ?_)
 ·exact (HoldC.cons (c10) (HoldC.cons (c9) HoldC.nil))
 refine tk 0 ?_ rfl (by kernel_rfl) (fun _ _ _ h => h) (.inl ⟨by rfl, ?_⟩) hHeld ?_; rotate_left; · (intro w _; go_simp; try with_reducible rfl)
 clear hHeld; intro hHeld; try simp only [gA,gB,gC,Act.put,gD,gE,gF]
 refine tk 1 ?_ rfl (by kernel_rfl) (fun _ _ _ h => h) (.inl ⟨by rfl, ?_⟩) hHeld ?_; rotate_left; · (intro w _; go_simp; try with_reducible rfl)
 clear hHeld; intro hHeld; try simp only [gA,gB,gC,Act.put,gD,gE,gF]
 refine tk 2 ?_ rfl (by kernel_rfl) (fun _ _ _ h => h) (.inl ⟨by rfl, ?_⟩) hHeld ?_; rotate_left; · (intro w _; go_simp; try with_reducible rfl)
 clear hHeld; intro hHeld; try simp only [gA,gB,gC,Act.put,gD,gE,gF]
 refine tk 4 ?_ rfl (by kernel_rfl) (fun _ _ _ h => h) (.inl ⟨by rfl, ?_⟩) hHeld ?_; rotate_left; · (intro w _; go_simp; try with_reducible rfl)
 clear hHeld; intro hHeld; try simp only [gA,gB,gC,Act.put,gD,gE,gF]
 refine tk 5 ?_ rfl (by kernel_rfl) (fun _ _ _ h => h) (.inl ⟨by rfl, ?_⟩) hHeld ?_; rotate_left; · (intro w _; go_simp; try with_reducible rfl)
 clear hHeld; intro hHeld; try simp only [gA,gB,gC,Act.put,gD,gE,gF]
 refine tk 6 ?_ rfl (by kernel_rfl) (fun _ _ _ h => h) (.inl ⟨by rfl, ?_⟩) hHeld ?_; rotate_left; · (intro w _; go_simp; try with_reducible rfl)
 clear hHeld; intro hHeld; try simp only [gA,gB,gC,Act.put,gD,gE,gF]
 refine ld 0 3 ?_ rfl rfl (by kernel_rfl) (fun _ _ _ h => h) (.inl ⟨by rfl, ?_⟩) hHeld ?_; rotate_left; · (intro w hSw; (try dsimp only at hSw); go_simp; try with_reducible rfl)
 clear hHeld; intro hHeld; try simp only [gA,gB,gC,Act.put,gD,gE,gF]
 refine ld 1 7 ?_ rfl rfl (by kernel_rfl) (fun _ _ _ h => h) (.inl ⟨by rfl, ?_⟩) hHeld ?_; rotate_left; · (intro w hSw; (try dsimp only at hSw); go_simp; try with_reducible rfl)
 clear hHeld; intro hHeld; try simp only [gA,gB,gC,Act.put,gD,gE,gF]
 refine wpAnyL_ready (rs := [8]) (by kernel_rfl) (by simp) (AllReadyL.cons (o := _) rfl (fun K hK => ?_) AllReadyL.nil)
 try simp only [gA,gB,gC]
 go_simp
 refine (CE0.out _).mono ?_
 rintro e w1 ⟨rfl, hq⟩
 have HC1 := LH (show Chg [] w w1 by rw [<- hq]; exact (Chg.refl [] w).drew)
 clear hq
 clear hHeld
 refine hK.out _ _ ?_ (fun hHeld => ?_)
 ·exact (HoldC.past (by kernel_rfl) (HoldC.past (by kernel_rfl) HoldC.nil))
 clear hK K
 try simp only [gA,gB,gC,Act.put,gD,gE,gF]
 refine tk 9 ?_ rfl (by kernel_rfl) (fun _ _ _ h => h) (.inl ⟨by rfl, ?_⟩) hHeld ?_; rotate_left; · (intro w _; go_simp; try with_reducible rfl)
 clear hHeld; intro hHeld; try simp only [gA,gB,gC,Act.put,gD,gE,gF]
 refine wpAnyL_done (by kernel_rfl) ?_ _
 clear hHeld
 have d6 := HC1.out.cell c6 (by simp)
 clear c10 c9
 go_wp2_with fail
 obtain ⟨Q, hQ⟩ : ∃ Q, Q = eachN E.data.length E.n := ⟨_, rfl⟩
 rw [<- hQ] at HB hp hel ⊢
 have HC6 := LH c6
 have HC7 := LH c7
 clear d6 c6 c7 hQ
 go_loopg [3, 4] f.len (fun gm s3 s4 wr => ∃ (j : Nat) (so : Value), so = s3 /\ s4 = .int .i64 ((f.at' + j : Nat) : Int) /\ j <= f.len /\ f.len <= j + gm /\ Hid (BRow wr so ((E.data.drop f.at').take j) /\ (∀ q, so.ownBlock = some q -> w.heap.size <= q) /\ Chg [] w wr))
 case atStart => exact ⟨0, .slice none 0 0, rfl, by simp, by omega, by omega, LH ⟨by rw [List.take_zero]; exact BRow.nil _, by simp [Value.ownBlock], HC1.out⟩⟩
 case round =>
  obtain ⟨j, so, rfl, rfl, hj, hjg, HR⟩ := hrel
  have c6 := HR.out.2.2.cell HC6.out (by simp)
  have c7 := HR.out.2.2.cell HC7.out (by simp)
  have hw1 : IntKind.i64.wrap ((f.at' : Int) + (f.len : Int)) = (f.at' : Int) + (f.len : Int) := IntWalk.i64_in _ ⟨by omega, by omega⟩
  obtain ⟨p, hpp⟩ : ∃ p, p = f.at' + j := ⟨_, rfl⟩
  rw [<- hpp]
  have HPP := LH hpp
  have hp1 : f.at' <= p := by omega
  have hp3 : p <= E.data.length := by omega
  by_cases hlt : j < f.len
  ·have hlt2 : (p : Int) < (f.at' : Int) + (f.len : Int) := by omega
   have hp2 : p < f.at' + f.len := by omega
   clear hpp
   go_wp2_with fail
   refine wp_region_L [(12, fun w' => w'.cell? ⟨E.fb, 6, none⟩ = some (.int .i64 (f.at' : Int))), (12, fun w' => w'.cell? ⟨E.fb, 7, none⟩ = some (.int .i64 (f.len : Int)))] (by kernel_rfl) ?_ (fun hHeld => ?_)
   ·exact (HoldC.cons (c6) (HoldC.cons (c7) HoldC.nil))
   refine tk 0 ?_ rfl (by kernel_rfl) (fun _ _ _ h => h) (.inl ⟨by rfl, ?_⟩) hHeld ?_; rotate_left; · (intro w _; go_simp; try with_reducible rfl)
   clear hHeld; intro hHeld; try simp only [gA,gB,gC,Act.put,gD,gE,gF]
   refine tk 1 ?_ rfl (by kernel_rfl) (fun _ _ _ h => h) (.inl ⟨by rfl, ?_⟩) hHeld ?_; rotate_left; · (intro w _; go_simp; try with_reducible rfl)
   clear hHeld; intro hHeld; try simp only [gA,gB,gC,Act.put,gD,gE,gF]
   refine tk 2 ?_ rfl (by kernel_rfl) (fun _ _ _ h => h) (.inl ⟨by rfl, ?_⟩) hHeld ?_; rotate_left; · (intro w _; go_simp; try with_reducible rfl)
   clear hHeld; intro hHeld; try simp only [gA,gB,gC,Act.put,gD,gE,gF]
   refine tk 3 ?_ rfl (by kernel_rfl) (fun _ _ _ h => h) (.inl ⟨by rfl, ?_⟩) hHeld ?_; rotate_left; · (intro w _; go_simp; try with_reducible rfl)
   clear hHeld; intro hHeld; try simp only [gA,gB,gC,Act.put,gD,gE,gF]
   refine tk 4 ?_ rfl (by kernel_rfl) (fun _ _ _ h => h) (.inl ⟨by rfl, ?_⟩) hHeld ?_; rotate_left; · (intro w _; go_simp; try with_reducible rfl)
   clear hHeld; intro hHeld; try simp only [gA,gB,gC,Act.put,gD,gE,gF]
   refine tk 6 ?_ rfl (by kernel_rfl) (fun _ _ _ h => h) (.inl ⟨by rfl, ?_⟩) hHeld ?_; rotate_left; · (intro w _; go_simp; try with_reducible rfl)
   clear hHeld; intro hHeld; try simp only [gA,gB,gC,Act.put,gD,gE,gF]
   refine tk 7 ?_ rfl (by kernel_rfl) (fun _ _ _ h => h) (.inl ⟨by rfl, ?_⟩) hHeld ?_; rotate_left; · (intro w _; go_simp; try with_reducible rfl)
   clear hHeld; intro hHeld; try simp only [gA,gB,gC,Act.put,gD,gE,gF]
   refine tk 8 ?_ rfl (by kernel_rfl) (fun _ _ _ h => h) (.inl ⟨by rfl, ?_⟩) hHeld ?_; rotate_left; · (intro w _; go_simp; try with_reducible rfl)
   clear hHeld; intro hHeld; try simp only [gA,gB,gC,Act.put,gD,gE,gF]
   refine tk 9 ?_ rfl (by kernel_rfl) (fun _ _ _ h => h) (.inl ⟨by rfl, ?_⟩) hHeld ?_; rotate_left; · (intro w _; go_simp; try with_reducible rfl)
   clear hHeld; intro hHeld; try simp only [gA,gB,gC,Act.put,gD,gE,gF]
   refine ld 0 5 ?_ rfl rfl (by kernel_rfl) (fun _ _ _ h => h) (.inl ⟨by rfl, ?_⟩) hHeld ?_; rotate_left; · (intro w hSw; (try dsimp only at hSw); go_simp; try with_reducible rfl)
   clear hHeld; intro hHeld; try simp only [gA,gB,gC,Act.put,gD,gE,gF]
   refine ld 1 10 ?_ rfl rfl (by kernel_rfl) (fun _ _ _ h => h) (.inl ⟨by rfl, ?_⟩) hHeld ?_; rotate_left; · (intro w hSw; (try dsimp only at hSw); go_simp; try with_reducible rfl)
   clear hHeld; intro hHeld; try simp only [gA,gB,gC,Act.put,gD,gE,gF]
   refine tk 11 ?_ rfl (by kernel_rfl) (fun _ _ _ h => h) (.inl ⟨by rfl, ?_⟩) hHeld ?_; rotate_left; · (intro w _; go_simp; try with_reducible rfl)
   clear hHeld; intro hHeld; try simp only [gA,gB,gC,Act.put,gD,gE,gF]
   refine wpAnyL_ready (rs := [12]) (by kernel_rfl) (by simp) (AllReadyL.cons (o := _) rfl (fun K hK => ?_) AllReadyL.nil)
   try simp only [gA,gB,gC]
   go_simp
   clear hHeld
   refine hK.out _ _ ?_ (fun hHeld => ?_)
   ·exact (HoldC.past (by kernel_rfl) (HoldC.past (by kernel_rfl) HoldC.nil))
   clear hK K
   try simp only [gA,gB,gC,Act.put,gD,gE,gF]
   refine wpAnyL_done (by kernel_rfl) ?_ _
   clear hHeld
   obtain ⟨g, o, n, c, e1, e2, e3, e4⟩ := HB.out p hp1 hp2
   have t1 := HR.out.2.2.drew.cell e1 (by simp)
   have t2 := HR.out.2.2.drew.cell e4 (by simp)
   have t3 := HR.out.2.2.drew.cell HC13.out (by simp)
   have i1 : Int.tdiv (p : Int) (Q : Int) = ((p / Q : Nat) : Int) := (Int.ofNat_tdiv p Q).symm
   have i2 : Int.tmod (p : Int) (Q : Int) = ((p % Q : Nat) : Int) := (Int.ofNat_tmod p Q).symm
   have hQ0 : ¬ Q = 0 := by omega
   have hdl := Nat.div_le_self p Q
   have hHT : Hid ((E.data.drop f.at').take (j + 1) = (E.data.drop f.at').take j ++ [E.data.getD p 0]) := LH (by rw [take_snocU _ _ (by rw [List.length_drop]; omega), getD_drop, HPP.out])
   have hHR := LH (And.intro (HR.out.1.keep (w' := wr.drew) (fun _ _ => rfl)) (And.intro HR.out.2.1 HR.out.2.2.drew))
   generalize E.data.getD p 0 = cc at *
   generalize p / Q = q1 at *
   generalize p % Q = r1 at *
   have hwq : IntKind.i64.wrap (q1 : Int) = (q1 : Int) := IntWalk.i64_in _ ⟨by omega, by omega⟩
   have hq1 : (q1 : Int) < (E.n : Int) := by omega
   have hr1 : (r1 : Int) < (n : Int) := by omega
   clear c6 c7 HR
   generalize wr.drew = wd at *
   go_wp2_with fail
   refine wp_region_L [(15, fun w' => w'.cell? ⟨E.fb, 13, none⟩ = some (.slice (some ⟨E.rb, 0, none⟩) E.n E.n)), (15, fun w' => w'.cell? ⟨E.rb, q1, none⟩ = some (.slice (some ⟨g, o, none⟩) n c)), (15, fun w' => w'.cell? ⟨g, o + r1, none⟩ = some (.int .u8 (cc.toNat : Int)))] (by kernel_rfl) ?_ (fun hHeld => ?_)
   ·exact (HoldC.cons (t3) (HoldC.cons (t1) (HoldC.cons (t2) HoldC.nil)))
   refine tk 0 ?_ rfl (by kernel_rfl) (fun _ _ _ h => h) (.inl ⟨by rfl, ?_⟩) hHeld ?_; rotate_left; · (intro w _; go_simp; try with_reducible rfl)
   clear hHeld; intro hHeld; try simp only [gA,gB,gC,Act.put,gD,gE,gF]
   refine tk 1 ?_ rfl (by kernel_rfl) (fun _ _ _ h => h) (.inl ⟨by rfl, ?_⟩) hHeld ?_; rotate_left; · (intro w _; go_simp; try with_reducible rfl)
   clear hHeld; intro hHeld; try simp only [gA,gB,gC,Act.put,gD,gE,gF]
   refine tk 2 ?_ rfl (by kernel_rfl) (fun _ _ _ h => h) (.inl ⟨by rfl, ?_⟩) hHeld ?_; rotate_left; · (intro w _; go_simp; try with_reducible rfl)
   clear hHeld; intro hHeld; try simp only [gA,gB,gC,Act.put,gD,gE,gF]
   refine tk 3 ?_ rfl (by kernel_rfl) (fun _ _ _ h => h) (.inl ⟨by rfl, ?_⟩) hHeld ?_; rotate_left; · (intro w _; go_simp; try with_reducible rfl)
   clear hHeld; intro hHeld; try simp only [gA,gB,gC,Act.put,gD,gE,gF]
   refine tk 5 ?_ rfl (by kernel_rfl) (fun _ _ _ h => h) (.inl ⟨by rfl, ?_⟩) hHeld ?_; rotate_left; · (intro w _; go_simp; try with_reducible rfl)
   clear hHeld; intro hHeld; try simp only [gA,gB,gC,Act.put,gD,gE,gF]
   refine tk 6 ?_ rfl (by kernel_rfl) (fun _ _ _ h => h) (.inl ⟨by rfl, ?_⟩) hHeld ?_; rotate_left; · (intro w _; go_simp; try with_reducible rfl)
   clear hHeld; intro hHeld; try simp only [gA,gB,gC,Act.put,gD,gE,gF]
   refine tk 7 ?_ rfl (by kernel_rfl) (fun _ _ _ h => h) (.inl ⟨by rfl, ?_⟩) hHeld ?_; rotate_left; · (intro w _; go_simp; try with_reducible rfl)
   clear hHeld; intro hHeld; try simp only [gA,gB,gC,Act.put,gD,gE,gF]
   refine tk 10 ?_ rfl (by kernel_rfl) (fun _ _ _ h => h) (.inl ⟨by rfl, ?_⟩) hHeld ?_; rotate_left; · (intro w _; go_simp; try with_reducible rfl)
   clear hHeld; intro hHeld; try simp only [gA,gB,gC,Act.put,gD,gE,gF]
   refine tk 11 ?_ rfl (by kernel_rfl) (fun _ _ _ h => h) (.inl ⟨by rfl, ?_⟩) hHeld ?_; rotate_left; · (intro w _; go_simp; try with_reducible rfl)
   clear hHeld; intro hHeld; try simp only [gA,gB,gC,Act.put,gD,gE,gF]
   refine tk 12 ?_ rfl (by kernel_rfl) (fun _ _ _ h => h) (.inl ⟨by rfl, ?_⟩) hHeld ?_; rotate_left; · (intro w _; go_simp; try with_reducible rfl)
   clear hHeld; intro hHeld; try simp only [gA,gB,gC,Act.put,gD,gE,gF]
   refine ld 0 4 ?_ rfl rfl (by kernel_rfl) (fun _ _ _ h => h) (.inl ⟨by rfl, ?_⟩) hHeld ?_; rotate_left; · (intro w hSw; (try dsimp only at hSw); go_simp; try with_reducible rfl)
   clear hHeld; intro hHeld; try simp only [gA,gB,gC,Act.put,gD,gE,gF]
   refine tk 8 ?_ rfl (by kernel_rfl) (fun _ _ _ h => h) (.inl ⟨by rfl, ?_⟩) hHeld ?_; rotate_left; · (intro w _; go_simp; try with_reducible rfl)
   clear hHeld; intro hHeld; try simp only [gA,gB,gC,Act.put,gD,gE,gF]
   refine ld 1 9 ?_ rfl rfl (by kernel_rfl) (fun _ _ _ h => h) (.inl ⟨by rfl, ?_⟩) hHeld ?_; rotate_left; · (intro w hSw; (try dsimp only at hSw); go_simp; try with_reducible rfl)
   clear hHeld; intro hHeld; try simp only [gA,gB,gC,Act.put,gD,gE,gF]
   refine tk 13 ?_ rfl (by kernel_rfl) (fun _ _ _ h => h) (.inl ⟨by rfl, ?_⟩) hHeld ?_; rotate_left; · (intro w _; go_simp; try with_reducible rfl)
   clear hHeld; intro hHeld; try simp only [gA,gB,gC,Act.put,gD,gE,gF]
   refine ld 2 14 ?_ rfl rfl (by kernel_rfl) (fun _ _ _ h => h) (.inl ⟨by rfl, ?_⟩) hHeld ?_; rotate_left; · (intro w hSw; (try dsimp only at hSw); go_simp; try with_reducible rfl)
   clear hHeld; intro hHeld; try simp only [gA,gB,gC,Act.put,gD,gE,gF]
   refine wpAnyL_ready (rs := [15]) (by kernel_rfl) (by simp) (AllReadyL.cons (o := _) rfl (fun K hK => ?_) AllReadyL.nil)
   try simp only [gA,gB,gC]
   go_simp
   have hob := one_byte wd cc _ rfl
   unfold bv at hob
   have HOB := LH (hob.keep (w' := (wd.alloc (.cells #[.int .u8 (cc.toNat : Int)] 5)).drew) (fun _ _ => rfl))
   have HR2 := LH (hHR.out.1.keep (w' := (wd.alloc (.cells #[.int .u8 (cc.toNat : Int)] 5)).drew) (fun q hq => heap_alloc_old wd _ (hHR.out.1.lt q hq)))
   have HC2 := LH ((hHR.out.2.2.alloc (.cells #[.int .u8 (cc.toNat : Int)] 5)).drew)
   have hs2 : wd.heap.size <= ((wd.alloc (.cells #[.int .u8 (cc.toNat : Int)] 5)).drew).heap.size := by show _ <= (wd.alloc _).heap.size; simp
   generalize (wd.alloc (.cells #[.int .u8 (cc.toNat : Int)] 5)).drew = w2 at *
   clear hHeld
   refine hK.out _ _ ?_ (fun hHeld => ?_)
   ·exact (HoldC.past (by kernel_rfl) (HoldC.past (by kernel_rfl) (HoldC.past (by kernel_rfl) HoldC.nil)))
   clear hK K
   try simp only [gA,gB,gC,Act.put,gD,gE,gF]
   refine wpAnyL_ready (rs := [16]) (by kernel_rfl) (by simp) (AllReadyL.cons (o := _) rfl (fun K hK => ?_) AllReadyL.nil)
   try simp only [gA,gB,gC]
   rw [if_pos (by rfl)]
   refine wp_appB (.tmp 34) (.tmp 49) (by rfl) so _ (by rfl) HR2.out _ [cc] (by rfl) HOB.out (by rw [List.length_take, List.length_drop]; simp; omega) ?_
   intro v1 w3 ho1 hg1 hat1
   have HN : Hid (BRow w3 v1 ((E.data.drop f.at').take (j + 1)) /\ (∀ q, v1.ownBlock = some q -> w.heap.size <= q) /\ Chg [] w w3) := LH (by
    refine ⟨by rw [hHT.out]; exact ho1, fun q hq => ?_, HC2.out.grown hg1 (fun q hq => .inr (hHR.out.2.1 q hq))⟩
    rcases hat1 with h1 | h1
    ·exact hHR.out.2.1 q (by rw [<- h1]; exact hq)
    ·rw [hq] at h1
     have h2 : q = w2.heap.size := by simpa using h1
     have h3 := hHR.out.2.2.size
     omega)
   clear ho1 hg1 hat1 hob
   clear hHeld
   refine hK.out _ _ ?_ (fun hHeld => ?_)
   ·exact (HoldC.past (by kernel_rfl) (HoldC.past (by kernel_rfl) (HoldC.past (by kernel_rfl) HoldC.nil)))
   clear hK K
   try simp only [gA,gB,gC,Act.put,gD,gE,gF]
   refine tk 17 ?_ rfl (by kernel_rfl) (fun _ _ _ h => h) (.inl ⟨by rfl, ?_⟩) hHeld ?_; rotate_left; · (intro w _; go_simp; try with_reducible rfl)
   clear hHeld; intro hHeld; try simp only [gA,gB,gC,Act.put,gD,gE,gF]
   refine wpAnyL_done (by kernel_rfl) ?_ _
   clear hHeld
   have hpz : (p : Int) + 1 = ((f.at' + (j + 1) : Nat) : Int) := by have := HPP.out; omega
   have HPZ := LH hpz
   clear hpz
   go_wp2
   go_roundg (gk - 1)
   case measure => omega
   case rel => exact ⟨j + 1, v1, rfl, by rw [<- HPZ.out], by omega, by omega, HN⟩
  ·have hjl : j = f.len := by omega
   have hlt2 : ¬ (p : Int) < (f.at' : Int) + (f.len : Int) := by omega
   have hfin := HR.out
   rw [hjl, <- HA.out] at hfin
   have CE := LH (fun w' (hc : Chg [] wr w') => fend_any (f.aim E.data) so 0 w' HE.out (HW.out.keep (hfin.2.2.trans hc (by simp))) (hfin.1.bytes.chg hc (by simp)) (fun _ q hq hm => by have h1 := hfin.2.1 q hq; have h2 := hTl q hm; omega))
   have HCW := LH hfin.2.2
   have hdec : decide ((p : Int) < (f.at' : Int) + (f.len : Int)) = false := decide_eq_false hlt2
   clear hfin HR hpp
   go_wp2_with fail
   refine wp_region_L [(12, fun w' => w'.cell? ⟨E.fb, 6, none⟩ = some (.int .i64 (f.at' : Int))), (12, fun w' => w'.cell? ⟨E.fb, 7, none⟩ = some (.int .i64 (f.len : Int)))] (by kernel_rfl) ?_ (fun hHeld => ?_)
   ·exact (HoldC.cons (c6) (HoldC.cons (c7) HoldC.nil))
   refine tk 0 ?_ rfl (by kernel_rfl) (fun _ _ _ h => h) (.inl ⟨by rfl, ?_⟩) hHeld ?_; rotate_left; · (intro w _; go_simp; try with_reducible rfl)
   clear hHeld; intro hHeld; try simp only [gA,gB,gC,Act.put,gD,gE,gF]
   refine tk 1 ?_ rfl (by kernel_rfl) (fun _ _ _ h => h) (.inl ⟨by rfl, ?_⟩) hHeld ?_; rotate_left; · (intro w _; go_simp; try with_reducible rfl)
   clear hHeld; intro hHeld; try simp only [gA,gB,gC,Act.put,gD,gE,gF]
   refine tk 2 ?_ rfl (by kernel_rfl) (fun _ _ _ h => h) (.inl ⟨by rfl, ?_⟩) hHeld ?_; rotate_left; · (intro w _; go_simp; try with_reducible rfl)
   clear hHeld; intro hHeld; try simp only [gA,gB,gC,Act.put,gD,gE,gF]
   refine tk 3 ?_ rfl (by kernel_rfl) (fun _ _ _ h => h) (.inl ⟨by rfl, ?_⟩) hHeld ?_; rotate_left; · (intro w _; go_simp; try with_reducible rfl)
   clear hHeld; intro hHeld; try simp only [gA,gB,gC,Act.put,gD,gE,gF]
   refine tk 4 ?_ rfl (by kernel_rfl) (fun _ _ _ h => h) (.inl ⟨by rfl, ?_⟩) hHeld ?_; rotate_left; · (intro w _; go_simp; try with_reducible rfl)
   clear hHeld; intro hHeld; try simp only [gA,gB,gC,Act.put,gD,gE,gF]
   refine tk 6 ?_ rfl (by kernel_rfl) (fun _ _ _ h => h) (.inl ⟨by rfl, ?_⟩) hHeld ?_; rotate_left; · (intro w _; go_simp; try with_reducible rfl)
   clear hHeld; intro hHeld; try simp only [gA,gB,gC,Act.put,gD,gE,gF]
   refine tk 7 ?_ rfl (by kernel_rfl) (fun _ _ _ h => h) (.inl ⟨by rfl, ?_⟩) hHeld ?_; rotate_left; · (intro w _; go_simp; try with_reducible rfl)
   clear hHeld; intro hHeld; try simp only [gA,gB,gC,Act.put,gD,gE,gF]
   refine tk 8 ?_ rfl (by kernel_rfl) (fun _ _ _ h => h) (.inl ⟨by rfl, ?_⟩) hHeld ?_; rotate_left; · (intro w _; go_simp; try with_reducible rfl)
   clear hHeld; intro hHeld; try simp only [gA,gB,gC,Act.put,gD,gE,gF]
   refine tk 9 ?_ rfl (by kernel_rfl) (fun _ _ _ h => h) (.inl ⟨by rfl, ?_⟩) hHeld ?_; rotate_left; · (intro w _; go_simp; try with_reducible rfl)
   clear hHeld; intro hHeld; try simp only [gA,gB,gC,Act.put,gD,gE,gF]
   refine ld 0 5 ?_ rfl rfl (by kernel_rfl) (fun _ _ _ h => h) (.inl ⟨by rfl, ?_⟩) hHeld ?_; rotate_left; · (intro w hSw; (try dsimp only at hSw); go_simp; try with_reducible rfl)
   clear hHeld; intro hHeld; try simp only [gA,gB,gC,Act.put,gD,gE,gF]
   refine ld 1 10 ?_ rfl rfl (by kernel_rfl) (fun _ _ _ h => h) (.inl ⟨by rfl, ?_⟩) hHeld ?_; rotate_left; · (intro w hSw; (try dsimp only at hSw); go_simp; try with_reducible rfl)
   clear hHeld; intro hHeld; try simp only [gA,gB,gC,Act.put,gD,gE,gF]
   refine tk 11 ?_ rfl (by kernel_rfl) (fun _ _ _ h => h) (.inl ⟨by rfl, ?_⟩) hHeld ?_; rotate_left; · (intro w _; go_simp; try with_reducible rfl)
   clear hHeld; intro hHeld; try simp only [gA,gB,gC,Act.put,gD,gE,gF]
   refine wpAnyL_ready (rs := [12]) (by kernel_rfl) (by simp) (AllReadyL.cons (o := _) rfl (fun K hK => ?_) AllReadyL.nil)
   try simp only [gA,gB,gC]
   go_simp
   clear hHeld
   refine hK.out _ _ ?_ (fun hHeld => ?_)
   ·exact (HoldC.past (by kernel_rfl) (HoldC.past (by kernel_rfl) HoldC.nil))
   clear hK K
   try simp only [gA,gB,gC,Act.put,gD,gE,gF]
   refine wpAnyL_done (by kernel_rfl) ?_ _
   clear hHeld
   go_wp2_with fail
   refine (CE.out _ (Chg.refl [] wr).drew).mono ?_
   rintro e w3 ⟨rfl, hf, hc⟩
   have HF := LH (And.intro hf (((HCW.out.drew).mono (T := E.T) (by simp)).trans hc (fun x hx => .inl hx)))
   clear hf hc CE
   go_wp2
   go_end0
   exact ⟨rfl, HF.out⟩
end
section
open Go.RowKit Go.Shelf
attribute [local go_sem] Oper.semAt_some
theorem FtAt.wrote {E : Env} {w w' : World} {f : FS} {S : List Nat} (h : FtAt E w f) (hc : Chg S w w') (hS : ∀ x ∈ S, x ∉ E.T /\ NoU8 w x) : FtAt E w' f := by
 obtain ⟨F, T, ov, xs, h⟩ := h
 have hT : ∀ x ∈ E.T, x ∉ S := fun x hx hm => (hS x hm).1 hx
 refine ⟨F, T, ov, xs, hc.keep h.head (hT _ (by simp)), hc.keep h.kn (hT _ (by simp)), hc.keep h.fr (hT _ (by simp)), hc.keep h.rs (hT _ (by simp)), h.klen, h.flen, h.tlen, h.k3, fun i x hx => ⟨(h.frag i x hx).1.chgW hc (fun hne q hq hm => (hS q hm).2.not_bytes _ _ (h.frag i x hx).1 hne hq), (h.frag i x hx).2⟩, fun i x hx => ⟨(h.rest i x hx).1.chgW hc (fun hne q hq hm => (hS q hm).2.not_bytes _ _ (h.rest i x hx).1 hne hq), (h.rest i x hx).2⟩, h.out.chgW hc (fun hne q hq hm => (hS q hm).2.not_bytes _ _ h.out hne hq), h.outT⟩
theorem noU8_int {w : World} {x t : Nat} {z : Int} {k : IntKind} (h : w.heap[x]? = some (.cells #[.int k z] t (0, 0))) (hk : k ≠ .u8) : NoU8 w x := NoU8.mk h (by
 refine no8_list (l := [.int k z]) (fun c hc => ?_)
 obtain rfl := List.mem_singleton.1 hc
 intro y e
 cases e
 exact hk rfl)
theorem noU8_obj {w : World} {x : Nat} {o : Obj} (h : w.heap[x]? = some o) (ho : o.isCells = false) : NoU8 w x := fun cs t fr hc => by
 rw [h] at hc; cases hc; cases ho
structure FS.Ready (f : FS) (E : Env) : Prop where
 within : f.Within E.data.length
 one : (f.whole = true ∨ (0 < f.known.count 2 /\ ∃ i, f.lo E.data.length E.n <= i /\ i <= f.hi E.data.length E.n /\ f.known.getD i 0 = 2)) -> ∃ k, k < E.n /\ ∀ i, i < E.n -> (f.known.getD i 0 = 1 ↔ i ≠ k)
 all : ¬ (f.whole = true ∨ (0 < f.known.count 2 /\ ∃ i, f.lo E.data.length E.n <= i /\ i <= f.hi E.data.length E.n /\ f.known.getD i 0 = 2)) -> ∀ i, f.lo E.data.length E.n <= i -> i <= f.hi E.data.length E.n -> f.known.getD i 0 = 1
def NextP (E : Env) (f : FS) (w : World) (v : Int) (w' : World) : Prop :=
 match f.want E.data.length E.n with
 | i :: _ => v = (i : Int) /\ FtAt E w' f /\ Chg [] w w'
 | [] => v = -1 /\ FtAt E w' (f.ends (f.aim E.data) 0) /\ Chg E.T w w'
theorem fnext_any {E : Env} {f : FS} (w : World) (hE : E.Ok) (h : FtAt E w f) (hw : 1 ∈ f.known -> f.Within E.data.length) (hrd : f.want E.data.length E.n = [] -> f.Ready E) :
  Calls Tryz.prog 31 #[fpV E] w fun e w' => ∃ v, e = .returned (.int .i64 v) /\ NextP E f w v w' := by
 obtain ⟨w1, hw1⟩ : ∃ w1, w1 = (w.alloc (.cells #[.int .i64 0] 3)).alloc (.cells #[fpV E] 30) := ⟨_, rfl⟩
 have hs1 : w1.heap.size = w.heap.size + 2 := by rw [hw1]; simp
 have hc1 : Chg [] w w1 := by rw [hw1]; exact ((Chg.refl _ _).alloc _).alloc _
 have hx1 : w1.heap[w.heap.size]? = some (.cells #[.int .i64 0] 3 (0, 0)) := by rw [hw1]; exact blk_alloc (heap_alloc_new w _)
 have hb1 : w1.heap[w.heap.size + 1]? = some (.cells #[fpV E] 30 (0, 0)) := by
  rw [hw1]
  have := heap_alloc_new (w.alloc (.cells #[.int .i64 0] 3)) (.cells #[fpV E] 30)
  simpa using this
 have hf1 := h.keep hc1
 have hTl := h.lim
 have hstops : SeqStopsK Fence.wide 4 Tryz.prog 70 #[.pointer (some ⟨w.heap.size + 1, 0, none⟩)] wien (KpF E (w.heap.size + 1)) (fun ys => ys = f.want E.data.length E.n) (fun pre => pre <+: f.want E.data.length E.n) (f.want E.data.length E.n).length w1 := fun l J Jx W hW hJ hJx hY h0 =>
  wanted1_in 4 (by omega) l (w.heap.size + 1) J Jx W hJ hY hE (hf1.keep ⟨hW.os, hW.tape, hW.output, hW.size, fun x hx _ => hW.block x hx⟩) hw ((hW.block _ (blk_lt hb1)).trans hb1) h0
 have HST := LH hstops
 have HW1 := LH hw1
 have HC1 := LH hc1
 have HX1 := LH hx1
 have HF1 := LH hf1
 have HRD := LH hrd
 have HE := LH hE
 have HT3 : Hid (E.fb < w.heap.size /\ E.kb < w.heap.size) := LH ⟨hTl _ (by simp), hTl _ (by simp)⟩
 have HFW := LH h
 clear hstops hw1 hc1 hx1 hf1 hb1 h hw hrd
 refine (callsIn_wide (n := 5)).1 ?_
 refine callsIn_of_wp_marks Tryz.func31 rfl trivial ?_ rfl
 simp only [Tryz.ntmps31, List.size_toArray, List.length_cons, List.length_nil, Nat.reduceAdd, Nat.reduceSub, Array.replicate_succ, Array.replicate_zero, List.push_toArray, List.append_toArray, List.nil_append, List.cons_append]
 gi_wp2_with fail
 refine ⟨trivial, (wide_w.calls (fwanted_any (E := E) _)).mono ?_⟩
 rintro e w' ⟨rfl, hq⟩
 subst hq
 simp only [World.size_alloc]
 rw [<- HW1.out]
 gi_wp2_with fail
 refine wpIn_rangeFunc_ownH rfl (by omega) (gf := 70) (lb := #[.pointer (some ⟨w.heap.size + 1, 0, none⟩)]) rfl trivial (enters_of Tryz.func70 (by kernel_rfl) rfl)
  HST.out (fun h1 h2 => ⟨h2.1.trans h1.1, h2.2.1.trans h1.2.1, h2.2.2.trans h1.2.2⟩)
  (fun W l o o' hl hh _ _ => ⟨World.putObj_heap_other (by have := HT3.out; omega), World.putObj_heap_other (by have := HT3.out; omega), World.putObj_heap_other (by omega)⟩) (Below.refl _ _) (fun _ => rfl)
  (fun pre W => pre = [] /\ W.heap[w.heap.size]? = some (.cells #[.int .i64 0] 3 (0, 0)) /\ Chg [w.heap.size] w1 W) (fun c pre W => c = .ret /\ ∃ i : Nat, pre = [i] /\ W.heap[w.heap.size]? = some (.cells #[.int .i64 (i : Int)] 3 (0, 0)) /\ Chg [w.heap.size] w1 W)
  (fun s A B row hs hg hr => ⟨hs.1, (blk_turn hs.2.1 hg (fun r e => (hr r e).2)).trans hs.2.1, chg_turn hs.2.2 hg (fun r e => (hr r e).1)⟩) (fun c s A B row hs hg hr => by
   obtain ⟨h1, i, h2, h3, h4⟩ := hs
   exact ⟨h1, i, h2, (blk_turn h3 hg (fun r e => (hr r e).2)).trans h3, chg_turn h4 hg (fun r e => (hr r e).1)⟩)
  ⟨rfl, HX1.out, Chg.refl _ _⟩
  (fun x a' W => a' = { tmps := #[fpV E, undef, .pointer (some ⟨w.heap.size, 0, none⟩), .int .i64 ((x : Nat) : Int), fpV E, .func (.func 70) #[] #[.pointer (some ⟨w.heap.size + 1, 0, none⟩)], .int .i64 ((x : Nat) : Int), undef, undef, undef, undef, undef, undef, undef, undef, undef, undef, undef, undef, undef, undef, undef, undef, undef, undef, undef, undef, undef, undef, undef, undef, undef, undef, undef], defers := [] })
  (fun x a' s A B row h1 hg hr => h1) ?assign ?body ?done ?stop
 case assign =>
  rintro l pre x W K hI hK
  refine wpIn_region_lit ?_
  simp [wien]
  gi_wp2_with fail
  exact hK _ _ ((KeepsOthers.refl _).from _) ⟨rfl, rfl, rfl⟩ hI rfl
 case body =>
  rintro l pre x a' W hl ⟨r, hr⟩ ⟨rfl, hX, hC⟩ rfl hlt
  have x0 := blk_cell hX 0 _ rfl
  have x1 := blk_frozen hX 0
  have x2 := blk_lt hX
  have HN : Hid (KeepsFrom w1.heap.size W (W.setCell ⟨w.heap.size, 0, none⟩ (.int .i64 (x : Int))) /\ (W.setCell ⟨w.heap.size, 0, none⟩ (.int .i64 (x : Int))).heap[w.heap.size]? = some (.cells #[.int .i64 (x : Int)] 3 (0, 0)) /\ Chg [w.heap.size] w1 (W.setCell ⟨w.heap.size, 0, none⟩ (.int .i64 (x : Int)))) := LH (by
   refine ⟨⟨by simp [World.setCell], fun k o hk ho _ => ?_⟩, set_blk hX, hC.setCell (.inl (by simp)) _⟩
   exact blk_sets ho (by omega))
  clear hX hC hr
  gi_wp2_with fail
  exact ⟨HN.out.1, rfl, x, rfl, HN.out.2⟩
 case stop =>
  rintro D c pre W hDs hpre ⟨rfl, i, rfl, hX, hC⟩ hK
  have x0 := blk_cell hX 0 _ rfl
  have hcw : Chg [] w W := (HC1.out.mono (T := []) (by simp)).trans hC (fun x hx => .inr (by rw [List.mem_singleton.1 hx]; exact Nat.le_refl _))
  have hfin : Hid (NextP E f w (i : Int) (W.putObj D (.deferred none))) := LH (by
   have hc3 := chg_turn hcw (grownBy_putObj' _ D (.deferred none)) (fun r e => by cases e; omega)
   obtain ⟨t, ht⟩ := hpre
   unfold NextP
   rw [<- ht]
   exact ⟨rfl, HFW.out.keep hc3, hc3⟩)
  have HK' := LH hK
  have x3 : (W.putObj D (.deferred none)).cell? ⟨w.heap.size, 0, none⟩ = some (.int .i64 (i : Int)) := (World.cell?_of_block (w := W) (a := ⟨w.heap.size, 0, none⟩) (World.putObj_heap_other (show w.heap.size ≠ D by omega))).trans x0
  clear hX hC hK hcw
  gi_wp2
  refine ⟨by simp, .inl ⟨_, _, rfl, run_takeDeferred HK'.out, ?_⟩⟩
  exact ⟨_, by simp [results, Tryz.results31, go_sem, x3], _, rfl, hfin.out⟩
 case done =>
  rintro D ys W hDs hys ⟨rfl, hX, hC⟩ hK
  have hcw : Chg [] w W := (HC1.out.mono (T := []) (by simp)).trans hC (fun x hx => .inr (by rw [List.mem_singleton.1 hx]; exact Nat.le_refl _))
  have hfW := HFW.out.keep hcw
  have hRd := HRD.out hys.symm
  have HWN := LH hys.symm
  have CC := LH (fcount_any 2 W HE.out hfW)
  have CN := LH (fneeds_any W HE.out hfW hRd.within)
  have HRd := LH hRd
  have HFF := LH hfW
  obtain ⟨F, T, ov, xs, h1⟩ := hfW
  have c8 := h1.c8
  have c10 := h1.c10
  rw [FS.size_known hRd.within.1] at c10
  have HEND : Hid (∀ W2, FtAt E W2 (f.ends (f.aim E.data) 0) -> Chg E.T W W2 -> (W2.cell? ⟨w.heap.size, 0, none⟩ = some (.int .i64 0) /\ W2.frozen? ⟨w.heap.size, 0, none⟩ = false /\ w.heap.size < W2.heap.size /\ ((W2.setCell ⟨w.heap.size, 0, none⟩ (.int .i64 (-1))).putObj D (.deferred none)).cell? ⟨w.heap.size, 0, none⟩ = some (.int .i64 (-1)) /\ (W2.setCell ⟨w.heap.size, 0, none⟩ (.int .i64 (-1))).heap[D]? = some (.deferred (some []))) /\
    NextP E f w (-1) ((W2.setCell ⟨w.heap.size, 0, none⟩ (.int .i64 (-1))).putObj D (.deferred none))) := LH (fun W2 hf2 hc2 => by
   have hrT : w.heap.size ∉ E.T := fun hm => by have := hTl _ hm; omega
   have hDT : D ∉ E.T := fun hm => by have := hTl _ hm; omega
   have hX2 := hc2.keep hX hrT
   have hD2 := hc2.keep hK hDT
   have hDr : D ≠ w.heap.size := by omega
   have hX3 : (W2.setCell ⟨w.heap.size, 0, none⟩ (.int .i64 (-1))).heap[w.heap.size]? = some (.cells #[.int .i64 (-1)] 3 (0, 0)) := set_blk hX2
   have hD3 : (W2.setCell ⟨w.heap.size, 0, none⟩ (.int .i64 (-1))).heap[D]? = some (.deferred (some [])) := blk_sets hD2 hDr
   refine ⟨⟨blk_cell hX2 0 _ rfl, blk_frozen hX2 0, blk_lt hX2, (World.cell?_of_block (w := W2.setCell ⟨w.heap.size, 0, none⟩ (.int .i64 (-1))) (a := ⟨w.heap.size, 0, none⟩) (World.putObj_heap_other (Ne.symm hDr))).trans (blk_cell hX3 0 _ rfl), hD3⟩, ?_⟩
   unfold NextP
   rw [HWN.out]
   have hcA : Chg [w.heap.size] W2 (W2.setCell ⟨w.heap.size, 0, none⟩ (.int .i64 (-1))) := (Chg.refl _ _).setCell (.inl (by simp)) _
   have hcB : Chg [D] (W2.setCell ⟨w.heap.size, 0, none⟩ (.int .i64 (-1))) ((W2.setCell ⟨w.heap.size, 0, none⟩ (.int .i64 (-1))).putObj D (.deferred none)) := (Chg.refl _ _).grown (grownBy_putObj' _ D (.deferred none)) (fun r e => by cases e; exact .inl (by simp))
   have hfA := hf2.wrote hcA (fun x hx => by rw [List.mem_singleton.1 hx]; exact ⟨hrT, noU8_int hX2 (by decide)⟩)
   have hfB := hfA.wrote hcB (fun x hx => by rw [List.mem_singleton.1 hx]; exact ⟨hDT, noU8_obj hD3 rfl⟩)
   exact ⟨rfl, hfB, (((hcw.mono (T := E.T) (by simp)).trans hc2 (fun x hx => .inl hx)).trans hcA (fun x hx => .inr (by rw [List.mem_singleton.1 hx]; exact Nat.le_refl _))).trans hcB (fun x hx => .inr (by rw [List.mem_singleton.1 hx]; omega))⟩)
  have hL0 : decide ((E.data.length : Int) < 0) = false := decide_eq_false (by omega)
  clear hX hC hK hcw h1 hRd hys
  cases hwh : f.whole with
  | true =>
   rw [hwh] at c8
   obtain ⟨k, hk1, hk2⟩ := HRd.out.one (.inl hwh)
   have CF := LH (ffinish_any k W HE.out HFF.out HRd.out.within hk1 hk2)
   gi_wp2_with fail
   refine ⟨trivial, ?_⟩
   gi_wp2_with fail
   case h_1.isTrue => rename_i b h1 h2; simp [undef] at h1
   case h_1.isFalse => rename_i b h1 h2; simp [undef] at h1
   refine ⟨trivial, ?_⟩
   gi_wp2_with fail
   refine ⟨trivial, (wide_w.calls CF.out).mono ?_⟩
   rintro e W2 ⟨rfl, hf2, hc2⟩
   obtain ⟨hcell, hfin⟩ := HEND.out W2 hf2 hc2
   obtain ⟨y0, y1, y2, y3, hK2⟩ := hcell
   have HFIN := LH hfin
   have HK2 := LH hK2
   clear hf2 hc2 hfin hK2
   gi_wp2
   refine ⟨by simp, .inl ⟨_, _, rfl, run_takeDeferred HK2.out, ?_⟩⟩
   exact ⟨_, by simp [results, Tryz.results31, go_sem, y3], _, rfl, HFIN.out⟩
  | false =>
   rw [hwh] at c8
   by_cases hc : 0 < f.known.count 2
   ·have hcz : (0 : Int) < ((f.known.count 2 : Nat) : Int) := by omega
    gi_wp2_with fail
    refine ⟨trivial, (wide_w.calls CC.out).mono ?_⟩
    rintro e w' ⟨rfl, hq⟩
    subst hq
    gi_wp2_with fail
    refine ⟨trivial, (wide_w.calls CN.out).mono ?_⟩
    rintro e Wn ⟨⟨b, rfl, hb⟩, hcn⟩
    have c8n := hcn.cell c8 (by simp)
    have HEND2 : Hid (∀ W2, FtAt E W2 (f.ends (f.aim E.data) 0) -> Chg E.T Wn W2 -> Chg E.T W W2) := LH (fun W2 _ hc => (hcn.mono (T := E.T) (by simp)).trans hc (fun x hx => .inl hx))
    have HFN := LH (HFF.out.keep hcn)
    have HB := LH hb
    clear hcn CN CC hb
    cases b with
    | true =>
     obtain ⟨k, hk1, hk2⟩ := HRd.out.one (.inr ⟨hc, HB.out.1 rfl⟩)
     have CF := LH (ffinish_any k Wn HE.out HFN.out HRd.out.within hk1 hk2)
     gi_wp2_with fail
     refine ⟨trivial, (wide_w.calls CF.out).mono ?_⟩
     rintro e W2 ⟨rfl, hf2, hc2⟩
     obtain ⟨hcell, hfin⟩ := HEND.out W2 hf2 (HEND2.out W2 hf2 hc2)
     obtain ⟨y0, y1, y2, y3, hK2⟩ := hcell
     have HFIN := LH hfin
     have HK2 := LH hK2
     clear hf2 hc2 hfin hK2
     gi_wp2
     refine ⟨by simp, .inl ⟨_, _, rfl, run_takeDeferred HK2.out, ?_⟩⟩
     exact ⟨_, by simp [results, Tryz.results31, go_sem, y3], _, rfl, HFIN.out⟩
    | false =>
     have CP := LH (fpart_any Wn HE.out HFN.out HRd.out.within hwh (HRd.out.all (by
      rintro (h | ⟨h1, h2⟩)
      ·rw [hwh] at h; cases h
      ·have := HB.out.2 h2; cases this)))
     gi_wp2_with fail
     refine ⟨trivial, (wide_w.calls CP.out).mono ?_⟩
     rintro e W2 ⟨rfl, hf2, hc2⟩
     obtain ⟨hcell, hfin⟩ := HEND.out W2 hf2 (HEND2.out W2 hf2 hc2)
     obtain ⟨y0, y1, y2, y3, hK2⟩ := hcell
     have HFIN := LH hfin
     have HK2 := LH hK2
     clear hf2 hc2 hfin hK2
     gi_wp2
     refine ⟨by simp, .inl ⟨_, _, rfl, run_takeDeferred HK2.out, ?_⟩⟩
     exact ⟨_, by simp [results, Tryz.results31, go_sem, y3], _, rfl, HFIN.out⟩
   ·have hcz : ¬ (0 : Int) < ((f.known.count 2 : Nat) : Int) := by omega
    have hcd : decide ((0 : Int) < ((f.known.count 2 : Nat) : Int)) = false := decide_eq_false hcz
    have CP := LH (fpart_any W HE.out HFF.out HRd.out.within hwh (HRd.out.all (by
     rintro (h | ⟨h1, h2⟩)
     ·rw [hwh] at h; cases h
     ·exact hc h1)))
    gi_wp2_with fail
    refine ⟨trivial, (wide_w.calls CC.out).mono ?_⟩
    rintro e w' ⟨rfl, hq⟩
    subst hq
    gi_wp2_with fail
    refine ⟨trivial, ?_⟩
    gi_wp2_with fail
    refine ⟨trivial, (wide_w.calls CP.out).mono ?_⟩
    rintro e W2 ⟨rfl, hf2, hc2⟩
    obtain ⟨hcell, hfin⟩ := HEND.out W2 hf2 hc2
    obtain ⟨y0, y1, y2, y3, hK2⟩ := hcell
    have HFIN := LH hfin
    have HK2 := LH hK2
    clear hf2 hc2 hfin hK2
    gi_wp2
    refine ⟨by simp, .inl ⟨_, _, rfl, run_takeDeferred HK2.out, ?_⟩⟩
    exact ⟨_, by simp [results, Tryz.results31, go_sem, y3], _, rfl, HFIN.out⟩
end
section
open Go.RowKit Go.Shelf
attribute [local go_sem] Oper.semAt_some
def FS.settled (f : FS) (E : Env) : FS := match f.want E.data.length E.n with
 | _ :: _ => f
 | [] => f.ends (f.aim E.data) 0
theorem NextP.settled {E : Env} {f : FS} {w w' : World} {v : Int} (h : NextP E f w v w') (hw : f.want E.data.length E.n = []) : FtAt E w' (f.settled E) /\ Chg E.T w w' := by
 unfold NextP at h
 unfold FS.settled
 rw [hw] at h ⊢
 exact h.2
theorem fsettle_any {E : Env} {f : FS} (w : World) (hE : E.Ok) (h : FtAt E w f) (hw : 1 ∈ f.known -> f.Within E.data.length) (hrd : f.want E.data.length E.n = [] -> f.Ready E) :
  Calls Tryz.prog 39 #[fpV E] w fun e w' => e = .returned (.tuple #[]) /\ FtAt E w' (f.settled E) /\ Chg E.T w w' := by
 obtain ⟨w1, hw1⟩ : ∃ w1, w1 = w.alloc (.cells #[fpV E] 30) := ⟨_, rfl⟩
 have hs1 : w1.heap.size = w.heap.size + 1 := by rw [hw1]; simp
 have hc1 : Chg [] w w1 := by rw [hw1]; exact (Chg.refl _ _).alloc _
 have hb1 : w1.heap[w.heap.size]? = some (.cells #[fpV E] 30 (0, 0)) := by rw [hw1]; exact heap_alloc_new w _
 have hf1 := h.keep hc1
 have hTl := h.lim
 have hstops : SeqStopsK Fence.wide 4 Tryz.prog 70 #[.pointer (some ⟨w.heap.size, 0, none⟩)] wien (KpF E w.heap.size) (fun ys => ys = f.want E.data.length E.n) (fun pre => pre <+: f.want E.data.length E.n) (f.want E.data.length E.n).length w1 := fun l J Jx W hW hJ hJx hY h0 =>
  wanted1_in 4 (by omega) l w.heap.size J Jx W hJ hY hE (hf1.keep ⟨hW.os, hW.tape, hW.output, hW.size, fun x hx _ => hW.block x hx⟩) hw ((hW.block _ (blk_lt hb1)).trans hb1) h0
 have CN := LH (fun w' (hc : Chg [] w w') => fnext_any w' hE (h.keep hc) hw hrd)
 have HST := LH hstops
 have HW1 := LH hw1
 have HC1 := LH hc1
 have HE := LH hE
 have HT3 : Hid (E.fb < w.heap.size /\ E.kb < w.heap.size) := LH ⟨hTl _ (by simp), hTl _ (by simp)⟩
 have HFW := LH h
 clear hstops hw1 hc1 hf1 hb1 h hw hrd
 refine (callsIn_wide (n := 5)).1 ?_
 refine callsIn_of_wp_marks Tryz.func39 rfl trivial ?_ rfl
 simp only [Tryz.ntmps39, List.size_toArray, List.length_cons, List.length_nil, Nat.reduceAdd, Nat.reduceSub, Array.replicate_succ, Array.replicate_zero, List.push_toArray, List.append_toArray, List.nil_append, List.cons_append]
 gi_wp2_with fail
 refine ⟨trivial, (wide_w.calls (fwanted_any (E := E) _)).mono ?_⟩
 rintro e w' ⟨rfl, hq⟩
 subst hq
 rw [<- HW1.out]
 gi_wp2_with fail
 refine wpIn_rangeFunc_ownH rfl (by omega) (gf := 70) (lb := #[.pointer (some ⟨w.heap.size, 0, none⟩)]) rfl trivial (enters_of Tryz.func70 (by kernel_rfl) rfl)
  HST.out (fun h1 h2 => ⟨h2.1.trans h1.1, h2.2.1.trans h1.2.1, h2.2.2.trans h1.2.2⟩)
  (fun W l o o' hl hh _ _ => ⟨World.putObj_heap_other (by have := HT3.out; omega), World.putObj_heap_other (by have := HT3.out; omega), World.putObj_heap_other (by omega)⟩) (Below.refl _ _) (fun _ => rfl)
  (fun pre W => pre = [] /\ Chg [] w1 W) (fun c pre W => c = .ret /\ ∃ i : Nat, pre = [i] /\ Chg [] w1 W)
  (fun s A B row hs hg hr => ⟨hs.1, chg_turn hs.2 hg (fun r e => (hr r e).1)⟩) (fun c s A B row hs hg hr => by
   obtain ⟨h1, i, h2, h4⟩ := hs
   exact ⟨h1, i, h2, chg_turn h4 hg (fun r e => (hr r e).1)⟩)
  ⟨rfl, Chg.refl _ _⟩
  (fun x a' W => True)
  (fun x a' s A B row h1 hg hr => h1) ?assign ?body ?done ?stop
 case assign =>
  rintro l pre x W K hI hK
  gi_wp2_with fail
  exact hK _ _ ((KeepsOthers.refl _).from _) ⟨rfl, rfl, rfl⟩ hI trivial
 case body =>
  rintro l pre x a' W hl ⟨r, hr⟩ ⟨rfl, hC⟩ _ hlt
  have HC := LH hC
  clear hC hr
  gi_wp2_with fail
  exact ⟨(KeepsOthers.refl _).from _, rfl, x, rfl, HC.out⟩
 case stop =>
  rintro D c pre W hDs hpre ⟨rfl, i, rfl, hC⟩ hK
  have hcw : Chg [] w W := HC1.out.trans hC (by simp)
  have hfin : Hid (FtAt E (W.putObj D (.deferred none)) (f.settled E) /\ Chg E.T w (W.putObj D (.deferred none))) := LH (by
   have hc3 := chg_turn hcw (grownBy_putObj' _ D (.deferred none)) (fun r e => by cases e; omega)
   obtain ⟨t, ht⟩ := hpre
   unfold FS.settled
   rw [<- ht]
   exact ⟨HFW.out.keep hc3, hc3.mono (by simp)⟩)
  have HK' := LH hK
  clear hC hK hcw
  gi_wp2
  refine ⟨by simp, .inl ⟨_, _, rfl, run_takeDeferred HK'.out, ?_⟩⟩
  exact ⟨_, results_none rfl _ _ _, rfl, hfin.out⟩
 case done =>
  rintro D ys W hDs hys ⟨rfl, hC⟩ hK
  have hcw : Chg [] w W := HC1.out.trans hC (by simp)
  have CX := LH (CN.out W hcw)
  have hDT : D ∉ E.T := fun hm => by have := hTl _ hm; omega
  have HK' := LH hK
  have HCW := LH hcw
  clear hC hK hcw CN
  gi_wp2_with fail
  refine ⟨trivial, (wide_w.calls CX.out).mono ?_⟩
  rintro e W2 ⟨v, rfl, hn⟩
  obtain ⟨n1, n2⟩ := hn.settled hys.symm
  have hD2 := n2.keep HK'.out hDT
  have HK2 := LH hD2
  have HFIN : Hid (FtAt E (W2.putObj D (.deferred none)) (f.settled E) /\ Chg E.T w (W2.putObj D (.deferred none))) := LH (by
   have hcB : Chg [D] W2 (W2.putObj D (.deferred none)) := (Chg.refl _ _).grown (grownBy_putObj' _ D (.deferred none)) (fun r e => by cases e; exact .inl (by simp))
   exact ⟨n1.wrote hcB (fun x hx => by rw [List.mem_singleton.1 hx]; exact ⟨hDT, noU8_obj hD2 rfl⟩), ((HCW.out.mono (T := E.T) (by simp)).trans n2 (fun x hx => .inl hx)).trans hcB (fun x hx => .inr (by rw [List.mem_singleton.1 hx]; omega))⟩)
  clear n1 n2 hD2 hn CX
  gi_wp2
  refine ⟨by simp, .inl ⟨_, _, rfl, run_takeDeferred HK2.out, ?_⟩⟩
  exact ⟨_, results_none rfl _ _ _, rfl, HFIN.out⟩
theorem FtAt.setAsked {E : Env} {w : World} {f : FS} (h : FtAt E w f) (hE : E.Ok) (a : Int) : FtAt E (w.setCell ⟨E.fb, 14, none⟩ (.int .i64 a)) { f with asked := a } /\ Chg E.T w (w.setCell ⟨E.fb, 14, none⟩ (.int .i64 a)) := by
 obtain ⟨F, T, ov, xs, h⟩ := h
 have hcf : Chg [E.fb] w (w.setCell ⟨E.fb, 14, none⟩ (.int .i64 a)) := (Chg.refl _ w).setCell (.inl (by simp)) _
 have hnd := hE.nd
 simp only [List.nodup_cons, List.mem_cons, List.mem_nil_iff, or_false, not_or] at hnd
 refine ⟨⟨F, T, ov, xs, ⟨set_blk h.head, hcf.keep h.kn (by simp; exact fun e => hnd.1.1 e.symm), hcf.keep h.fr (by simp; exact fun e => hnd.1.2.1 e.symm), hcf.keep h.rs (by simp; exact fun e => hnd.1.2.2 e.symm), h.klen, h.flen, h.tlen, h.k3, fun i x hx => ⟨(h.frag i x hx).1.chgW hcf (fun hne q hq hm => (h.frag i x hx).2.2 hne q hq (by simp at hm; simp [hm])), (h.frag i x hx).2⟩, fun i x hx => ⟨(h.rest i x hx).1.chgW hcf (fun hne q hq hm => (h.rest i x hx).2.2 hne q hq (by simp at hm; simp [hm])), (h.rest i x hx).2⟩, h.out.chgW hcf (fun hne q hq hm => h.outT hne q hq (by simp at hm; simp [hm])), h.outT⟩⟩, hcf.mono (fun x hx => .inl (by simp at hx; simp [hx]))⟩
theorem ret_ask {fn : Func} {p q z : Tmp} (h : fn.results = #[.tmp p, .cell q 47, .tmp z]) (tmps : Array Value) {w : World} {b : Nat} {a0 a1 a2 a3 a4 a5 u v : Value} (hp : tmps.getD p undef = u) (hq : tmps.getD q undef = .pointer (some ⟨b, 0, none⟩)) (hz : tmps.getD z undef = v)
  (hb : w.heap[b]? = some (.cells #[a0, a1, a2, a3, a4, a5] 47 (0, 0))) :
  (results fn tmps).run Tryz.prog w = .ok (.tuple #[u, .agg #[a0, a1, a2, a3, a4, a5], v]) w := by
 have k0 := blk_cell hb 0 _ rfl
 have k1 := blk_cell hb 1 _ rfl
 have k2 := blk_cell hb 2 _ rfl
 have k3 := blk_cell hb 3 _ rfl
 have k4 := blk_cell hb 4 _ rfl
 have k5 := blk_cell hb 5 _ rfl
 rw [Array.getD_eq_getD_getElem?] at hp hq hz
 simp [results, h, go_sem, hp, hq, hz, k0, k1, k2, k3, k4, k5, asAddr]
theorem fask_done {E : Env} {f : FS} (w : World) (hE : E.Ok) (h : FtAt E w f) (hd : f.done = true) : Calls Tryz.prog 16 #[fpV E] w fun e w' => e = .returned (.tuple #[.int .i64 0, .agg #[.int .i64 0, .int .i64 0, .int .i64 0, .int .i64 0, .int .i64 0, .slice none 0 0], .bool false]) /\ Chg [] w w' := by
 obtain ⟨w1, hw1⟩ : ∃ w1, w1 = w.alloc (.cells #[.int .i64 0, .int .i64 0, .int .i64 0, .int .i64 0, .int .i64 0, .slice none 0 0] 47) := ⟨_, rfl⟩
 have hc1 : Chg [] w w1 := by rw [hw1]; exact (Chg.refl _ _).alloc _
 have CM := LH (fmade_any w1 hE (h.keep hc1))
 obtain ⟨F, T, ov, xs, h1⟩ := h.keep hc1
 have c15 := h1.c15
 rw [hd] at c15
 have HB := LH (show w1.heap[w.heap.size]? = some (.cells #[.int .i64 0, .int .i64 0, .int .i64 0, .int .i64 0, .int .i64 0, .slice none 0 0] 47 (0, 0)) by rw [hw1]; exact heap_alloc_new w _)
 have HW1 := LH hw1
 have HC1 := LH hc1
 clear h h1 hd hw1 hc1
 go_enter Tryz.func16, Tryz.ntmps16
 go_wp2_with fail
 rw [<- HW1.out]
 refine CM.out.mono ?_
 rintro e w' ⟨rfl, hq⟩
 subst hq
 obtain ⟨⟨q0, q1, q2, q3, q4, q5⟩, f0, f1, f2, f3, f4, f5⟩ : (w1.cell? ⟨w.heap.size, 0, none⟩ = some (.int .i64 0) /\ w1.cell? ⟨w.heap.size, 1, none⟩ = some (.int .i64 0) /\ w1.cell? ⟨w.heap.size, 2, none⟩ = some (.int .i64 0) /\ w1.cell? ⟨w.heap.size, 3, none⟩ = some (.int .i64 0) /\ w1.cell? ⟨w.heap.size, 4, none⟩ = some (.int .i64 0) /\ w1.cell? ⟨w.heap.size, 5, none⟩ = some (.slice none 0 0)) /\ w1.frozen? ⟨w.heap.size, 0, none⟩ = false /\ w1.frozen? ⟨w.heap.size, 1, none⟩ = false /\ w1.frozen? ⟨w.heap.size, 2, none⟩ = false /\ w1.frozen? ⟨w.heap.size, 3, none⟩ = false /\ w1.frozen? ⟨w.heap.size, 4, none⟩ = false /\ w1.frozen? ⟨w.heap.size, 5, none⟩ = false :=
  ⟨⟨blk_cell HB.out 0 _ rfl, blk_cell HB.out 1 _ rfl, blk_cell HB.out 2 _ rfl, blk_cell HB.out 3 _ rfl, blk_cell HB.out 4 _ rfl, blk_cell HB.out 5 _ rfl⟩, blk_frozen HB.out 0, blk_frozen HB.out 1, blk_frozen HB.out 2, blk_frozen HB.out 3, blk_frozen HB.out 4, blk_frozen HB.out 5⟩
 have hl := blk_lt HB.out
 clear CM
 go_wp2_with fail
 refine bodyPost_ret (ret_ask rfl _ rfl rfl rfl (set_blk (set_blk (set_blk (set_blk (set_blk (set_blk HB.out))))))) rfl ⟨rfl, ?_⟩
 exact ((((((HC1.out.setCell (p := ⟨w.heap.size, 0, none⟩) (.inr (Nat.le_refl _)) _).setCell (p := ⟨w.heap.size, 1, none⟩) (.inr (Nat.le_refl _)) _).setCell (p := ⟨w.heap.size, 2, none⟩) (.inr (Nat.le_refl _)) _).setCell (p := ⟨w.heap.size, 3, none⟩) (.inr (Nat.le_refl _)) _).setCell (p := ⟨w.heap.size, 4, none⟩) (.inr (Nat.le_refl _)) _).setCell (p := ⟨w.heap.size, 5, none⟩) (.inr (Nat.le_refl _)) _)
theorem rq_sizeF (c l n i : Int) : (Tryz.prog.info? 47).map (·.size) = some (#[.int .i64 2, .int .i64 c, .int .i64 l, .int .i64 n, .int .i64 i, .slice none 0 0] : Array Value).size := by kernel_rfl
theorem rq_allF (c l n i : Int) : (#[.int .i64 2, .int .i64 c, .int .i64 l, .int .i64 n, .int .i64 i, .slice none 0 0] : Array Value).all (·.oneCell') = true := all_oneCell_toArray (fun v hv => by
 simp only [List.mem_cons, List.mem_nil_iff, or_false] at hv
 rcases hv with rfl | rfl | rfl | rfl | rfl | rfl <;> rfl)
theorem noU8_rq0 {w : World} {b t : Nat} (h : w.heap[b]? = some (.cells #[.int .i64 0, .int .i64 0, .int .i64 0, .int .i64 0, .int .i64 0, .slice none 0 0] t (0, 0))) : NoU8 w b := NoU8.mk h (by
 refine no8_list (l := [.int .i64 0, .int .i64 0, .int .i64 0, .int .i64 0, .int .i64 0, .slice none 0 0]) (fun c hc => ?_)
 simp only [List.mem_cons, List.mem_nil_iff, or_false] at hc
 rcases hc with rfl | rfl | rfl | rfl | rfl | rfl <;> (intro z; simp))
abbrev getV (s : Sp) (i : Nat) : Value := .agg #[.int .i64 2, .int .i64 s.c, .int .i64 s.l, .int .i64 s.n, .int .i64 (i : Int), .slice none 0 0]
theorem fask_next {E : Env} {f : FS} (i : Nat) (w : World) (hE : E.Ok) (h : FtAt E w f) (hd : f.done = false) (hi : i < E.n) (ha : f.asked = (i : Int) ∨ (f.asked = -1 /\ (∃ l, f.want E.data.length E.n = i :: l))) (hw : 1 ∈ f.known -> f.Within E.data.length) :
  Calls Tryz.prog 16 #[fpV E] w fun e w' => e = .returned (.tuple #[.int .i64 (placeN E.s i E.n : Int), getV E.s i, .bool true]) /\ FtAt E w' { f with asked := (i : Int) } /\ Chg E.T w w' := by
 obtain ⟨w1, hw1⟩ : ∃ w1, w1 = w.alloc (.cells #[.int .i64 0, .int .i64 0, .int .i64 0, .int .i64 0, .int .i64 0, .slice none 0 0] 47) := ⟨_, rfl⟩
 have hc1 : Chg [] w w1 := by rw [hw1]; exact (Chg.refl _ _).alloc _
 have hTl := h.lim
 have hn3 := hE.n3
 have hn16 := hE.n16
 have CM := LH (fmade_any w1 hE (h.keep hc1))
 have CN := LH (fun (hx : ∃ l, f.want E.data.length E.n = i :: l) => fnext_any w1 hE (h.keep hc1) hw (fun e => by obtain ⟨l, hl⟩ := hx; rw [e] at hl; cases hl))
 have CP := LH (fun w => lplace_ok E.s i E.n w hE.s hi hn3 hn16)
 obtain ⟨F, T, ov, xs, h1⟩ := h.keep hc1
 have c15 := h1.c15
 have c14 := h1.c14
 rw [hd] at c15
 have HB := LH (show w1.heap[w.heap.size]? = some (.cells #[.int .i64 0, .int .i64 0, .int .i64 0, .int .i64 0, .int .i64 0, .slice none 0 0] 47 (0, 0)) by rw [hw1]; exact heap_alloc_new w _)
 have HW1 := LH hw1
 have HC1 := LH hc1
 have HF1 := LH (h.keep hc1)
 have HE := LH hE
 have hrT : w.heap.size ∉ E.T := fun hm => by have := hTl _ hm; omega
 have HTL : Hid (∀ (wA : World), FtAt E wA { f with asked := (i : Int) } -> Chg E.T w1 wA -> (wA.cell? ⟨E.fb, 0, none⟩ = some (.int .i64 E.s.c) /\ wA.cell? ⟨E.fb, 1, none⟩ = some (.int .i64 E.s.l) /\ wA.cell? ⟨E.fb, 2, none⟩ = some (.int .i64 E.s.n)) /\ wA.cell? ⟨E.fb, 14, none⟩ = some (.int .i64 (i : Int)) /\ wA.cell? ⟨E.fb, 9, none⟩ = some (.int .i64 (E.n : Int)) /\ wA.heap[w.heap.size]? = some (.cells #[.int .i64 0, .int .i64 0, .int .i64 0, .int .i64 0, .int .i64 0, .slice none 0 0] 47 (0, 0))) := LH (fun wA hA hcA => by
  obtain ⟨F', T', ov', xs', k⟩ := hA
  exact ⟨⟨k.c0, k.c1, k.c2⟩, k.c14, k.c9, hcA.keep HB.out hrT⟩)
 clear h h1 hd hw1 hc1
 go_enter Tryz.func16, Tryz.ntmps16
 go_wp2_with fail
 rw [<- HW1.out]
 refine CM.out.mono ?_
 rintro e w' ⟨rfl, hq⟩
 subst hq
 rcases ha with ha | ⟨ha, hx⟩
 ·rw [ha] at c14
  have hia : ¬ (i : Int) < 0 := by omega
  have hfe : f = { f with asked := (i : Int) } := by rw [<- ha]
  have HA := LH HF1.out
  rw [hfe] at HA
  have HCA := LH (Chg.refl E.T w1)
  go_wp2_with fail
  obtain ⟨wA, hwA⟩ : ∃ wA, wA = w1 := ⟨_, rfl⟩
  rw [<- hwA] at HA
  rw [show Chg E.T w1 w1 = Chg E.T w1 wA by rw [hwA]] at HCA
  rw [<- hwA]
  clear c14 c15 hwA
  obtain ⟨⟨b0, b1, b2⟩, b3, b4, b5⟩ := HTL.out wA HA.out HCA.out
  have HB5 := LH b5
  clear b5
  refine wp_region_L [(24, fun w' => (w'.cell? ⟨E.fb, 0, none⟩ = some (.int .i64 E.s.c) /\ w'.cell? ⟨E.fb, 1, none⟩ = some (.int .i64 E.s.l) /\ w'.cell? ⟨E.fb, 2, none⟩ = some (.int .i64 E.s.n))), (24, fun w' => w'.cell? ⟨E.fb, 14, none⟩ = some (.int .i64 (i : Int))), (24, fun w' => w'.cell? ⟨E.fb, 9, none⟩ = some (.int .i64 (E.n : Int)))] (by kernel_rfl) ?_ (fun hHeld => ?_)
  ·exact (HoldC.cons (⟨b0, b1, b2⟩) (HoldC.cons (b3) (HoldC.cons (b4) HoldC.nil)))
  refine tk 0 ?_ rfl (by kernel_rfl) (fun _ _ _ h => h) (.inl ⟨by rfl, ?_⟩) hHeld ?_; rotate_left; · (intro w _; go_simp; try with_reducible rfl)
  clear hHeld; intro hHeld; try simp only [gA,gB,gC,Act.put,gD,gE,gF]
  refine tk 1 ?_ rfl (by kernel_rfl) (fun _ _ _ h => h) (.inl ⟨by rfl, ?_⟩) hHeld ?_; rotate_left; · (intro w _; go_simp; try with_reducible rfl)
  clear hHeld; intro hHeld; try simp only [gA,gB,gC,Act.put,gD,gE,gF]
  refine tk 2 ?_ rfl (by kernel_rfl) (fun _ _ _ h => h) (.inl ⟨by rfl, ?_⟩) hHeld ?_; rotate_left; · (intro w _; go_simp; try with_reducible rfl)
  clear hHeld; intro hHeld; try simp only [gA,gB,gC,Act.put,gD,gE,gF]
  refine tk 4 ?_ rfl (by kernel_rfl) (fun _ _ _ h => h) (.inl ⟨by rfl, ?_⟩) hHeld ?_; rotate_left; · (intro w _; go_simp; try with_reducible rfl)
  clear hHeld; intro hHeld; try simp only [gA,gB,gC,Act.put,gD,gE,gF]
  refine tk 5 ?_ rfl (by kernel_rfl) (fun _ _ _ h => h) (.inl ⟨by rfl, ?_⟩) hHeld ?_; rotate_left; · (intro w _; go_simp; try with_reducible rfl)
  clear hHeld; intro hHeld; try simp only [gA,gB,gC,Act.put,gD,gE,gF]
  refine tk 6 ?_ rfl (by kernel_rfl) (fun _ _ _ h => h) (.inl ⟨by rfl, ?_⟩) hHeld ?_; rotate_left; · (intro w _; go_simp; try with_reducible rfl)
  clear hHeld; intro hHeld; try simp only [gA,gB,gC,Act.put,gD,gE,gF]
  refine tk 8 ?_ rfl (by kernel_rfl) (fun _ _ _ h => h) (.inl ⟨by rfl, ?_⟩) hHeld ?_; rotate_left; · (intro w _; go_simp; try with_reducible rfl)
  clear hHeld; intro hHeld; try simp only [gA,gB,gC,Act.put,gD,gE,gF]
  refine tk 9 ?_ rfl (by kernel_rfl) (fun _ _ _ h => h) (.inl ⟨by rfl, ?_⟩) hHeld ?_; rotate_left; · (intro w _; go_simp; try with_reducible rfl)
  clear hHeld; intro hHeld; try simp only [gA,gB,gC,Act.put,gD,gE,gF]
  refine tk 10 ?_ rfl (by kernel_rfl) (fun _ _ _ h => h) (.inl ⟨by rfl, ?_⟩) hHeld ?_; rotate_left; · (intro w _; go_simp; try with_reducible rfl)
  clear hHeld; intro hHeld; try simp only [gA,gB,gC,Act.put,gD,gE,gF]
  refine tk 13 ?_ rfl (by kernel_rfl) (fun _ _ _ h => h) (.inl ⟨by rfl, ?_⟩) hHeld ?_; rotate_left; · (intro w _; go_simp; try with_reducible rfl)
  clear hHeld; intro hHeld; try simp only [gA,gB,gC,Act.put,gD,gE,gF]
  refine tk 14 ?_ rfl (by kernel_rfl) (fun _ _ _ h => h) (.inl ⟨by rfl, ?_⟩) hHeld ?_; rotate_left; · (intro w _; go_simp; try with_reducible rfl)
  clear hHeld; intro hHeld; try simp only [gA,gB,gC,Act.put,gD,gE,gF]
  refine tk 15 ?_ rfl (by kernel_rfl) (fun _ _ _ h => h) (.inl ⟨by rfl, ?_⟩) hHeld ?_; rotate_left; · (intro w _; go_simp; try with_reducible rfl)
  clear hHeld; intro hHeld; try simp only [gA,gB,gC,Act.put,gD,gE,gF]
  refine tk 17 ?_ rfl (by kernel_rfl) (fun _ _ _ h => h) (.inl ⟨by rfl, ?_⟩) hHeld ?_; rotate_left; · (intro w _; go_simp; try with_reducible rfl)
  clear hHeld; intro hHeld; try simp only [gA,gB,gC,Act.put,gD,gE,gF]
  refine tk 18 ?_ rfl (by kernel_rfl) (fun _ _ _ h => h) (.inl ⟨by rfl, ?_⟩) hHeld ?_; rotate_left; · (intro w _; go_simp; try with_reducible rfl)
  clear hHeld; intro hHeld; try simp only [gA,gB,gC,Act.put,gD,gE,gF]
  refine tk 19 ?_ rfl (by kernel_rfl) (fun _ _ _ h => h) (.inl ⟨by rfl, ?_⟩) hHeld ?_; rotate_left; · (intro w _; go_simp; try with_reducible rfl)
  clear hHeld; intro hHeld; try simp only [gA,gB,gC,Act.put,gD,gE,gF]
  refine ld 0 3 ?_ rfl rfl (by kernel_rfl) (fun _ _ _ h => h) (.inl ⟨by rfl, ?_⟩) hHeld ?_; rotate_left; · (intro w hSw; (try dsimp only at hSw); go_simp; try with_reducible rfl)
  clear hHeld; intro hHeld; try simp only [gA,gB,gC,Act.put,gD,gE,gF]
  refine ld 1 7 ?_ rfl rfl (by kernel_rfl) (fun _ _ _ h => h) (.inl ⟨by rfl, ?_⟩) hHeld ?_; rotate_left; · (intro w hSw; (try dsimp only at hSw); go_simp; try with_reducible rfl)
  clear hHeld; intro hHeld; try simp only [gA,gB,gC,Act.put,gD,gE,gF]
  refine ld 2 11 ?_ rfl rfl (by kernel_rfl) (fun _ _ _ h => h) (.inl ⟨by rfl, ?_⟩) hHeld ?_; rotate_left; · (intro w hSw; (try dsimp only at hSw); go_simp; try with_reducible rfl)
  clear hHeld; intro hHeld; try simp only [gA,gB,gC,Act.put,gD,gE,gF]
  refine ld 0 16 ?_ rfl rfl (by kernel_rfl) (fun _ _ _ h => h) (.inl ⟨by rfl, ?_⟩) hHeld ?_; rotate_left; · (intro w hSw; (try dsimp only at hSw); go_simp; try with_reducible rfl)
  clear hHeld; intro hHeld; try simp only [gA,gB,gC,Act.put,gD,gE,gF]
  refine ld 1 20 ?_ rfl rfl (by kernel_rfl) (fun _ _ _ h => h) (.inl ⟨by rfl, ?_⟩) hHeld ?_; rotate_left; · (intro w hSw; (try dsimp only at hSw); go_simp; try with_reducible rfl)
  clear hHeld; intro hHeld; try simp only [gA,gB,gC,Act.put,gD,gE,gF]
  refine tk 21 ?_ rfl (by kernel_rfl) (fun _ _ _ h => h) (.inl ⟨by rfl, ?_⟩) hHeld ?_; rotate_left; · (intro w _; go_simp; try with_reducible rfl)
  clear hHeld; intro hHeld; try simp only [gA,gB,gC,Act.put,gD,gE,gF]
  refine tk 22 ?_ rfl (by kernel_rfl) (fun _ _ _ h => h) (.inl ⟨by rfl, ?_⟩) hHeld ?_; rotate_left; · (intro w _; go_simp; try with_reducible rfl)
  clear hHeld; intro hHeld; try simp only [gA,gB,gC,Act.put,gD,gE,gF]
  refine wpAnyL_ready (rs := [12]) (by kernel_rfl) (by simp) (AllReadyL.cons (o := _) rfl (fun K hK => ?_) AllReadyL.nil)
  try simp only [gA,gB,gC]
  go_simp
  refine (CP.out _).mono ?_
  rintro e wB ⟨rfl, hcB⟩
  have hcAB : Chg [] wA wB := (Chg.refl [] wA).drew.trans hcB (by simp)
  have k0 := hcAB.cell b0 (by simp)
  have k1 := hcAB.cell b1 (by simp)
  have k2 := hcAB.cell b2 (by simp)
  have k3 := hcAB.cell b3 (by simp)
  have k4 := hcAB.cell b4 (by simp)
  have HB6 := LH (hcAB.keep HB5.out (by simp))
  have HFB := LH (HA.out.keep hcAB)
  have HCB := LH (((HC1.out.mono (T := E.T) (by simp)).trans HCA.out (fun x hx => .inl hx)).trans (hcAB.mono (T := E.T) (by simp)) (fun x hx => .inl hx))
  clear hcB hcAB b0 b1 b2 b3 b4
  clear hHeld
  refine hK.out _ _ ?_ (fun hHeld => ?_)
  ·exact (HoldC.cons (⟨k0, k1, k2⟩) (HoldC.cons (k3) (HoldC.cons (k4) HoldC.nil)))
  clear hK K
  try simp only [gA,gB,gC,Act.put,gD,gE,gF]
  refine tk 23 ?_ rfl (by kernel_rfl) (fun _ _ _ h => h) (.inl ⟨by rfl, ?_⟩) hHeld ?_; rotate_left; · (intro w _; go_simp; try with_reducible rfl)
  clear hHeld; intro hHeld; try simp only [gA,gB,gC,Act.put,gD,gE,gF]
  refine wpAnyL_ready (rs := [24]) (by kernel_rfl) (by simp) (AllReadyL.cons (o := _) rfl (fun K hK => ?_) AllReadyL.nil)
  try simp only [gA,gB,gC]
  rw [if_pos (by rfl)]
  have HTH := LH (blk_there HB6.out 6 (by simp))
  have HSX := LH (six_setH HB6.out (.int .i64 2) (.int .i64 E.s.c) (.int .i64 E.s.l) (.int .i64 E.s.n) (.int .i64 (i : Int)) (.slice none 0 0))
  refine wp_store_mid 47 (.tmp 3) (.tmp 53) (by rfl) w.heap.size 0 #[.int .i64 2, .int .i64 E.s.c, .int .i64 E.s.l, .int .i64 E.s.n, .int .i64 (i : Int), .slice none 0 0] (by rfl) (by rfl) HTH.out (rq_sizeF _ _ _ _) (rq_allF _ _ _ _) ?_
  clear hHeld
  refine hK.out _ _ ?_ (fun hHeld => ?_)
  ·exact (HoldC.past (by kernel_rfl) (HoldC.past (by kernel_rfl) (HoldC.past (by kernel_rfl) HoldC.nil)))
  clear hK K
  try simp only [gA,gB,gC,Act.put,gD,gE,gF]
  refine tk 25 ?_ rfl (by kernel_rfl) (fun _ _ _ h => h) (.inl ⟨by rfl, ?_⟩) hHeld ?_; rotate_left; · (intro w _; go_simp; try with_reducible rfl)
  clear hHeld; intro hHeld; try simp only [gA,gB,gC,Act.put,gD,gE,gF]
  refine wpAnyL_done (by kernel_rfl) ?_ _
  clear hHeld
  have HCX := LH (show Chg [w.heap.size] wB (wB.setCells w.heap.size 0 [.int .i64 2, .int .i64 E.s.c, .int .i64 E.s.l, .int .i64 E.s.n, .int .i64 (i : Int), .slice none 0 0]) from (Chg.refl _ _).setCells (.inl (by simp)) _)
  generalize wB.setCells w.heap.size 0 [.int .i64 2, .int .i64 E.s.c, .int .i64 E.s.l, .int .i64 E.s.n, .int .i64 (i : Int), .slice none 0 0] = wx at *
  go_wp2_with fail
  exact bodyPost_ret (ret_ask rfl _ rfl rfl rfl HSX.out) rfl ⟨rfl, HFB.out.wrote HCX.out (fun x hx => by rw [List.mem_singleton.1 hx]; exact ⟨hrT, noU8_rq0 HB6.out⟩), HCB.out.trans HCX.out (fun x hx => .inr (by rw [List.mem_singleton.1 hx]; exact Nat.le_refl _))⟩
 ·rw [ha] at c14
  have hm1 : ((-1 : Int) < 0) := by omega
  go_wp2_with fail
  refine (CN.out hx).mono ?_
  rintro e w2 ⟨v, rfl, hn⟩
  obtain ⟨lw, hlw⟩ := hx
  have hn2 := hn
  unfold NextP at hn2
  rw [hlw] at hn2
  obtain ⟨rfl, hf2, hc2⟩ := hn2
  obtain ⟨hA, hcA⟩ := hf2.setAsked HE.out (i : Int)
  have HA := LH hA
  have HCA := LH ((hc2.mono (T := E.T) (by simp)).trans hcA (fun x hx => .inl hx))
  obtain ⟨F2, T2, ov2, xs2, k2⟩ := hf2
  have d14 := k2.c14
  have z14 := k2.fz 14
  have l14 := blk_lt k2.head
  have hia : ¬ (i : Int) < 0 := by omega
  clear hn k2 hc2 hA hcA c14 c15 CN
  go_wp2_with fail
  generalize w2.setCell ⟨E.fb, 14, none⟩ (.int .i64 (i : Int)) = wA at *
  clear d14 z14 l14
  obtain ⟨⟨b0, b1, b2⟩, b3, b4, b5⟩ := HTL.out wA HA.out HCA.out
  have HB5 := LH b5
  clear b5
  refine wp_region_L [(24, fun w' => (w'.cell? ⟨E.fb, 0, none⟩ = some (.int .i64 E.s.c) /\ w'.cell? ⟨E.fb, 1, none⟩ = some (.int .i64 E.s.l) /\ w'.cell? ⟨E.fb, 2, none⟩ = some (.int .i64 E.s.n))), (24, fun w' => w'.cell? ⟨E.fb, 14, none⟩ = some (.int .i64 (i : Int))), (24, fun w' => w'.cell? ⟨E.fb, 9, none⟩ = some (.int .i64 (E.n : Int)))] (by kernel_rfl) ?_ (fun hHeld => ?_)
  ·exact (HoldC.cons (⟨b0, b1, b2⟩) (HoldC.cons (b3) (HoldC.cons (b4) HoldC.nil)))
  refine tk 0 ?_ rfl (by kernel_rfl) (fun _ _ _ h => h) (.inl ⟨by rfl, ?_⟩) hHeld ?_; rotate_left; · (intro w _; go_simp; try with_reducible rfl)
  clear hHeld; intro hHeld; try simp only [gA,gB,gC,Act.put,gD,gE,gF]
  refine tk 1 ?_ rfl (by kernel_rfl) (fun _ _ _ h => h) (.inl ⟨by rfl, ?_⟩) hHeld ?_; rotate_left; · (intro w _; go_simp; try with_reducible rfl)
  clear hHeld; intro hHeld; try simp only [gA,gB,gC,Act.put,gD,gE,gF]
  refine tk 2 ?_ rfl (by kernel_rfl) (fun _ _ _ h => h) (.inl ⟨by rfl, ?_⟩) hHeld ?_; rotate_left; · (intro w _; go_simp; try with_reducible rfl)
  clear hHeld; intro hHeld; try simp only [gA,gB,gC,Act.put,gD,gE,gF]
  refine tk 4 ?_ rfl (by kernel_rfl) (fun _ _ _ h => h) (.inl ⟨by rfl, ?_⟩) hHeld ?_; rotate_left; · (intro w _; go_simp; try with_reducible rfl)
  clear hHeld; intro hHeld; try simp only [gA,gB,gC,Act.put,gD,gE,gF]
  refine tk 5 ?_ rfl (by kernel_rfl) (fun _ _ _ h => h) (.inl ⟨by rfl, ?_⟩) hHeld ?_; rotate_left; · (intro w _; go_simp; try with_reducible rfl)
  clear hHeld; intro hHeld; try simp only [gA,gB,gC,Act.put,gD,gE,gF]
  refine tk 6 ?_ rfl (by kernel_rfl) (fun _ _ _ h => h) (.inl ⟨by rfl, ?_⟩) hHeld ?_; rotate_left; · (intro w _; go_simp; try with_reducible rfl)
  clear hHeld; intro hHeld; try simp only [gA,gB,gC,Act.put,gD,gE,gF]
  refine tk 8 ?_ rfl (by kernel_rfl) (fun _ _ _ h => h) (.inl ⟨by rfl, ?_⟩) hHeld ?_; rotate_left; · (intro w _; go_simp; try with_reducible rfl)
  clear hHeld; intro hHeld; try simp only [gA,gB,gC,Act.put,gD,gE,gF]
  refine tk 9 ?_ rfl (by kernel_rfl) (fun _ _ _ h => h) (.inl ⟨by rfl, ?_⟩) hHeld ?_; rotate_left; · (intro w _; go_simp; try with_reducible rfl)
  clear hHeld; intro hHeld; try simp only [gA,gB,gC,Act.put,gD,gE,gF]
  refine tk 10 ?_ rfl (by kernel_rfl) (fun _ _ _ h => h) (.inl ⟨by rfl, ?_⟩) hHeld ?_; rotate_left; · (intro w _; go_simp; try with_reducible rfl)
  clear hHeld; intro hHeld; try simp only [gA,gB,gC,Act.put,gD,gE,gF]
  refine tk 13 ?_ rfl (by kernel_rfl) (fun _ _ _ h => h) (.inl ⟨by rfl, ?_⟩) hHeld ?_; rotate_left; · (intro w _; go_simp; try with_reducible rfl)
  clear hHeld; intro hHeld; try simp only [gA,gB,gC,Act.put,gD,gE,gF]
  refine tk 14 ?_ rfl (by kernel_rfl) (fun _ _ _ h => h) (.inl ⟨by rfl, ?_⟩) hHeld ?_; rotate_left; · (intro w _; go_simp; try with_reducible rfl)
  clear hHeld; intro hHeld; try simp only [gA,gB,gC,Act.put,gD,gE,gF]
  refine tk 15 ?_ rfl (by kernel_rfl) (fun _ _ _ h => h) (.inl ⟨by rfl, ?_⟩) hHeld ?_; rotate_left; · (intro w _; go_simp; try with_reducible rfl)
  clear hHeld; intro hHeld; try simp only [gA,gB,gC,Act.put,gD,gE,gF]
  refine tk 17 ?_ rfl (by kernel_rfl) (fun _ _ _ h => h) (.inl ⟨by rfl, ?_⟩) hHeld ?_; rotate_left; · (intro w _; go_simp; try with_reducible rfl)
  clear hHeld; intro hHeld; try simp only [gA,gB,gC,Act.put,gD,gE,gF]
  refine tk 18 ?_ rfl (by kernel_rfl) (fun _ _ _ h => h) (.inl ⟨by rfl, ?_⟩) hHeld ?_; rotate_left; · (intro w _; go_simp; try with_reducible rfl)
  clear hHeld; intro hHeld; try simp only [gA,gB,gC,Act.put,gD,gE,gF]
  refine tk 19 ?_ rfl (by kernel_rfl) (fun _ _ _ h => h) (.inl ⟨by rfl, ?_⟩) hHeld ?_; rotate_left; · (intro w _; go_simp; try with_reducible rfl)
  clear hHeld; intro hHeld; try simp only [gA,gB,gC,Act.put,gD,gE,gF]
  refine ld 0 3 ?_ rfl rfl (by kernel_rfl) (fun _ _ _ h => h) (.inl ⟨by rfl, ?_⟩) hHeld ?_; rotate_left; · (intro w hSw; (try dsimp only at hSw); go_simp; try with_reducible rfl)
  clear hHeld; intro hHeld; try simp only [gA,gB,gC,Act.put,gD,gE,gF]
  refine ld 1 7 ?_ rfl rfl (by kernel_rfl) (fun _ _ _ h => h) (.inl ⟨by rfl, ?_⟩) hHeld ?_; rotate_left; · (intro w hSw; (try dsimp only at hSw); go_simp; try with_reducible rfl)
  clear hHeld; intro hHeld; try simp only [gA,gB,gC,Act.put,gD,gE,gF]
  refine ld 2 11 ?_ rfl rfl (by kernel_rfl) (fun _ _ _ h => h) (.inl ⟨by rfl, ?_⟩) hHeld ?_; rotate_left; · (intro w hSw; (try dsimp only at hSw); go_simp; try with_reducible rfl)
  clear hHeld; intro hHeld; try simp only [gA,gB,gC,Act.put,gD,gE,gF]
  refine ld 0 16 ?_ rfl rfl (by kernel_rfl) (fun _ _ _ h => h) (.inl ⟨by rfl, ?_⟩) hHeld ?_; rotate_left; · (intro w hSw; (try dsimp only at hSw); go_simp; try with_reducible rfl)
  clear hHeld; intro hHeld; try simp only [gA,gB,gC,Act.put,gD,gE,gF]
  refine ld 1 20 ?_ rfl rfl (by kernel_rfl) (fun _ _ _ h => h) (.inl ⟨by rfl, ?_⟩) hHeld ?_; rotate_left; · (intro w hSw; (try dsimp only at hSw); go_simp; try with_reducible rfl)
  clear hHeld; intro hHeld; try simp only [gA,gB,gC,Act.put,gD,gE,gF]
  refine tk 21 ?_ rfl (by kernel_rfl) (fun _ _ _ h => h) (.inl ⟨by rfl, ?_⟩) hHeld ?_; rotate_left; · (intro w _; go_simp; try with_reducible rfl)
  clear hHeld; intro hHeld; try simp only [gA,gB,gC,Act.put,gD,gE,gF]
  refine tk 22 ?_ rfl (by kernel_rfl) (fun _ _ _ h => h) (.inl ⟨by rfl, ?_⟩) hHeld ?_; rotate_left; · (intro w _; go_simp; try with_reducible rfl)
  clear hHeld; intro hHeld; try simp only [gA,gB,gC,Act.put,gD,gE,gF]
  refine wpAnyL_ready (rs := [12]) (by kernel_rfl) (by simp) (AllReadyL.cons (o := _) rfl (fun K hK => ?_) AllReadyL.nil)
  try simp only [gA,gB,gC]
  go_simp
  refine (CP.out _).mono ?_
  rintro e wB ⟨rfl, hcB⟩
  have hcAB : Chg [] wA wB := (Chg.refl [] wA).drew.trans hcB (by simp)
  have k0 := hcAB.cell b0 (by simp)
  have k1 := hcAB.cell b1 (by simp)
  have k2 := hcAB.cell b2 (by simp)
  have k3 := hcAB.cell b3 (by simp)
  have k4 := hcAB.cell b4 (by simp)
  have HB6 := LH (hcAB.keep HB5.out (by simp))
  have HFB := LH (HA.out.keep hcAB)
  have HCB := LH (((HC1.out.mono (T := E.T) (by simp)).trans HCA.out (fun x hx => .inl hx)).trans (hcAB.mono (T := E.T) (by simp)) (fun x hx => .inl hx))
  clear hcB hcAB b0 b1 b2 b3 b4
  clear hHeld
  refine hK.out _ _ ?_ (fun hHeld => ?_)
  ·exact (HoldC.cons (⟨k0, k1, k2⟩) (HoldC.cons (k3) (HoldC.cons (k4) HoldC.nil)))
  clear hK K
  try simp only [gA,gB,gC,Act.put,gD,gE,gF]
  refine tk 23 ?_ rfl (by kernel_rfl) (fun _ _ _ h => h) (.inl ⟨by rfl, ?_⟩) hHeld ?_; rotate_left; · (intro w _; go_simp; try with_reducible rfl)
  clear hHeld; intro hHeld; try simp only [gA,gB,gC,Act.put,gD,gE,gF]
  refine wpAnyL_ready (rs := [24]) (by kernel_rfl) (by simp) (AllReadyL.cons (o := _) rfl (fun K hK => ?_) AllReadyL.nil)
  try simp only [gA,gB,gC]
  rw [if_pos (by rfl)]
  have HTH := LH (blk_there HB6.out 6 (by simp))
  have HSX := LH (six_setH HB6.out (.int .i64 2) (.int .i64 E.s.c) (.int .i64 E.s.l) (.int .i64 E.s.n) (.int .i64 (i : Int)) (.slice none 0 0))
  refine wp_store_mid 47 (.tmp 3) (.tmp 53) (by rfl) w.heap.size 0 #[.int .i64 2, .int .i64 E.s.c, .int .i64 E.s.l, .int .i64 E.s.n, .int .i64 (i : Int), .slice none 0 0] (by rfl) (by rfl) HTH.out (rq_sizeF _ _ _ _) (rq_allF _ _ _ _) ?_
  clear hHeld
  refine hK.out _ _ ?_ (fun hHeld => ?_)
  ·exact (HoldC.past (by kernel_rfl) (HoldC.past (by kernel_rfl) (HoldC.past (by kernel_rfl) HoldC.nil)))
  clear hK K
  try simp only [gA,gB,gC,Act.put,gD,gE,gF]
  refine tk 25 ?_ rfl (by kernel_rfl) (fun _ _ _ h => h) (.inl ⟨by rfl, ?_⟩) hHeld ?_; rotate_left; · (intro w _; go_simp; try with_reducible rfl)
  clear hHeld; intro hHeld; try simp only [gA,gB,gC,Act.put,gD,gE,gF]
  refine wpAnyL_done (by kernel_rfl) ?_ _
  clear hHeld
  have HCX := LH (show Chg [w.heap.size] wB (wB.setCells w.heap.size 0 [.int .i64 2, .int .i64 E.s.c, .int .i64 E.s.l, .int .i64 E.s.n, .int .i64 (i : Int), .slice none 0 0]) from (Chg.refl _ _).setCells (.inl (by simp)) _)
  generalize wB.setCells w.heap.size 0 [.int .i64 2, .int .i64 E.s.c, .int .i64 E.s.l, .int .i64 E.s.n, .int .i64 (i : Int), .slice none 0 0] = wx at *
  go_wp2_with fail
  exact bodyPost_ret (ret_ask rfl _ rfl rfl rfl HSX.out) rfl ⟨rfl, HFB.out.wrote HCX.out (fun x hx => by rw [List.mem_singleton.1 hx]; exact ⟨hrT, noU8_rq0 HB6.out⟩), HCB.out.trans HCX.out (fun x hx => .inr (by rw [List.mem_singleton.1 hx]; exact Nat.le_refl _))⟩
end
section
open Go.RowKit Go.Shelf
abbrev rpA (e : Int) (bv iv : Value) (room : Int) (wh : Bool) : Value := .agg #[.int .i64 e, bv, iv, .int .i64 room, .bool wh]
theorem fis_short {E : Env} {f : FS} (w : World) (e room : Int) (ba ia : Option Addr) (bn bc il ic : Nat) (wh : Bool) (l : List UInt8) (hE : E.Ok) (h : FtAt E w f) (hb : BytesAt w (.slice ba bn bc) l) (hl : l.length < 12) :
  Calls Tryz.prog 37 #[fpV E, rpA e (.slice ba bn bc) (.slice ia il ic) room wh] w fun e' w' => e' = .returned (.tuple #[.int .i64 0, .slice none 0 0, .bool false]) /\ Chg [] w w' := by
 obtain ⟨w1, hw1⟩ : ∃ w1, w1 = w.alloc (.cells #[.int .i64 e, .slice ba bn bc, .slice ia il ic, .int .i64 room, .bool wh] 52) := ⟨_, rfl⟩
 have hc1 : Chg [] w w1 := by rw [hw1]; exact (Chg.refl _ _).alloc _
 have CR := LH (lread_short _ l w1 (hb.chg hc1 (by simp)) hl)
 have HW1 := LH hw1
 have HC1 := LH hc1
 clear h hb hw1 hc1
 go_enter Tryz.func37, Tryz.ntmps37
 go_wp2_with fail
 rw [<- HW1.out]
 refine CR.out.mono ?_
 rintro e' w2 ⟨rfl, hc2⟩
 have HC2 := LH (HC1.out.trans hc2 (by simp))
 have hd := heap_alloc_new w2 (.cells zeroHd 115)
 have d5 : (w2.alloc (.cells zeroHd 115)).drew.cell? ⟨w2.heap.size, 5, none⟩ = some (.int .i64 0) := blk_cell hd 5 _ rfl
 clear hc2 CR hd
 go_wp2_with fail
 refine wp_region_L [] (by kernel_rfl) ?_ (fun hHeld => ?_)
 ·exact HoldC.nil
 refine tk 0 ?_ rfl (by kernel_rfl) (fun _ _ _ h => h) (.inl ⟨by rfl, ?_⟩) hHeld ?_; rotate_left; · (intro w _; go_simp; try with_reducible rfl)
 clear hHeld; intro hHeld; try simp only [gA,gB,gC,Act.put,gD,gE,gF]
 refine tk 1 ?_ rfl (by kernel_rfl) (fun _ _ _ h => h) (.inl ⟨by rfl, ?_⟩) hHeld ?_; rotate_left; · (intro w _; go_simp; try with_reducible rfl)
 clear hHeld; intro hHeld; try simp only [gA,gB,gC,Act.put,gD,gE,gF]
 refine tk 2 ?_ rfl (by kernel_rfl) (fun _ _ _ h => h) (.inl ⟨by rfl, ?_⟩) hHeld ?_; rotate_left; · (intro w _; go_simp; try with_reducible rfl)
 clear hHeld; intro hHeld; try simp only [gA,gB,gC,Act.put,gD,gE,gF]
 refine wpAnyL_take (i := 3) (oi := _) (v := _) rfl (by kernel_rfl) (by kernel_rfl) (by kernel_rfl) (by kernel_rfl) (by kernel_rfl) (fun _ _ _ h => h) (Or.inr ⟨by rfl, rfl⟩) (by assumption) (fun hNew => ?_)
 clear hHeld
 have hHeld := hNew
 clear hNew
 try simp only [gA,gB,gC,Act.put,gD,gE,gF]
 refine wpAnyL_take (i := 4) (oi := _) (v := _) rfl (by kernel_rfl) (by kernel_rfl) (by kernel_rfl) (by kernel_rfl) (by kernel_rfl) (fun _ _ _ h => h) (Or.inr ⟨by rfl, rfl⟩) (by assumption) (fun hNew => ?_)
 clear hHeld
 have hHeld := hNew
 clear hNew
 try simp only [gA,gB,gC,Act.put,gD,gE,gF]
 refine wpAnyL_take (i := 5) (oi := _) (v := _) rfl (by kernel_rfl) (by kernel_rfl) (by kernel_rfl) (by kernel_rfl) (by kernel_rfl) (fun _ _ _ h => h) (Or.inr ⟨by rfl, rfl⟩) (by assumption) (fun hNew => ?_)
 clear hHeld
 have hHeld := hNew
 clear hNew
 try simp only [gA,gB,gC,Act.put,gD,gE,gF]
 refine wpAnyL_take (i := 6) (oi := _) (v := _) rfl (by kernel_rfl) (by kernel_rfl) (by kernel_rfl) (by kernel_rfl) (by kernel_rfl) (fun _ _ _ h => h) (Or.inr ⟨by rfl, rfl⟩) (by assumption) (fun hNew => ?_)
 clear hHeld
 have hHeld := hNew
 clear hNew
 try simp only [gA,gB,gC,Act.put,gD,gE,gF]
 refine wpAnyL_take (i := 7) (oi := _) (v := _) rfl (by kernel_rfl) (by kernel_rfl) (by kernel_rfl) (by kernel_rfl) (by kernel_rfl) (fun _ _ _ h => h) (Or.inr ⟨by rfl, rfl⟩) (by assumption) (fun hNew => ?_)
 clear hHeld
 have hHeld := hNew
 clear hNew
 try simp only [gA,gB,gC,Act.put,gD,gE,gF]
 refine wpAnyL_take (i := 8) (oi := _) (v := _) rfl (by kernel_rfl) (by kernel_rfl) (by kernel_rfl) (by kernel_rfl) (by kernel_rfl) (fun _ _ _ h => h) (Or.inr ⟨by rfl, rfl⟩) (by assumption) (fun hNew => ?_)
 clear hHeld
 have hHeld := hNew
 clear hNew
 try simp only [gA,gB,gC,Act.put,gD,gE,gF]
 refine wpAnyL_take (i := 9) (oi := _) (v := _) rfl (by kernel_rfl) (by kernel_rfl) (by kernel_rfl) (by kernel_rfl) (by kernel_rfl) (fun _ _ _ h => h) (Or.inr ⟨by rfl, rfl⟩) (by assumption) (fun hNew => ?_)
 clear hHeld
 have hHeld := hNew
 clear hNew
 try simp only [gA,gB,gC,Act.put,gD,gE,gF]
 refine tk 10 ?_ rfl (by kernel_rfl) (fun _ _ _ h => h) (.inl ⟨by rfl, ?_⟩) hHeld ?_; rotate_left; · (intro w _; go_simp; try with_reducible rfl)
 clear hHeld; intro hHeld; try simp only [gA,gB,gC,Act.put,gD,gE,gF]
 refine tk 11 ?_ rfl (by kernel_rfl) (fun _ _ _ h => h) (.inl ⟨by rfl, ?_⟩) hHeld ?_; rotate_left; · (intro w _; go_simp; try with_reducible rfl)
 clear hHeld; intro hHeld; try simp only [gA,gB,gC,Act.put,gD,gE,gF]
 refine wpAnyL_take (i := 12) (oi := _) (v := _) rfl (by kernel_rfl) (by kernel_rfl) (by kernel_rfl) (by kernel_rfl) (by kernel_rfl) (fun _ _ _ h => h) (Or.inr ⟨by rfl, rfl⟩) (by assumption) (fun hNew => ?_)
 clear hHeld
 have hHeld := hNew
 clear hNew
 try simp only [gA,gB,gC,Act.put,gD,gE,gF]
 refine wpAnyL_take (i := 13) (oi := _) (v := _) rfl (by kernel_rfl) (by kernel_rfl) (by kernel_rfl) (by kernel_rfl) (by kernel_rfl) (fun _ _ _ h => h) (Or.inr ⟨by rfl, rfl⟩) (by assumption) (fun hNew => ?_)
 clear hHeld
 have hHeld := hNew
 clear hNew
 try simp only [gA,gB,gC,Act.put,gD,gE,gF]
 refine wpAnyL_take (i := 14) (oi := _) (v := _) rfl (by kernel_rfl) (by kernel_rfl) (by kernel_rfl) (by kernel_rfl) (by kernel_rfl) (fun _ _ _ h => h) (Or.inr ⟨by rfl, rfl⟩) (by assumption) (fun hNew => ?_)
 clear hHeld
 have hHeld := hNew
 clear hNew
 try simp only [gA,gB,gC,Act.put,gD,gE,gF]
 refine wpAnyL_take (i := 15) (oi := _) (v := _) rfl (by kernel_rfl) (by kernel_rfl) (by kernel_rfl) (by kernel_rfl) (by kernel_rfl) (fun _ _ _ h => h) (Or.inr ⟨by rfl, rfl⟩) (by assumption) (fun hNew => ?_)
 clear hHeld
 have hHeld := hNew
 clear hNew
 try simp only [gA,gB,gC,Act.put,gD,gE,gF]
 refine wpAnyL_take (i := 16) (oi := _) (v := _) rfl (by kernel_rfl) (by kernel_rfl) (by kernel_rfl) (by kernel_rfl) (by kernel_rfl) (fun _ _ _ h => h) (Or.inr ⟨by rfl, rfl⟩) (by assumption) (fun hNew => ?_)
 clear hHeld
 have hHeld := hNew
 clear hNew
 try simp only [gA,gB,gC,Act.put,gD,gE,gF]
 refine wpAnyL_take (i := 17) (oi := _) (v := _) rfl (by kernel_rfl) (by kernel_rfl) (by kernel_rfl) (by kernel_rfl) (by kernel_rfl) (fun _ _ _ h => h) (Or.inr ⟨by rfl, rfl⟩) (by assumption) (fun hNew => ?_)
 clear hHeld
 have hHeld := hNew
 clear hNew
 try simp only [gA,gB,gC,Act.put,gD,gE,gF]
 refine wpAnyL_take (i := 18) (oi := _) (v := _) rfl (by kernel_rfl) (by kernel_rfl) (by kernel_rfl) (by kernel_rfl) (by kernel_rfl) (fun _ _ _ h => h) (Or.inr ⟨by rfl, rfl⟩) (by assumption) (fun hNew => ?_)
 clear hHeld
 have hHeld := hNew
 clear hNew
 try simp only [gA,gB,gC,Act.put,gD,gE,gF]
 refine tk 19 ?_ rfl (by kernel_rfl) (fun _ _ _ h => h) (.inl ⟨by rfl, ?_⟩) hHeld ?_; rotate_left; · (intro w _; go_simp; try with_reducible rfl)
 clear hHeld; intro hHeld; try simp only [gA,gB,gC,Act.put,gD,gE,gF]
 refine tk 20 ?_ rfl (by kernel_rfl) (fun _ _ _ h => h) (.inl ⟨by rfl, ?_⟩) hHeld ?_; rotate_left; · (intro w _; go_simp; try with_reducible rfl)
 clear hHeld; intro hHeld; try simp only [gA,gB,gC,Act.put,gD,gE,gF]
 refine wpAnyL_take (i := 21) (oi := _) (v := _) rfl (by kernel_rfl) (by kernel_rfl) (by kernel_rfl) (by kernel_rfl) (by kernel_rfl) (fun _ _ _ h => h) (Or.inr ⟨by rfl, rfl⟩) (by assumption) (fun hNew => ?_)
 clear hHeld
 have hHeld := hNew
 clear hNew
 try simp only [gA,gB,gC,Act.put,gD,gE,gF]
 refine wpAnyL_take (i := 22) (oi := _) (v := _) rfl (by kernel_rfl) (by kernel_rfl) (by kernel_rfl) (by kernel_rfl) (by kernel_rfl) (fun _ _ _ h => h) (Or.inr ⟨by rfl, rfl⟩) (by assumption) (fun hNew => ?_)
 clear hHeld
 have hHeld := hNew
 clear hNew
 try simp only [gA,gB,gC,Act.put,gD,gE,gF]
 refine wpAnyL_take (i := 23) (oi := _) (v := _) rfl (by kernel_rfl) (by kernel_rfl) (by kernel_rfl) (by kernel_rfl) (by kernel_rfl) (fun _ _ _ h => h) (Or.inr ⟨by rfl, rfl⟩) (by assumption) (fun hNew => ?_)
 clear hHeld
 have hHeld := hNew
 clear hNew
 try simp only [gA,gB,gC,Act.put,gD,gE,gF]
 refine wpAnyL_take (i := 24) (oi := _) (v := _) rfl (by kernel_rfl) (by kernel_rfl) (by kernel_rfl) (by kernel_rfl) (by kernel_rfl) (fun _ _ _ h => h) (Or.inr ⟨by rfl, rfl⟩) (by assumption) (fun hNew => ?_)
 clear hHeld
 have hHeld := hNew
 clear hNew
 try simp only [gA,gB,gC,Act.put,gD,gE,gF]
 refine wpAnyL_take (i := 25) (oi := _) (v := _) rfl (by kernel_rfl) (by kernel_rfl) (by kernel_rfl) (by kernel_rfl) (by kernel_rfl) (fun _ _ _ h => h) (Or.inr ⟨by rfl, rfl⟩) (by assumption) (fun hNew => ?_)
 clear hHeld
 have hHeld := hNew
 clear hNew
 try simp only [gA,gB,gC,Act.put,gD,gE,gF]
 refine wpAnyL_take (i := 26) (oi := _) (v := _) rfl (by kernel_rfl) (by kernel_rfl) (by kernel_rfl) (by kernel_rfl) (by kernel_rfl) (fun _ _ _ h => h) (Or.inr ⟨by rfl, rfl⟩) (by assumption) (fun hNew => ?_)
 clear hHeld
 have hHeld := hNew
 clear hNew
 try simp only [gA,gB,gC,Act.put,gD,gE,gF]
 refine wpAnyL_take (i := 27) (oi := _) (v := _) rfl (by kernel_rfl) (by kernel_rfl) (by kernel_rfl) (by kernel_rfl) (by kernel_rfl) (fun _ _ _ h => h) (Or.inr ⟨by rfl, rfl⟩) (by assumption) (fun hNew => ?_)
 clear hHeld
 have hHeld := hNew
 clear hNew
 try simp only [gA,gB,gC,Act.put,gD,gE,gF]
 refine tk 28 ?_ rfl (by kernel_rfl) (fun _ _ _ h => h) (.inl ⟨by rfl, ?_⟩) hHeld ?_; rotate_left; · (intro w _; go_simp; try with_reducible rfl)
 clear hHeld; intro hHeld; try simp only [gA,gB,gC,Act.put,gD,gE,gF]
 refine tk 29 ?_ rfl (by kernel_rfl) (fun _ _ _ h => h) (.inl ⟨by rfl, ?_⟩) hHeld ?_; rotate_left; · (intro w _; go_simp; try with_reducible rfl)
 clear hHeld; intro hHeld; try simp only [gA,gB,gC,Act.put,gD,gE,gF]
 refine wpAnyL_take (i := 30) (oi := _) (v := _) rfl (by kernel_rfl) (by kernel_rfl) (by kernel_rfl) (by kernel_rfl) (by kernel_rfl) (fun _ _ _ h => h) (Or.inr ⟨by rfl, rfl⟩) (by assumption) (fun hNew => ?_)
 clear hHeld
 have hHeld := hNew
 clear hNew
 try simp only [gA,gB,gC,Act.put,gD,gE,gF]
 refine wpAnyL_take (i := 31) (oi := _) (v := _) rfl (by kernel_rfl) (by kernel_rfl) (by kernel_rfl) (by kernel_rfl) (by kernel_rfl) (fun _ _ _ h => h) (Or.inr ⟨by rfl, rfl⟩) (by assumption) (fun hNew => ?_)
 clear hHeld
 have hHeld := hNew
 clear hNew
 try simp only [gA,gB,gC,Act.put,gD,gE,gF]
 refine wpAnyL_take (i := 32) (oi := _) (v := _) rfl (by kernel_rfl) (by kernel_rfl) (by kernel_rfl) (by kernel_rfl) (by kernel_rfl) (fun _ _ _ h => h) (Or.inr ⟨by rfl, rfl⟩) (by assumption) (fun hNew => ?_)
 clear hHeld
 have hHeld := hNew
 clear hNew
 try simp only [gA,gB,gC,Act.put,gD,gE,gF]
 refine wpAnyL_take (i := 33) (oi := _) (v := _) rfl (by kernel_rfl) (by kernel_rfl) (by kernel_rfl) (by kernel_rfl) (by kernel_rfl) (fun _ _ _ h => h) (Or.inr ⟨by rfl, rfl⟩) (by assumption) (fun hNew => ?_)
 clear hHeld
 have hHeld := hNew
 clear hNew
 try simp only [gA,gB,gC,Act.put,gD,gE,gF]
 refine wpAnyL_take (i := 34) (oi := _) (v := _) rfl (by kernel_rfl) (by kernel_rfl) (by kernel_rfl) (by kernel_rfl) (by kernel_rfl) (fun _ _ _ h => h) (Or.inr ⟨by rfl, rfl⟩) (by assumption) (fun hNew => ?_)
 clear hHeld
 have hHeld := hNew
 clear hNew
 try simp only [gA,gB,gC,Act.put,gD,gE,gF]
 refine wpAnyL_take (i := 35) (oi := _) (v := _) rfl (by kernel_rfl) (by kernel_rfl) (by kernel_rfl) (by kernel_rfl) (by kernel_rfl) (fun _ _ _ h => h) (Or.inr ⟨by rfl, rfl⟩) (by assumption) (fun hNew => ?_)
 clear hHeld
 have hHeld := hNew
 clear hNew
 try simp only [gA,gB,gC,Act.put,gD,gE,gF]
 refine wpAnyL_take (i := 36) (oi := _) (v := _) rfl (by kernel_rfl) (by kernel_rfl) (by kernel_rfl) (by kernel_rfl) (by kernel_rfl) (fun _ _ _ h => h) (Or.inr ⟨by rfl, rfl⟩) (by assumption) (fun hNew => ?_)
 clear hHeld
 have hHeld := hNew
 clear hNew
 try simp only [gA,gB,gC,Act.put,gD,gE,gF]
 refine wpAnyL_take (i := 37) (oi := _) (v := _) rfl (by kernel_rfl) (by kernel_rfl) (by kernel_rfl) (by kernel_rfl) (by kernel_rfl) (fun _ _ _ h => h) (Or.inr ⟨by rfl, rfl⟩) (by assumption) (fun hNew => ?_)
 clear hHeld
 have hHeld := hNew
 clear hNew
 try simp only [gA,gB,gC,Act.put,gD,gE,gF]
 refine wpAnyL_take (i := 38) (oi := _) (v := _) rfl (by kernel_rfl) (by kernel_rfl) (by kernel_rfl) (by kernel_rfl) (by kernel_rfl) (fun _ _ _ h => h) (Or.inr ⟨by rfl, rfl⟩) (by assumption) (fun hNew => ?_)
 clear hHeld
 have hHeld := hNew
 clear hNew
 try simp only [gA,gB,gC,Act.put,gD,gE,gF]
 refine wpAnyL_take (i := 39) (oi := _) (v := _) rfl (by kernel_rfl) (by kernel_rfl) (by kernel_rfl) (by kernel_rfl) (by kernel_rfl) (fun _ _ _ h => h) (Or.inr ⟨by rfl, rfl⟩) (by assumption) (fun hNew => ?_)
 clear hHeld
 have hHeld := hNew
 clear hNew
 try simp only [gA,gB,gC,Act.put,gD,gE,gF]
 refine wpAnyL_take (i := 40) (oi := _) (v := _) rfl (by kernel_rfl) (by kernel_rfl) (by kernel_rfl) (by kernel_rfl) (by kernel_rfl) (fun _ _ _ h => h) (Or.inr ⟨by rfl, rfl⟩) (by assumption) (fun hNew => ?_)
 clear hHeld
 have hHeld := hNew
 clear hNew
 try simp only [gA,gB,gC,Act.put,gD,gE,gF]
 refine wpAnyL_take (i := 41) (oi := _) (v := _) rfl (by kernel_rfl) (by kernel_rfl) (by kernel_rfl) (by kernel_rfl) (by kernel_rfl) (fun _ _ _ h => h) (Or.inr ⟨by rfl, rfl⟩) (by assumption) (fun hNew => ?_)
 clear hHeld
 have hHeld := hNew
 clear hNew
 try simp only [gA,gB,gC,Act.put,gD,gE,gF]
 refine wpAnyL_take (i := 42) (oi := _) (v := _) rfl (by kernel_rfl) (by kernel_rfl) (by kernel_rfl) (by kernel_rfl) (by kernel_rfl) (fun _ _ _ h => h) (Or.inr ⟨by rfl, rfl⟩) (by assumption) (fun hNew => ?_)
 clear hHeld
 have hHeld := hNew
 clear hNew
 try simp only [gA,gB,gC,Act.put,gD,gE,gF]
 refine wpAnyL_take (i := 43) (oi := _) (v := _) rfl (by kernel_rfl) (by kernel_rfl) (by kernel_rfl) (by kernel_rfl) (by kernel_rfl) (fun _ _ _ h => h) (Or.inr ⟨by rfl, rfl⟩) (by assumption) (fun hNew => ?_)
 clear hHeld
 have hHeld := hNew
 clear hNew
 try simp only [gA,gB,gC,Act.put,gD,gE,gF]
 refine tk 44 ?_ rfl (by kernel_rfl) (fun _ _ _ h => h) (.inl ⟨by rfl, ?_⟩) hHeld ?_; rotate_left; · (intro w _; go_simp; try with_reducible rfl)
 clear hHeld; intro hHeld; try simp only [gA,gB,gC,Act.put,gD,gE,gF]
 refine tk 45 ?_ rfl (by kernel_rfl) (fun _ _ _ h => h) (.inl ⟨by rfl, ?_⟩) hHeld ?_; rotate_left; · (intro w _; go_simp; try with_reducible rfl)
 clear hHeld; intro hHeld; try simp only [gA,gB,gC,Act.put,gD,gE,gF]
 refine wpAnyL_done (by kernel_rfl) ?_ _
 clear hHeld
 go_wp2
 go_ret3
 exact ⟨rfl, (HC2.out.alloc _).drew⟩
def FS.miss (f : FS) (i : Nat) : FS := { f with asked := -1, known := f.known.set i 2 }
def FS.had (f : FS) (i : Nat) : FS := { f with asked := -1, known := f.known.set i 1 }
theorem getD_setN (l : List Nat) (i j v : Nat) (hi : i < l.length) : (l.set i v).getD j 0 = if j = i then v else l.getD j 0 := by
 simp only [List.getD_eq_getElem?_getD, List.getElem?_set]
 by_cases h : i = j
 ·subst h; simp [hi]
 ·rw [if_neg h, if_neg (fun e => h e.symm)]
theorem mem_miss {l : List Nat} {i : Nat} (hi : i < l.length) (h0 : l.getD i 0 = 0) : 1 ∈ l.set i 2 ↔ 1 ∈ l := by
 constructor
 ·intro h
  rcases List.mem_or_eq_of_mem_set h with h | h
  ·exact h
  ·cases h
 ·intro h
  obtain ⟨j, hj, hj1⟩ := List.getElem_of_mem h
  have hji : j ≠ i := fun e => by
   subst e
   rw [List.getD_eq_getElem?_getD, List.getElem?_eq_getElem hj, hj1] at h0
   cases h0
  have h2 : (l.set i 2)[j]? = some 1 := by rw [List.getElem?_set_ne (fun e => hji e.symm), List.getElem?_eq_getElem hj, hj1]
  exact List.mem_of_getElem? h2
theorem kvs_set (l : List Nat) (i v : Nat) : (kvs l).toArray.setIfInBounds i (.int .i64 (v : Int)) = (kvs (l.set i v)).toArray := by
 unfold kvs
 rw [List.setIfInBounds_toArray, List.map_set]
theorem rowV_set (F : List VRow) (i : Nat) (v : Value) (l : List UInt8) : (F.map (·.1)).toArray.setIfInBounds i v = ((F.set i (v, l)).map (·.1)).toArray := by
 rw [List.setIfInBounds_toArray, List.map_set]
theorem Env.Ok.ne {E : Env} (h : E.Ok) : E.fb ≠ E.kb /\ E.fb ≠ E.gb /\ E.fb ≠ E.rb /\ E.kb ≠ E.gb /\ E.kb ≠ E.rb /\ E.gb ≠ E.rb := by
 have hnd := h.nd
 simp only [List.nodup_cons, List.mem_cons, List.mem_nil_iff, or_false, not_or] at hnd
 exact ⟨hnd.1.1, hnd.1.2.1, hnd.1.2.2, hnd.2.1.1, hnd.2.1.2, hnd.2.2.1⟩
theorem FtAt.miss {E : Env} {w : World} {f : FS} (h : FtAt E w f) (hE : E.Ok) (i : Nat) (hi : i < E.n) (h0 : f.known.getD i 0 = 0) :
  FtAt E ((w.setCell ⟨E.fb, 14, none⟩ (.int .i64 (-1))).setCell ⟨E.kb, i, none⟩ (.int .i64 2)) (f.miss i) /\ Chg E.T w ((w.setCell ⟨E.fb, 14, none⟩ (.int .i64 (-1))).setCell ⟨E.kb, i, none⟩ (.int .i64 2)) := by
 obtain ⟨F, T, ov, xs, h⟩ := h
 obtain ⟨n1, n2, n3, n4, n5, n6⟩ := hE.ne
 have hc : Chg E.T w ((w.setCell ⟨E.fb, 14, none⟩ (.int .i64 (-1))).setCell ⟨E.kb, i, none⟩ (.int .i64 2)) := ((Chg.refl _ w).setCell (p := ⟨E.fb, 14, none⟩) (.inl (by simp)) _).setCell (p := ⟨E.kb, i, none⟩) (.inl (by simp)) _
 have hil : i < f.known.length := by rw [h.klen]; exact hi
 refine ⟨⟨F, T, ov, xs, ?_, ?_, blk_sets (blk_sets h.fr n2.symm) n4.symm, blk_sets (blk_sets h.rs n3.symm) n5.symm, by show (f.known.set i 2).length = _; rw [List.length_set]; exact h.klen, h.flen, h.tlen, fun k hk => ?_, fun j x hx => ?_, fun j x hx => ?_, h.out.chgW hc h.outT, h.outT⟩, hc⟩
 ·have h1 := blk_sets (b' := E.kb) (j := i) (u := .int .i64 2) (set_blk (j := 14) (u := .int .i64 (-1)) h.head) n1
  rw [h1]
  have hsz : (f.miss i).size E.data.length = f.size E.data.length := by
   unfold FS.size FS.miss
   dsimp only
   by_cases hk : 1 ∈ f.known
   ·rw [if_pos ((mem_miss hil h0).2 hk), if_pos hk]
   ·rw [if_neg (fun hx => hk ((mem_miss hil h0).1 hx)), if_neg hk]
  unfold ftL
  rw [hsz]
  rfl
 ·rw [set_blk (blk_sets h.kn n1.symm)]
  have := kvs_set f.known i 2
  rw [show ((2 : Nat) : Int) = 2 from rfl] at this
  rw [this]
  rfl
 ·rcases List.mem_or_eq_of_mem_set hk with hk | hk
  ·exact h.k3 k hk
  ·omega
 ·obtain ⟨a1, a2, a3⟩ := h.frag j x hx
  refine ⟨a1.chgW hc a3, ?_, a3⟩
  rw [a2]
  show _ = if (f.known.set i 2).getD j 0 = 1 then _ else _
  rw [getD_setN _ _ _ _ hil]
  by_cases hji : j = i
  ·subst hji; rw [h0, if_pos rfl]; simp
  ·rw [if_neg hji]
 ·obtain ⟨a1, a2, a3⟩ := h.rest j x hx
  refine ⟨a1.chgW hc a3, ?_, a3⟩
  rw [a2]
  show _ = if (f.known.set i 2).getD j 0 = 1 then _ else _
  rw [getD_setN _ _ _ _ hil]
  by_cases hji : j = i
  ·subst hji; rw [h0, if_pos rfl]; simp
  ·rw [if_neg hji]
end
section
open Go.RowKit Go.Shelf
def IsC (E : Env) (H i : Nat) (z : Int) (w' : World) : Prop := (w'.cell? ⟨H, 0, none⟩ = some (.int .i64 E.s.c) /\ w'.cell? ⟨H, 1, none⟩ = some (.int .i64 E.s.l) /\ w'.cell? ⟨H, 2, none⟩ = some (.int .i64 E.s.n) /\ w'.cell? ⟨H, 3, none⟩ = some (.int .i64 (i : Int)) /\ w'.cell? ⟨H, 4, none⟩ = some (.int .i64 (E.n : Int)) /\ w'.cell? ⟨H, 5, none⟩ = some (.int .i64 (E.data.length : Int))) /\
 (w'.cell? ⟨E.fb, 0, none⟩ = some (.int .i64 E.s.c) /\ w'.cell? ⟨E.fb, 1, none⟩ = some (.int .i64 E.s.l) /\ w'.cell? ⟨E.fb, 2, none⟩ = some (.int .i64 E.s.n)) /\ w'.cell? ⟨E.fb, 14, none⟩ = some (.int .i64 (i : Int)) /\ w'.cell? ⟨E.fb, 9, none⟩ = some (.int .i64 (E.n : Int)) /\ w'.cell? ⟨E.fb, 10, none⟩ = some (.int .i64 z)
theorem isC_out {E : Env} {H i : Nat} {z : Int} {w' : World} (h : IsC E H i z w') : (w'.cell? ⟨H, 0, none⟩ = some (.int .i64 E.s.c) /\ w'.cell? ⟨H, 1, none⟩ = some (.int .i64 E.s.l) /\ w'.cell? ⟨H, 2, none⟩ = some (.int .i64 E.s.n) /\ w'.cell? ⟨H, 3, none⟩ = some (.int .i64 (i : Int)) /\ w'.cell? ⟨H, 4, none⟩ = some (.int .i64 (E.n : Int)) /\ w'.cell? ⟨H, 5, none⟩ = some (.int .i64 (E.data.length : Int))) /\
 (w'.cell? ⟨E.fb, 0, none⟩ = some (.int .i64 E.s.c) /\ w'.cell? ⟨E.fb, 1, none⟩ = some (.int .i64 E.s.l) /\ w'.cell? ⟨E.fb, 2, none⟩ = some (.int .i64 E.s.n)) /\ w'.cell? ⟨E.fb, 14, none⟩ = some (.int .i64 (i : Int)) /\ w'.cell? ⟨E.fb, 9, none⟩ = some (.int .i64 (E.n : Int)) /\ w'.cell? ⟨E.fb, 10, none⟩ = some (.int .i64 z) := h
def IsP (E : Env) (i : Nat) (w : World) (e' : Ending) (w' : World) : Prop := (∃ u, e' = .returned (.tuple #[.int .i64 (E.data.length : Int), u, .bool true]) /\ BRow w' u (rowN E.data E.n i) /\ ∀ q, u.ownBlock = some q -> w.heap.size <= q) /\ Chg [] w w'
theorem fis_goodK {E : Env} {f : FS} (i : Nat) (w : World) (e room : Int) (ba ia : Option Addr) (bn bc il ic : Nat) (wh : Bool) (hE : E.Ok) (h : FtAt E w f) (hi : i < E.n) (hk : 1 ∈ f.known) (ha : f.asked = (i : Int)) (hb : BytesAt w (.slice ba bn bc) (fragN E.s E.data E.n i)) :
  Calls Tryz.prog 37 #[fpV E, rpA e (.slice ba bn bc) (.slice ia il ic) room wh] w (IsP E i w) := by
 obtain ⟨w1, hw1⟩ : ∃ w1, w1 = w.alloc (.cells #[.int .i64 e, .slice ba bn bc, .slice ia il ic, .int .i64 room, .bool wh] 52) := ⟨_, rfl⟩
 have hc1 : Chg [] w w1 := by rw [hw1]; exact (Chg.refl _ _).alloc _
 have CR := LH (lread_ok E.s i E.n E.data.length (rowN E.data E.n i) _ w1 hE.s (hb.chg hc1 (by simp)) hE.n3 hE.n16 hi hE.l1 hE.l2 (row_len hE.l1 (by have := hE.n3; omega)))
 have HW1 := LH hw1
 have HC1 := LH hc1
 have HFW := LH h
 clear h hb hw1 hc1
 go_enter Tryz.func37, Tryz.ntmps37
 go_wp2_with fail
 rw [<- HW1.out]
 refine CR.out.mono ?_
 rintro e' w2 ⟨hc2, u, rfl, hu, hun⟩
 obtain ⟨ua, uc, hue⟩ := hu.bytes.slice
 subst hue
 have hcw2 : Chg [] w w2 := HC1.out.trans hc2 (by simp)
 obtain ⟨w3, hw3⟩ : ∃ w3, w3 = w2.alloc (.cells (hdC E.s i E.n E.data.length) 115) := ⟨_, rfl⟩
 have hc3 : Chg [] w w3 := by rw [hw3]; exact hcw2.alloc _
 obtain ⟨F, T, ov, xs, h1⟩ := HFW.out.keep hc3
 have c0 := h1.c0
 have c1 := h1.c1
 have c2 := h1.c2
 have c9 := h1.c9
 have c10 := h1.c10
 have c14 := h1.c14
 rw [ha] at c14
 have hd : w3.heap[w2.heap.size]? = some (.cells (hdC E.s i E.n E.data.length) 115 (0, 0)) := by rw [hw3]; exact heap_alloc_new w2 _
 have d5 := blk_cell hd 5 _ rfl
 rw [FS.size_known hk] at c10
 have hIC : IsC E w2.heap.size i (E.data.length : Int) w3.drew := ⟨⟨blk_cell hd 0 _ rfl, blk_cell hd 1 _ rfl, blk_cell hd 2 _ rfl, blk_cell hd 3 _ rfl, blk_cell hd 4 _ rfl, d5⟩, ⟨c0, c1, c2⟩, c14, c9, c10⟩
 have HIC := LH hIC
 have HU : Hid (BRow w3.drew (.slice ua (rowN E.data E.n i).length uc) (rowN E.data E.n i) /\ (∀ q, (Value.slice ua (rowN E.data E.n i).length uc).ownBlock = some q -> w.heap.size <= q)) := LH ⟨(show BRow w3 _ _ by rw [hw3]; exact hu.keep (fun q hq => heap_alloc_old w2 _ (hu.lt q hq))).keep (fun _ _ => rfl), fun q hq => Nat.le_trans HC1.out.size (hun q hq)⟩
 have HC3 := LH hc3.drew
 have HW3 := LH hw3
 have hd5 : w3.drew.cell? ⟨w2.heap.size, 5, none⟩ = some (.int .i64 (E.data.length : Int)) := d5
 clear hu hun hc2 hcw2 hc3 h1 hd hw3 CR hIC c0 c1 c2 c9 c10 c14
 go_wp2_with fail
 rw [<- HW3.out]
 refine wp_region_L [(44, fun w' => IsC E w2.heap.size i (E.data.length : Int) w')] (by kernel_rfl) ?_ (fun hHeld => ?_)
 ·exact (HoldC.cons (HIC.out) HoldC.nil)
 refine tk 0 ?_ rfl (by kernel_rfl) (fun _ _ _ h => h) (.inl ⟨by rfl, ?_⟩) hHeld ?_; rotate_left; · (intro w _; go_simp; try with_reducible rfl)
 clear hHeld; intro hHeld; try simp only [gA,gB,gC,Act.put,gD,gE,gF]
 refine tk 1 ?_ rfl (by kernel_rfl) (fun _ _ _ h => h) (.inl ⟨by rfl, ?_⟩) hHeld ?_; rotate_left; · (intro w _; go_simp; try with_reducible rfl)
 clear hHeld; intro hHeld; try simp only [gA,gB,gC,Act.put,gD,gE,gF]
 refine tk 2 ?_ rfl (by kernel_rfl) (fun _ _ _ h => h) (.inl ⟨by rfl, ?_⟩) hHeld ?_; rotate_left; · (intro w _; go_simp; try with_reducible rfl)
 clear hHeld; intro hHeld; try simp only [gA,gB,gC,Act.put,gD,gE,gF]
 refine tk 3 ?_ rfl (by kernel_rfl) (fun _ _ _ h => h) (.inl ⟨by rfl, ?_⟩) hHeld ?_; rotate_left; · (intro w _; go_simp; try with_reducible rfl)
 clear hHeld; intro hHeld; try simp only [gA,gB,gC,Act.put,gD,gE,gF]
 refine tk 5 ?_ rfl (by kernel_rfl) (fun _ _ _ h => h) (.inl ⟨by rfl, ?_⟩) hHeld ?_; rotate_left; · (intro w _; go_simp; try with_reducible rfl)
 clear hHeld; intro hHeld; try simp only [gA,gB,gC,Act.put,gD,gE,gF]
 refine tk 6 ?_ rfl (by kernel_rfl) (fun _ _ _ h => h) (.inl ⟨by rfl, ?_⟩) hHeld ?_; rotate_left; · (intro w _; go_simp; try with_reducible rfl)
 clear hHeld; intro hHeld; try simp only [gA,gB,gC,Act.put,gD,gE,gF]
 refine tk 7 ?_ rfl (by kernel_rfl) (fun _ _ _ h => h) (.inl ⟨by rfl, ?_⟩) hHeld ?_; rotate_left; · (intro w _; go_simp; try with_reducible rfl)
 clear hHeld; intro hHeld; try simp only [gA,gB,gC,Act.put,gD,gE,gF]
 refine wpAnyL_loadP 0 [29, 20, 11, 10, 9] (i := 4) (oi := _) (v := ?_) rfl rfl (by kernel_rfl) (by kernel_rfl) (by kernel_rfl) (by kernel_rfl) (by kernel_rfl) (by kernel_rfl) (fun _ _ _ h => h) (Or.inl ⟨by rfl, ?_⟩) (by assumption) (fun hNew => ?_)
 rotate_left
 ·intro w hSw
  have hSw := isC_out hSw
  go_simp
  try with_reducible rfl
 clear hHeld
 have hHeld := hNew
 clear hNew
 try simp only [gA,gB,gC,Act.put,gD,gE,gF]
 refine wpAnyL_loadP 0 [29, 20, 11, 10, 9] (i := 8) (oi := _) (v := ?_) rfl rfl (by kernel_rfl) (by kernel_rfl) (by kernel_rfl) (by kernel_rfl) (by kernel_rfl) (by kernel_rfl) (fun _ _ _ h => h) (Or.inl ⟨by rfl, ?_⟩) (by assumption) (fun hNew => ?_)
 rotate_left
 ·intro w hSw
  have hSw := isC_out hSw
  go_simp
  try with_reducible rfl
 clear hHeld
 have hHeld := hNew
 clear hNew
 try simp only [gA,gB,gC,Act.put,gD,gE,gF]
 refine tk 9 ?_ rfl (by kernel_rfl) (fun _ _ _ h => h) (.inl ⟨by rfl, ?_⟩) hHeld ?_; rotate_left; · (intro w _; go_simp; try with_reducible rfl)
 clear hHeld; intro hHeld; try simp only [gA,gB,gC,Act.put,gD,gE,gF]
 refine tk 10 ?_ rfl (by kernel_rfl) (fun _ _ _ h => h) (.inl ⟨by rfl, ?_⟩) hHeld ?_; rotate_left; · (intro w _; go_simp; try with_reducible rfl)
 clear hHeld; intro hHeld; try simp only [gA,gB,gC,Act.put,gD,gE,gF]
 refine tk 11 ?_ rfl (by kernel_rfl) (fun _ _ _ h => h) (.inl ⟨by rfl, ?_⟩) hHeld ?_; rotate_left; · (intro w _; go_simp; try with_reducible rfl)
 clear hHeld; intro hHeld; try simp only [gA,gB,gC,Act.put,gD,gE,gF]
 refine tk 12 ?_ rfl (by kernel_rfl) (fun _ _ _ h => h) (.inl ⟨by rfl, ?_⟩) hHeld ?_; rotate_left; · (intro w _; go_simp; try with_reducible rfl)
 clear hHeld; intro hHeld; try simp only [gA,gB,gC,Act.put,gD,gE,gF]
 refine tk 14 ?_ rfl (by kernel_rfl) (fun _ _ _ h => h) (.inl ⟨by rfl, ?_⟩) hHeld ?_; rotate_left; · (intro w _; go_simp; try with_reducible rfl)
 clear hHeld; intro hHeld; try simp only [gA,gB,gC,Act.put,gD,gE,gF]
 refine tk 15 ?_ rfl (by kernel_rfl) (fun _ _ _ h => h) (.inl ⟨by rfl, ?_⟩) hHeld ?_; rotate_left; · (intro w _; go_simp; try with_reducible rfl)
 clear hHeld; intro hHeld; try simp only [gA,gB,gC,Act.put,gD,gE,gF]
 refine tk 16 ?_ rfl (by kernel_rfl) (fun _ _ _ h => h) (.inl ⟨by rfl, ?_⟩) hHeld ?_; rotate_left; · (intro w _; go_simp; try with_reducible rfl)
 clear hHeld; intro hHeld; try simp only [gA,gB,gC,Act.put,gD,gE,gF]
 refine wpAnyL_loadP 0 [29, 20, 19, 18] (i := 13) (oi := _) (v := ?_) rfl rfl (by kernel_rfl) (by kernel_rfl) (by kernel_rfl) (by kernel_rfl) (by kernel_rfl) (by kernel_rfl) (fun _ _ _ h => h) (Or.inl ⟨by rfl, ?_⟩) (by assumption) (fun hNew => ?_)
 rotate_left
 ·intro w hSw
  have hSw := isC_out hSw
  go_simp
  try with_reducible rfl
 clear hHeld
 have hHeld := hNew
 clear hNew
 try simp only [gA,gB,gC,Act.put,gD,gE,gF]
 refine wpAnyL_loadP 0 [29, 20, 19, 18] (i := 17) (oi := _) (v := ?_) rfl rfl (by kernel_rfl) (by kernel_rfl) (by kernel_rfl) (by kernel_rfl) (by kernel_rfl) (by kernel_rfl) (fun _ _ _ h => h) (Or.inl ⟨by rfl, ?_⟩) (by assumption) (fun hNew => ?_)
 rotate_left
 ·intro w hSw
  have hSw := isC_out hSw
  go_simp
  try with_reducible rfl
 clear hHeld
 have hHeld := hNew
 clear hNew
 try simp only [gA,gB,gC,Act.put,gD,gE,gF]
 refine tk 18 ?_ rfl (by kernel_rfl) (fun _ _ _ h => h) (.inl ⟨by rfl, ?_⟩) hHeld ?_; rotate_left; · (intro w _; go_simp; try with_reducible rfl)
 clear hHeld; intro hHeld; try simp only [gA,gB,gC,Act.put,gD,gE,gF]
 refine tk 19 ?_ rfl (by kernel_rfl) (fun _ _ _ h => h) (.inl ⟨by rfl, ?_⟩) hHeld ?_; rotate_left; · (intro w _; go_simp; try with_reducible rfl)
 clear hHeld; intro hHeld; try simp only [gA,gB,gC,Act.put,gD,gE,gF]
 refine tk 20 ?_ rfl (by kernel_rfl) (fun _ _ _ h => h) (.inl ⟨by rfl, ?_⟩) hHeld ?_; rotate_left; · (intro w _; go_simp; try with_reducible rfl)
 clear hHeld; intro hHeld; try simp only [gA,gB,gC,Act.put,gD,gE,gF]
 refine tk 21 ?_ rfl (by kernel_rfl) (fun _ _ _ h => h) (.inl ⟨by rfl, ?_⟩) hHeld ?_; rotate_left; · (intro w _; go_simp; try with_reducible rfl)
 clear hHeld; intro hHeld; try simp only [gA,gB,gC,Act.put,gD,gE,gF]
 refine tk 23 ?_ rfl (by kernel_rfl) (fun _ _ _ h => h) (.inl ⟨by rfl, ?_⟩) hHeld ?_; rotate_left; · (intro w _; go_simp; try with_reducible rfl)
 clear hHeld; intro hHeld; try simp only [gA,gB,gC,Act.put,gD,gE,gF]
 refine tk 24 ?_ rfl (by kernel_rfl) (fun _ _ _ h => h) (.inl ⟨by rfl, ?_⟩) hHeld ?_; rotate_left; · (intro w _; go_simp; try with_reducible rfl)
 clear hHeld; intro hHeld; try simp only [gA,gB,gC,Act.put,gD,gE,gF]
 refine tk 25 ?_ rfl (by kernel_rfl) (fun _ _ _ h => h) (.inl ⟨by rfl, ?_⟩) hHeld ?_; rotate_left; · (intro w _; go_simp; try with_reducible rfl)
 clear hHeld; intro hHeld; try simp only [gA,gB,gC,Act.put,gD,gE,gF]
 refine wpAnyL_loadP 0 [29, 28, 27] (i := 22) (oi := _) (v := ?_) rfl rfl (by kernel_rfl) (by kernel_rfl) (by kernel_rfl) (by kernel_rfl) (by kernel_rfl) (by kernel_rfl) (fun _ _ _ h => h) (Or.inl ⟨by rfl, ?_⟩) (by assumption) (fun hNew => ?_)
 rotate_left
 ·intro w hSw
  have hSw := isC_out hSw
  go_simp
  try with_reducible rfl
 clear hHeld
 have hHeld := hNew
 clear hNew
 try simp only [gA,gB,gC,Act.put,gD,gE,gF]
 refine wpAnyL_loadP 0 [29, 28, 27] (i := 26) (oi := _) (v := ?_) rfl rfl (by kernel_rfl) (by kernel_rfl) (by kernel_rfl) (by kernel_rfl) (by kernel_rfl) (by kernel_rfl) (fun _ _ _ h => h) (Or.inl ⟨by rfl, ?_⟩) (by assumption) (fun hNew => ?_)
 rotate_left
 ·intro w hSw
  have hSw := isC_out hSw
  go_simp
  try with_reducible rfl
 clear hHeld
 have hHeld := hNew
 clear hNew
 try simp only [gA,gB,gC,Act.put,gD,gE,gF]
 refine tk 27 ?_ rfl (by kernel_rfl) (fun _ _ _ h => h) (.inl ⟨by rfl, ?_⟩) hHeld ?_; rotate_left; · (intro w _; go_simp; try with_reducible rfl)
 clear hHeld; intro hHeld; try simp only [gA,gB,gC,Act.put,gD,gE,gF]
 refine tk 28 ?_ rfl (by kernel_rfl) (fun _ _ _ h => h) (.inl ⟨by rfl, ?_⟩) hHeld ?_; rotate_left; · (intro w _; go_simp; try with_reducible rfl)
 clear hHeld; intro hHeld; try simp only [gA,gB,gC,Act.put,gD,gE,gF]
 refine tk 29 ?_ rfl (by kernel_rfl) (fun _ _ _ h => h) (.inl ⟨by rfl, ?_⟩) hHeld ?_; rotate_left; · (intro w _; go_simp; try with_reducible rfl)
 clear hHeld; intro hHeld; try simp only [gA,gB,gC,Act.put,gD,gE,gF]
 refine tk 30 ?_ rfl (by kernel_rfl) (fun _ _ _ h => h) (.inl ⟨by rfl, ?_⟩) hHeld ?_; rotate_left; · (intro w _; go_simp; try with_reducible rfl)
 clear hHeld; intro hHeld; try simp only [gA,gB,gC,Act.put,gD,gE,gF]
 refine tk 31 ?_ rfl (by kernel_rfl) (fun _ _ _ h => h) (.inl ⟨by rfl, ?_⟩) hHeld ?_; rotate_left; · (intro w _; go_simp; try with_reducible rfl)
 clear hHeld; intro hHeld; try simp only [gA,gB,gC,Act.put,gD,gE,gF]
 refine tk 32 ?_ rfl (by kernel_rfl) (fun _ _ _ h => h) (.inl ⟨by rfl, ?_⟩) hHeld ?_; rotate_left; · (intro w _; go_simp; try with_reducible rfl)
 clear hHeld; intro hHeld; try simp only [gA,gB,gC,Act.put,gD,gE,gF]
 refine wpAnyL_loadP 0 [43, 35, 34] (i := 33) (oi := _) (v := ?_) rfl rfl (by kernel_rfl) (by kernel_rfl) (by kernel_rfl) (by kernel_rfl) (by kernel_rfl) (by kernel_rfl) (fun _ _ _ h => h) (Or.inl ⟨by rfl, ?_⟩) (by assumption) (fun hNew => ?_)
 rotate_left
 ·intro w hSw
  have hSw := isC_out hSw
  go_simp
  try with_reducible rfl
 clear hHeld
 have hHeld := hNew
 clear hNew
 try simp only [gA,gB,gC,Act.put,gD,gE,gF]
 refine tk 34 ?_ rfl (by kernel_rfl) (fun _ _ _ h => h) (.inl ⟨by rfl, ?_⟩) hHeld ?_; rotate_left; · (intro w _; go_simp; try with_reducible rfl)
 clear hHeld; intro hHeld; try simp only [gA,gB,gC,Act.put,gD,gE,gF]
 refine tk 35 ?_ rfl (by kernel_rfl) (fun _ _ _ h => h) (.inl ⟨by rfl, ?_⟩) hHeld ?_; rotate_left; · (intro w _; go_simp; try with_reducible rfl)
 clear hHeld; intro hHeld; try simp only [gA,gB,gC,Act.put,gD,gE,gF]
 refine tk 36 ?_ rfl (by kernel_rfl) (fun _ _ _ h => h) (.inl ⟨by rfl, ?_⟩) hHeld ?_; rotate_left; · (intro w _; go_simp; try with_reducible rfl)
 clear hHeld; intro hHeld; try simp only [gA,gB,gC,Act.put,gD,gE,gF]
 refine tk 38 ?_ rfl (by kernel_rfl) (fun _ _ _ h => h) (.inl ⟨by rfl, ?_⟩) hHeld ?_; rotate_left; · (intro w _; go_simp; try with_reducible rfl)
 clear hHeld; intro hHeld; try simp only [gA,gB,gC,Act.put,gD,gE,gF]
 refine tk 39 ?_ rfl (by kernel_rfl) (fun _ _ _ h => h) (.inl ⟨by rfl, ?_⟩) hHeld ?_; rotate_left; · (intro w _; go_simp; try with_reducible rfl)
 clear hHeld; intro hHeld; try simp only [gA,gB,gC,Act.put,gD,gE,gF]
 refine tk 40 ?_ rfl (by kernel_rfl) (fun _ _ _ h => h) (.inl ⟨by rfl, ?_⟩) hHeld ?_; rotate_left; · (intro w _; go_simp; try with_reducible rfl)
 clear hHeld; intro hHeld; try simp only [gA,gB,gC,Act.put,gD,gE,gF]
 refine wpAnyL_loadP 0 [43, 42] (i := 37) (oi := _) (v := ?_) rfl rfl (by kernel_rfl) (by kernel_rfl) (by kernel_rfl) (by kernel_rfl) (by kernel_rfl) (by kernel_rfl) (fun _ _ _ h => h) (Or.inl ⟨by rfl, ?_⟩) (by assumption) (fun hNew => ?_)
 rotate_left
 ·intro w hSw
  have hSw := isC_out hSw
  go_simp
  try with_reducible rfl
 clear hHeld
 have hHeld := hNew
 clear hNew
 try simp only [gA,gB,gC,Act.put,gD,gE,gF]
 refine wpAnyL_loadP 0 [43, 42] (i := 41) (oi := _) (v := ?_) rfl rfl (by kernel_rfl) (by kernel_rfl) (by kernel_rfl) (by kernel_rfl) (by kernel_rfl) (by kernel_rfl) (fun _ _ _ h => h) (Or.inl ⟨by rfl, ?_⟩) (by assumption) (fun hNew => ?_)
 rotate_left
 ·intro w hSw
  have hSw := isC_out hSw
  go_simp
  try with_reducible rfl
 clear hHeld
 have hHeld := hNew
 clear hNew
 try simp only [gA,gB,gC,Act.put,gD,gE,gF]
 refine tk 42 ?_ rfl (by kernel_rfl) (fun _ _ _ h => h) (.inl ⟨by rfl, ?_⟩) hHeld ?_; rotate_left; · (intro w _; go_simp; try with_reducible rfl)
 clear hHeld; intro hHeld; try simp only [gA,gB,gC,Act.put,gD,gE,gF]
 refine tk 43 ?_ rfl (by kernel_rfl) (fun _ _ _ h => h) (.inl ⟨by rfl, ?_⟩) hHeld ?_; rotate_left; · (intro w _; go_simp; try with_reducible rfl)
 clear hHeld; intro hHeld; try simp only [gA,gB,gC,Act.put,gD,gE,gF]
 refine wpAnyL_ready (rs := [44]) (by kernel_rfl) (by simp) (AllReadyL.cons (o := _) rfl (fun K hK => ?_) AllReadyL.nil)
 try simp only [gA,gB,gC]
 go_simp
 clear hHeld
 refine hK.out _ _ ?_ (fun hHeld => ?_)
 ·exact (HoldC.past (by kernel_rfl) HoldC.nil)
 clear hK K
 try simp only [gA,gB,gC,Act.put,gD,gE,gF]
 refine tk 45 ?_ rfl (by kernel_rfl) (fun _ _ _ h => h) (.inl ⟨by rfl, ?_⟩) hHeld ?_; rotate_left; · (intro w _; go_simp; try with_reducible rfl)
 clear hHeld; intro hHeld; try simp only [gA,gB,gC,Act.put,gD,gE,gF]
 refine wpAnyL_done (by kernel_rfl) ?_ _
 clear hHeld
 go_wp2
 go_ret3
 exact ⟨⟨_, rfl, HU.out⟩, HC3.out⟩
end
end Go.Proofs.YtnbhanmpmjjkkaaGreatDoor.W
