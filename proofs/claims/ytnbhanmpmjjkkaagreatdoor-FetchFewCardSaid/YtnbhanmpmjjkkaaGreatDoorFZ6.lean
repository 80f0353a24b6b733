/- Texts laid together. -/
import Derived.Test.YtnbhanmpmjjkkaaGreatDoorFZ1
import Derived.Test.YtnbhanmpmjjkkaaGreatDoorFZ2
import Derived.Test.YtnbhanmpmjjkkaaGreatDoorFZ5
import Derived.Test.YtnbhanmpmjjkkaaGreatDoorFZ3
set_option linter.unusedVariables false
set_option linter.unusedSimpArgs false
set_option maxHeartbeats 64000000
set_option maxRecDepth 100000
namespace Go.Proofs.YtnbhanmpmjjkkaaGreatDoor.W
open Go.RowKit
def lgave (x : Int) : Ending := .panicked [{ v := .iface 164 (.agg #[.int .i64 x]), recovered := false }]
theorem lmust_no (x : Int) (w : World) : Calls Tryz.prog 113 #[.bool false, .int .i64 x] w fun e w' => e = lgave x /\ w = w' := by
 unfold lgave
 go_enter Tryz.func113, Tryz.ntmps113
 go_wp2
 exact ⟨rfl, rfl, rfl⟩
theorem assertL_nil (w : World) : (Instr.typeAssert .nilIface 20 164 true).run Tryz.prog w = .ok (.tuple #[.agg #[.int .i64 0], .bool false]) w := by kernel_rfl
theorem assertL_give (x : Int) (w : World) : (Instr.typeAssert (.iface 164 (.agg #[.int .i64 x])) 20 164 true).run Tryz.prog w = .ok (.tuple #[.agg #[.int .i64 x], .bool true]) w := by kernel_rfl
theorem lcaught_nil (p : Value) (w : World) : Calls Tryz.prog 82 #[.nilIface, p] w fun e w' => e = .returned (.bool false) /\ w' = w.alloc (.cells #[.int .i64 0] 164) := by
 have hta := assertL_nil
 go_enter Tryz.func82, Tryz.ntmps82
 go_wp2
 go_ret
 exact ⟨rfl, rfl⟩
theorem lcaught_give (x : Int) (b : Nat) (v : Value) (w : World) (hb : w.heap[b]? = some (.cells #[v] 31 (0, 0))) : Calls Tryz.prog 82 #[.iface 164 (.agg #[.int .i64 x]), .pointer (some ⟨b, 0, none⟩)] w fun e w' => e = .returned (.bool true) /\ w' = (w.setCell ⟨b, 0, none⟩ (.int .i64 x)).alloc (.cells #[.int .i64 x] 164) := by
 have hta := assertL_give x
 have c0 := blk_cell hb 0 _ rfl
 have f0 := blk_frozen hb 0
 have l0 := blk_lt hb
 have l1 : ¬ (b = w.heap.size) := Nat.ne_of_lt l0
 have l2 : ¬ (w.heap.size = b) := fun e => l1 e.symm
 clear hb
 go_enter Tryz.func82, Tryz.ntmps82
 go_wp2
 go_ret
 exact ⟨rfl, rfl⟩
theorem lread1_idle (pe ph pr : Value) (w : World) :
  CallsD Tryz.prog 81 #[pe, ph, pr] .returning w fun e u' w' => e = .returned (.tuple #[]) /\ u' = .returning /\ w' = w.alloc (.cells #[.int .i64 0] 164) := by
 have CN := LH (lcaught_nil pe w)
 refine callsD_of_wpS Tryz.func81 rfl fun c₀ cs hu => ?_
 rw [Tryz.ntmps81]
 change Code.wpS Tryz.prog _ _ ⟨#[pe, ph, pr, undef, undef, undef], []⟩ _ _
 apply wpS_seq
 apply wpS_region
 simp [wpOpsS, go_sem, recoverD, hu, Exit.thenS]
 refine CN.out.mono ?_
 rintro e w' ⟨rfl, rfl⟩
 simp [wpOpsS, go_sem, Exit.thenS]
 refine wpS_cond (t := false) (by simp [Act.eval]) ?_
 simp only [Bool.false_eq_true, if_false]
 refine wpS_of_wp (wp_skip ?_)
 cases c₀
 simp_all [bodyPostS, results, Tryz.results81]
theorem ljoin1_idle (pe pr : Value) (w : World) :
  CallsD Tryz.prog 97 #[pe, pr] .returning w fun e u' w' => e = .returned (.tuple #[]) /\ u' = .returning /\ w' = w.alloc (.cells #[.int .i64 0] 164) := by
 have CN := LH (lcaught_nil pe w)
 refine callsD_of_wpS Tryz.func97 rfl fun c₀ cs hu => ?_
 rw [Tryz.ntmps97]
 change Code.wpS Tryz.prog _ _ ⟨#[pe, pr, undef, undef], []⟩ _ _
 apply wpS_seq
 apply wpS_region
 simp [wpOpsS, go_sem, recoverD, hu, Exit.thenS]
 refine CN.out.mono ?_
 rintro e w' ⟨rfl, rfl⟩
 simp [wpOpsS, go_sem, Exit.thenS]
 refine wpS_cond (t := false) (by simp [Act.eval]) ?_
 simp only [Bool.false_eq_true, if_false]
 refine wpS_of_wp (wp_skip ?_)
 cases c₀
 simp_all [bodyPostS, results, Tryz.results97]
abbrev zeroHd : Array Value := #[.int .i64 0, .int .i64 0, .int .i64 0, .int .i64 0, .int .i64 0, .int .i64 0]
theorem lread1_gave (pe ph pr : Nat) (x : Int) (v1 v2 : Value) (hd : List Value) (hl : hd.length = 6) (older : List PanicEntry) (w : World) (h1 : w.heap[pe]? = some (.cells #[v1] 31 (0, 0))) (h2 : w.heap[ph]? = some (.cells hd.toArray 115 (0, 0))) (h3 : w.heap[pr]? = some (.cells #[v2] 22 (0, 0))) (n1 : pe ≠ ph) (n2 : pe ≠ pr) (n3 : ph ≠ pr) :
  CallsD Tryz.prog 81 #[.pointer (some ⟨pe, 0, none⟩), .pointer (some ⟨ph, 0, none⟩), .pointer (some ⟨pr, 0, none⟩)] (.panicking ({ v := .iface 164 (.agg #[.int .i64 x]), recovered := false } :: older)) w fun e u' w' =>
   e = .returned (.tuple #[]) /\ u' = .panicking ({ v := .iface 164 (.agg #[.int .i64 x]), recovered := true } :: older) /\ Chg [pe, ph, pr] w w' /\ w'.heap[pe]? = some (.cells #[.int .i64 x] 31 (0, 0)) /\ w'.heap[ph]? = some (.cells zeroHd 115 (0, 0)) /\ w'.heap[pr]? = some (.cells #[.slice none 0 0] 22 (0, 0)) := by
 have CN := LH (lcaught_give x pe v1 w h1)
 obtain ⟨w1, hw1⟩ : ∃ w1, w1 = (w.setCell ⟨pe, 0, none⟩ (.int .i64 x)).alloc (.cells #[.int .i64 x] 164) := ⟨_, rfl⟩
 rw [<- hw1] at CN
 have g1 : w1.heap[pe]? = some (.cells #[.int .i64 x] 31 (0, 0)) := by rw [hw1]; exact blk_alloc (set_blk h1)
 have g2 : w1.heap[ph]? = some (.cells hd.toArray 115 (0, 0)) := by rw [hw1]; exact blk_alloc (blk_sets h2 n1.symm)
 have g3 : w1.heap[pr]? = some (.cells #[v2] 22 (0, 0)) := by rw [hw1]; exact blk_alloc (blk_sets h3 n2.symm)
 have gc : Chg [pe, ph, pr] w w1 := by rw [hw1]; exact ((Chg.refl [pe, ph, pr] w).setCell (p := ⟨pe, 0, none⟩) (.inl (by simp)) _).alloc _
 have l2 := blk_lt g2
 have l3 := blk_lt g3
 match hd, hl with
 | [a0, a1, a2, a3, a4, a5], _ =>
 have q0 := blk_cell g2 0 _ rfl
 have q1 := blk_cell g2 1 _ rfl
 have q2 := blk_cell g2 2 _ rfl
 have q3 := blk_cell g2 3 _ rfl
 have q4 := blk_cell g2 4 _ rfl
 have q5 := blk_cell g2 5 _ rfl
 have r0 := blk_cell g3 0 _ rfl
 have f0 := blk_frozen g2 0
 have f1 := blk_frozen g2 1
 have f2 := blk_frozen g2 2
 have f3 := blk_frozen g2 3
 have f4 := blk_frozen g2 4
 have f5 := blk_frozen g2 5
 have f6 := blk_frozen g3 0
 have G1 := LH g1
 have G2 := LH g2
 have G3 := LH g3
 have GC := LH gc
 have m3 : ¬ (pr = ph) := fun e => n3 e.symm
 clear h1 h2 h3 g1 g2 g3 gc hw1
 refine callsD_of_wpS Tryz.func81 rfl fun c₀ cs hu => ?_
 rw [Tryz.ntmps81]
 change Code.wpS Tryz.prog _ _ ⟨#[_, _, _, undef, undef, undef], []⟩ _ _
 apply wpS_seq
 apply wpS_region
 simp [wpOpsS, go_sem, recoverD, hu, Exit.thenS]
 refine CN.out.mono ?_
 rintro e w' ⟨rfl, hq⟩
 subst hq
 simp [wpOpsS, go_sem, Exit.thenS]
 refine wpS_cond (t := true) (by simp [Act.eval]) ?_
 simp only [if_true]
 refine wpS_of_wp ?_
 go_wp2
 refine ⟨rfl, _, rfl, .tuple #[], by simp [results, Tryz.results81], rfl, rfl, ?_, ?_, ?_, ?_⟩
 ·exact (((((((GC.out.setCell (p := ⟨ph, 0, none⟩) (.inl (by simp)) _).setCell (p := ⟨ph, 1, none⟩) (.inl (by simp)) _).setCell (p := ⟨ph, 2, none⟩) (.inl (by simp)) _).setCell (p := ⟨ph, 3, none⟩) (.inl (by simp)) _).setCell (p := ⟨ph, 4, none⟩) (.inl (by simp)) _).setCell (p := ⟨ph, 5, none⟩) (.inl (by simp)) _).setCell (p := ⟨pr, 0, none⟩) (.inl (by simp)) _)
 ·exact blk_sets (blk_sets (blk_sets (blk_sets (blk_sets (blk_sets (blk_sets G1.out n1) n1) n1) n1) n1) n1) n2
 ·exact blk_sets (set_blk (set_blk (set_blk (set_blk (set_blk (set_blk G2.out)))))) n3
 ·exact set_blk (blk_sets (blk_sets (blk_sets (blk_sets (blk_sets (blk_sets G3.out m3) m3) m3) m3) m3) m3)
structure HdSt (w0 w : World) (b g h : Nat) (l : List UInt8) (bad : Int) (cs : Array Value) : Prop where
 eye : EyeAt w b g l bad
 blk : w.heap[h]? = some (.cells cs 115 (0, 0))
 chg : Chg [] w0 w
 newb : w0.heap.size <= b
 newh : w0.heap.size <= h
 hb : h ≠ b
 hg : h ≠ g
 ret : w.heap[w0.heap.size]? = some (.cells zeroHd 115 (0, 0))
 rb : w0.heap.size ≠ b
 rh : w0.heap.size ≠ h
theorem HdSt.num {w0 w : World} {b g h : Nat} {l : List UInt8} {bad : Int} {cs : Array Value} (H : HdSt w0 w b g h l bad cs) (k : Nat) (hk : k < cs.size) (n : Nat) (h1 : 1 <= n) (h7 : n <= 7) :
  Calls Tryz.prog 112 #[.pointer (some ⟨b, 0, none⟩), .int .i64 (n : Int)] w fun e w' => e = .returned (.int .i64 (eyeNum l bad n).1) /\ w'.cell? ⟨h, k, none⟩ = some cs[k] /\ w'.frozen? ⟨h, k, none⟩ = false /\ h < w'.heap.size /\
   HdSt w0 (w'.setCell ⟨h, k, none⟩ (.int .i64 (eyeNum l bad n).1)) b g h (eyeNum l bad n).2.1 (eyeNum l bad n).2.2 (cs.setIfInBounds k (.int .i64 (eyeNum l bad n).1)) := by
 refine (enum_any b g l bad (n : Int) w H.eye (by omega) (by omega)).mono ?_
 rw [Int.toNat_natCast]
 rintro e w' ⟨rfl, he, hc⟩
 have hblk := hc.keep H.blk (by simpa using H.hb)
 have hc2 : Chg [] w0 w' := H.chg.trans hc (fun x hx => .inr (by rw [List.mem_singleton.1 hx]; exact H.newb))
 exact ⟨rfl, blk_cell hblk k _ (Array.getElem?_eq_getElem hk), blk_frozen hblk k, blk_lt hblk, he.keep (S := [h]) ((Chg.refl _ w').setCell (.inl (by simp)) _) (by simpa using H.hb.symm) (by simpa using H.hg.symm), set_blk hblk, hc2.setCell (.inr H.newh) _, H.newb, H.newh, H.hb, H.hg, blk_sets (hc.keep H.ret (by simpa using H.rb)) H.rh, H.rb, H.rh⟩
def headB (s : Sp) (i n size : Nat) : List UInt8 := beBytes 1 s.c.toNat ++ (beBytes 3 s.l.toNat ++ (beBytes 4 s.n.toNat ++ (beBytes 1 i ++ (beBytes 1 n ++ beBytes 2 size))))
theorem headB_len (s : Sp) (i n size : Nat) : (headB s i n size).length = 12 := by simp [headB, beBytes_len]
def hn1 (l : List UInt8) := eyeNum l 0 1
def hn2 (l : List UInt8) := eyeNum (hn1 l).2.1 (hn1 l).2.2 3
def hn3 (l : List UInt8) := eyeNum (hn2 l).2.1 (hn2 l).2.2 4
def hn4 (l : List UInt8) := eyeNum (hn3 l).2.1 (hn3 l).2.2 1
def hn5 (l : List UInt8) := eyeNum (hn4 l).2.1 (hn4 l).2.2 1
def hn6 (l : List UInt8) := eyeNum (hn5 l).2.1 (hn5 l).2.2 2
theorem hn_short {l : List UInt8} (h : l.length < 12) : (hn6 l).2.2 = 2 := by
 have key : (hn6 l).2.2 ≠ 0 := fun h6 => by
  obtain ⟨z5, l6, e6⟩ := eyeNum_zero h6
  obtain ⟨z4, l5, e5⟩ := eyeNum_zero (show (eyeNum (hn4 l).2.1 (hn4 l).2.2 1).2.2 = 0 from z5)
  obtain ⟨z3, l4, e4⟩ := eyeNum_zero (show (eyeNum (hn3 l).2.1 (hn3 l).2.2 1).2.2 = 0 from z4)
  obtain ⟨z2, l3, e3⟩ := eyeNum_zero (show (eyeNum (hn2 l).2.1 (hn2 l).2.2 4).2.2 = 0 from z3)
  obtain ⟨z1, l2, e2⟩ := eyeNum_zero (show (eyeNum (hn1 l).2.1 (hn1 l).2.2 3).2.2 = 0 from z2)
  obtain ⟨z0, l1, e1⟩ := eyeNum_zero (show (eyeNum l 0 1).2.2 = 0 from z1)
  have f1 : (hn1 l).2.1.length = l.length - 1 := by unfold hn1; rw [e1]; simp
  have f2 : (hn2 l).2.1.length = (hn1 l).2.1.length - 3 := by unfold hn2; rw [e2]; simp
  have f3 : (hn3 l).2.1.length = (hn2 l).2.1.length - 4 := by unfold hn3; rw [e3]; simp
  have f4 : (hn4 l).2.1.length = (hn3 l).2.1.length - 1 := by unfold hn4; rw [e4]; simp
  have f5 : (hn5 l).2.1.length = (hn4 l).2.1.length - 1 := by unfold hn5; rw [e5]; simp
  omega
 have e0 : ∀ (m : List UInt8) (bad : Int) (n : Nat), (bad = 0 ∨ bad = 2) -> ((eyeNum m bad n).2.2 = 0 ∨ (eyeNum m bad n).2.2 = 2) := fun m bad n hb => by
  rcases eyeNum_err m bad n with h1 | h1 | h1
  ·rw [h1]; exact hb
  ·exact .inr h1
  ·exact .inl h1
 have a1 : (hn1 l).2.2 = 0 ∨ (hn1 l).2.2 = 2 := e0 l 0 1 (.inl rfl)
 have a2 : (hn2 l).2.2 = 0 ∨ (hn2 l).2.2 = 2 := e0 _ _ 3 a1
 have a3 : (hn3 l).2.2 = 0 ∨ (hn3 l).2.2 = 2 := e0 _ _ 4 a2
 have a4 : (hn4 l).2.2 = 0 ∨ (hn4 l).2.2 = 2 := e0 _ _ 1 a3
 have a5 : (hn5 l).2.2 = 0 ∨ (hn5 l).2.2 = 2 := e0 _ _ 1 a4
 have a6 : (hn6 l).2.2 = 0 ∨ (hn6 l).2.2 = 2 := e0 _ _ 2 a5
 exact a6.resolve_left key
theorem hn_ok {s : Sp} {i n size : Nat} (hs : s.Ok) (hi : i < 256) (hn : n < 256) (hz : size < 65536) (r : List UInt8) :
  (hn1 (headB s i n size ++ r)).1 = s.c /\ (hn2 (headB s i n size ++ r)).1 = s.l /\ (hn3 (headB s i n size ++ r)).1 = s.n /\ (hn4 (headB s i n size ++ r)).1 = (i : Int) /\ (hn5 (headB s i n size ++ r)).1 = (n : Int) /\ (hn6 (headB s i n size ++ r)).1 = (size : Int) /\ (hn6 (headB s i n size ++ r)).2.2 = 0 := by
 obtain ⟨c0, c1, l0, l1, n0, n1⟩ := hs
 have e1 : hn1 (headB s i n size ++ r) = (s.c, beBytes 3 s.l.toNat ++ (beBytes 4 s.n.toNat ++ (beBytes 1 i ++ (beBytes 1 n ++ (beBytes 2 size ++ r)))), 0) := by
  unfold hn1 headB
  simp only [List.append_assoc]
  rw [eyeNum_be 1 _ _ (by omega), Int.toNat_of_nonneg c0]
 have e2 : hn2 (headB s i n size ++ r) = (s.l, beBytes 4 s.n.toNat ++ (beBytes 1 i ++ (beBytes 1 n ++ (beBytes 2 size ++ r))), 0) := by
  unfold hn2; rw [e1]; dsimp only
  rw [eyeNum_be 3 _ _ (by omega), Int.toNat_of_nonneg l0]
 have e3 : hn3 (headB s i n size ++ r) = (s.n, beBytes 1 i ++ (beBytes 1 n ++ (beBytes 2 size ++ r)), 0) := by
  unfold hn3; rw [e2]; dsimp only
  rw [eyeNum_be 4 _ _ (by omega), Int.toNat_of_nonneg n0]
 have e4 : hn4 (headB s i n size ++ r) = ((i : Int), beBytes 1 n ++ (beBytes 2 size ++ r), 0) := by
  unfold hn4; rw [e3]; dsimp only
  rw [eyeNum_be 1 _ _ (by omega)]
 have e5 : hn5 (headB s i n size ++ r) = ((n : Int), beBytes 2 size ++ r, 0) := by
  unfold hn5; rw [e4]; dsimp only
  rw [eyeNum_be 1 _ _ (by omega)]
 have e6 : hn6 (headB s i n size ++ r) = ((size : Int), r, 0) := by
  unfold hn6; rw [e5]; dsimp only
  rw [eyeNum_be 2 _ _ (by omega)]
 rw [e1, e2, e3, e4, e5, e6]
 exact ⟨rfl, rfl, rfl, rfl, rfl, rfl, rfl⟩
theorem EyeAt.near {w : World} {b g x : Nat} {l : List UInt8} {bad : Int} (h : EyeAt w b g l bad) (hx : x < w.heap.size) (hb : x ≠ b) : ∃ g', EyeAt w b g' l bad /\ g' < w.heap.size := by
 obtain ⟨v, h1, h2, h3, h4, h5⟩ := h
 rcases h4 with h4 | rfl
 ·exact ⟨g, ⟨v, h1, h2, h3, .inl h4, h5⟩, h4⟩
 ·refine ⟨x, ⟨_, h1, ?_, hb, .inl hx, h5⟩, hx⟩
  rcases h2 with h2 | ⟨o, cap, e, _⟩
  ·exact .inl h2
  ·cases e
theorem BytesAt.some {w : World} {a : Option Addr} {n c : Nat} {l : List UInt8} (h : BytesAt w (.slice a n c) l) (hl : l ≠ []) : ∃ g o, a = some ⟨g, o, none⟩ := by
 obtain ⟨a', cap, e, h1, h2, h3⟩ := h
 cases e
 rcases h3 with ⟨h4, _⟩ | ⟨g, o, rfl, _⟩
 ·exact absurd h4 hl
 ·exact ⟨g, o, rfl⟩
theorem BytesAt.cap {w : World} {a : Option Addr} {n c : Nat} {l : List UInt8} (h : BytesAt w (.slice a n c) l) : n <= c /\ c <= maxLen := by
 obtain ⟨a', cap, e, h1, h2, h3⟩ := h
 cases e
 exact ⟨h1, h2⟩
theorem hd_size (s : Sp) (i n size : Int) : (Tryz.prog.info? 115).map (·.size) = some (hdC s i n size).size := by kernel_rfl
theorem hd_all (s : Sp) (i n size : Int) : (hdC s i n size).all (·.oneCell') = true := all_oneCell_toArray (fun v hv => by
 simp only [List.mem_cons, List.mem_nil_iff, or_false] at hv
 rcases hv with rfl | rfl | rfl | rfl | rfl | rfl <;> rfl)
theorem ret_hd {fn : Func} {p q : Tmp} (h : fn.results = #[.cell p 115, .tmp q]) (tmps : Array Value) {w : World} {b t : Nat} {s : Sp} {i n size : Int} {u : Value} (hp : tmps.getD p undef = .pointer (some ⟨b, 0, none⟩)) (hq : tmps.getD q undef = u) (hb : w.heap[b]? = some (.cells (hdC s i n size) t (0, 0))) :
  (results fn tmps).run Tryz.prog w = .ok (.tuple #[.agg (hdC s i n size), u]) w := by
 have hl := run_loadVar_row (P := Tryz.prog) w b t 115 (hdC s i n size) (0, 0) _ hb Tryz.underlying115 rfl (hd_size _ _ _ _)
 rw [results_cell_tmp h, hp, hq]
 simp only [asAddr, Sem.run_pure, Result.andThen_ok, hl]
theorem HdSt.keep {w0 w w' : World} {b g h : Nat} {l : List UInt8} {bad : Int} {cs : Array Value} (H : HdSt w0 w b g h l bad cs) (hc : Chg [] w w') : HdSt w0 w' b g h l bad cs :=
 ⟨H.eye.keep hc (by simp) (by simp), hc.keep H.blk (by simp), H.chg.trans hc (by simp), H.newb, H.newh, H.hb, H.hg, hc.keep H.ret (by simp), H.rb, H.rh⟩
theorem HdSt.cells {w0 w : World} {b g h : Nat} {l : List UInt8} {bad : Int} {a0 a1 a2 a3 a4 a5 : Value} (H : HdSt w0 w b g h l bad #[a0, a1, a2, a3, a4, a5]) : w.cell? ⟨h, 0, none⟩ = some a0 /\ w.cell? ⟨h, 1, none⟩ = some a1 /\ w.cell? ⟨h, 2, none⟩ = some a2 /\ w.cell? ⟨h, 3, none⟩ = some a3 /\ w.cell? ⟨h, 4, none⟩ = some a4 /\ w.cell? ⟨h, 5, none⟩ = some a5 :=
 ⟨blk_cell H.blk 0 _ rfl, blk_cell H.blk 1 _ rfl, blk_cell H.blk 2 _ rfl, blk_cell H.blk 3 _ rfl, blk_cell H.blk 4 _ rfl, blk_cell H.blk 5 _ rfl⟩
theorem six_setH {w : World} {b t : Nat} {a0 a1 a2 a3 a4 a5 : Value} (h : w.heap[b]? = some (.cells #[a0, a1, a2, a3, a4, a5] t (0, 0))) (u0 u1 u2 u3 u4 u5 : Value) : (w.setCells b 0 [u0, u1, u2, u3, u4, u5]).heap[b]? = some (.cells #[u0, u1, u2, u3, u4, u5] t (0, 0)) := by
 simp only [World.setCells]
 have h0 : (w.setCell ⟨b, 0, none⟩ u0).heap[b]? = some (.cells #[u0, a1, a2, a3, a4, a5] t (0, 0)) := set_blk h
 generalize w.setCell ⟨b, 0, none⟩ u0 = x0 at *
 have h1 : (x0.setCell ⟨b, 0 + 1, none⟩ u1).heap[b]? = some (.cells #[u0, u1, a2, a3, a4, a5] t (0, 0)) := set_blk h0
 generalize x0.setCell ⟨b, 0 + 1, none⟩ u1 = x1 at *
 have h2 : (x1.setCell ⟨b, 0 + 1 + 1, none⟩ u2).heap[b]? = some (.cells #[u0, u1, u2, a3, a4, a5] t (0, 0)) := set_blk h1
 generalize x1.setCell ⟨b, 0 + 1 + 1, none⟩ u2 = x2 at *
 have h3 : (x2.setCell ⟨b, 0 + 1 + 1 + 1, none⟩ u3).heap[b]? = some (.cells #[u0, u1, u2, u3, a4, a5] t (0, 0)) := set_blk h2
 generalize x2.setCell ⟨b, 0 + 1 + 1 + 1, none⟩ u3 = x3 at *
 have h4 : (x3.setCell ⟨b, 0 + 1 + 1 + 1 + 1, none⟩ u4).heap[b]? = some (.cells #[u0, u1, u2, u3, u4, a5] t (0, 0)) := set_blk h3
 generalize x3.setCell ⟨b, 0 + 1 + 1 + 1 + 1, none⟩ u4 = x4 at *
 exact set_blk h4
theorem blk_there {w : World} {b t : Nat} {cs : Array Value} (h : w.heap[b]? = some (.cells cs t (0, 0))) (n : Nat) (hn : n <= cs.size) : w.there b 0 n := fun j hj => by
 rw [Nat.zero_add]
 refine ⟨?_, blk_frozen h j⟩
 rw [blk_cell h j _ (Array.getElem?_eq_getElem (by omega))]
 rfl
theorem lhead_short (v : Value) (l : List UInt8) (w : World) (hv : BytesAt w v l) (hl : l.length < 12) :
  Calls Tryz.prog 83 #[v] w fun e w' => e = lgave 2 /\ Chg [] w w' := by
 have HS := LH (hn_short hl)
 obtain ⟨w1, hw1⟩ : ∃ w1, w1 = w.alloc (.cells zeroHd 115) := ⟨_, rfl⟩
 have hc1 : Chg [] w w1 := by rw [hw1]; exact (Chg.refl _ _).alloc _
 have hs1 : w1.heap.size = w.heap.size + 1 := by rw [hw1]; simp
 have CE := LH (neweye_any v l w1 (hv.chg hc1 (by simp)) (by omega))
 have HC1 := LH hc1
 have HW1 := LH hw1
 have HV1 := LH (hv.chg hc1 (by simp))
 have HR := LH (show w1.heap[w.heap.size]? = some (.cells zeroHd 115 (0, 0)) by rw [hw1]; exact heap_alloc_new w _)
 clear hw1 hc1
 clear hv
 go_enter Tryz.func83, Tryz.ntmps83
 go_wp2_with fail
 rw [<- HW1.out]
 refine CE.out.mono ?_
 rintro e w2 ⟨b, g0, rfl, he0, hb, hg, hc2⟩
 have hz2 := hc2.size
 obtain ⟨g, he, hgl⟩ := he0.near (x := w.heap.size) (by omega) (by omega)
 have hbl : b < w2.heap.size := by obtain ⟨_, h, _⟩ := he; exact blk_lt h
 have H0 : Hid (HdSt w (w2.alloc (.cells zeroHd 115)) b g w2.heap.size l 0 zeroHd) := LH ⟨he.keep (S := []) ((Chg.refl [] w2).alloc _) (by simp) (by simp), heap_alloc_new w2 _, (HC1.out.trans hc2 (by simp)).alloc _, by omega, by omega, by omega, by omega, blk_alloc (hc2.keep HR.out (by simp)), by omega, by omega⟩
 have HK2 : Hid (w.heap.size ≠ b /\ w.heap.size ≠ w2.heap.size /\ Chg [] w1 w2) := LH ⟨by omega, by omega, hc2⟩
 obtain ⟨h, hh⟩ : ∃ h, h = w2.heap.size := ⟨_, rfl⟩
 have HH := LH hh
 rw [<- hh] at H0 HK2
 clear he0 hb hg hc2 he hgl hbl hz2 hh CE
 go_wp2_with fail
 rw [<- HH.out]
 refine (H0.out.num 0 (by simp) 1 (by omega) (by omega)).mono ?_
 rintro e x0 ⟨rfl, c0, f0, l0, hN⟩
 have H1 : Hid (HdSt w (x0.setCell ⟨h, 0, none⟩ (.int .i64 (hn1 l).1)) b g h (hn1 l).2.1 (hn1 l).2.2 #[.int .i64 (hn1 l).1, .int .i64 0, .int .i64 0, .int .i64 0, .int .i64 0, .int .i64 0]) := LH hN
 clear hN H0
 rw [show eyeNum l 0 1 = hn1 l from rfl]
 go_wp2_with fail
 clear c0 f0 l0
 refine (H1.out.num 1 (by simp) 3 (by omega) (by omega)).mono ?_
 rintro e x1 ⟨rfl, c1, f1, l1, hN⟩
 have H2 : Hid (HdSt w (x1.setCell ⟨h, 1, none⟩ (.int .i64 (hn2 l).1)) b g h (hn2 l).2.1 (hn2 l).2.2 #[.int .i64 (hn1 l).1, .int .i64 (hn2 l).1, .int .i64 0, .int .i64 0, .int .i64 0, .int .i64 0]) := LH hN
 clear hN H1
 rw [show eyeNum (hn1 l).2.1 (hn1 l).2.2 3 = hn2 l from rfl]
 go_wp2_with fail
 clear c1 f1 l1
 refine (H2.out.num 2 (by simp) 4 (by omega) (by omega)).mono ?_
 rintro e x2 ⟨rfl, c2, f2, l2, hN⟩
 have H3 : Hid (HdSt w (x2.setCell ⟨h, 2, none⟩ (.int .i64 (hn3 l).1)) b g h (hn3 l).2.1 (hn3 l).2.2 #[.int .i64 (hn1 l).1, .int .i64 (hn2 l).1, .int .i64 (hn3 l).1, .int .i64 0, .int .i64 0, .int .i64 0]) := LH hN
 clear hN H2
 rw [show eyeNum (hn2 l).2.1 (hn2 l).2.2 4 = hn3 l from rfl]
 go_wp2_with fail
 clear c2 f2 l2
 refine (H3.out.num 3 (by simp) 1 (by omega) (by omega)).mono ?_
 rintro e x3 ⟨rfl, c3, f3, l3, hN⟩
 have H4 : Hid (HdSt w (x3.setCell ⟨h, 3, none⟩ (.int .i64 (hn4 l).1)) b g h (hn4 l).2.1 (hn4 l).2.2 #[.int .i64 (hn1 l).1, .int .i64 (hn2 l).1, .int .i64 (hn3 l).1, .int .i64 (hn4 l).1, .int .i64 0, .int .i64 0]) := LH hN
 clear hN H3
 rw [show eyeNum (hn3 l).2.1 (hn3 l).2.2 1 = hn4 l from rfl]
 go_wp2_with fail
 clear c3 f3 l3
 refine (H4.out.num 4 (by simp) 1 (by omega) (by omega)).mono ?_
 rintro e x4 ⟨rfl, c4, f4, l4, hN⟩
 have H5 : Hid (HdSt w (x4.setCell ⟨h, 4, none⟩ (.int .i64 (hn5 l).1)) b g h (hn5 l).2.1 (hn5 l).2.2 #[.int .i64 (hn1 l).1, .int .i64 (hn2 l).1, .int .i64 (hn3 l).1, .int .i64 (hn4 l).1, .int .i64 (hn5 l).1, .int .i64 0]) := LH hN
 clear hN H4
 rw [show eyeNum (hn4 l).2.1 (hn4 l).2.2 1 = hn5 l from rfl]
 go_wp2_with fail
 clear c4 f4 l4
 refine (H5.out.num 5 (by simp) 2 (by omega) (by omega)).mono ?_
 rintro e x5 ⟨rfl, c5, f5, l5, hN⟩
 have H6 : Hid (HdSt w (x5.setCell ⟨h, 5, none⟩ (.int .i64 (hn6 l).1)) b g h (hn6 l).2.1 (hn6 l).2.2 #[.int .i64 (hn1 l).1, .int .i64 (hn2 l).1, .int .i64 (hn3 l).1, .int .i64 (hn4 l).1, .int .i64 (hn5 l).1, .int .i64 (hn6 l).1]) := LH hN
 clear hN H5
 rw [show eyeNum (hn5 l).2.1 (hn5 l).2.2 2 = hn6 l from rfl]
 go_wp2_with fail
 clear c5 f5 l5
 have CF := LH (efail_any b g _ _ _ H6.out.eye)
 rw [HS.out] at CF
 refine CF.out.mono ?_
 rintro e w' ⟨rfl, hq⟩
 subst hq
 go_wp2_with fail
 refine CF.out.mono ?_
 rintro e w' ⟨rfl, hq⟩
 subst hq
 go_wp2_with fail
 refine (lmust_no 2 _).mono ?_
 rintro e w' ⟨rfl, hq⟩
 subst hq
 exact ⟨rfl, rfl, H6.out.chg⟩
theorem lhead_ok (s : Sp) (i n size : Nat) (r : List UInt8) (v : Value) (w : World) (hs : s.Ok) (hv : BytesAt w v (headB s i n size ++ r)) (h3 : 3 <= n) (h16 : n <= 16) (hi : i < n) (hz : 1 <= size) (hm : size <= 400 * (n - 1)) (hr : r.length = longN size n i) :
  Calls Tryz.prog 83 #[v] w fun e w' => Chg [] w w' /\ ∃ u, e = .returned (.tuple #[.agg (hdC s i n size), u]) /\ BRow w' u r /\ ∀ k, u.ownBlock = some k -> w.heap.size <= k := by
 have HOK := LH hs
 have hn0 : (headB s i n size).length = 12 := headB_len s i n size
 obtain ⟨l, hll⟩ : ∃ l, l = headB s i n size ++ r := ⟨_, rfl⟩
 have hlen : l.length = 12 + r.length := by rw [hll, List.length_append, hn0]
 have HN := LH (hn_ok hs (show i < 256 by omega) (show n < 256 by omega) (show size < 65536 by omega) r)
 rw [<- hll] at HN hv
 have HV0 := LH hv
 have HLEN := LH hlen
 have HDR : Hid (l.drop 12 = r) := LH (by rw [hll, <- hn0]; exact List.drop_left)
 have hSZ := each_le (n := n) hz
 have hLL := long_le size n i
 have HRL := LH hr
 have hw12 : IntKind.i64.wrap ((l.length : Int) - 12) = (longN size n i : Int) := by rw [IntWalk.i64_in _ ⟨by omega, by omega⟩]; omega
 have h12 : 12 <= l.length := by omega
 have hl6 : l.length <= 1000000 := by omega
 have h12z : (12 : Int) <= (l.length : Int) := by omega
 clear hll hlen hr hn0
 obtain ⟨w1, hw1⟩ : ∃ w1, w1 = w.alloc (.cells zeroHd 115) := ⟨_, rfl⟩
 have hc1 : Chg [] w w1 := by rw [hw1]; exact (Chg.refl _ _).alloc _
 have hs1 : w1.heap.size = w.heap.size + 1 := by rw [hw1]; simp
 have CE := LH (neweye_any v l w1 (hv.chg hc1 (by simp)) (by omega))
 have HC1 := LH hc1
 have HW1 := LH hw1
 have HV1 := LH (hv.chg hc1 (by simp))
 have HR := LH (show w1.heap[w.heap.size]? = some (.cells zeroHd 115 (0, 0)) by rw [hw1]; exact heap_alloc_new w _)
 clear hw1 hc1
 obtain ⟨va, vc, rfl⟩ := hv.slice
 obtain ⟨gg, oo, rfl⟩ : ∃ gg oo, va = some ⟨gg, oo, none⟩ := hv.some (by intro e; rw [e] at h12; simp at h12)
 have hcv := hv.cap
 clear hv
 go_enter Tryz.func83, Tryz.ntmps83
 go_wp2_with fail
 rw [<- HW1.out]
 refine CE.out.mono ?_
 rintro e w2 ⟨b, g0, rfl, he0, hb, hg, hc2⟩
 have hz2 := hc2.size
 obtain ⟨g, he, hgl⟩ := he0.near (x := w.heap.size) (by omega) (by omega)
 have hbl : b < w2.heap.size := by obtain ⟨_, h, _⟩ := he; exact blk_lt h
 have H0 : Hid (HdSt w (w2.alloc (.cells zeroHd 115)) b g w2.heap.size l 0 zeroHd) := LH ⟨he.keep (S := []) ((Chg.refl [] w2).alloc _) (by simp) (by simp), heap_alloc_new w2 _, (HC1.out.trans hc2 (by simp)).alloc _, by omega, by omega, by omega, by omega, blk_alloc (hc2.keep HR.out (by simp)), by omega, by omega⟩
 have HK2 : Hid (w.heap.size ≠ b /\ w.heap.size ≠ w2.heap.size /\ Chg [] w1 w2) := LH ⟨by omega, by omega, hc2⟩
 obtain ⟨h, hh⟩ : ∃ h, h = w2.heap.size := ⟨_, rfl⟩
 have HH := LH hh
 rw [<- hh] at H0 HK2
 clear he0 hb hg hc2 he hgl hbl hz2 hh CE
 go_wp2_with fail
 rw [<- HH.out]
 refine (H0.out.num 0 (by simp) 1 (by omega) (by omega)).mono ?_
 rintro e x0 ⟨rfl, c0, f0, l0, hN⟩
 have H1 : Hid (HdSt w (x0.setCell ⟨h, 0, none⟩ (.int .i64 (hn1 l).1)) b g h (hn1 l).2.1 (hn1 l).2.2 #[.int .i64 (hn1 l).1, .int .i64 0, .int .i64 0, .int .i64 0, .int .i64 0, .int .i64 0]) := LH hN
 clear hN H0
 rw [show eyeNum l 0 1 = hn1 l from rfl]
 go_wp2_with fail
 clear c0 f0 l0
 refine (H1.out.num 1 (by simp) 3 (by omega) (by omega)).mono ?_
 rintro e x1 ⟨rfl, c1, f1, l1, hN⟩
 have H2 : Hid (HdSt w (x1.setCell ⟨h, 1, none⟩ (.int .i64 (hn2 l).1)) b g h (hn2 l).2.1 (hn2 l).2.2 #[.int .i64 (hn1 l).1, .int .i64 (hn2 l).1, .int .i64 0, .int .i64 0, .int .i64 0, .int .i64 0]) := LH hN
 clear hN H1
 rw [show eyeNum (hn1 l).2.1 (hn1 l).2.2 3 = hn2 l from rfl]
 go_wp2_with fail
 clear c1 f1 l1
 refine (H2.out.num 2 (by simp) 4 (by omega) (by omega)).mono ?_
 rintro e x2 ⟨rfl, c2, f2, l2, hN⟩
 have H3 : Hid (HdSt w (x2.setCell ⟨h, 2, none⟩ (.int .i64 (hn3 l).1)) b g h (hn3 l).2.1 (hn3 l).2.2 #[.int .i64 (hn1 l).1, .int .i64 (hn2 l).1, .int .i64 (hn3 l).1, .int .i64 0, .int .i64 0, .int .i64 0]) := LH hN
 clear hN H2
 rw [show eyeNum (hn2 l).2.1 (hn2 l).2.2 4 = hn3 l from rfl]
 go_wp2_with fail
 clear c2 f2 l2
 refine (H3.out.num 3 (by simp) 1 (by omega) (by omega)).mono ?_
 rintro e x3 ⟨rfl, c3, f3, l3, hN⟩
 have H4 : Hid (HdSt w (x3.setCell ⟨h, 3, none⟩ (.int .i64 (hn4 l).1)) b g h (hn4 l).2.1 (hn4 l).2.2 #[.int .i64 (hn1 l).1, .int .i64 (hn2 l).1, .int .i64 (hn3 l).1, .int .i64 (hn4 l).1, .int .i64 0, .int .i64 0]) := LH hN
 clear hN H3
 rw [show eyeNum (hn3 l).2.1 (hn3 l).2.2 1 = hn4 l from rfl]
 go_wp2_with fail
 clear c3 f3 l3
 refine (H4.out.num 4 (by simp) 1 (by omega) (by omega)).mono ?_
 rintro e x4 ⟨rfl, c4, f4, l4, hN⟩
 have H5 : Hid (HdSt w (x4.setCell ⟨h, 4, none⟩ (.int .i64 (hn5 l).1)) b g h (hn5 l).2.1 (hn5 l).2.2 #[.int .i64 (hn1 l).1, .int .i64 (hn2 l).1, .int .i64 (hn3 l).1, .int .i64 (hn4 l).1, .int .i64 (hn5 l).1, .int .i64 0]) := LH hN
 clear hN H4
 rw [show eyeNum (hn4 l).2.1 (hn4 l).2.2 1 = hn5 l from rfl]
 go_wp2_with fail
 clear c4 f4 l4
 refine (H5.out.num 5 (by simp) 2 (by omega) (by omega)).mono ?_
 rintro e x5 ⟨rfl, c5, f5, l5, hN⟩
 have H6 : Hid (HdSt w (x5.setCell ⟨h, 5, none⟩ (.int .i64 (hn6 l).1)) b g h (hn6 l).2.1 (hn6 l).2.2 #[.int .i64 (hn1 l).1, .int .i64 (hn2 l).1, .int .i64 (hn3 l).1, .int .i64 (hn4 l).1, .int .i64 (hn5 l).1, .int .i64 (hn6 l).1]) := LH hN
 clear hN H5
 rw [show eyeNum (hn5 l).2.1 (hn5 l).2.2 2 = hn6 l from rfl]
 go_wp2_with fail
 clear c5 f5 l5
 have hN := HN.out
 obtain ⟨m1, m2, m3, m4, m5, m6, m7⟩ := hN
 rw [m1, m2, m3, m4, m5, m6, m7] at H6
 rw [m6]
 obtain ⟨w9, hw9⟩ : ∃ w9, w9 = x5.setCell ⟨h, 5, none⟩ (.int .i64 (size : Int)) := ⟨_, rfl⟩
 rw [<- hw9] at H6 ⊢
 clear m1 m2 m3 m4 m5 m6 m7 HN hw9
 have CF := LH (efail_any b g _ _ _ H6.out.eye)
 refine CF.out.mono ?_
 rintro e w' ⟨rfl, hq⟩
 subst hq
 go_wp2_with fail
 refine CF.out.mono ?_
 rintro e w' ⟨rfl, hq⟩
 subst hq
 go_wp2_with fail
 refine (lmust_ok _ _).mono ?_
 rintro e w' ⟨rfl, hq⟩
 subst hq
 obtain ⟨q0, q1, q2, q3, q4, q5⟩ := H6.out.cells
 go_wp2_with fail
 refine (lmay_ok s _ HOK.out).mono ?_
 rintro e wa ⟨rfl, hca⟩
 have HA := LH (H6.out.keep hca)
 clear hca q0 q1 q2 q3 q4 q5 CF H6
 obtain ⟨q0, q1, q2, q3, q4, q5⟩ := HA.out.cells
 have hin : (i : Int) < (n : Int) := by omega
 go_wp2_with (first
  | (go_at_call 52; refine (lservers_ok _ _ (by omega) (by omega)).mono ?_; rintro e w' ⟨rfl, hq⟩; subst hq)
  | (go_at_call 116; refine (lsized_ok _ _ _ (by omega) (by omega) (by omega) (by omega)).mono ?_; rintro e w' ⟨rfl, hq⟩; subst hq)
  | (go_at_call 113; refine (lmust_ok _ _).mono ?_; rintro e w' ⟨rfl, hq⟩; subst hq))
 refine (llong_ok s i size n _ hz (by omega) h3 h16 hi).mono ?_
 rintro e wb ⟨rfl, hcb⟩
 have HB := LH (HA.out.keep hcb)
 clear hcb q0 q1 q2 q3 q4 q5 HA
 obtain ⟨q0, q1, q2, q3, q4, q5⟩ := HB.out.cells
 go_wp2_with (go_at_call 113; refine (lmust_ok _ _).mono ?_; rintro e w' ⟨rfl, hq⟩; subst hq)
 have HBT : Hid (BytesAt wb (.slice (if vc = 12 then some ⟨gg, oo, none⟩ else some ⟨gg, oo + 12, none⟩) (l.length - 12) (vc - 12)) r) := LH (by
  have h1 := HLEN.out
  have h2 := BytesAt.tail (m := r) (HV0.out.chg HB.out.chg (by simp)) ⟨l.take 12, by rw [<- HDR.out, List.take_append_drop]⟩ (if vc = 12 then oo else oo + 12) (fun hne => by
   have := List.length_pos_iff.2 hne
   show _ = oo + _
   split <;> omega)
  rw [show l.length - r.length = 12 by omega] at h2
  rw [show l.length - 12 = r.length by omega, show (if vc = 12 then some (⟨gg, oo, none⟩ : Addr) else some ⟨gg, oo + 12, none⟩) = some ⟨gg, if vc = 12 then oo else oo + 12, none⟩ by split <;> rfl]
  exact h2)
 have CC := LH (fun w' (hc : Chg [] wb w') => clone_any _ r w' (HBT.out.chg hc (by simp)) (by have := HLEN.out; omega))
 refine wp_region_L [(4, fun w' => (w'.cell? ⟨h, 0, none⟩ = some (.int .i64 s.c) /\ w'.cell? ⟨h, 1, none⟩ = some (.int .i64 s.l) /\ w'.cell? ⟨h, 2, none⟩ = some (.int .i64 s.n) /\ w'.cell? ⟨h, 3, none⟩ = some (.int .i64 (i : Int)) /\ w'.cell? ⟨h, 4, none⟩ = some (.int .i64 (n : Int)) /\ w'.cell? ⟨h, 5, none⟩ = some (.int .i64 (size : Int))))] (by kernel_rfl) ?_ (fun hHeld => ?_)
 ·exact (HoldC.cons (⟨q0, q1, q2, q3, q4, q5⟩) HoldC.nil)
 refine ld 0 0 ?_ rfl rfl (by kernel_rfl) (fun _ _ _ h => h) (.inl ⟨by rfl, ?_⟩) hHeld ?_; rotate_left; · (intro w hSw; (try dsimp only at hSw); go_simp; try with_reducible rfl)
 clear hHeld; intro hHeld; try simp only [gA,gB,gC,Act.put,gD,gE,gF]
 refine tk 1 ?_ rfl (by kernel_rfl) (fun _ _ _ h => h) (.inl ⟨by rfl, ?_⟩) hHeld ?_; rotate_left; · (intro w _; go_simp; try with_reducible rfl)
 clear hHeld; intro hHeld; try simp only [gA,gB,gC,Act.put,gD,gE,gF]
 refine tk 2 ?_ rfl (by kernel_rfl) (fun _ _ _ h => h) (.inl ⟨by rfl, ?_⟩) hHeld ?_; rotate_left; · (intro w _; go_simp; try with_reducible rfl)
 clear hHeld; intro hHeld; try simp only [gA,gB,gC,Act.put,gD,gE,gF]
 refine wpAnyL_ready (rs := [3]) (by kernel_rfl) (by simp) (AllReadyL.cons (o := _) rfl (fun K hK => ?_) AllReadyL.nil)
 try simp only [gA,gB,gC]
 go_simp
 refine (CC.out _ (Chg.refl [] wb).drew).mono ?_
 rintro e wd ⟨u, rfl, hu, hun, hcd⟩
 have HD := LH ((HB.out.keep (Chg.refl [] wb).drew).keep hcd)
 have HU := LH hu
 have HUN := LH hun
 have hz : wb.drew.heap.size = wb.heap.size := rfl
 have hz2 := HB.out.chg.size
 have HUW : Hid (∀ k, u.ownBlock = some k -> w.heap.size <= k /\ k ≠ w.heap.size) := LH (fun k hk => by
  have h1 := hun k hk
  have h2 := blk_lt HB.out.ret
  exact ⟨by omega, by omega⟩)
 have HTH := LH (blk_there HD.out.ret 6 (by simp))
 have HSX := LH (six_setH HD.out.ret (.int .i64 s.c) (.int .i64 s.l) (.int .i64 s.n) (.int .i64 (i : Int)) (.int .i64 (n : Int)) (.int .i64 (size : Int)))
 clear hu hun hcd q0 q1 q2 q3 q4 q5 hz
 clear hHeld
 refine hK.out _ _ ?_ (fun hHeld => ?_)
 ·exact (HoldC.cons (HD.out.cells) HoldC.nil)
 clear hK K
 try simp only [gA,gB,gC,Act.put,gD,gE,gF]
 refine wpAnyL_ready (rs := [4]) (by kernel_rfl) (by simp) (AllReadyL.cons (o := _) rfl (fun K hK => ?_) AllReadyL.nil)
 try simp only [gA,gB,gC]
 rw [if_pos (by rfl)]
 refine wp_store_mid 115 (.tmp 2) (.tmp 65) (by rfl) w.heap.size 0 (hdC s i n size) (by rfl) (by rfl) HTH.out (hd_size _ _ _ _) (hd_all _ _ _ _) ?_
 clear hHeld
 refine hK.out _ _ ?_ (fun hHeld => ?_)
 ·exact (HoldC.past (by kernel_rfl) HoldC.nil)
 clear hK K
 try simp only [gA,gB,gC,Act.put,gD,gE,gF]
 refine tk 5 ?_ rfl (by kernel_rfl) (fun _ _ _ h => h) (.inl ⟨by rfl, ?_⟩) hHeld ?_; rotate_left; · (intro w _; go_simp; try with_reducible rfl)
 clear hHeld; intro hHeld; try simp only [gA,gB,gC,Act.put,gD,gE,gF]
 refine wpAnyL_done (by kernel_rfl) ?_ _
 clear hHeld
 have HCX : Hid (Chg [] w (wd.setCells w.heap.size 0 [.int .i64 s.c, .int .i64 s.l, .int .i64 s.n, .int .i64 (i : Int), .int .i64 (n : Int), .int .i64 (size : Int)])) := LH (HD.out.chg.setCells (.inr (Nat.le_refl _)) _)
 have HUX : Hid (BRow (wd.setCells w.heap.size 0 [.int .i64 s.c, .int .i64 s.l, .int .i64 s.n, .int .i64 (i : Int), .int .i64 (n : Int), .int .i64 (size : Int)]) u r) := LH (HU.out.keep (fun k hk => setCells_far _ _ _ _ (HUW.out k hk).2))
 generalize wd.setCells w.heap.size 0 [.int .i64 s.c, .int .i64 s.l, .int .i64 s.n, .int .i64 (i : Int), .int .i64 (n : Int), .int .i64 (size : Int)] = wx at *
 go_wp2_with fail
 all_goals exact bodyPost_ret (ret_hd rfl _ rfl rfl HSX.out) rfl ⟨HCX.out, u, rfl, HUX.out, fun k hk => (HUW.out k hk).1⟩
structure RdSt (w w3 : World) : Prop where
 chg : Chg [] w w3
 size : w3.heap.size = w.heap.size + 3
 h : w3.heap[w.heap.size]? = some (.cells zeroHd 115 (0, 0))
 r : w3.heap[w.heap.size + 1]? = some (.cells #[.slice none 0 0] 22 (0, 0))
 e : w3.heap[w.heap.size + 2]? = some (.cells #[.int .i64 0] 31 (0, 0))
theorem rdSt_of (w : World) : RdSt w (((w.alloc (.cells zeroHd 115)).alloc (.cells #[.slice none 0 0] 22)).alloc (.cells #[.int .i64 0] 31)) := by
 refine ⟨(((Chg.refl _ _).alloc _).alloc _).alloc _, by simp, blk_alloc (blk_alloc (heap_alloc_new w _)), blk_alloc ?_, ?_⟩
 ·have := heap_alloc_new (w.alloc (.cells zeroHd 115)) (.cells #[.slice none 0 0] 22)
  simpa using this
 ·have := heap_alloc_new ((w.alloc (.cells zeroHd 115)).alloc (.cells #[.slice none 0 0] 22)) (.cells #[.int .i64 0] 31)
  simpa using this
theorem RdSt.keep {w w3 w4 : World} (H : RdSt w w3) (hc : Chg [] w3 w4) : Chg [] w w4 /\ w4.heap[w.heap.size]? = some (.cells zeroHd 115 (0, 0)) /\ w4.heap[w.heap.size + 1]? = some (.cells #[.slice none 0 0] 22 (0, 0)) /\ w4.heap[w.heap.size + 2]? = some (.cells #[.int .i64 0] 31 (0, 0)) :=
 ⟨H.chg.trans hc (by simp), hc.keep H.h (by simp), hc.keep H.r (by simp), hc.keep H.e (by simp)⟩
theorem ret_read {fn : Func} {p q z : Tmp} (h : fn.results = #[.cell p 115, .cell q 22, .cell z 31]) (tmps : Array Value) {w : World} {b c d : Nat} {a0 a1 a2 a3 a4 a5 u : Value} {e : Int} (hp : tmps.getD p undef = .pointer (some ⟨b, 0, none⟩)) (hq : tmps.getD q undef = .pointer (some ⟨c, 0, none⟩)) (hz : tmps.getD z undef = .pointer (some ⟨d, 0, none⟩))
  (hb : w.heap[b]? = some (.cells #[a0, a1, a2, a3, a4, a5] 115 (0, 0))) (hc : w.cell? ⟨c, 0, none⟩ = some u) (hd' : w.cell? ⟨d, 0, none⟩ = some (.int .i64 e)) :
  (results fn tmps).run Tryz.prog w = .ok (.tuple #[.agg #[a0, a1, a2, a3, a4, a5], u, .int .i64 e]) w := by
 have k0 := blk_cell hb 0 _ rfl
 have k1 := blk_cell hb 1 _ rfl
 have k2 := blk_cell hb 2 _ rfl
 have k3 := blk_cell hb 3 _ rfl
 have k4 := blk_cell hb 4 _ rfl
 have k5 := blk_cell hb 5 _ rfl
 rw [Array.getD_eq_getD_getElem?] at hp hq hz
 simp [results, h, go_sem, hp, hq, hz, k0, k1, k2, k3, k4, k5, hc, hd', asAddr]
theorem read_res (i : Nat) (v : Value) (h2 : i ≠ 2) (h3 : i ≠ 3) (h4 : i ≠ 4) (t : Array Value) : results Tryz.f60 (t.setIfInBounds i v) = results Tryz.f60 t := by
 unfold results
 rw [Tryz.results60]
 simp [Array.getElem?_setIfInBounds_ne h2, Array.getElem?_setIfInBounds_ne h3, Array.getElem?_setIfInBounds_ne h4]
theorem readQ {R : Ending -> World -> Prop} (i : Nat) (v : Value) (h2 : i ≠ 2) (h3 : i ≠ 3) (h4 : i ≠ 4) (c : List PanicEntry) (a : Act) (w : World) (h : bodyPostD Tryz.prog Tryz.f60 R (.panic c) (a.put (some i) v) w) : bodyPostD Tryz.prog Tryz.f60 R (.panic c) a w :=
 leaves_put i v (read_res i v h2 h3 h4) _ _ _ _ h
theorem lread_short (v : Value) (l : List UInt8) (w : World) (hv : BytesAt w v l) (hl : l.length < 12) : Calls Tryz.prog 60 #[v] w fun e w' => e = .returned (.tuple #[.agg zeroHd, .slice none 0 0, .int .i64 2]) /\ Chg [] w w' := by
 have hmf : ∀ (fn : Fn) (first cap : Array Value) (w : World), (Instr.makeFunc fn first cap).run Tryz.prog w = .ok (.func fn first cap) w := fun _ _ _ _ => rfl
 have HS := LH (rdSt_of w)
 obtain ⟨w3, hw3⟩ : ∃ w3, w3 = ((w.alloc (.cells zeroHd 115)).alloc (.cells #[.slice none 0 0] 22)).alloc (.cells #[.int .i64 0] 31) := ⟨_, rfl⟩
 rw [<- hw3] at HS
 have HW3 := LH hw3
 have CH := LH (lhead_short v l w3 (hv.chg HS.out.chg (by simp)) hl)
 clear hv hl hw3
 go_enter_defers Tryz.func60, Tryz.ntmps60
 go_wp2_with fail
 rw [<- HW3.out]
 refine CH.out.mono ?_
 rintro e w4 ⟨rfl, hc4⟩
 obtain ⟨k1, k2, k3, k4⟩ := HS.out.keep hc4
 unfold lgave
 have CP := LH (lread1_gave (w.heap.size + 2) w.heap.size (w.heap.size + 1) 2 _ _ [.int .i64 0, .int .i64 0, .int .i64 0, .int .i64 0, .int .i64 0, .int .i64 0] rfl [] w4 k4 k2 k3 (by omega) (by omega) (by omega))
 refine leaves_cons (f := 81) (args := #[.pointer (some ⟨w.heap.size + 2, 0, none⟩), .pointer (some ⟨w.heap.size, 0, none⟩), .pointer (some ⟨w.heap.size + 1, 0, none⟩)]) (by simp) (by simp [go_sem]) ?_
 refine CP.out.mono ?_
 rintro e u' w'' ⟨rfl, rfl, hc, h1, h2, h3⟩
 refine ⟨.tuple #[.agg zeroHd, .slice none 0 0, .int .i64 2], ?_, rfl, k1.trans hc (fun x hx => .inr (by simp at hx; omega))⟩
 exact ret_read rfl _ rfl rfl rfl h2 (blk_cell h3 0 _ rfl) (blk_cell h1 0 _ rfl)
theorem lread_ok (s : Sp) (i n size : Nat) (r : List UInt8) (v : Value) (w : World) (hs : s.Ok) (hv : BytesAt w v (headB s i n size ++ r)) (h3 : 3 <= n) (h16 : n <= 16) (hi : i < n) (hz : 1 <= size) (hm : size <= 400 * (n - 1)) (hr : r.length = longN size n i) :
  Calls Tryz.prog 60 #[v] w fun e w' => Chg [] w w' /\ ∃ u, e = .returned (.tuple #[.agg (hdC s i n size), u, .int .i64 0]) /\ BRow w' u r /\ ∀ k, u.ownBlock = some k -> w.heap.size <= k := by
 have hmf : ∀ (fn : Fn) (first cap : Array Value) (w : World), (Instr.makeFunc fn first cap).run Tryz.prog w = .ok (.func fn first cap) w := fun _ _ _ _ => rfl
 have HS := LH (rdSt_of w)
 obtain ⟨w3, hw3⟩ : ∃ w3, w3 = ((w.alloc (.cells zeroHd 115)).alloc (.cells #[.slice none 0 0] 22)).alloc (.cells #[.int .i64 0] 31) := ⟨_, rfl⟩
 rw [<- hw3] at HS
 have HW3 := LH hw3
 have CH := LH (lhead_ok s i n size r v w3 hs (hv.chg HS.out.chg (by simp)) h3 h16 hi hz hm hr)
 clear hv hw3 hs h3 h16 hi hz hm hr
 go_enter_defers Tryz.func60, Tryz.ntmps60
 go_wp2_with fail
 rw [<- HW3.out]
 refine CH.out.mono ?_
 rintro e w4 ⟨hc4, u, rfl, hu, hun⟩
 obtain ⟨k1, k2, k3, k4⟩ := HS.out.keep hc4
 obtain ⟨ua, uc, hue⟩ := hu.bytes.slice
 subst hue
 have K1 := LH k1
 have K2 := LH k2
 have K3 := LH k3
 have K4 := LH k4
 have HU := LH hu
 have HUN := LH hun
 have HC4 := LH hc4
 clear k1 k2 k3 k4 hu hun hc4 CH
 obtain ⟨k0, k1, k2, k3, k4, k5⟩ : (w4.cell? ⟨w.heap.size, 0, none⟩ = some (.int .i64 0)) /\ (w4.cell? ⟨w.heap.size, 1, none⟩ = some (.int .i64 0)) /\ (w4.cell? ⟨w.heap.size, 2, none⟩ = some (.int .i64 0)) /\ (w4.cell? ⟨w.heap.size, 3, none⟩ = some (.int .i64 0)) /\ (w4.cell? ⟨w.heap.size, 4, none⟩ = some (.int .i64 0)) /\ (w4.cell? ⟨w.heap.size, 5, none⟩ = some (.int .i64 0)) :=
  ⟨blk_cell K2.out 0 _ rfl, blk_cell K2.out 1 _ rfl, blk_cell K2.out 2 _ rfl, blk_cell K2.out 3 _ rfl, blk_cell K2.out 4 _ rfl, blk_cell K2.out 5 _ rfl⟩
 have f0 := blk_frozen K2.out 0
 have f1 := blk_frozen K2.out 1
 have f2 := blk_frozen K2.out 2
 have f3 := blk_frozen K2.out 3
 have f4 := blk_frozen K2.out 4
 have f5 := blk_frozen K2.out 5
 have r0 := blk_cell K3.out 0 _ rfl
 have g0 := blk_frozen K3.out 0
 have l0 := blk_lt K2.out
 have l1 := blk_lt K3.out
 go_wp2_with fail
 have W5 : ∃ w5, w5 = (((((((w4.setCell ⟨w.heap.size, 0, none⟩ (.int .i64 s.c)).setCell ⟨w.heap.size, 1, none⟩ (.int .i64 s.l)).setCell ⟨w.heap.size, 2, none⟩ (.int .i64 s.n)).setCell ⟨w.heap.size, 3, none⟩ (.int .i64 (i : Int))).setCell ⟨w.heap.size, 4, none⟩ (.int .i64 (n : Int))).setCell ⟨w.heap.size, 5, none⟩ (.int .i64 (size : Int))).setCell ⟨w.heap.size + 1, 0, none⟩ (.slice ua r.length uc)) := ⟨_, rfl⟩
 obtain ⟨w5, hw5⟩ := W5
 rw [<- hw5]
 have hb0 : w5.heap[w.heap.size]? = some (.cells (hdC s i n size) 115 (0, 0)) := by rw [hw5]; exact blk_sets (set_blk (set_blk (set_blk (set_blk (set_blk (set_blk K2.out)))))) (by omega)
 have hb1 : w5.heap[w.heap.size + 1]? = some (.cells #[.slice ua r.length uc] 22 (0, 0)) := by rw [hw5]; exact set_blk (blk_sets (blk_sets (blk_sets (blk_sets (blk_sets (blk_sets K3.out (by omega)) (by omega)) (by omega)) (by omega)) (by omega)) (by omega))
 have hb2 : w5.heap[w.heap.size + 2]? = some (.cells #[.int .i64 0] 31 (0, 0)) := by rw [hw5]; exact blk_sets (blk_sets (blk_sets (blk_sets (blk_sets (blk_sets (blk_sets K4.out (by omega)) (by omega)) (by omega)) (by omega)) (by omega)) (by omega)) (by omega)
 have hc5 : Chg [w.heap.size, w.heap.size + 1] w4 w5 := by
  rw [hw5]
  exact ((((((((Chg.refl _ w4).setCell (p := ⟨w.heap.size, 0, none⟩) (.inl (by simp)) _).setCell (p := ⟨w.heap.size, 1, none⟩) (.inl (by simp)) _).setCell (p := ⟨w.heap.size, 2, none⟩) (.inl (by simp)) _).setCell (p := ⟨w.heap.size, 3, none⟩) (.inl (by simp)) _).setCell (p := ⟨w.heap.size, 4, none⟩) (.inl (by simp)) _).setCell (p := ⟨w.heap.size, 5, none⟩) (.inl (by simp)) _).setCell (p := ⟨w.heap.size + 1, 0, none⟩) (.inl (by simp)) _)
 have B0 := LH hb0
 have B1 := LH hb1
 have B2 := LH hb2
 have C5 := LH hc5
 clear hb0 hb1 hb2 hc5 hw5 k0 k1 k2 k3 k4 k5 f0 f1 f2 f3 f4 f5 r0 g0 l0 l1
 have HTH := LH (blk_there (w := w5.drew) B0.out 6 (by simp))
 obtain ⟨w6, hw6⟩ : ∃ w6, w6 = w5.drew.setCells w.heap.size 0 [.int .i64 s.c, .int .i64 s.l, .int .i64 s.n, .int .i64 (i : Int), .int .i64 (n : Int), .int .i64 (size : Int)] := ⟨_, rfl⟩
 have D0 := LH (show w6.heap[w.heap.size]? = some (.cells (hdC s i n size) 115 (0, 0)) by rw [hw6]; exact six_setH (w := w5.drew) B0.out _ _ _ _ _ _)
 have D1 := LH (show w6.heap[w.heap.size + 1]? = some (.cells #[.slice ua r.length uc] 22 (0, 0)) by rw [hw6, setCells_far _ _ _ _ (by omega)]; exact B1.out)
 have D2 := LH (show w6.heap[w.heap.size + 1 + 1]? = some (.cells #[.int .i64 0] 31 (0, 0)) by rw [hw6, setCells_far _ _ _ _ (by omega)]; exact B2.out)
 have C6 := LH (show Chg [w.heap.size, w.heap.size + 1] w4 w6 by rw [hw6]; exact C5.out.drew.setCells (.inl (by simp)) _)
 have W6 := LH hw6
 clear hw6
 refine wp_region_L [(2, fun w' => (w'.cell? ⟨w.heap.size, 0, none⟩ = some (.int .i64 s.c) /\ w'.cell? ⟨w.heap.size, 1, none⟩ = some (.int .i64 s.l) /\ w'.cell? ⟨w.heap.size, 2, none⟩ = some (.int .i64 s.n) /\ w'.cell? ⟨w.heap.size, 3, none⟩ = some (.int .i64 (i : Int)) /\ w'.cell? ⟨w.heap.size, 4, none⟩ = some (.int .i64 (n : Int)) /\ w'.cell? ⟨w.heap.size, 5, none⟩ = some (.int .i64 (size : Int)))), (3, fun w' => w'.cell? ⟨w.heap.size + 1, 0, none⟩ = some (.slice ua r.length uc))] (by kernel_rfl) ?_ (fun hHeld => ?_)
 ·exact (HoldC.cons (⟨blk_cell B0.out 0 _ rfl, blk_cell B0.out 1 _ rfl, blk_cell B0.out 2 _ rfl, blk_cell B0.out 3 _ rfl, blk_cell B0.out 4 _ rfl, blk_cell B0.out 5 _ rfl⟩) (HoldC.cons (blk_cell B1.out 0 _ rfl) HoldC.nil))
 refine ld 0 0 ?_ rfl rfl (by kernel_rfl) (by intro c a w hq; refine readQ _ _ ?_ ?_ ?_ c a w hq <;> decide) (.inl ⟨by rfl, ?_⟩) hHeld ?_; rotate_left; · (intro w hSw; (try dsimp only at hSw); go_simp; try with_reducible rfl)
 clear hHeld; intro hHeld; try simp only [gA,gB,gC,Act.put,gD,gE,gF]
 refine ld 1 1 ?_ rfl rfl (by kernel_rfl) (by intro c a w hq; refine readQ _ _ ?_ ?_ ?_ c a w hq <;> decide) (.inl ⟨by rfl, ?_⟩) hHeld ?_; rotate_left; · (intro w hSw; (try dsimp only at hSw); go_simp; try with_reducible rfl)
 clear hHeld; intro hHeld; try simp only [gA,gB,gC,Act.put,gD,gE,gF]
 refine wpAnyL_ready (rs := [2]) (by kernel_rfl) (by simp) (AllReadyL.cons (o := _) rfl (fun K hK => ?_) AllReadyL.nil)
 try simp only [gA,gB,gC]
 rw [if_pos (by rfl)]
 refine wp_store_mid 115 (.tmp 2) (.tmp 11) (by rfl) w.heap.size 0 (hdC s i n size) (by rfl) (by rfl) HTH.out (hd_size _ _ _ _) (hd_all _ _ _ _) ?_
 rw [show w5.drew.setCells w.heap.size 0 (hdC s i n size).toList = w6 from W6.out.symm]
 have r1 := blk_cell D1.out 0 _ rfl
 have r2 := blk_frozen D1.out 0
 have r3 := blk_cell D2.out 0 _ rfl
 have r4 := blk_frozen D2.out 0
 have r5 := blk_lt D1.out
 have r6 := blk_lt D2.out
 clear hHeld
 refine hK.out _ _ ?_ (fun hHeld => ?_)
 ·exact (HoldC.past (by kernel_rfl) (HoldC.cons (r1) HoldC.nil))
 clear hK K
 try simp only [gA,gB,gC,Act.put,gD,gE,gF]
 refine wpAnyL_ready (rs := [3]) (by kernel_rfl) (by simp) (AllReadyL.cons (o := _) rfl (fun K hK => ?_) AllReadyL.nil)
 try simp only [gA,gB,gC]
 go_simp
 clear hHeld
 refine hK.out _ _ ?_ (fun hHeld => ?_)
 ·exact (HoldC.past (by kernel_rfl) (HoldC.past (by kernel_rfl) HoldC.nil))
 clear hK K
 try simp only [gA,gB,gC,Act.put,gD,gE,gF]
 refine wpAnyL_ready (rs := [4]) (by kernel_rfl) (by simp) (AllReadyL.cons (o := _) rfl (fun K hK => ?_) AllReadyL.nil)
 try simp only [gA,gB,gC]
 go_simp
 clear hHeld
 refine hK.out _ _ ?_ (fun hHeld => ?_)
 ·exact (HoldC.past (by kernel_rfl) (HoldC.past (by kernel_rfl) HoldC.nil))
 clear hK K
 try simp only [gA,gB,gC,Act.put,gD,gE,gF]
 refine wpAnyL_done (by kernel_rfl) ?_ _
 clear hHeld
 clear r1 r2 r3 r4 r5 r6
 go_wp2_with fail
 obtain ⟨w7, hw7⟩ : ∃ w7, w7 = ((w6.setCell ⟨w.heap.size + 1, 0, none⟩ (.slice ua r.length uc)).setCell ⟨w.heap.size + 1 + 1, 0, none⟩ (.int .i64 0)) := ⟨_, rfl⟩
 rw [<- hw7]
 have E0 : w7.heap[w.heap.size]? = some (.cells (hdC s i n size) 115 (0, 0)) := by rw [hw7]; exact blk_sets (blk_sets D0.out (by omega)) (by omega)
 have E1 : w7.heap[w.heap.size + 1]? = some (.cells #[.slice ua r.length uc] 22 (0, 0)) := by rw [hw7]; exact blk_sets (set_blk D1.out) (by omega)
 have E2 : w7.heap[w.heap.size + 1 + 1]? = some (.cells #[.int .i64 0] 31 (0, 0)) := by rw [hw7]; exact set_blk (blk_sets D2.out (by omega))
 have EC : Chg [w.heap.size, w.heap.size + 1, w.heap.size + 1 + 1] w4 w7 := by rw [hw7]; exact ((C6.out.mono (T := [w.heap.size, w.heap.size + 1, w.heap.size + 1 + 1]) (fun x hx => .inl (by simp at hx ⊢; omega))).setCell (p := ⟨w.heap.size + 1, 0, none⟩) (.inl (by simp)) _).setCell (p := ⟨w.heap.size + 1 + 1, 0, none⟩) (.inl (by simp)) _
 refine leaves_cons (f := 81) (args := #[.pointer (some ⟨w.heap.size + 1 + 1, 0, none⟩), .pointer (some ⟨w.heap.size, 0, none⟩), .pointer (some ⟨w.heap.size + 1, 0, none⟩)]) (by simp) (by simp [go_sem]) ?_
 refine (lread1_idle _ _ _ _).mono ?_
 rintro e u' w'' ⟨rfl, rfl, rfl⟩
 have hsz := HS.out.size
 refine ⟨.tuple #[.agg (hdC s i n size), .slice ua r.length uc, .int .i64 0], ?_, (K1.out.trans EC (fun x hx => .inr (by simp at hx; omega))).alloc _, _, rfl, ?_, fun k hk => by have := HUN.out k hk; omega⟩
 ·exact ret_read rfl _ rfl rfl rfl (blk_alloc E0) (blk_cell (blk_alloc E1) 0 _ rfl) (blk_cell (blk_alloc E2) 0 _ rfl)
 ·exact HU.out.keep (fun k hk => (EC.alloc _).block k (HU.out.lt k hk) (fun hm => by have := HUN.out k hk; simp at hm; omega))
section
open Go.RowKit Go.Shelf
attribute [local go_sem] Oper.semAt_some
abbrev VRow := Value × List UInt8
abbrev RowOf (w0 : World) (m : Nat) := { x : VRow // BytesAt w0 x.1 x.2 /\ x.2.length <= m }
theorem rows_of (w0 : World) (m : Nat) (R : List VRow) (h : ∀ x ∈ R, BytesAt w0 x.1 x.2 /\ x.2.length <= m) : ∃ R' : List (RowOf w0 m), R'.map (·.1) = R := by
 refine ⟨R.attach.map (fun x => ⟨x.1, h x.1 x.2⟩), ?_⟩
 rw [List.map_map]
 exact List.attach_map_subtype_val R
def venc {α : Type} (en : α -> Value) (x : α) : Array Value := #[en x]
theorem er_same {α : Type} (R : List α) (k : Nat) : (R.take (k + 1)).eraseIdx k = (R.take k).eraseIdx k := by
 by_cases h : k < R.length
 ·rw [List.take_succ_eq_append_getElem h, List.eraseIdx_append_of_length_le (by simp; omega)]
  have e : k - (R.take k).length = 0 := by simp; omega
  rw [e]
  simp
  rw [List.eraseIdx_of_length_le (by simp; omega)]
 ·rw [List.take_of_length_le (by omega), List.take_of_length_le (by omega)]
theorem er_step {α : Type} (R : List α) (j k : Nat) (x : α) (hx : R[j]? = some x) (h : j ≠ k) : (R.take (j + 1)).eraseIdx k = (R.take j).eraseIdx k ++ [x] := by
 have hj : j < R.length := (List.getElem?_eq_some_iff.1 hx).1
 have hx' : R[j] = x := (List.getElem?_eq_some_iff.1 hx).2
 rw [List.take_succ_eq_append_getElem hj, hx']
 have hl : (R.take j).length = j := by simp; omega
 by_cases hk : k < j
 ·rw [List.eraseIdx_append_of_lt_length (by omega)]
 ·rw [List.eraseIdx_append_of_length_le (by omega), List.eraseIdx_of_length_le (l := R.take j) (by omega)]
  rw [List.eraseIdx_of_length_le (l := [x]) (by simp; omega)]
theorem er_len {α : Type} (R : List α) (j k : Nat) (h : j < R.length) : ((R.take j).eraseIdx k).length < R.length := by
 have h1 : ((R.take j).eraseIdx k).length <= (R.take j).length := List.length_eraseIdx_le _ _
 have h2 : (R.take j).length = j := by simp; omega
 omega
def KpO (g Bi : Nat) (W W' : World) : Prop := W'.heap[g]? = W.heap[g]? /\ W'.heap[Bi]? = W.heap[Bi]?
theorem others1_in {α : Type} (en : α -> Value) (n : Nat) (hn : 1 <= n) (l Br Bi g cap k : Nat) (R : List α) (hR : R.length <= 1000) (J Jx : List α -> World -> Prop) (W : World) (hJ : AbidesFrom W.heap.size J)
  (hY : ∀ pre x W1, J pre W1 -> pre.length < R.length -> YieldAt Fence.wide (n - 1) Tryz.prog l (venc en x) W1 fun e W' =>
   (e = .returned (.bool true) /\ J (pre ++ [x]) W' /\ KpO g Bi W1 W') ∨ (e = .returned (.bool false) /\ Jx (pre ++ [x]) W'))
  (hBr : W.cell? ⟨Br, 0, none⟩ = some (.slice (some ⟨g, 0, none⟩) R.length cap)) (hBi : W.cell? ⟨Bi, 0, none⟩ = some (.int .i64 (k : Int))) (hrow : ∀ j x, R[j]? = some x -> W.cell? ⟨g, j, none⟩ = some (en x)) (hk : k <= 1000) (h0 : J [] W) :
  CallsIn Fence.wide n Tryz.prog 185 #[.func (.yield l) #[] #[], .pointer (some ⟨Br, 0, none⟩), .pointer (some ⟨Bi, 0, none⟩)] W fun e W' => (∃ v, e = .returned v) /\
   ((∃ ys, ys = R.eraseIdx k /\ J ys W') ∨ (∃ pre, True /\ Jx pre W')) := by
 have HROW := LH hrow
 have HBI := LH hBi
 have HJ := LH hJ
 have HY := LH hY
 clear hrow hBi hJ hY
 refine callsIn_of_wp Tryz.func185 rfl trivial ?_ rfl
 simp only [Tryz.ntmps185, List.size_toArray, List.length_cons, List.length_nil, Nat.reduceAdd, Nat.reduceSub, Array.replicate_succ, Array.replicate_zero, List.push_toArray, List.append_toArray, List.nil_append, List.cons_append]
 gi_wp2
 gi_loopw [8] (fun i wr => ∃ j : Nat, j <= R.length /\ i = .int .i64 j /\ J ((R.take j).eraseIdx k) wr /\ wr.heap[g]? = W.heap[g]? /\ wr.heap[Bi]? = W.heap[Bi]?) (fun i _ => R.length - (intOf i).toNat)
 case atStart => exact ⟨0, Nat.zero_le _, rfl, by simpa using h0, rfl, rfl⟩
 case round =>
  obtain ⟨j, hj, rfl, hJs, hkeep, hkeep2⟩ := hrel
  have hbi : wr.cell? ⟨Bi, 0, none⟩ = some (.int .i64 (k : Int)) := (World.cell?_of_block (w := W) (a := ⟨Bi, 0, none⟩) hkeep2).trans HBI.out
  by_cases hlt : j < R.length
  ·obtain ⟨x, hx⟩ : ∃ x, R[j]? = some x := ⟨R[j], List.getElem?_eq_getElem hlt⟩
   have hcx : wr.cell? ⟨g, j, none⟩ = some (en x) := (World.cell?_of_block (w := W) (a := ⟨g, j, none⟩) hkeep).trans (HROW.out j x hx)
   have hjz : (j : Int) < (R.length : Int) := by omega
   have hjz1 : (j : Int).toNat = j := by omega
   by_cases hjk : j = k
   ·subst hjk
    have HJS := LH (show J ((R.take (j + 1)).eraseIdx j) wr by rw [er_same]; exact hJs)
    have HK := LH (And.intro hkeep hkeep2)
    have hjj : ((j : Int) != (j : Int)) = false := by simp
    clear hJs hkeep hkeep2
    gi_wp2_with fail
    refine ⟨by simp, ?_⟩
    gi_wp2
    go_roundw
    case rel => exact ⟨j + 1, by omega, by go_num, HJS.out, HK.out⟩
    case measure => simp [intOf]; omega
   ·have hjk2 : ((j : Int) != (k : Int)) = true := by simp; omega
    obtain ⟨fn, tmps, assign, body, hy, hR⟩ := HY.out _ x wr hJs (er_len R j k hlt)
    unfold venc at hy
    have HRn := LH hR
    have HK := LH (And.intro hkeep hkeep2)
    have HST := LH (er_step R j k x hx hjk)
    clear hR hx hkeep hkeep2 hJs
    gi_wp2_with fail
    refine HRn.out.mono ?_
    rintro e W3 (⟨rfl, hJ3, hk3, hk4⟩ | ⟨rfl, hJx3⟩)
    ·have HJ3 := LH hJ3
     have HK4 := LH (And.intro (hk3.trans HK.out.1) (hk4.trans HK.out.2))
     clear hJ3 hk3 hk4 hy
     gi_wp2
     go_roundw
     case rel => exact ⟨j + 1, by omega, by go_num, by rw [HST.out]; exact HJ3.out, HK4.out⟩
     case measure => simp [intOf]; omega
    ·clear hy
     gi_wp2
     refine bodyPost_ret (results_none rfl _ _ _) rfl ?_
     exact ⟨⟨_, rfl⟩, .inr ⟨_, trivial, hJx3⟩⟩
  ·obtain rfl : j = R.length := by omega
   rw [List.take_length] at hJs
   gi_wp2
   go_end0
   exact ⟨⟨_, rfl⟩, .inl ⟨_, rfl, hJs⟩⟩
abbrev othV (Br Bi : Nat) : Value := .func (.func 185) #[] #[.pointer (some ⟨Br, 0, none⟩), .pointer (some ⟨Bi, 0, none⟩)]
structure OthAt {α : Type} (en : α -> Value) (w : World) (Br Bi g cap k : Nat) (R : List α) : Prop where
 glt : g < w.heap.size
 few : R.length <= 1000
 kfew : k <= 1000
 br : w.cell? ⟨Br, 0, none⟩ = some (.slice (some ⟨g, 0, none⟩) R.length cap)
 bi : w.cell? ⟨Bi, 0, none⟩ = some (.int .i64 (k : Int))
 row : ∀ j x, R[j]? = some x -> w.cell? ⟨g, j, none⟩ = some (en x)
theorem OthAt.keep {w w' : World} {S : List Nat} {Br Bi g cap k : Nat} {α : Type} {en : α -> Value} {R : List α} (h : OthAt en w Br Bi g cap k R) (hc : Chg S w w') (h1 : Br ∉ S) (h2 : Bi ∉ S) (h3 : g ∉ S) : OthAt en w' Br Bi g cap k R :=
 ⟨Nat.lt_of_lt_of_le h.glt hc.size, h.few, h.kfew, hc.cell h.br h1, hc.cell h.bi h2, fun j x hx => hc.cell (h.row j x hx) h3⟩
theorem OthAt.below {w w' : World} {Br Bi g cap k : Nat} {α : Type} {en : α -> Value} {R : List α} (h : OthAt en w Br Bi g cap k R) (hW : Below w.heap.size w w') : OthAt en w' Br Bi g cap k R :=
 ⟨Nat.lt_of_lt_of_le h.glt hW.size, h.few, h.kfew, (hW.cell (World.block_lt_of_cell? w _ h.br)).trans h.br, (hW.cell (World.block_lt_of_cell? w _ h.bi)).trans h.bi, fun j x hx => (hW.cell (World.block_lt_of_cell? w _ (h.row j x hx))).trans (h.row j x hx)⟩
theorem others_stops (n : Nat) (hn : 1 <= n) {Br Bi g cap k : Nat} {α : Type} {en : α -> Value} {R : List α} {w : World} (h : OthAt en w Br Bi g cap k R) :
  SeqStopsK Fence.wide n Tryz.prog 185 #[.pointer (some ⟨Br, 0, none⟩), .pointer (some ⟨Bi, 0, none⟩)] (venc en) (KpO g Bi) (fun ys => ys = R.eraseIdx k) (fun _ => True) R.length w := fun l J Jx W hW hJ hJx hY h0 =>
 others1_in en n hn l Br Bi g cap k R h.few J Jx W hJ hY (h.below hW).br (h.below hW).bi (h.below hW).row h.kfew h0
theorem others_any (a : Addr) (len cap : Nat) (k : Int) (w : World) : Calls Tryz.prog 176 #[.slice (some a) len cap, .int .i64 k] w fun e w' => e = .returned (othV w.heap.size (w.heap.size + 1)) /\ w' = (w.alloc (.cells #[.slice (some a) len cap] 67)).alloc (.cells #[.int .i64 k] 3) := by
 have hmf : ∀ (fn : Fn) (first cap : Array Value) (w : World), (Instr.makeFunc fn first cap).run Tryz.prog w = .ok (.func fn first cap) w := fun _ _ _ _ => rfl
 go_enter Tryz.func176, Tryz.ntmps176
 go_wp2
 go_ret
 exact ⟨rfl, rfl⟩
theorem longest1_any (n : Nat) (a : Option Addr) (len cap : Nat) (w : World) : Calls Tryz.prog 187 #[.int .i64 (n : Int), .slice a len cap] w fun e w' => e = .returned (.int .i64 ((max n len : Nat) : Int)) /\ w = w' := by
 go_enter Tryz.func187, Tryz.ntmps187
 go_wp2
 all_goals
  go_ret
  exact ⟨ret_int (by omega), rfl⟩
theorem foldI_any {w0 : World} {m : Nat} {Br Bi g cap k : Nat} {R : List (RowOf w0 m)} (w : World) (h : OthAt (fun x : RowOf w0 m => x.1.1) w Br Bi g cap k R) :
  Calls Tryz.prog 186 #[othV Br Bi, .int .i64 0, .func (.func 187) #[] #[]] w fun e w' => e = .returned (.int .i64 (longestL ((R.eraseIdx k).map (·.1.2)) : Int)) /\ Chg [] w w' := by
 obtain ⟨w1, hw1⟩ : ∃ w1, w1 = (w.alloc (.cells #[.int .i64 0] 3)).alloc (.cells #[.func (.func 187) #[] #[]] 241) := ⟨_, rfl⟩
 have hs1 : w1.heap.size = w.heap.size + 2 := by rw [hw1]; simp
 have hc1 : Chg [] w w1 := by rw [hw1]; exact ((Chg.refl _ _).alloc _).alloc _
 have hx1 : w1.heap[w.heap.size]? = some (.cells #[.int .i64 0] 3 (0, 0)) := by rw [hw1]; exact blk_alloc (heap_alloc_new w _)
 have hf1 : w1.heap[w.heap.size + 1]? = some (.cells #[.func (.func 187) #[] #[]] 241 (0, 0)) := by
  rw [hw1]
  have := heap_alloc_new (w.alloc (.cells #[.int .i64 0] 3)) (.cells #[.func (.func 187) #[] #[]] 241)
  simpa using this
 have HO := LH (h.keep hc1 (by simp) (by simp) (by simp))
 have hglt := h.glt
 have hbilt := World.block_lt_of_cell? w _ h.bi
 have HW1 := LH hw1
 have HX1 := LH hx1
 have HF1 := LH hf1
 have HC1 := LH hc1
 clear hw1 hx1 hf1 hc1 h
 refine (callsIn_wide (n := 5)).1 ?_
 refine callsIn_of_wp_marks Tryz.func186 rfl trivial ?_ rfl
 simp only [Tryz.ntmps186, List.size_toArray, List.length_cons, List.length_nil, Nat.reduceAdd, Nat.reduceSub, Array.replicate_succ, Array.replicate_zero, List.push_toArray, List.append_toArray, List.nil_append, List.cons_append]
 gi_wp2_with fail
 rw [<- HW1.out]
 refine wpIn_rangeFunc_ownH rfl (by omega) (gf := 185) (lb := #[.pointer (some ⟨Br, 0, none⟩), .pointer (some ⟨Bi, 0, none⟩)]) rfl trivial (enters_of Tryz.func185 (by kernel_rfl) rfl)
  (others_stops 4 (by omega) HO.out) (fun h1 h2 => ⟨h2.1.trans h1.1, h2.2.trans h1.2⟩)
  (fun W l o o' hl hh _ _ => ⟨World.putObj_heap_other (by omega), World.putObj_heap_other (by omega)⟩) (Below.refl _ _) (fun _ => rfl)
  (fun pre W => W.heap[w.heap.size]? = some (.cells #[.int .i64 (longestL (pre.map (·.1.2)) : Int)] 3 (0, 0)) /\ W.heap[w.heap.size + 1]? = some (.cells #[.func (.func 187) #[] #[]] 241 (0, 0)) /\ Chg [w.heap.size] w1 W) (fun _ _ _ => False)
  (fun s A B row hs hg hr => ⟨(blk_turn hs.1 hg (fun r e => (hr r e).2)).trans hs.1, (blk_turn hs.2.1 hg (fun r e => (hr r e).2)).trans hs.2.1, chg_turn hs.2.2 hg (fun r e => (hr r e).1)⟩) (fun c s A B row hs _ _ => hs)
  ⟨HX1.out, HF1.out, Chg.refl _ _⟩
  (fun x a' W => a' = { tmps := #[othV Br Bi, .int .i64 0, .func (.func 187) #[] #[], undef, .pointer (some ⟨w.heap.size, 0, none⟩), .pointer (some ⟨w.heap.size + 1, 0, none⟩), .int .i64 0, x.1.1, othV Br Bi, x.1.1, undef, undef, undef, undef, undef], defers := [] })
  (fun x a' s A B row h1 hg hr => h1) ?assign ?body ?done ?stop
 case stop =>
  rintro D c pre W _ _ h _
  exact h.elim
 case assign =>
  rintro l pre x W K hI hK
  refine wpIn_region_lit ?_
  simp [venc]
  gi_wp2_with fail
  exact hK _ _ ((KeepsOthers.refl _).from _) ⟨rfl, rfl⟩ hI rfl
 case body =>
  rintro l pre x a' W hl ⟨r, hr⟩ ⟨hX, hF, hC⟩ rfl hlt
  have x0 := blk_cell hX 0 _ rfl
  have x1 := blk_frozen hX 0
  have x2 := blk_lt hX
  have f0 := blk_cell hF 0 _ rfl
  obtain ⟨⟨xv, xl⟩, hxb, hxl⟩ := x
  obtain ⟨xa, xc, hxv⟩ := hxb.slice
  dsimp only at hxv hxb
  subst hxv
  have HN : Hid (ownPostG w1.heap.size (KpO g Bi) (fun pre W => W.heap[w.heap.size]? = some (.cells #[.int .i64 (longestL (pre.map (·.1.2)) : Int)] 3 (0, 0)) /\ W.heap[w.heap.size + 1]? = some (.cells #[.func (.func 187) #[] #[]] 241 (0, 0)) /\ Chg [w.heap.size] w1 W) (fun _ _ _ => False)
    (pre ++ [⟨(.slice xa xl.length xc, xl), hxb, hxl⟩]) W Exit.normal { tmps := #[], defers := [] } (W.setCell ⟨w.heap.size, 0, none⟩ (.int .i64 ((max (longestL (pre.map (·.1.2))) xl.length : Nat) : Int)))) := LH (by
   refine ⟨⟨by simp [World.setCell], fun k o hk ho _ => ?_⟩, ⟨?_, ?_⟩, ?_, ?_, ?_⟩
   ·rw [blk_sets ho (by omega)]
   ·exact Below.heap_setCell W ⟨w.heap.size, 0, none⟩ _ g (show g ≠ w.heap.size by omega)
   ·exact Below.heap_setCell W ⟨w.heap.size, 0, none⟩ _ Bi (show Bi ≠ w.heap.size by omega)
   ·rw [List.map_append, longest_app]
    exact set_blk hX
   ·exact blk_sets hF (by omega)
   ·exact hC.setCell (.inl (by simp)) _)
  clear hX hF hC hr
  gi_wp2_with fail
  refine ⟨trivial, ((wide_r l).calls (longest1_any _ xa xl.length xc W)).mono ?_⟩
  rintro e w' ⟨rfl, hq⟩
  subst hq
  gi_wp2
  exact HN.out
 case done =>
  rintro D ys W hDs rfl ⟨hX, hF, hC⟩ hK
  have x0 := blk_cell hX 0 _ rfl
  have HK' := LH hK
  have HC := LH (chg_turn ((HC1.out.mono (T := []) (by simp)).trans hC (fun x hx => .inr (by simp at hx; omega))) (grownBy_putObj' _ D (.deferred none)) (fun r e => by cases e; omega))
  clear hX hF hC hK
  gi_wp2
  refine ⟨by simp, .inl ⟨_, _, rfl, run_takeDeferred HK'.out, ?_⟩⟩
  exact ⟨_, results_tmp rfl _ _ _, rfl, HC.out⟩
theorem OthAt.sub {w w0 : World} {m Br Bi g cap k : Nat} {R : List (RowOf w0 m)} (h : OthAt (fun x : VRow => x.1) w Br Bi g cap k (R.map (·.1))) : OthAt (fun x : RowOf w0 m => x.1.1) w Br Bi g cap k R :=
 ⟨h.glt, by have := h.few; simpa using this, h.kfew, by have := h.br; simpa using this, h.bi, fun j x hx => h.row j x.1 (by rw [List.getElem?_map, hx]; rfl)⟩
theorem er_map {α β : Type} (f : α -> β) : ∀ (l : List α) (k : Nat), (l.eraseIdx k).map f = (l.map f).eraseIdx k
 | [], _ => rfl
 | a :: l, 0 => rfl
 | a :: l, k + 1 => by simp [er_map f l k]
theorem plongest_any {w0 : World} {Br Bi g cap k : Nat} {R : List VRow} (w : World) (hR : ∀ x ∈ R, BytesAt w0 x.1 x.2 /\ x.2.length <= 100000) (h : OthAt (fun x : VRow => x.1) w Br Bi g cap k R) :
  Calls Tryz.prog 177 #[othV Br Bi] w fun e w' => e = .returned (.int .i64 (longestL ((R.eraseIdx k).map (·.2)) : Int)) /\ Chg [] w w' := by
 obtain ⟨R', rfl⟩ := rows_of w0 100000 R hR
 have CF := LH (foldI_any w h.sub)
 rw [show (List.map (fun x : RowOf w0 100000 => x.1.2) (R'.eraseIdx k)) = ((R'.map (·.1)).eraseIdx k).map (·.2) by rw [<- er_map, List.map_map]; rfl] at CF
 clear h
 go_enter Tryz.func177, Tryz.ntmps177
 go_wp2_with fail
 refine CF.out.mono ?_
 rintro e w' ⟨rfl, hc⟩
 have HC := LH hc
 clear hc CF
 go_wp2
 go_ret
 exact ⟨rfl, HC.out⟩
end
section
open Go.RowKit Go.Shelf
attribute [local go_sem] Oper.semAt_some
theorem ofInt_u8 (a : Nat) (ha : a < 256) : (BitVec.ofInt 8 (a : Int)).toNat = a := by
 rw [BitVec.ofInt_natCast, BitVec.toNat_ofNat]; exact Nat.mod_eq_of_lt (by omega)
theorem u8_xor (x y : UInt8) : bits .xor .u8 (x.toNat : Int) (y.toNat : Int) = ((x ^^^ y).toNat : Int) := by
 have h1 : x.toNat < 256 := x.toNat_lt
 have h2 : y.toNat < 256 := y.toNat_lt
 have h3 : (x ^^^ y).toNat < 256 := (x ^^^ y).toNat_lt
 show IntKind.u8.wrap ((BitVec.ofInt 8 (x.toNat : Int) ^^^ BitVec.ofInt 8 (y.toNat : Int)).toNat : Int) = _
 rw [BitVec.toNat_xor, ofInt_u8 _ h1, ofInt_u8 _ h2]
 have e : (x ^^^ y).toNat = x.toNat ^^^ y.toNat := UInt8.toNat_xor x y
 rw [<- e]
 exact IntWalk.u8_in _ ⟨by omega, by omega⟩
theorem xor1_step : ∀ (o r : List UInt8) (q : Nat), q < r.length -> r.length <= o.length -> xor1 o (r.take (q + 1)) = (xor1 o (r.take q)).set q (o.getD q 0 ^^^ r.getD q 0)
 | [], [], q, h, _ => by simp at h
 | [], b :: r, q, h, hl => by simp at hl
 | a :: o, [], q, h, _ => by simp at h
 | a :: o, b :: r, 0, h, hl => by simp [xor1]; cases o <;> rfl
 | a :: o, b :: r, q + 1, h, hl => by
  have := xor1_step o r q (by simpa using h) (by simpa using hl)
  simp only [List.take_succ_cons, xor1, List.set_cons_succ, List.getD_cons_succ]
  rw [this]
theorem xor1_nil (o : List UInt8) : xor1 o [] = o := by cases o <;> rfl
def BlkB (w : World) (b : Nat) (l : List UInt8) : Prop := w.heap[b]? = some (.cells (bvs l).toArray 5 (0, 0))
theorem BlkB.cell {w : World} {b : Nat} {l : List UInt8} (h : BlkB w b l) (i : Nat) (hi : i < l.length) : w.cell? ⟨b, i, none⟩ = some (.int .u8 ((l.getD i 0).toNat : Int)) := by
 refine blk_cell h i _ ?_
 have := bvs_at l i hi
 unfold bv at this
 simpa using this
theorem BlkB.set {w : World} {b : Nat} {l : List UInt8} (h : BlkB w b l) (i : Nat) (hi : i < l.length) (c : UInt8) : BlkB (w.setCell ⟨b, i, none⟩ (.int .u8 (c.toNat : Int))) b (l.set i c) := by
 have h1 := set_blk (j := i) (u := .int .u8 (c.toNat : Int)) h
 unfold BlkB
 rw [h1]
 have e : (bvs l).toArray.setIfInBounds i (.int .u8 (c.toNat : Int)) = (bvs (l.set i c)).toArray := by
  unfold bvs
  rw [List.setIfInBounds_toArray, List.map_set]
  rfl
 rw [e]
theorem sum1_any (ob : Nat) (o r : List UInt8) (v : Value) (w : World) (ho : BlkB w ob o) (hv : BytesAt w v r) (hvb : r ≠ [] -> ∀ k, v.ownBlock = some k -> k ≠ ob) (hl : r.length <= o.length) (ho6 : o.length <= 1000000) :
  Calls Tryz.prog 184 #[.slice (some ⟨ob, 0, none⟩) o.length o.length, v] w fun e w' => e = .returned (.slice (some ⟨ob, 0, none⟩) o.length o.length) /\ BlkB w' ob (xor1 o r) /\ Chg [ob] w w' := by
 obtain ⟨a, cap, rfl, h1, h2, h3⟩ := hv
 have H3 := LH h3
 have HO := LH ho
 have HVB := LH hvb
 clear h3 ho hvb
 go_enter Tryz.func184, Tryz.ntmps184
 go_wp2
 go_loopg [9] r.length (fun g' s9 wr => ∃ q : Nat, s9 = .int .i64 q /\ q <= r.length /\ r.length <= q + g' /\ Hid (BlkB wr ob (xor1 o (r.take q)) /\ Chg [ob] w wr))
 case atStart => exact ⟨0, rfl, by omega, by omega, LH ⟨by rw [List.take_zero, xor1_nil]; exact HO.out, Chg.refl _ _⟩⟩
 case round =>
  obtain ⟨q, rfl, hq, hqg, HR⟩ := hrel
  by_cases hlt : q < r.length
  ·rcases H3.out with ⟨h0, _⟩ | ⟨g, oo, rfl, hcell⟩
   ·rw [h0] at hlt; simp at hlt
   have hgo : g ≠ ob := HVB.out (fun e => by rw [e] at hlt; simp at hlt) g rfl
   have hcl : wr.cell? ⟨g, oo + q, none⟩ = some (.int .u8 ((r.getD q 0).toNat : Int)) := HR.out.2.cell (hcell q hlt) (by simpa using hgo)
   have hql : q < (xor1 o (r.take q)).length := by rw [xor1_len]; omega
   have hqo : q < o.length := by omega
   have hco : wr.cell? ⟨ob, q, none⟩ = some (.int .u8 ((o.getD q 0).toNat : Int)) := by
    have := HR.out.1.cell q hql
    rwa [xor1_at' o _ q hqo (by rw [List.length_take]; omega)] at this
   have hfo : wr.frozen? ⟨ob, q, none⟩ = false := blk_frozen HR.out.1 q
   have hlo := blk_lt HR.out.1
   have HX := LH (xor1_step o r q hlt hl)
   have HN : Hid (BlkB (wr.setCell ⟨ob, q, none⟩ (.int .u8 ((o.getD q 0 ^^^ r.getD q 0).toNat : Int))) ob (xor1 o (r.take (q + 1))) /\ Chg [ob] w (wr.setCell ⟨ob, q, none⟩ (.int .u8 ((o.getD q 0 ^^^ r.getD q 0).toNat : Int)))) := LH ⟨by rw [HX.out]; exact HR.out.1.set q hql _, HR.out.2.setCell (.inl (by simp)) _⟩
   have hxx := u8_xor (o.getD q 0) (r.getD q 0)
   generalize o.getD q 0 = c1 at *
   generalize r.getD q 0 = c2 at *
   have hqz : (q : Int) < (r.length : Int) := by omega
   have hqz1 : (q : Int).toNat = q := by omega
   have hqo2 : (q : Int) < (o.length : Int) := by omega
   clear hcell
   go_wp2
   go_roundg (gk - 1)
   case measure => omega
   case rel => exact ⟨q + 1, by go_num, by omega, by omega, HN⟩
  ·have hkn : q = r.length := by omega
   have HK : Hid (r.take q = r) := LH (by rw [hkn, List.take_length])
   have HR2 := HR.out
   rw [HK.out] at HR2
   have HR3 := LH HR2
   clear hkn HR2
   go_wp2
   go_ret
   exact ⟨rfl, HR3.out⟩
theorem foldB_any {w0 : World} {Br Bi g cap k m : Nat} {R : List (RowOf w0 m)} (ob : Nat) (o : List UInt8) (w : World) (hom : o.length = m) (hc0 : Chg [] w0 w) (hob : w0.heap.size <= ob) (ho : BlkB w ob o) (ho6 : m <= 1000000) (hgob : g ≠ ob) (hrob : Br ≠ ob) (hbob : Bi ≠ ob) (h : OthAt (fun x : RowOf w0 m => x.1.1) w Br Bi g cap k R) :
  Calls Tryz.prog 183 #[othV Br Bi, .slice (some ⟨ob, 0, none⟩) m m, .func (.func 184) #[] #[]] w fun e w' => e = .returned (.slice (some ⟨ob, 0, none⟩) m m) /\ BlkB w' ob (((R.eraseIdx k).map (·.1.2)).foldl xor1 o) /\ Chg [ob] w w' := by
 obtain ⟨w1, hw1⟩ : ∃ w1, w1 = (w.alloc (.cells #[.slice (some ⟨ob, 0, none⟩) m m] 22)).alloc (.cells #[.func (.func 184) #[] #[]] 239) := ⟨_, rfl⟩
 have hs1 : w1.heap.size = w.heap.size + 2 := by rw [hw1]; simp
 have hc1 : Chg [] w w1 := by rw [hw1]; exact ((Chg.refl _ _).alloc _).alloc _
 have hx1 : w1.heap[w.heap.size]? = some (.cells #[.slice (some ⟨ob, 0, none⟩) m m] 22 (0, 0)) := by rw [hw1]; exact blk_alloc (heap_alloc_new w _)
 have hf1 : w1.heap[w.heap.size + 1]? = some (.cells #[.func (.func 184) #[] #[]] 239 (0, 0)) := by
  rw [hw1]
  have := heap_alloc_new (w.alloc (.cells #[.slice (some ⟨ob, 0, none⟩) m m] 22)) (.cells #[.func (.func 184) #[] #[]] 239)
  simpa using this
 have HO := LH (h.keep hc1 (by simp) (by simp) (by simp))
 have hglt := h.glt
 have hbilt := World.block_lt_of_cell? w _ h.bi
 have hobl := blk_lt ho
 have HB1 := LH (show BlkB w1 ob o from hc1.keep ho (by simp))
 have HC01 := LH (hc0.trans hc1 (by simp))
 have HW1 := LH hw1
 have HX1 := LH hx1
 have HF1 := LH hf1
 have HC1 := LH hc1
 have HOM := LH hom
 clear hw1 hx1 hf1 hc1 h ho hc0 hom
 refine (callsIn_wide (n := 5)).1 ?_
 refine callsIn_of_wp_marks Tryz.func183 rfl trivial ?_ rfl
 simp only [Tryz.ntmps183, List.size_toArray, List.length_cons, List.length_nil, Nat.reduceAdd, Nat.reduceSub, Array.replicate_succ, Array.replicate_zero, List.push_toArray, List.append_toArray, List.nil_append, List.cons_append]
 gi_wp2_with fail
 rw [<- HW1.out]
 refine wpIn_rangeFunc_ownH rfl (by omega) (gf := 185) (lb := #[.pointer (some ⟨Br, 0, none⟩), .pointer (some ⟨Bi, 0, none⟩)]) rfl trivial (enters_of Tryz.func185 (by kernel_rfl) rfl)
  (others_stops 4 (by omega) HO.out) (fun h1 h2 => ⟨h2.1.trans h1.1, h2.2.trans h1.2⟩)
  (fun W l o o' hl hh _ _ => ⟨World.putObj_heap_other (by omega), World.putObj_heap_other (by omega)⟩) (Below.refl _ _) (fun _ => rfl)
  (fun pre W => W.heap[w.heap.size]? = some (.cells #[.slice (some ⟨ob, 0, none⟩) m m] 22 (0, 0)) /\ W.heap[w.heap.size + 1]? = some (.cells #[.func (.func 184) #[] #[]] 239 (0, 0)) /\ BlkB W ob ((pre.map (·.1.2)).foldl xor1 o) /\ Chg [w.heap.size, ob] w1 W) (fun _ _ _ => False)
  (fun s A B row hs hg hr => ⟨(blk_turn hs.1 hg (fun r e => (hr r e).2)).trans hs.1, (blk_turn hs.2.1 hg (fun r e => (hr r e).2)).trans hs.2.1, (by have h5 : A.heap[ob]? = _ := hs.2.2.1; exact (blk_turn h5 hg (fun r e => (hr r e).2)).trans h5), chg_turn hs.2.2.2 hg (fun r e => (hr r e).1)⟩) (fun c s A B row hs _ _ => hs)
  ⟨HX1.out, HF1.out, HB1.out, Chg.refl _ _⟩
  (fun x a' W => a' = { tmps := #[othV Br Bi, .slice (some ⟨ob, 0, none⟩) m m, .func (.func 184) #[] #[], undef, .pointer (some ⟨w.heap.size, 0, none⟩), .pointer (some ⟨w.heap.size + 1, 0, none⟩), .slice none 0 0, x.1.1, othV Br Bi, x.1.1, undef, undef, undef, undef, undef], defers := [] })
  (fun x a' s A B row h1 hg hr => h1) ?assign ?body ?done ?stop
 case stop =>
  rintro D c pre W _ _ h _
  exact h.elim
 case assign =>
  rintro l pre x W K hI hK
  refine wpIn_region_lit ?_
  simp [venc]
  gi_wp2_with fail
  exact hK _ _ ((KeepsOthers.refl _).from _) ⟨rfl, rfl⟩ hI rfl
 case body =>
  rintro l pre x a' W hl ⟨r, hr⟩ ⟨hX, hF, hB, hC⟩ rfl hlt
  have x0 := blk_cell hX 0 _ rfl
  have f0 := blk_cell hF 0 _ rfl
  obtain ⟨⟨xv, xl⟩, hxb, hxl⟩ := x
  dsimp only at hxl hxb
  have hfl : ((pre.map (·.1.2)).foldl xor1 o).length = m := by rw [xors_len]; exact HOM.out
  have hxW : BytesAt W xv xl := hxb.chgW ((HC01.out.mono (T := [w.heap.size, ob]) (by simp)).trans hC (fun x hx => .inl hx)) (fun hne q hq hm => by
   have h1 := hxb.lt hne q hq
   have h2 := HC01.out.size
   simp at hm
   omega)
  have CS := LH (sum1_any ob _ xl xv W hB hxW (fun hne q hq e => by have h1 := hxb.lt hne q hq; omega) (by rw [hfl]; exact hxl) (by rw [hfl]; exact ho6))
  rw [hfl] at CS
  have HX := LH hX
  have HF := LH hF
  have HC := LH hC
  clear hX hF hC hB hr hxW
  gi_wp2_with fail
  refine ⟨trivial, ((wide_r l).calls CS.out).mono ?_⟩
  rintro e W2 ⟨rfl, hB2, hC2⟩
  have hne : w.heap.size ≠ ob := by omega
  have hX2 := hC2.keep HX.out (by simpa using hne)
  have hF2 := hC2.keep HF.out (by simp; omega)
  have y0 := blk_cell hX2 0 _ rfl
  have y1 := blk_frozen hX2 0
  have y2 := blk_lt hX2
  have HN : Hid (ownPostG w1.heap.size (KpO g Bi) (fun pre W => W.heap[w.heap.size]? = some (.cells #[.slice (some ⟨ob, 0, none⟩) m m] 22 (0, 0)) /\ W.heap[w.heap.size + 1]? = some (.cells #[.func (.func 184) #[] #[]] 239 (0, 0)) /\ BlkB W ob ((pre.map (·.1.2)).foldl xor1 o) /\ Chg [w.heap.size, ob] w1 W) (fun _ _ _ => False)
    (pre ++ [⟨(xv, xl), hxb, hxl⟩]) W Exit.normal { tmps := #[], defers := [] } (W2.setCell ⟨w.heap.size, 0, none⟩ (.slice (some ⟨ob, 0, none⟩) m m))) := LH (by
   refine ⟨⟨by have := hC2.size; simpa [World.setCell] using this, fun k o hk ho _ => ?_⟩, ⟨?_, ?_⟩, ?_, ?_, ?_, ?_⟩
   ·exact blk_sets (hC2.keep ho (by simp; omega)) (by omega)
   ·rw [Below.heap_setCell W2 ⟨w.heap.size, 0, none⟩ _ g (show g ≠ w.heap.size by omega)]
    exact hC2.block g (by have := HC.out.size; omega) (by simpa using hgob)
   ·rw [Below.heap_setCell W2 ⟨w.heap.size, 0, none⟩ _ Bi (show Bi ≠ w.heap.size by omega)]
    exact hC2.block Bi (by have := HC.out.size; omega) (by simpa using hbob)
   ·exact set_blk hX2
   ·exact blk_sets hF2 (by omega)
   ·rw [List.map_append, List.foldl_append]
    exact blk_sets hB2 (Ne.symm hne)
   ·exact ((HC.out.trans hC2 (fun x hx => .inl (by simp at hx ⊢; exact .inr hx))).setCell (.inl (by simp)) _))
  clear hX2 hF2 hC2 hB2 x0 f0
  gi_wp2
  exact HN.out
 case done =>
  rintro D ys W hDs rfl ⟨hX, hF, hB, hC⟩ hK
  have x0 := blk_cell hX 0 _ rfl
  have HK' := LH hK
  have HC := LH (chg_turn (S := [ob]) ((HC1.out.mono (T := [ob]) (by simp)).trans hC (fun x hx => by simp at hx ⊢; omega)) (grownBy_putObj' _ D (.deferred none)) (fun r e => by cases e; omega))
  have HB := LH (show BlkB (W.putObj D (.deferred none)) ob _ from (World.putObj_heap_other (show ob ≠ D by omega)).trans hB)
  clear hX hF hC hB hK
  gi_wp2
  refine ⟨by simp, .inl ⟨_, _, rfl, run_takeDeferred HK'.out, ?_⟩⟩
  exact ⟨_, results_tmp rfl _ _ _, rfl, HB.out, HC.out⟩
end
section
open Go.RowKit Go.Shelf
theorem make_row {t e : TypeId} {z : Value} {sz by' : Nat} (hu : Tryz.prog.underlying t = some (.slice e)) (hf : (Tryz.prog.info? e).map (fun i => (i.zero, i.size, i.bytes)) = some (some z, 1, by')) (hb : by' <= 100) (hz : z.cells = #[z]) (n : Nat) (hn : n <= 1000000) (w : World) :
  (Instr.makeSlice t (.int .i64 (n : Int)) (.int .i64 (n : Int))).run Tryz.prog w = .ok (.slice (some ⟨w.heap.size, 0, none⟩) n n) (w.alloc (.cells (List.replicate n z).toArray e)) := by
 obtain ⟨i, hi, h1, h2, h3⟩ := info_parts hf
 have hnb : (by' : Int) * (n : Int) <= ((100 * 1000000 : Nat) : Int) := by rw [<- Int.natCast_mul]; exact Int.ofNat_le.2 (Nat.mul_le_mul hb hn)
 have h := run_make (P := Tryz.prog) w t e i _ hu hi h1 .i64 .i64 n n (by omega) (Int.le_refl _) (by rw [h3]; omega) (by omega)
 rw [h2] at h
 have hz' : madeCells z.cells ((n : Int).toNat * 1) = (List.replicate n z).toArray := by
  rw [Int.toNat_natCast, Nat.mul_one, hz]
  apply Array.ext
  ·rw [size_madeCells]; simp
  ·intro i h1 h2
   simp [madeCells, Nat.mod_one]
 rw [hz'] at h
 exact h
theorem facts_u8F : (Tryz.prog.info? 5).map (fun i => (i.zero, i.size, i.bytes)) = some (some (.int .u8 0), 1, 1) := by kernel_rfl
theorem facts_bsF : (Tryz.prog.info? 22).map (fun i => (i.zero, i.size, i.bytes)) = some (some (.slice none 0 0), 1, 24) := by kernel_rfl
theorem facts_intF : (Tryz.prog.info? 3).map (fun i => (i.zero, i.size, i.bytes)) = some (some (.int .i64 0), 1, 8) := by kernel_rfl
theorem makeF_bytes (n : Nat) (hn : n <= 1000000) (w : World) : (Instr.makeSlice 22 (.int .i64 (n : Int)) (.int .i64 (n : Int))).run Tryz.prog w = .ok (.slice (some ⟨w.heap.size, 0, none⟩) n n) (w.alloc (.cells (bvs (List.replicate n 0)).toArray 5)) := by
 have h := make_row (sz := 0) Tryz.underlying22 facts_u8F (by omega) rfl n hn w
 rw [show bvs (List.replicate n 0) = List.replicate n (.int .u8 0) by unfold bvs; rw [List.map_replicate]; rfl]
 exact h
theorem makeF_bbs (n : Nat) (hn : n <= 1000000) (w : World) : (Instr.makeSlice 67 (.int .i64 (n : Int)) (.int .i64 (n : Int))).run Tryz.prog w = .ok (.slice (some ⟨w.heap.size, 0, none⟩) n n) (w.alloc (.cells (Array.replicate n (.slice none 0 0)) 22)) := by
 rw [<- List.toArray_replicate]
 exact make_row (sz := 0) Tryz.underlying67 facts_bsF (by omega) rfl n hn w
theorem makeF_ints (n : Nat) (hn : n <= 1000000) (w : World) : (Instr.makeSlice 76 (.int .i64 (n : Int)) (.int .i64 (n : Int))).run Tryz.prog w = .ok (.slice (some ⟨w.heap.size, 0, none⟩) n n) (w.alloc (.cells (Array.replicate n (.int .i64 0)) 3)) := by
 rw [<- List.toArray_replicate]
 exact make_row (sz := 0) Tryz.underlying76 facts_intF (by omega) rfl n hn w
theorem psum_any {w0 : World} {Br Bi g cap k : Nat} {R : List VRow} (w : World) (hc0 : Chg [] w0 w) (hR : ∀ x ∈ R, BytesAt w0 x.1 x.2 /\ x.2.length <= 100000 /\ x.2.length <= longestL ((R.eraseIdx k).map (·.2))) (h : OthAt (fun x : VRow => x.1) w Br Bi g cap k R) :
  Calls Tryz.prog 175 #[othV Br Bi] w fun e w' => ∃ ob, w.heap.size <= ob /\ e = .returned (.slice (some ⟨ob, 0, none⟩) (longestL ((R.eraseIdx k).map (·.2))) (longestL ((R.eraseIdx k).map (·.2)))) /\ BlkB w' ob (sumL ((R.eraseIdx k).map (·.2))) /\ Chg [] w w' := by
 have CL := LH (plongest_any (w0 := w0) w (fun x hx => ⟨(hR x hx).1, (hR x hx).2.1⟩) h)
 have HR := LH hR
 have HO := LH h
 have HC0 := LH hc0
 have hm : longestL ((R.eraseIdx k).map (·.2)) <= 100000 := longest_le (fun r hr => by
  obtain ⟨x, hx, rfl⟩ := List.mem_map.1 hr
  exact (hR x (List.mem_of_mem_eraseIdx hx)).2.1)
 have HS : Hid (sumL ((R.eraseIdx k).map (·.2)) = ((R.eraseIdx k).map (·.2)).foldl xor1 (List.replicate (longestL ((R.eraseIdx k).map (·.2))) 0)) := LH rfl
 obtain ⟨m, hmm⟩ : ∃ m, m = longestL ((R.eraseIdx k).map (·.2)) := ⟨_, rfl⟩
 rw [<- hmm] at CL HR hm HS ⊢
 have HMM := LH hmm
 clear hR h hc0 hmm
 go_enter Tryz.func175, Tryz.ntmps175
 go_wp2_with fail
 refine CL.out.mono ?_
 rintro e w1 ⟨rfl, hc1⟩
 have hmk := makeF_bytes m (by omega) w1
 have HC1 := LH hc1
 clear hc1 CL
 go_wp2_with fail
 have hg2 : g ≠ w1.heap.size := by have := HO.out.glt; have := HC1.out.size; omega
 have hr2 : Br ≠ w1.heap.size := by have h1 : Br < w.heap.size := World.block_lt_of_cell? w _ HO.out.br; have := HC1.out.size; omega
 have hb2 : Bi ≠ w1.heap.size := by have h1 : Bi < w.heap.size := World.block_lt_of_cell? w _ HO.out.bi; have := HC1.out.size; omega
 obtain ⟨R', hR'⟩ := rows_of w0 m R (fun x hx => ⟨(HR.out x hx).1, (HR.out x hx).2.2⟩)
 have hO2 : OthAt (fun x : VRow => x.1) (w1.alloc (.cells (bvs (List.replicate m 0)).toArray 5)) Br Bi g cap k (R'.map (·.1)) := by rw [hR']; exact HO.out.keep (HC1.out.alloc _) (by simp) (by simp) (by simp)
 have CF := LH (foldB_any (w0 := w0) w1.heap.size (List.replicate m 0) (w1.alloc (.cells (bvs (List.replicate m 0)).toArray 5)) (by simp) ((HC0.out.trans HC1.out (by simp)).alloc _) (by have := HC0.out.size; have := HC1.out.size; omega) (heap_alloc_new w1 _) (by omega) hg2 hr2 hb2 hO2.sub)
 have HE : Hid (List.map (fun x : RowOf w0 m => x.1.2) (R'.eraseIdx k) = (R.eraseIdx k).map (·.2)) := LH (by rw [<- hR', <- er_map, List.map_map]; rfl)
 rw [HE.out, <- HS.out] at CF
 clear hO2 hg2 hr2 hb2 hmk
 refine CF.out.mono ?_
 rintro e w2 ⟨rfl, hb, hc⟩
 have HB := LH hb
 have HC := LH (show Chg [] w w2 from (HC1.out.alloc (.cells (bvs (List.replicate m 0)).toArray 5)).trans hc (fun x hx => .inr (by rw [List.mem_singleton.1 hx]; exact HC1.out.size)))
 clear hb hc CF
 go_wp2
 go_ret
 exact ⟨w1.heap.size, HC1.out.size, rfl, HB.out, HC.out⟩
structure RowsAt (w : World) (g : Nat) (R : List VRow) : Prop where
 glt : g < w.heap.size
 few : R.length <= 1000
 row : ∀ j x, R[j]? = some x -> w.cell? ⟨g, j, none⟩ = some x.1
theorem RowsAt.keep {w w' : World} {S : List Nat} {g : Nat} {R : List VRow} (h : RowsAt w g R) (hc : Chg S w w') (hg : g ∉ S) : RowsAt w' g R :=
 ⟨Nat.lt_of_lt_of_le h.glt hc.size, h.few, fun j x hx => hc.cell (h.row j x hx) hg⟩
theorem RowsAt.oth {w : World} {g : Nat} {R : List VRow} (h : RowsAt w g R) (cap k : Nat) (hk : k <= 1000) : OthAt (fun x : VRow => x.1) ((w.alloc (.cells #[.slice (some ⟨g, 0, none⟩) R.length cap] 67)).alloc (.cells #[.int .i64 (k : Int)] 3)) w.heap.size (w.heap.size + 1) g cap k R := by
 have h2 := h.keep (((Chg.refl [] w).alloc (.cells #[.slice (some ⟨g, 0, none⟩) R.length cap] 67)).alloc (.cells #[.int .i64 (k : Int)] 3)) (by simp)
 refine ⟨h2.glt, h.few, hk, blk_cell (blk_alloc (heap_alloc_new w _)) 0 _ rfl, blk_cell (t := 3) (cs := #[.int .i64 (k : Int)]) ?_ 0 _ rfl, h2.row⟩
 have := heap_alloc_new (w.alloc (.cells #[.slice (some ⟨g, 0, none⟩) R.length cap] 67)) (.cells #[.int .i64 (k : Int)] 3)
 simpa using this
theorem BlkB.take {w : World} {b : Nat} {l : List UInt8} (h : BlkB w b l) (n : Nat) (hn : n <= l.length) (hl : l.length <= 1000000) : BytesAt w (.slice (some ⟨b, 0, none⟩) n n) (l.take n) := by
 have e : (l.take n).length = n := by rw [List.length_take]; omega
 refine ⟨_, n, by rw [e], by omega, by unfold maxLen; omega, .inr ⟨b, 0, rfl, fun i hi => ?_⟩⟩
 rw [Nat.zero_add, getD_take l n i (by omega)]
 exact h.cell i (by omega)
theorem pfill_any {w0 : World} {g cap k n : Nat} {R : List VRow} (w : World) (hc0 : Chg [] w0 w) (hk : k < R.length) (hn : n <= longestL ((R.eraseIdx k).map (·.2))) (hR : ∀ x ∈ R, BytesAt w0 x.1 x.2 /\ x.2.length <= 100000 /\ x.2.length <= longestL ((R.eraseIdx k).map (·.2))) (h : RowsAt w g R) :
  Calls Tryz.prog 158 #[.slice (some ⟨g, 0, none⟩) R.length cap, .int .i64 (k : Int), .int .i64 (n : Int)] w fun e w' => ∃ ob, w.heap.size <= ob /\ e = .returned (.tuple #[.slice (some ⟨ob, 0, none⟩) n n, .int .i64 0]) /\ BytesAt w' (.slice (some ⟨ob, 0, none⟩) n n) ((sumL ((R.eraseIdx k).map (·.2))).take n) /\ Chg [] w w' := by
 have hfew := h.few
 have hm : longestL ((R.eraseIdx k).map (·.2)) <= 100000 := longest_le (fun r hr => by
  obtain ⟨x, hx, rfl⟩ := List.mem_map.1 hr
  exact (hR x (List.mem_of_mem_eraseIdx hx)).2.1)
 have hsl := sumL_len ((R.eraseIdx k).map (·.2))
 have HO1 := LH (h.oth cap k (by omega))
 have CL := LH (plongest_any (w0 := w0) _ (fun x hx => ⟨(hR x hx).1, (hR x hx).2.1⟩) HO1.out)
 obtain ⟨w1, hw1⟩ : ∃ w1, w1 = (w.alloc (.cells #[.slice (some ⟨g, 0, none⟩) R.length cap] 67)).alloc (.cells #[.int .i64 (k : Int)] 3) := ⟨_, rfl⟩
 have hc1 : Chg [] w w1 := by rw [hw1]; exact ((Chg.refl _ _).alloc _).alloc _
 rw [<- hw1] at CL HO1
 have HRA := LH h
 have HR := LH hR
 have HC1 := LH hc1
 have HC0 := LH hc0
 have HW1 := LH hw1
 have h0 : ¬ (k : Int) < 0 := by omega
 have h1 : ¬ (R.length : Int) <= (k : Int) := by omega
 have h2 : ¬ (n : Int) < 0 := by omega
 have h3 : ¬ (longestL ((R.eraseIdx k).map (·.2)) : Int) < (n : Int) := by omega
 obtain ⟨m, hmm⟩ : ∃ m, m = longestL ((R.eraseIdx k).map (·.2)) := ⟨_, rfl⟩
 obtain ⟨sl, hss⟩ : ∃ sl, sl = sumL ((R.eraseIdx k).map (·.2)) := ⟨_, rfl⟩
 obtain ⟨len, hln⟩ : ∃ len, len = R.length := ⟨_, rfl⟩
 rw [<- hmm] at CL HR hm hn hsl h3
 rw [<- hss] at hsl ⊢
 have HMM := LH hmm
 have HSS := LH hss
 have HLN := LH hln
 rw [<- hln] at h1 ⊢
 clear hR h hc0 hmm hss hc1 hw1 hk hfew hln
 go_enter Tryz.func158, Tryz.ntmps158
 go_wp2_with (go_at_call 176; refine (others_any _ _ _ _ _).mono ?_; rintro e w' ⟨rfl, hq⟩; subst hq)
 rw [HLN.out, <- HW1.out]
 refine CL.out.mono ?_
 rintro e w2 ⟨rfl, hc2⟩
 have HC2 := LH (HC1.out.trans hc2 (by simp))
 have HO2 := LH ((HRA.out.keep (HC1.out.trans hc2 (by simp)) (by simp)).oth cap k (by have := HO1.out.kfew; omega))
 clear hc2 CL
 go_wp2_with (go_at_call 176; refine (others_any _ _ _ _ _).mono ?_; rintro e w' ⟨rfl, hq⟩; subst hq)
 refine (psum_any (w0 := w0) _ (((HC0.out.trans HC2.out (by simp)).alloc _).alloc _) (by rw [<- HMM.out]; exact HR.out) HO2.out).mono ?_
 rw [<- HMM.out, <- HSS.out]
 rintro e w4 ⟨ob, hob, rfl, hb, hc⟩
 have HB := LH (hb.take n (by omega) (by omega))
 have HC := LH (((HC2.out.alloc _).alloc _).trans hc (by simp))
 have HOB : Hid (w.heap.size <= ob) := LH (by have := HC2.out.size; simp at hob; omega)
 clear hb hc hob
 have hnm : (n : Int) <= (m : Int) := by omega
 go_wp2
 go_ret2
 exact ⟨ob, HOB.out, rfl, HB.out, HC.out⟩
end
section
open Go.RowKit Go.Shelf
theorem rowsN_len (data : List UInt8) (n : Nat) : (rowsN data n).length = n := by simp [rowsN]
theorem rowsN_at (data : List UInt8) (n i : Nat) (h : i < n) : (rowsN data n)[i]? = some (rowN data n i) := by simp [rowsN, h]
theorem row_le {data : List UInt8} {n i : Nat} (h : 1 <= data.length) (hn : 2 <= n) : (rowN data n i).length <= data.length := by
 rw [row_len h hn]
 exact Nat.le_trans (long_le _ _ _) (each_le h)
theorem er_set {α : Type} (l : List α) (k : Nat) (x : α) : (l.set k x).eraseIdx k = l.eraseIdx k := by
 induction l generalizing k with
 | nil => rfl
 | cons a l ih =>
  cases k with
  | zero => rfl
  | succ k => simp [ih k]
theorem lfilled_any {g cap k n : Nat} {R : List VRow} (data : List UInt8) (w : World) (hk : k < n - 1) (h3 : 3 <= n) (h16 : n <= 16) (hL : 1 <= data.length) (hL2 : data.length <= 400 * (n - 1)) (hb : R.map (·.2) = (rowsN data n).set k []) (hR : ∀ x ∈ R, BytesAt w x.1 x.2) (h : RowsAt w g R) :
  Calls Tryz.prog 133 #[.slice (some ⟨g, 0, none⟩) n cap, .int .i64 (k : Int), .int .i64 (data.length : Int), .int .i64 (n : Int)] w fun e w' => ∃ ob, w.heap.size <= ob /\ e = .returned (.slice (some ⟨ob, 0, none⟩) (partN data n k).length (partN data n k).length) /\ BytesAt w' (.slice (some ⟨ob, 0, none⟩) (partN data n k).length (partN data n k).length) (partN data n k) /\ Chg [] w w' := by
 have hRl : R.length = n := by
  have := congrArg List.length hb
  rw [List.length_map, List.length_set, rowsN_len] at this
  exact this
 have he : (R.eraseIdx k).map (·.2) = (rowsN data n).eraseIdx k := by rw [er_map, hb, er_set]
 obtain ⟨f1, f2⟩ := fill_row (data := data) (n := n) (k := k) hL (by omega) hk
 have hpl : longN data.length n k = (partN data n k).length := by rw [part_len]; unfold longN; rw [if_neg (by omega)]
 have hle : ∀ x ∈ R, x.2.length <= 100000 /\ x.2.length <= longestL ((R.eraseIdx k).map (·.2)) := fun x hx => by
  have hm : x.2 ∈ (rowsN data n).set k [] := by rw [<- hb]; exact List.mem_map.2 ⟨x, hx, rfl⟩
  obtain ⟨j, hj, hjx⟩ := List.getElem_of_mem hm
  by_cases hjk : j = k
  ·subst hjk
   rw [List.getElem_set_self] at hjx
   rw [<- hjx]
   exact ⟨by simp, by simp⟩
  ·rw [List.getElem_set_ne (by omega)] at hjx
   have hjn : j < n := by rw [List.length_set, rowsN_len] at hj; exact hj
   have hin : x.2 ∈ (R.eraseIdx k).map (·.2) := by
    rw [he, <- hjx]
    exact List.mem_eraseIdx_iff_getElem.2 ⟨j, by rw [rowsN_len]; exact hjn, by omega, rfl⟩
   have h2 : x.2.length <= data.length := by
    rw [<- hjx]
    have h4 := rowsN_at data n j hjn
    rw [List.getElem?_eq_getElem (by rw [rowsN_len]; exact hjn)] at h4
    rw [Option.some.inj h4]
    exact row_le hL (by omega)
   exact ⟨by omega, le_longest hin⟩
 have CW := LH (llong_ok ⟨0, 0, 0⟩ k data.length n w hL (by omega) h3 h16 (by omega))
 rw [hpl] at CW f1 f2
 have HF := LH (fun w' (hc : Chg [] w w') => pfill_any (w0 := w) (g := g) (cap := cap) (k := k) (n := (partN data n k).length) (R := R) w' hc (by omega) (by rw [he]; exact f1) (fun x hx => ⟨hR x hx, hle x hx⟩) (h.keep hc (by simp)))
 rw [he, f2, hRl] at HF
 generalize partN data n k = P at *
 clear f1 f2 hpl he hle hb hR h hRl
 go_enter Tryz.func133, Tryz.ntmps133
 go_wp2_with fail
 refine CW.out.mono ?_
 rintro e w1 ⟨rfl, hc1⟩
 have C2 := LH (HF.out w1 hc1)
 have HC1 := LH hc1
 clear hc1 CW HF
 go_wp2_with fail
 refine C2.out.mono ?_
 rintro e w2 ⟨ob, hob, rfl, hb, hc⟩
 have HB := LH hb
 have HC := LH (HC1.out.trans hc (by simp))
 have HOB : Hid (w.heap.size <= ob) := LH (Nat.le_trans HC1.out.size hob)
 clear hb hc hob C2
 go_wp2_with (go_at_call 113; refine (lmust_ok _ _).mono ?_; rintro e w' ⟨rfl, hq⟩; subst hq)
 go_ret
 exact ⟨ob, HOB.out, rfl, HB.out, HC.out⟩
theorem wp_appB {w : World} {o : Oper} {a : Act} {K : Act -> World -> Prop} {Q : Exit -> Act -> World -> Prop} (s x : Operand)
  (ho : o.op = .call { callee := .builtin .append, args := #[s, x], argTypes := #[22, 22] })
  (v : Value) (l : List UInt8) (hs : a.eval s = v) (hown : BRow w v l) (u : Value) (m : List UInt8) (hx : a.eval x = u) (hm : BytesAt w u m)
  (hsz : l.length + m.length <= 140737488355328)
  (h : ∀ v' w', BRow w' v' (l ++ m) -> w.grownBy w' v.ownBlock -> (v'.ownBlock = v.ownBlock ∨ v'.ownBlock = some w.heap.size) -> K (a.put o.dst v') w') : Oper.wp Tryz.prog o a w K Q := by
 obtain ⟨v', w', hr, h2, h3, h4⟩ := run_appB o.type v l hown u m hm hsz
 unfold Oper.wp execOp
 simp only [ho, resolve, invoke, builtin, Sem.run_bind, Sem.run_pure, Result.andThen_ok, List.map_toArray, List.map_cons, List.map_nil, hs, hx, hr]
 exact h v' w' h2 h3 h4
def fragN (s : Sp) (data : List UInt8) (n i : Nat) : List UInt8 := headB s i n data.length ++ rowN data n i
structure FragsAt (w : World) (s : Sp) (data : List UInt8) (n k : Nat) (g : Nat) (F : List VRow) : Prop where
 len : F.length = n
 rows : RowsAt w g F
 at' : ∀ i x, F[i]? = some x -> BytesAt w x.1 x.2 /\ x.2 = if i = k then [] else fragN s data n i
def SlotR (data : List UInt8) (n k j : Nat) (w : World) (g' i : Nat) (x : VRow) : Prop :=
 BytesAt w x.1 x.2 /\ (if i < j /\ i ≠ k then x.2 = rowN data n i /\ (∃ b c, x.1 = .slice (some b) x.2.length c) else x = (.slice none 0 0, [])) /\ ∀ q, x.1.ownBlock = some q -> q ≠ g' /\ q < w.heap.size
structure RowsJ (data : List UInt8) (n k j : Nat) (w : World) (g' : Nat) (R : List VRow) : Prop where
 len : R.length = n
 blk : w.heap[g']? = some (.cells (R.map (·.1)).toArray 22 (0, 0))
 slots : ∀ i x, R[i]? = some x -> SlotR data n k j w g' i x
theorem SlotR.keep {data : List UInt8} {n k j g' i : Nat} {w w' : World} {x : VRow} (h : SlotR data n k j w g' i x) (hc : Chg [g'] w w') : SlotR data n k j w' g' i x :=
 ⟨h.1.chg hc (fun q hq hm => (h.2.2 q hq).1 (List.mem_singleton.1 hm)), h.2.1, fun q hq => ⟨(h.2.2 q hq).1, Nat.lt_of_lt_of_le (h.2.2 q hq).2 hc.size⟩⟩
theorem RowsJ.keep {data : List UInt8} {n k j g' : Nat} {w w' : World} {R : List VRow} (h : RowsJ data n k j w g' R) (hc : Chg [] w w') : RowsJ data n k j w' g' R :=
 ⟨h.len, hc.keep h.blk (by simp), fun i x hx => (h.slots i x hx).keep (hc.mono (by simp))⟩
theorem SlotR.next {data : List UInt8} {n k j g' i : Nat} {w : World} {x : VRow} (h : SlotR data n k j w g' i x) (hi : i ≠ j ∨ j = k) : SlotR data n k (j + 1) w g' i x := by
 refine ⟨h.1, ?_, h.2.2⟩
 have h1 := h.2.1
 by_cases hc : i < j /\ i ≠ k
 ·rw [if_pos hc] at h1
  rw [if_pos ⟨by omega, hc.2⟩]
  exact h1
 ·rw [if_neg hc] at h1
  rw [if_neg (by omega)]
  exact h1
theorem RowsJ.skip {data : List UInt8} {n k g' : Nat} {w : World} {R : List VRow} (h : RowsJ data n k k w g' R) : RowsJ data n k (k + 1) w g' R :=
 ⟨h.len, h.blk, fun i x hx => (h.slots i x hx).next (.inr rfl)⟩
theorem RowsJ.put {data : List UInt8} {n k j g' : Nat} {w : World} {R : List VRow} (h : RowsJ data n k j w g' R) (hj : j < n) (hjk : j ≠ k) (v : Value) (hb : BytesAt w v (rowN data n j)) (hv : ∃ b c, v = .slice (some b) (rowN data n j).length c) (hq : ∀ q, v.ownBlock = some q -> q ≠ g' /\ q < w.heap.size) :
  RowsJ data n k (j + 1) (w.setCell ⟨g', j, none⟩ v) g' (R.set j (v, rowN data n j)) := by
 have hc : Chg [g'] w (w.setCell ⟨g', j, none⟩ v) := (Chg.refl _ w).setCell (.inl (by simp)) _
 refine ⟨by rw [List.length_set]; exact h.len, ?_, fun i x hx => ?_⟩
 ·rw [set_blk h.blk, List.setIfInBounds_toArray, List.map_set]
 ·by_cases hij : i = j
  ·subst hij
   rw [List.getElem?_set_self (by rw [h.len]; exact hj)] at hx
   obtain rfl := Option.some.inj hx
   exact SlotR.keep ⟨hb, by rw [if_pos ⟨by omega, hjk⟩]; exact ⟨rfl, hv⟩, hq⟩ hc
  ·rw [List.getElem?_set_ne (by omega)] at hx
   exact ((h.slots i x hx).next (.inl hij)).keep hc
theorem RowsJ.cell {data : List UInt8} {n k j g' : Nat} {w : World} {R : List VRow} (h : RowsJ data n k j w g' R) {i : Nat} (hi : i < n) : ∃ v, w.cell? ⟨g', i, none⟩ = some v /\ w.frozen? ⟨g', i, none⟩ = false /\ g' < w.heap.size := by
 have hl : i < (R.map (·.1)).toArray.size := by simp [h.len, hi]
 exact ⟨_, blk_cell h.blk i _ (Array.getElem?_eq_getElem hl), blk_frozen h.blk i, blk_lt h.blk⟩
def missJ (k j : Nat) : Nat := if k < j then 1 else 0
def sizeJ (L k j : Nat) : Int := if j = 0 ∨ (j = 1 /\ k = 0) then -1 else (L : Int)
theorem own_some {v : Value} {n c : Nat} {a : Option Addr} {q : Nat} (hv : v = .slice a n c) (h : v.ownBlock = some q) : ∃ b, a = some b := by
 subst hv
 cases a with
 | none => simp [Value.ownBlock] at h
 | some b => exact ⟨b, rfl⟩
theorem lrows_any {g cap k n : Nat} {F : List VRow} (s : Sp) (data : List UInt8) (w : World) (hs : s.Ok) (hk : k < n) (h3 : 3 <= n) (h16 : n <= 16) (hL : 1 <= data.length) (hL2 : data.length <= 400 * (n - 1)) (h : FragsAt w s data n k g F) :
  Calls Tryz.prog 131 #[spV s, .slice (some ⟨g, 0, none⟩) n cap, .int .i64 (-1), .int .i64 (n : Int)] w fun e w' => ∃ g' R, e = .returned (.tuple #[.slice (some ⟨g', 0, none⟩) n n, .int .i64 1, .int .i64 (data.length : Int)]) /\ w.heap.size <= g' /\ RowsJ data n k n w' g' R /\ Chg [] w w' := by
 have hn0 : ¬ (n : Int) < 0 := by omega
 have hmk := makeF_bbs n (by omega) (w.alloc (.cells (spC s) 26))
 have HF := LH h
 have HOK := LH hs
 obtain ⟨w1, hw1⟩ : ∃ w1, w1 = (w.alloc (.cells (spC s) 26)).alloc (.cells (Array.replicate n (.slice none 0 0)) 22) := ⟨_, rfl⟩
 have hc1 : Chg [] w w1 := by rw [hw1]; exact ((Chg.refl _ _).alloc _).alloc _
 have hs1 : w1.heap.size = w.heap.size + 2 := by rw [hw1]; simp
 have HS1 : Hid (w1.heap[w.heap.size]? = some (.cells (spC s) 26 (0, 0))) := LH (by rw [hw1]; exact blk_alloc (heap_alloc_new w _))
 have HJ0 : Hid (RowsJ data n k 0 w1 (w.heap.size + 1) (List.replicate n (.slice none 0 0, []))) := LH (by
  refine ⟨by simp, ?_, fun i x hx => ?_⟩
  ·have := heap_alloc_new (w.alloc (.cells (spC s) 26)) (.cells (Array.replicate n (.slice none 0 0)) 22)
   rw [hw1, List.map_replicate, List.toArray_replicate]
   simpa using this
  ·have hx' := List.eq_of_mem_replicate (List.mem_of_getElem? hx)
   subst hx'
   exact ⟨BytesAt.nil _, by rw [if_neg (by omega)], by simp [Value.ownBlock]⟩)
 have HC1 := LH hc1
 have HW1 := LH hw1
 clear h hs hc1 hw1
 go_enter Tryz.func131, Tryz.ntmps131
 go_wp2_with (first
  | (go_at_call 52; refine (lservers_ok _ _ (by omega) (by omega)).mono ?_; rintro e w' ⟨rfl, hq⟩; subst hq)
  | (go_at_call 113; refine (lmust_ok _ _).mono ?_; rintro e w' ⟨rfl, hq⟩; subst hq))
 rw [<- HW1.out]
 clear hmk
 go_loopg [12, 13, 32] n (fun gm s12 s13 s32 wr => ∃ (j : Nat) (R : List VRow), s12 = .int .i64 (missJ k j : Int) /\ s13 = .int .i64 (sizeJ data.length k j) /\ s32 = .int .i64 j /\ j <= n /\ n <= j + gm /\ Hid (RowsJ data n k j wr (w.heap.size + 1) R /\ Chg [] w wr /\ wr.heap[w.heap.size]? = some (.cells (spC s) 26 (0, 0))))
 case atStart => exact ⟨0, _, by simp [missJ], by simp [sizeJ], rfl, by omega, by omega, LH ⟨HJ0.out, HC1.out, HS1.out⟩⟩
 case round =>
  obtain ⟨j, R, rfl, rfl, rfl, hj, hjg, HR⟩ := hrel
  by_cases hlt : j < n
  ·have hFl := HF.out.len
   obtain ⟨x, hx⟩ : ∃ x, F[j]? = some x := ⟨F[j], List.getElem?_eq_getElem (by omega)⟩
   obtain ⟨hxb, hx2⟩ := HF.out.at' j x hx
   have hcx := HR.out.2.1.cell (HF.out.rows.row j x hx) (by simp)
   have hxbW := hxb.chg HR.out.2.1 (by simp)
   obtain ⟨xa, xc, hxv⟩ := hxb.slice
   rw [hxv] at hcx hxbW
   have hjz : (j : Int) < (n : Int) := by omega
   have hjz1 : (j : Int).toNat = j := by omega
   have hj1 : ((j : Int) == -1) = false := by simp
   clear hFl hx hxb hxv
   by_cases hjk : j = k
   ·subst hjk
    rw [if_pos rfl] at hx2
    rw [hx2] at hcx
    have hm0 : (missJ j j : Int) = 0 := by simp [missJ]
    have hm1 : (missJ j (j + 1) : Int) = 1 := by simp [missJ]
    have HSZ : Hid (sizeJ data.length j (j + 1) = sizeJ data.length j j) := LH (by unfold sizeJ; by_cases h0 : j = 0 <;> by_cases h1 : j = 1 <;> simp [h0, h1])
    clear hxbW
    rw [hm0]
    go_wp2
    go_roundg (gk - 1)
    case measure => omega
    case rel => exact ⟨j + 1, R, by rw [hm1], by rw [HSZ.out], by go_num, by omega, by omega, LH ⟨HR.out.1.skip, HR.out.2⟩⟩
   ·rw [if_neg hjk] at hx2
    unfold fragN at hx2
    have hxl : x.2.length = 12 + (rowN data n j).length := by rw [hx2, List.length_append, headB_len]
    have hx0 : ((x.2.length : Int) == 0) = false := beq_eq_false_iff_ne.2 (by omega)
    have hxbW2 : BytesAt wr (.slice xa x.2.length xc) (headB s j n data.length ++ rowN data n j) := by rw [<- hx2]; exact hxbW
    have CR := LH (lread_ok s j n data.length (rowN data n j) _ wr HOK.out hxbW2 h3 h16 hlt hL hL2 (row_len hL (by omega)))
    clear hxbW hxbW2 hx2 hxl
    generalize x.2.length = xl at *
    go_wp2_with fail
    refine CR.out.mono ?_
    rintro e w2 ⟨hc2, u, rfl, hu, hun⟩
    obtain ⟨ua, uc, hue⟩ := hu.bytes.slice
    subst hue
    have HU := LH hu
    have HUN := LH hun
    have HR2 := LH (And.intro (HR.out.1.keep hc2) (And.intro (HR.out.2.1.trans hc2 (by simp)) (hc2.keep HR.out.2.2 (by simp))))
    obtain ⟨w3, hw3⟩ : ∃ w3, w3 = w2.alloc (.cells (hdC s j n data.length) 115) := ⟨_, rfl⟩
    have HW3 := LH hw3
    have hc3 : Chg [] w2 w3 := by rw [hw3]; exact (Chg.refl _ _).alloc _
    have HR3 := LH (And.intro (HR2.out.1.keep hc3) (And.intro (HR2.out.2.1.trans hc3 (by simp)) (hc3.keep HR2.out.2.2 (by simp))))
    have HD3 := LH (show w3.heap[w2.heap.size]? = some (.cells (hdC s j n data.length) 115 (0, 0)) by rw [hw3]; exact heap_alloc_new w2 _)
    have HU3 := LH (hu.keep (fun q hq => hc3.block q (hu.lt q hq) (by simp)))
    have hz2 : w.heap.size < w2.heap.size := blk_lt HR2.out.2.2
    have s0 := blk_cell HR2.out.2.2 0 _ rfl
    have s1 := blk_cell HR2.out.2.2 1 _ rfl
    have s2 := blk_cell HR2.out.2.2 2 _ rfl
    have hne1 : ¬ (w.heap.size = w2.heap.size) := by omega
    clear hu hun hc2 CR hw3 hc3
    have HSJ : Hid (missJ k j = missJ k (j + 1) /\ sizeJ data.length k (j + 1) = (data.length : Int)) := LH ⟨by unfold missJ; by_cases h1 : k < j <;> by_cases h2 : k < j + 1 <;> simp [h1, h2] <;> omega, by unfold sizeJ; rw [if_neg (by omega)]⟩
    have hzz : sizeJ data.length k j < 0 ∨ sizeJ data.length k j = (data.length : Int) := by unfold sizeJ; split <;> omega
    generalize sizeJ data.length k j = z at *
    rcases hzz with hz0 | hz0
    case' inr => subst hz0
    all_goals
     go_wp2_with (go_at_call 113; rw [<- HW3.out]; refine (lmust_ok _ _).mono ?_; rintro e w' ⟨rfl, hq⟩; subst hq)
    all_goals
     clear s0 s1 s2 hne1
     refine wp_region_L [(9, fun w' => w'.cell? ⟨w2.heap.size, 5, none⟩ = some (.int .i64 (data.length : Int)))] (by kernel_rfl) ?_ (fun hHeld => ?_)
     ·exact (HoldC.cons (blk_cell HD3.out 5 _ rfl) HoldC.nil)
     refine tk 0 ?_ rfl (by kernel_rfl) (fun _ _ _ h => h) (.inl ⟨by rfl, ?_⟩) hHeld ?_; rotate_left; · (intro w _; go_simp; try with_reducible rfl)
     clear hHeld; intro hHeld; try simp only [gA,gB,gC,Act.put,gD,gE,gF]
     refine tk 1 ?_ rfl (by kernel_rfl) (fun _ _ _ h => h) (.inl ⟨by rfl, ?_⟩) hHeld ?_; rotate_left; · (intro w _; go_simp; try with_reducible rfl)
     clear hHeld; intro hHeld; try simp only [gA,gB,gC,Act.put,gD,gE,gF]
     refine tk 3 ?_ rfl (by kernel_rfl) (fun _ _ _ h => h) (.inl ⟨by rfl, ?_⟩) hHeld ?_; rotate_left; · (intro w _; go_simp; try with_reducible rfl)
     clear hHeld; intro hHeld; try simp only [gA,gB,gC,Act.put,gD,gE,gF]
     refine tk 5 ?_ rfl (by kernel_rfl) (fun _ _ _ h => h) (.inl ⟨by rfl, ?_⟩) hHeld ?_; rotate_left; · (intro w _; go_simp; try with_reducible rfl)
     clear hHeld; intro hHeld; try simp only [gA,gB,gC,Act.put,gD,gE,gF]
     refine ld 0 6 ?_ rfl rfl (by kernel_rfl) (fun _ _ _ h => h) (.inl ⟨by rfl, ?_⟩) hHeld ?_; rotate_left; · (intro w hSw; (try dsimp only at hSw); go_simp; try with_reducible rfl)
     clear hHeld; intro hHeld; try simp only [gA,gB,gC,Act.put,gD,gE,gF]
     refine wpAnyL_ready (rs := [2]) (by kernel_rfl) (by simp) (AllReadyL.cons (o := _) rfl (fun K hK => ?_) AllReadyL.nil)
     try simp only [gA,gB,gC]
     go_simp
     obtain ⟨w4, hw4⟩ : ∃ w4, w4 = (w3.alloc (.cells #[] 5)).drew := ⟨_, rfl⟩
     rw [<- hw4]
     have hc4 : Chg [] w3 w4 := by rw [hw4]; exact ((Chg.refl _ _).alloc _).drew
     have hbe : BRow w4 (.slice (some ⟨w3.heap.size, 0, none⟩) 0 0) [] := by
      rw [hw4]
      exact ⟨rfl, .inr ⟨w3.heap.size, 0, #[], rfl, Nat.zero_le _, heap_alloc_new w3 _, Nat.le_refl _, Nat.zero_le _, rfl, rfl⟩⟩
     have HR4 := LH (And.intro (HR3.out.1.keep hc4) (And.intro (HR3.out.2.1.trans hc4 (by simp)) (hc4.keep HR3.out.2.2 (by simp))))
     have HD4 := LH (hc4.keep HD3.out (by simp))
     have HU4 := LH (HU3.out.keep (fun q hq => hc4.block q (HU3.out.lt q hq) (by simp)))
     have HBE := LH hbe
     have hz3 : w2.heap.size < w3.heap.size := blk_lt HD3.out
     have HRL := LH (row_le (data := data) (n := n) (i := j) hL (by omega))
     have HC4 := LH hc4
     clear hw4 hc4 hbe
     clear hHeld
     refine hK.out _ _ ?_ (fun hHeld => ?_)
     ·exact (HoldC.cons ((blk_cell HD4.out 5 _ rfl)) HoldC.nil)
     clear hK K
     try simp only [gA,gB,gC,Act.put,gD,gE,gF]
     refine wpAnyL_ready (rs := [4]) (by kernel_rfl) (by simp) (AllReadyL.cons (o := _) rfl (fun K hK => ?_) AllReadyL.nil)
     try simp only [gA,gB,gC]
     rw [if_pos (by rfl)]
     refine wp_appB (.tmp 84) (.tmp 85) (by rfl) (.slice (some ⟨w3.heap.size, 0, none⟩) 0 0) [] (by rfl) HBE.out (.slice ua (rowN data n j).length uc) (rowN data n j) (by rfl) HU4.out.bytes (by have := HRL.out; simp; omega) ?_
     intro v' w5 hb5 hg5 hat5
     rw [List.nil_append] at hb5
     have hc5 : Chg [] w3 w5 := HC4.out.grown hg5 (fun q hq => .inr (by have : w3.heap.size = q := by simpa [Value.ownBlock] using hq
                                                                        omega))
     obtain ⟨va, vc, hve⟩ := hb5.bytes.slice
     have hz4 : w3.heap.size <= w4.heap.size := HC4.out.size
     have hvs : ∃ b, va = some b := by
      rcases hat5 with h1 | h1
      ·exact own_some hve (h1.trans rfl)
      ·exact own_some hve h1
     obtain ⟨vb, rfl⟩ := hvs
     have hG := blk_lt HR2.out.1.blk
     have HR5 := LH (And.intro (HR3.out.1.keep hc5) (And.intro (HR3.out.2.1.trans hc5 (by simp)) (hc5.keep HR3.out.2.2 (by simp))))
     have HP5 := LH (HR5.out.1.put hlt hjk v' hb5.bytes ⟨vb, vc, hve⟩ (fun q hq => ⟨by
      rcases hat5 with h1 | h1
      ·rw [hq] at h1
       have : q = w3.heap.size := by simpa [Value.ownBlock] using h1
       omega
      ·rw [hq] at h1
       have : q = w4.heap.size := by simpa using h1
       omega, hb5.lt q hq⟩))
     obtain ⟨ov, g0, g1, g2⟩ := HR5.out.1.cell hlt
     have HD5 := LH (blk_sets (b' := w.heap.size + 1) (j := j) (u := v') (hc5.keep HD3.out (by simp)) (by omega))
     have HX5 := LH (And.intro (HR5.out.2.1.setCell (p := ⟨w.heap.size + 1, j, none⟩) (.inr (by simp)) v') (blk_sets (j := j) (u := v') HR5.out.2.2 (show w.heap.size ≠ w.heap.size + 1 by omega)))
     have d5 := blk_cell (hc5.keep HD3.out (by simp)) 5 _ rfl
     subst hve
     clear hb5 hg5 hat5 hc5 HR5
     clear hHeld
     refine hK.out _ _ ?_ (fun hHeld => ?_)
     ·exact (HoldC.cons (d5) HoldC.nil)
     clear hK K
     try simp only [gA,gB,gC,Act.put,gD,gE,gF]
     refine tk 7 ?_ rfl (by kernel_rfl) (fun _ _ _ h => h) (.inl ⟨by rfl, ?_⟩) hHeld ?_; rotate_left; · (intro w _; go_simp; try with_reducible rfl)
     clear hHeld; intro hHeld; try simp only [gA,gB,gC,Act.put,gD,gE,gF]
     refine wpAnyL_ready (rs := [8]) (by kernel_rfl) (by simp) (AllReadyL.cons (o := _) rfl (fun K hK => ?_) AllReadyL.nil)
     try simp only [gA,gB,gC]
     go_simp
     clear hHeld
     refine hK.out _ _ ?_ (fun hHeld => ?_)
     ·exact (HoldC.cons ((blk_cell HD5.out 5 _ rfl)) HoldC.nil)
     clear hK K
     try simp only [gA,gB,gC,Act.put,gD,gE,gF]
     refine wpAnyL_ready (rs := [9]) (by kernel_rfl) (by simp) (AllReadyL.cons (o := _) rfl (fun K hK => ?_) AllReadyL.nil)
     try simp only [gA,gB,gC]
     go_simp
     clear hHeld
     refine hK.out _ _ ?_ (fun hHeld => ?_)
     ·exact (HoldC.past (by kernel_rfl) HoldC.nil)
     clear hK K
     try simp only [gA,gB,gC,Act.put,gD,gE,gF]
     refine wpAnyL_done (by kernel_rfl) ?_ _
     clear hHeld
     clear d5 g0 g1 g2
     go_wp2
     go_roundg (gk - 1)
     case measure => omega
     case rel => exact ⟨j + 1, _, by rw [HSJ.out.1], by rw [HSJ.out.2], by go_num, by omega, by omega, LH ⟨HP5.out, HX5.out⟩⟩
  ·have hjn : j = n := by omega
   subst hjn
   have hm1 : (missJ k j : Int) = 1 := by simp [missJ, hk]
   have hs1' : sizeJ data.length k j = (data.length : Int) := by unfold sizeJ; rw [if_neg (by omega)]
   rw [hm1, hs1']
   have HE := LH (And.intro HR.out.1 HR.out.2.1)
   clear HR
   go_wp2
   go_ret3
   exact ⟨_, _, rfl, by omega, HE.out.1, HE.out.2⟩
end
section
open Go.RowKit Go.Shelf
theorem take_next (data : List UInt8) (n i : Nat) : data.take (fromN data.length n i) ++ partN data n i = data.take (fromN data.length n (i + 1)) := by
 have h := from_to data.length n i
 have h2 : toN data.length n i = fromN data.length n i + (toN data.length n i - fromN data.length n i) := by omega
 rw [<- to_from, h2, List.take_add]
 unfold partN
 congr 2
theorem take_last {data : List UInt8} {n : Nat} (h : 1 <= data.length) (hn : 2 <= n) : data.take (fromN data.length n (n - 1)) = data := by
 rw [List.take_of_length_le]
 unfold fromN
 have := each_all h hn
 omega
theorem RowsJ.get {data : List UInt8} {n k j g' : Nat} {w : World} {R : List VRow} (h : RowsJ data n k j w g' R) {i : Nat} (hi : i < n) : ∃ x, R[i]? = some x :=
 ⟨_, List.getElem?_eq_getElem (by rw [h.len]; exact hi)⟩
theorem RowsJ.all {data : List UInt8} {n k g' : Nat} {w : World} {R : List VRow} (h : RowsJ data n k n w g' R) (hk : k < n) : R.map (·.2) = (rowsN data n).set k [] := by
 refine List.ext_getElem? (fun i => ?_)
 by_cases hi : i < n
 ·obtain ⟨x, hr⟩ := h.get hi
  have h1 := (h.slots i _ hr).2.1
  rw [List.getElem?_map, hr]
  by_cases hik : i = k
  ·subst hik
   rw [if_neg (by omega)] at h1
   rw [List.getElem?_set_self (by rw [rowsN_len]; exact hi), h1]
   rfl
  ·rw [if_pos ⟨hi, hik⟩] at h1
   rw [List.getElem?_set_ne (by omega), rowsN_at _ _ _ hi, Option.map_some, h1.1]
 ·rw [List.getElem?_eq_none (by simp [h.len]; omega), List.getElem?_eq_none (by rw [List.length_set, rowsN_len]; omega)]
theorem nil_nil (w : World) : (binOp .eql 22 (.slice none 0 0) (.slice none 0 0)).run Tryz.prog w = .ok (.bool true) w := by kernel_rfl
theorem some_nil (b : Addr) (n c : Nat) (w : World) : (binOp .eql 22 (.slice (some b) n c) (.slice none 0 0)).run Tryz.prog w = .ok (.bool false) w := by kernel_rfl
def rowVs (R : List VRow) (k i : Nat) (vk : Value) : List Value := if i <= k then R.map (·.1) else (R.map (·.1)).set k vk
theorem rowVs_at {data : List UInt8} {n k g' i : Nat} {w : World} {R : List VRow} {vk : Value} (h : RowsJ data n k n w g' R) (hi : i < n) (hik : i ≠ k) : ∃ b c, (rowVs R k i vk).toArray[i]? = some (.slice (some b) (rowN data n i).length c) /\ BytesAt w (.slice (some b) (rowN data n i).length c) (rowN data n i) /\ b.block ≠ g' /\ b.block < w.heap.size := by
 obtain ⟨x, hr⟩ := h.get hi
 obtain ⟨h0, h1, h2⟩ := h.slots i _ hr
 rw [if_pos ⟨hi, hik⟩] at h1
 obtain ⟨h3, b, c, h4⟩ := h1
 rw [h3] at h0 h4
 rw [h4] at h0 h2
 refine ⟨b, c, ?_, h0, h2 b.block rfl⟩
 unfold rowVs
 split
 ·simp [hr, h4]
 ·rw [List.getElem?_toArray, List.getElem?_set_ne (by omega), List.getElem?_map, hr, Option.map_some, h4]
theorem rowVs_hole {data : List UInt8} {n k g' : Nat} {w : World} {R : List VRow} {vk : Value} (h : RowsJ data n k n w g' R) (hk : k < n) : (rowVs R k k vk).toArray[k]? = some (.slice none 0 0) := by
 obtain ⟨x, hr⟩ := h.get hk
 obtain ⟨h0, h1, h2⟩ := h.slots k _ hr
 rw [if_neg (by omega)] at h1
 unfold rowVs
 rw [if_pos (Nat.le_refl _), List.getElem?_toArray, List.getElem?_map, hr, Option.map_some, h1]
theorem rowVs_next (R : List VRow) (k i : Nat) (vk : Value) (h : i ≠ k) : rowVs R k (i + 1) vk = rowVs R k i vk := by
 unfold rowVs
 by_cases h1 : i <= k
 ·rw [if_pos h1, if_pos (by omega)]
 ·rw [if_neg h1, if_neg (by omega)]
theorem ljoined_any {g cap k n : Nat} {F : List VRow} (s : Sp) (data : List UInt8) (w : World) (hs : s.Ok) (hk : k < n) (h3 : 3 <= n) (h16 : n <= 16) (hL : 1 <= data.length) (hL2 : data.length <= 400 * (n - 1)) (h : FragsAt w s data n k g F) :
  Calls Tryz.prog 98 #[spV s, .slice (some ⟨g, 0, none⟩) n cap, .int .i64 (n : Int)] w fun e w' => ∃ v, e = .returned v /\ BRow w' v data /\ (∀ q, v.ownBlock = some q -> w.heap.size <= q) /\ Chg [] w w' := by
 obtain ⟨w0, hw0⟩ : ∃ w0, w0 = w.alloc (.cells (spC s) 26) := ⟨_, rfl⟩
 have hc0 : Chg [] w w0 := by rw [hw0]; exact (Chg.refl _ _).alloc _
 have CR := LH (lrows_any (cap := cap) s data w0 hs hk h3 h16 hL hL2 ⟨h.len, h.rows.keep hc0 (by simp), fun i x hx => ⟨(h.at' i x hx).1.chg hc0 (by simp), (h.at' i x hx).2⟩⟩)
 have HC0 := LH hc0
 have HW0 := LH hw0
 have hwn : IntKind.i64.wrap ((n : Int) - 1) = ((n - 1 : Nat) : Int) := by rw [IntWalk.i64_in _ ⟨by omega, by omega⟩]; omega
 clear h hs hc0 hw0
 go_enter Tryz.func98, Tryz.ntmps98
 go_wp2_with fail
 rw [<- HW0.out]
 refine CR.out.mono ?_
 rintro e w1 ⟨g', R, rfl, hg', hRJ, hc1⟩
 have HRJ := LH hRJ
 have HC1 := LH (HC0.out.trans hc1 (by simp))
 have hgw : w.heap.size <= g' := by have := HC0.out.size; omega
 have hb0 := LH hRJ.blk
 clear hRJ hc1 hg' CR
 go_wp2_with (go_at_call 113; refine (lmust_ok _ _).mono ?_; rintro e w' ⟨rfl, hq⟩; subst hq)
 obtain ⟨m, hm⟩ : ∃ m, m = n - 1 := ⟨_, rfl⟩
 rw [<- hm]
 have hm1 : m < n := by omega
 have hm2 : n <= m + 1 := by omega
 clear hm
 have hbr0 : BRow w1 (.slice none 0 0) (data.take (fromN data.length n 0)) := by
  have : fromN data.length n 0 = 0 := by simp [fromN]
  rw [this]
  exact BRow.nil _
 go_loopg [10, 30] m (fun gm s10 s30 wr => ∃ (i : Nat) (vk so : Value), so = s10 /\ s30 = .int .i64 i /\ i <= m /\ m <= i + gm /\ Hid (BRow wr so (data.take (fromN data.length n i)) /\ (∀ q, so.ownBlock = some q -> w1.heap.size <= q) /\ Chg [g'] w1 wr /\ wr.heap[g']? = some (.cells (rowVs R k i vk).toArray 22 (0, 0))))
 case atStart => exact ⟨0, .slice none 0 0, .slice none 0 0, rfl, rfl, by omega, by omega, LH ⟨hbr0, by simp [Value.ownBlock], Chg.refl _ _, by unfold rowVs; rw [if_pos (by omega)]; exact hb0.out⟩⟩
 case round =>
  obtain ⟨i, vk, so, rfl, rfl, hi, hig, HR⟩ := hrel
  have hTN := LH (take_next data n i)
  have hrg : g' < wr.heap.size := blk_lt HR.out.2.2.2
  have hgn : Hid (∀ q, so.ownBlock = some q -> q ≠ g') := LH (fun q hq e => by
   have h1 := HR.out.2.1 q hq
   have h2 := blk_lt hb0.out
   omega)
  by_cases hlt : i < m
  ·have hin : i < n := by omega
   have hrp : rowN data n i = partN data n i := by unfold rowN; rw [if_neg (by omega)]
   have hpl : (partN data n i).length <= 100000 := by rw [<- hrp]; have := row_le (data := data) (n := n) (i := i) hL (by omega); omega
   have htl : (data.take (fromN data.length n i)).length <= 100000 := by rw [List.length_take]; omega
   have hiz : (i : Int) < (m : Int) := by omega
   have hiz1 : (i : Int).toNat = i := by omega
   have hizn : (i : Int) < (n : Int) := by omega
   by_cases hik : i = k
   ·subst hik
    have hc := blk_cell HR.out.2.2.2 i _ (rowVs_hole (vk := vk) HRJ.out hk)
    have hnn := nil_nil
    have CF := LH (lfilled_any (cap := n) data wr (k := i) (n := n) (g := g') (R := R) (by omega) h3 h16 hL hL2 (HRJ.out.all hk) (fun x hx => by
     obtain ⟨j, hj⟩ := List.getElem?_of_mem hx
     have h1 := HRJ.out.slots j x hj
     exact h1.1.chg HR.out.2.2.1 (fun q hq hm => (h1.2.2 q hq).1 (List.mem_singleton.1 hm)))
     ⟨hrg, by rw [HRJ.out.len]; omega, fun j x hx => by
      have h1 := HR.out.2.2.2
      unfold rowVs at h1
      rw [if_pos (Nat.le_refl _)] at h1
      exact blk_cell h1 j _ (by simp [hx])⟩)
    go_wp2_with fail
    refine CF.out.mono ?_
    rintro e w2 ⟨ob, hob, rfl, hbb, hc2⟩
    have hb2 := hc2.keep HR.out.2.2.2 (by simp)
    have c0 := blk_cell hb2 i _ (rowVs_hole (vk := vk) HRJ.out hk)
    have c1 := blk_frozen hb2 i
    have c2 := blk_lt hb2
    obtain ⟨fv, hfv⟩ : ∃ fv, fv = Value.slice (some ⟨ob, 0, none⟩) (partN data n i).length (partN data n i).length := ⟨_, rfl⟩
    obtain ⟨w3, hw3⟩ : ∃ w3, w3 = w2.setCell ⟨g', i, none⟩ fv := ⟨_, rfl⟩
    have hc3 : Chg [g'] w2 w3 := by rw [hw3]; exact (Chg.refl _ _).setCell (.inl (by simp)) _
    have hb3 : w3.heap[g']? = some (.cells (rowVs R i (i + 1) fv).toArray 22 (0, 0)) := by
     rw [hw3, set_blk hb2, List.setIfInBounds_toArray]
     unfold rowVs
     rw [if_pos (Nat.le_refl _), if_neg (by omega)]
    have c3 := blk_cell hb3 i fv (by unfold rowVs; rw [if_neg (by omega), List.getElem?_toArray, List.getElem?_set_self (by rw [List.length_map, HRJ.out.len]; exact hin)])
    have HB3 := LH hb3
    have hzr := hc2.size
    have HF3 : Hid (BytesAt w3 fv (partN data n i)) := LH (by
     rw [hfv]
     exact hbb.chg hc3 (fun q hq hm => by
      have h1 : ob = q := by simpa [Value.ownBlock] using hq
      have h2 := List.mem_singleton.1 hm
      omega))
    have HO3 : Hid (BRow w3 so (data.take (fromN data.length n i))) := LH (HR.out.1.keep (fun q hq => by
     rw [hw3, Below.heap_setCell w2 ⟨g', i, none⟩ _ q (hgn.out q hq)]
     exact hc2.block q (HR.out.1.lt q hq) (by simp)))
    have HC3 := LH ((HR.out.2.2.1.trans (hc2.mono (T := [g']) (by simp)) (fun x hx => .inl hx)).trans hc3 (fun x hx => .inl hx))
    have HW3 := LH hw3
    clear hbb hc2 hb2 hc3 hb3 hw3 CF hc
    subst hfv
    go_wp2_with (at_builtin; rw [<- HW3.out]; refine wpList_appB rfl (.tmp 46) (.tmp 50) rfl so _ rfl HO3.out _ (partN data n i) rfl HF3.out (by omega) ?_; intro v1 w4 ho1 hg1 hat1)
    have HN : Hid (BRow w4 v1 (data.take (fromN data.length n (i + 1))) /\ (∀ q, v1.ownBlock = some q -> w1.heap.size <= q) /\ Chg [g'] w1 w4 /\ w4.heap[g']? = some (.cells (rowVs R i (i + 1) (.slice (some ⟨ob, 0, none⟩) (partN data n i).length (partN data n i).length)).toArray 22 (0, 0))) := LH (by
     refine ⟨by rw [<- hTN.out]; exact ho1, fun q hq => ?_, HC3.out.grown hg1 (fun q hq => .inr (HR.out.2.1 q hq)), ?_⟩
     ·rcases hat1 with h1 | h1
      ·exact HR.out.2.1 q (by rw [<- h1]; exact hq)
      ·rw [hq] at h1
       have h2 : q = w3.heap.size := by simpa using h1
       have h3 := HC3.out.size
       omega
     ·rw [hg1.block g' (blk_lt HB3.out) (fun e => hgn.out g' e.symm rfl)]
      exact HB3.out)
    clear ho1 hg1 hat1
    go_roundg (gk - 1)
    case measure => omega
    case rel => exact ⟨i + 1, _, v1, rfl, by go_num, by omega, by omega, HN⟩
   ·obtain ⟨b, c, hat, hbb, hbg, hbs⟩ := rowVs_at (vk := vk) HRJ.out hin hik
    have hc := blk_cell HR.out.2.2.2 i _ hat
    have hnn := some_nil b (partN data n i).length c
    rw [hrp] at hc hbb
    have HBB := LH (hbb.chg HR.out.2.2.1 (fun q hq hm => hbg (by
     have h1 : b.block = q := by simpa [Value.ownBlock] using hq
     rw [h1]; exact List.mem_singleton.1 hm)))
    have HRV := LH (rowVs_next R k i vk hik)
    clear hat hbb
    go_wp2_with (at_builtin; refine wpList_appB rfl (.tmp 46) (.tmp 50) rfl so _ rfl HR.out.1 _ (partN data n i) rfl HBB.out (by omega) ?_; intro v1 w2 ho1 hg1 hat1)
    have HN : Hid (BRow w2 v1 (data.take (fromN data.length n (i + 1))) /\ (∀ q, v1.ownBlock = some q -> w1.heap.size <= q) /\ Chg [g'] w1 w2 /\ w2.heap[g']? = some (.cells (rowVs R k (i + 1) vk).toArray 22 (0, 0))) := LH (by
     refine ⟨by rw [<- hTN.out]; exact ho1, fun q hq => ?_, HR.out.2.2.1.grown hg1 (fun q hq => .inr (HR.out.2.1 q hq)), ?_⟩
     ·rcases hat1 with h1 | h1
      ·exact HR.out.2.1 q (by rw [<- h1]; exact hq)
      ·rw [hq] at h1
       have h2 : q = wr.heap.size := by simpa using h1
       have h3 := HR.out.2.2.1.size
       omega
     ·rw [hg1.block g' hrg (fun e => hgn.out g' e.symm rfl), HRV.out]
      exact HR.out.2.2.2)
    clear ho1 hg1 hat1
    go_roundg (gk - 1)
    case measure => omega
    case rel => exact ⟨i + 1, vk, v1, rfl, by go_num, by omega, by omega, HN⟩
  ·have him : i = n - 1 := by omega
   have hfin := HR.out.1
   rw [him, take_last hL (by omega)] at hfin
   have HE := LH (And.intro hfin (And.intro (fun q hq => Nat.le_trans HC1.out.size (HR.out.2.1 q hq)) ((HC1.out.mono (T := []) (by simp)).trans HR.out.2.2.1 (fun x hx => .inr (by rw [List.mem_singleton.1 hx]; exact hgw)))))
   clear hfin HR him
   go_wp2
   go_ret
   exact ⟨_, rfl, HE.out⟩
theorem ljoin_any {g cap k n : Nat} {F : List VRow} (s : Sp) (data : List UInt8) (w : World) (hs : s.Ok) (hk : k < n) (h3 : 3 <= n) (h16 : n <= 16) (hL : 1 <= data.length) (hL2 : data.length <= 400 * (n - 1)) (h : FragsAt w s data n k g F) :
  Calls Tryz.prog 72 #[spV s, .slice (some ⟨g, 0, none⟩) n cap, .int .i64 (n : Int)] w fun e w' => ∃ v, e = .returned (.tuple #[v, .int .i64 0]) /\ BRow w' v data /\ (∀ q, v.ownBlock = some q -> w.heap.size <= q) /\ Chg [] w w' := by
 have hmf : ∀ (fn : Fn) (first cap : Array Value) (w : World), (Instr.makeFunc fn first cap).run Tryz.prog w = .ok (.func fn first cap) w := fun _ _ _ _ => rfl
 obtain ⟨w0, hw0⟩ : ∃ w0, w0 = ((w.alloc (.cells (spC s) 26)).alloc (.cells #[.slice none 0 0] 22)).alloc (.cells #[.int .i64 0] 31) := ⟨_, rfl⟩
 have hc0 : Chg [] w w0 := by rw [hw0]; exact (((Chg.refl _ _).alloc _).alloc _).alloc _
 have hr0 : w0.heap[w.heap.size + 1]? = some (.cells #[.slice none 0 0] 22 (0, 0)) := by
  rw [hw0]
  refine blk_alloc ?_
  have := heap_alloc_new (w.alloc (.cells (spC s) 26)) (.cells #[.slice none 0 0] 22)
  simpa using this
 have he0 : w0.heap[w.heap.size + 1 + 1]? = some (.cells #[.int .i64 0] 31 (0, 0)) := by
  rw [hw0]
  have := heap_alloc_new ((w.alloc (.cells (spC s) 26)).alloc (.cells #[.slice none 0 0] 22)) (.cells #[.int .i64 0] 31)
  simpa using this
 have CJ := LH (ljoined_any (cap := cap) s data w0 hs hk h3 h16 hL hL2 ⟨h.len, h.rows.keep hc0 (by simp), fun i x hx => ⟨(h.at' i x hx).1.chg hc0 (by simp), (h.at' i x hx).2⟩⟩)
 have HC0 := LH hc0
 have HW0 := LH hw0
 have HR0 := LH hr0
 have HE0 := LH he0
 have hs0 : w0.heap.size = w.heap.size + 3 := by rw [hw0]; simp
 clear h hs hc0 hw0 hr0 he0 hk h3 h16 hL hL2
 go_enter_defers Tryz.func72, Tryz.ntmps72
 go_wp2_with fail
 rw [<- HW0.out]
 refine CJ.out.mono ?_
 rintro e w1 ⟨v, rfl, hv, hvn, hc1⟩
 have HV := LH hv
 have HVN := LH hvn
 have HC1 := LH hc1
 have HR1 := LH (hc1.keep HR0.out (by simp))
 have HE1 := LH (hc1.keep HE0.out (by simp))
 have r0 := blk_cell HR1.out 0 _ rfl
 have r1 := blk_frozen HR1.out 0
 have r2 := blk_lt HR1.out
 have e0 := blk_cell HE1.out 0 _ rfl
 have e1 := blk_frozen HE1.out 0
 have e2 := blk_lt HE1.out
 obtain ⟨va, vc, hve⟩ := hv.bytes.slice
 subst hve
 clear hv hvn hc1 CJ
 go_wp2_with fail
 obtain ⟨w2, hw2⟩ : ∃ w2, w2 = (w1.setCell ⟨w.heap.size + 1, 0, none⟩ (.slice va data.length vc)).setCell ⟨w.heap.size + 1 + 1, 0, none⟩ (.int .i64 0) := ⟨_, rfl⟩
 rw [<- hw2]
 have R2 : w2.heap[w.heap.size + 1]? = some (.cells #[.slice va data.length vc] 22 (0, 0)) := by rw [hw2]; exact blk_sets (set_blk HR1.out) (by omega)
 have E2 : w2.heap[w.heap.size + 1 + 1]? = some (.cells #[.int .i64 0] 31 (0, 0)) := by rw [hw2]; exact set_blk (blk_sets HE1.out (by omega))
 have C2 : Chg [w.heap.size + 1, w.heap.size + 1 + 1] w1 w2 := by rw [hw2]; exact ((Chg.refl _ w1).setCell (p := ⟨w.heap.size + 1, 0, none⟩) (.inl (by simp)) _).setCell (p := ⟨w.heap.size + 1 + 1, 0, none⟩) (.inl (by simp)) _
 refine leaves_cons (f := 97) (args := #[.pointer (some ⟨w.heap.size + 1 + 1, 0, none⟩), .pointer (some ⟨w.heap.size + 1, 0, none⟩)]) (by simp) (by simp [go_sem]) ?_
 refine (ljoin1_idle _ _ _).mono ?_
 rintro e u' w'' ⟨rfl, rfl, rfl⟩
 refine ⟨.tuple #[.slice va data.length vc, .int .i64 0], by simp [results, Tryz.results72, go_sem, blk_cell (blk_alloc (o' := .cells #[.int .i64 0] 164) R2) 0 _ rfl, blk_cell (blk_alloc (o' := .cells #[.int .i64 0] 164) E2) 0 _ rfl], _, rfl, HV.out.keep (fun q hq => ?_), fun q hq => by have := HVN.out q hq; omega, ((HC0.out.trans HC1.out (by simp)).trans C2 (fun x hx => .inr (by simp at hx; omega))).alloc _⟩
 exact (C2.alloc (.cells #[.int .i64 0] 164)).block q (HV.out.lt q hq) (fun hm => by have := HVN.out q hq; simp at hm; omega)
end
section
open Go.RowKit Go.Shelf
theorem penNum_be (l : List UInt8) (x : Int) (n y : Nat) (hx : x = (y : Int)) (hy : y < 256 ^ n) (hl : l.length + n <= 65536) : penNum l 0 x n = (l ++ beBytes n y, 0) := by
 subst hx
 unfold penNum
 rw [if_neg (by simp), if_neg (by omega), Int.toNat_natCast]
 unfold penAdd
 rw [if_neg (by simp), if_neg (by rw [beBytes_len]; omega)]
def HdPen (w0 w : World) (cs : Array Value) (l : List UInt8) : Prop := ∃ g, PenAt 122 w (w0.heap.size + 1) g l 0 /\ (∀ k, g = some k -> w0.heap.size + 2 <= k) /\ Chg [] w0 w /\ w.heap[w0.heap.size]? = some (.cells cs 98 (0, 0)) /\ w0.heap.size + 2 <= w.heap.size
theorem HdPen.num {w0 w : World} {cs : Array Value} {l : List UInt8} (h : HdPen w0 w cs l) (x : Int) (n y : Nat) (hx : x = (y : Int)) (hy : y < 256 ^ n) (hl : l.length + n <= 65536) (h1 : 1 <= n) (h7 : n <= 7) :
  Calls Tryz.prog 64 #[.pointer (some ⟨w0.heap.size + 1, 0, none⟩), .int .i64 x, .int .i64 (n : Int)] w fun e w' => e = .returned (.tuple #[]) /\ HdPen w0 w' cs (l ++ beBytes n y) := by
 obtain ⟨g, hp, hg, hc, hb, hz⟩ := h
 refine (rpnum_any (w0.heap.size + 1) g l 0 x (n : Int) w hp (by omega) (by omega)).mono ?_
 rw [Int.toNat_natCast, penNum_be l x n y hx hy hl]
 rintro e w' ⟨rfl, g', hp', hg', hc'⟩
 refine ⟨rfl, g', hp', fun k hk => ?_, hc.trans hc' (fun x hx => .inr ?_), hc'.keep hb (fun hm => ?_), Nat.le_trans hz hc'.size⟩
 ·rcases hg' with h1 | ⟨k', h1, h2⟩
  ·exact hg k (by rw [<- h1]; exact hk)
  ·rw [h1] at hk
   obtain rfl := Option.some.inj hk
   omega
 ·rcases List.mem_cons.1 hx with rfl | hx
  ·omega
  ·have := hg x (by simpa using hx)
   omega
 ·rcases List.mem_cons.1 hm with e | hm
  ·omega
  ·have := hg _ (by simpa using hm)
   omega
theorem HdPen.cells {w0 w : World} {a0 a1 a2 a3 a4 a5 : Value} {l : List UInt8} (h : HdPen w0 w #[a0, a1, a2, a3, a4, a5] l) : w.cell? ⟨w0.heap.size, 0, none⟩ = some a0 /\ w.cell? ⟨w0.heap.size, 1, none⟩ = some a1 /\ w.cell? ⟨w0.heap.size, 2, none⟩ = some a2 /\ w.cell? ⟨w0.heap.size, 3, none⟩ = some a3 /\ w.cell? ⟨w0.heap.size, 4, none⟩ = some a4 /\ w.cell? ⟨w0.heap.size, 5, none⟩ = some a5 := by
 obtain ⟨g, hp, hg, hc, hb, hz⟩ := h
 exact ⟨blk_cell hb 0 _ rfl, blk_cell hb 1 _ rfl, blk_cell hb 2 _ rfl, blk_cell hb 3 _ rfl, blk_cell hb 4 _ rfl, blk_cell hb 5 _ rfl⟩
theorem rhead13_ok (s : Sp) (i n size : Nat) (w : World) (hs : s.Ok) (hi : i < 256) (hn : n < 256) (hz : size < 65536) : Calls Tryz.prog 43 #[.agg (hdC s i n size)] w fun e w' => ∃ v, e = .returned v /\ BRow w' v (headB s i n size) /\ (∀ q, v.ownBlock = some q -> w.heap.size <= q) /\ Chg [] w w' := by
 obtain ⟨c0, c1, l0, l1, n0, n1⟩ := hs
 have H0 : Hid (HdPen w ((w.alloc (.cells (hdC s i n size) 98)).alloc (.cells #[.slice none 0 0, .int .i64 0] 122)) (hdC s i n size) []) := LH (by
  refine ⟨none, ⟨.slice none 0 0, ?_, BRow.nil _, rfl, by simp, by simp⟩, by simp, ((Chg.refl [] w).alloc _).alloc _, blk_alloc (heap_alloc_new w _), by simp⟩
  have := heap_alloc_new (w.alloc (.cells (hdC s i n size) 98)) (.cells #[.slice none 0 0, .int .i64 0] 122)
  simpa using this)
 obtain ⟨w1, hw1⟩ : ∃ w1, w1 = (w.alloc (.cells (hdC s i n size) 98)).alloc (.cells #[.slice none 0 0, .int .i64 0] 122) := ⟨_, rfl⟩
 rw [<- hw1] at H0
 have HW1 := LH hw1
 obtain ⟨q0, q1, q2, q3, q4, q5⟩ := H0.out.cells
 clear hw1
 go_enter Tryz.func43, Tryz.ntmps43
 go_wp2_with fail
 rw [<- HW1.out]
 refine (H0.out.num s.c 1 s.c.toNat (by omega) (by omega) (by simp) (by omega) (by omega)).mono ?_
 rintro e x1 ⟨rfl, h1⟩
 have H1 := LH h1
 clear h1 q0 q1 q2 q3 q4 q5
 obtain ⟨q0, q1, q2, q3, q4, q5⟩ := H1.out.cells
 go_wp2_with fail
 refine (H1.out.num s.l 3 s.l.toNat (by omega) (by omega) (by simp [beBytes_len]) (by omega) (by omega)).mono ?_
 rintro e x2 ⟨rfl, h2⟩
 have H2 := LH h2
 clear h2 q0 q1 q2 q3 q4 q5
 obtain ⟨q0, q1, q2, q3, q4, q5⟩ := H2.out.cells
 go_wp2_with fail
 refine (H2.out.num s.n 4 s.n.toNat (by omega) (by omega) (by simp [beBytes_len]) (by omega) (by omega)).mono ?_
 rintro e x3 ⟨rfl, h3⟩
 have H3 := LH h3
 clear h3 q0 q1 q2 q3 q4 q5
 obtain ⟨q0, q1, q2, q3, q4, q5⟩ := H3.out.cells
 go_wp2_with fail
 refine (H3.out.num (i : Int) 1 i rfl (by omega) (by simp [beBytes_len]) (by omega) (by omega)).mono ?_
 rintro e x4 ⟨rfl, h4⟩
 have H4 := LH h4
 clear h4 q0 q1 q2 q3 q4 q5
 obtain ⟨q0, q1, q2, q3, q4, q5⟩ := H4.out.cells
 go_wp2_with fail
 refine (H4.out.num (n : Int) 1 n rfl (by omega) (by simp [beBytes_len]) (by omega) (by omega)).mono ?_
 rintro e x5 ⟨rfl, h5⟩
 have H5 := LH h5
 clear h5 q0 q1 q2 q3 q4 q5
 obtain ⟨q0, q1, q2, q3, q4, q5⟩ := H5.out.cells
 go_wp2_with fail
 refine (H5.out.num (size : Int) 2 size rfl (by omega) (by simp [beBytes_len]) (by omega) (by omega)).mono ?_
 rintro e x6 ⟨rfl, h6⟩
 have HB : Hid (∃ v, x6.cell? ⟨w.heap.size + 1, 0, none⟩ = some v /\ BRow x6 v (headB s i n size) /\ (∀ q, v.ownBlock = some q -> w.heap.size <= q) /\ Chg [] w x6) := LH (by
  obtain ⟨g, ⟨v, p1, p2, p3, p4, p5⟩, hg, hc, hb, hz⟩ := h6
  refine ⟨v, blk_cell p1 0 _ rfl, ?_, fun q hq => by have := hg q (p3.symm.trans hq); omega, hc⟩
  simpa [headB, List.append_assoc] using p2)
 clear h6 q0 q1 q2 q3 q4 q5
 obtain ⟨v, hv0, hv⟩ := HB.out
 obtain ⟨va, vc, hve⟩ := hv.1.bytes.slice
 subst hve
 go_wp2
 go_ret
 exact ⟨_, rfl, hv⟩
end
section
open Go.RowKit Go.Shelf
attribute [local go_sem] Oper.semAt_some
def padL (o : List UInt8) (n : Nat) : List UInt8 := o ++ List.replicate (n - o.length) 0
theorem padL_len (o : List UInt8) (n : Nat) : (padL o n).length = max o.length n := by unfold padL; simp; omega
theorem padL_at (o : List UInt8) (n i : Nat) : (padL o n).getD i 0 = o.getD i 0 := by
 unfold padL
 by_cases h : i < o.length
 ·simp [List.getD_eq_getElem?_getD, List.getElem?_append_left h]
 ·rw [List.getD_eq_getElem?_getD, List.getElem?_append_right (by omega), List.getD_eq_getElem?_getD, List.getElem?_eq_none (by omega : o.length <= i), List.getElem?_replicate]
  split <;> rfl
theorem getD_out {l : List UInt8} {i : Nat} (h : l.length <= i) : l.getD i 0 = 0 := by
 rw [List.getD_eq_getElem?_getD, List.getElem?_eq_none h]; rfl
def xstep (o r : List UInt8) : List UInt8 := xor1 (padL o r.length) r
theorem xstep_len (o r : List UInt8) : (xstep o r).length = max o.length r.length := by unfold xstep; rw [xor1_len, padL_len]
theorem xstep_at (o r : List UInt8) (i : Nat) : (xstep o r).getD i 0 = o.getD i 0 ^^^ r.getD i 0 := by
 by_cases h : i < max o.length r.length
 ·unfold xstep
  rw [xor1_at _ _ _ (by rw [padL_len]; exact h), padL_at]
 ·rw [getD_out (l := xstep o r) (by rw [xstep_len]; omega), getD_out (l := o) (by omega), getD_out (l := r) (by omega), UInt8.xor_zero]
def xorR (l : List (List UInt8)) : List UInt8 := l.foldl xstep []
theorem xorR_len (l : List (List UInt8)) : ∀ o : List UInt8, (l.foldl xstep o).length = max o.length (longestL l) := by
 induction l with
 | nil => intro o; simp [longestL]
 | cons r l ih =>
  intro o
  rw [List.foldl_cons, ih, xstep_len, longest_cons]
  omega
theorem xorR_at (l : List (List UInt8)) (i : Nat) : ∀ o : List UInt8, (l.foldl xstep o).getD i 0 = o.getD i 0 ^^^ pxL l i := by
 induction l with
 | nil => intro o; simp [pxL]
 | cons r l ih =>
  intro o
  rw [List.foldl_cons, ih, xstep_at, px_cons, UInt8.xor_assoc]
theorem xorR_eq (l : List (List UInt8)) : xorR l = sumL l := by
 have h1 : (xorR l).length = longestL l := by unfold xorR; rw [xorR_len]; simp
 refine list_of_getD (by rw [h1, sumL_len]) (fun q hq => ?_)
 rw [sumL_at _ _ (by omega)]
 unfold xorR
 rw [xorR_at]
 simp
theorem xorR_snoc (l : List (List UInt8)) (r : List UInt8) : xorR (l ++ [r]) = xstep (xorR l) r := by unfold xorR; rw [List.foldl_append]; rfl
theorem take_rows {R : List VRow} {i : Nat} {x : VRow} (h : R[i]? = some x) : (R.take (i + 1)).map (·.2) = (R.take i).map (·.2) ++ [x.2] := by
 rw [List.take_add_one, h, List.map_append]; rfl
theorem BRow.setAt {w : World} {g cap : Nat} {l : List UInt8} (h : BRow w (.slice (some ⟨g, 0, none⟩) l.length cap) l) (j : Nat) (hj : j < l.length) (y : UInt8) :
  BRow (w.setCell ⟨g, j, none⟩ (.int .u8 (y.toNat : Int))) (.slice (some ⟨g, 0, none⟩) (l.set j y).length cap) (l.set j y) := by
 rw [List.length_set]
 unfold BRow at h ⊢
 have h1 := row_set h j (bv y) (by omega)
 rw [List.length_set, show bvs (l.set j y) = (bvs l).set j (bv y) by simp [bvs, List.map_set]]
 exact h1
theorem BRow.form {w : World} {v : Value} {l : List UInt8} (h : BRow w v l) (j : Nat) (hj : j < l.length) : ∃ g cap, v = .slice (some ⟨g, 0, none⟩) l.length cap /\ g < w.heap.size /\ w.cell? ⟨g, j, none⟩ = some (.int .u8 ((l.getD j 0).toNat : Int)) /\ w.frozen? ⟨g, j, none⟩ = false := by
 rcases h.2 with ⟨h1, h2⟩ | ⟨g, cap, cur, rfl, hbg, hg, hnc, hcm, hcs, htake⟩
 ·omega
 ·have hc := h.cells (g := g) rfl j _ (bvs_at l j hj)
  rw [add_none, Nat.zero_add] at hc
  exact ⟨g, cap, rfl, blk_lt hg, hc, blk_frozen hg _⟩
theorem own_eq {g n c k : Nat} (h : (Value.slice (some ⟨g, 0, none⟩) n c).ownBlock = some k) : g = k := by simpa [Value.ownBlock] using h
def XAt (w0 w : World) (v : Value) (o : List UInt8) : Prop := BRow w v o /\ (∀ q, v.ownBlock = some q -> w0.heap.size <= q) /\ Chg [] w0 w
theorem pad_snoc (o : List UInt8) (p : Nat) : (o ++ List.replicate p 0) ++ [0] = o ++ List.replicate (p + 1) (0 : UInt8) := by
 rw [List.append_assoc]; congr 1
 rw [List.replicate_succ', ]
theorem rxor_any {g cap n : Nat} {R : List VRow} (w : World) (hn : R.length = n) (hR : ∀ x ∈ R, BytesAt w x.1 x.2 /\ x.2.length <= 100000) (h : RowsAt w g R) :
  Calls Tryz.prog 63 #[.slice (some ⟨g, 0, none⟩) n cap] w fun e w' => ∃ v, e = .returned v /\ BRow w' v (sumL (R.map (·.2))) /\ (∀ q, v.ownBlock = some q -> w.heap.size <= q) /\ Chg [] w w' := by
 have HRow := LH h
 have HR := LH hR
 have HN := LH hn
 have hn1 : n <= 1000 := by have := h.few; omega
 clear h hR hn
 go_enter Tryz.func63, Tryz.ntmps63
 go_wp2
 go_loopg [3, 4, 5] n (fun g' s3 s4 s5 wr => ∃ (i : Nat) (a3 : Option Addr) (l3 c3 : Nat), s3 = .slice a3 l3 c3 /\ s4 = .int .i64 i /\ i <= n /\ n <= i + g' /\ Hid (XAt w wr s3 (xorR ((R.take i).map (·.2))) /\ l3 = (xorR ((R.take i).map (·.2))).length))
 case atStart => exact ⟨0, none, 0, 0, rfl, rfl, by omega, by omega, LH ⟨⟨BRow.nil _, by simp [Value.ownBlock], Chg.refl _ _⟩, rfl⟩⟩
 case round =>
  obtain ⟨i, a3, l3, c3, rfl, rfl, hi, hig, HX⟩ := hrel
  obtain ⟨s3, hs3⟩ : ∃ s3, s3 = Value.slice a3 l3 c3 := ⟨_, rfl⟩
  have HS3 := LH hs3
  rw [<- hs3] at HX
  clear hs3
  by_cases hlt : i < n
  ·obtain ⟨x, hx⟩ : ∃ x, R[i]? = some x := ⟨R[i]'(by rw [HN.out]; exact hlt), List.getElem?_eq_getElem _⟩
   obtain ⟨hxb, hxl⟩ := HR.out x (List.mem_of_getElem? hx)
   have HC : Hid (∀ W, Chg [] w W -> W.cell? ⟨g, i, none⟩ = some x.1) := LH (fun W hW => hW.cell (HRow.out.row i x hx) (by simp))
   obtain ⟨xa, xc, hxv⟩ := hxb.slice
   have HB : Hid (∀ W, Chg [] w W -> BytesAt W x.1 x.2) := LH (fun W hW => hxb.chg hW (by simp))
   have HT := LH (take_rows hx)
   rw [hxv] at HC HB
   clear hx hxb hxv
   obtain ⟨xv0, r⟩ := x
   dsimp only at HC HB HT hxl
   obtain ⟨o, ho⟩ : ∃ o, o = xorR ((R.take i).map (·.2)) := ⟨_, rfl⟩
   rw [<- ho] at HX
   have HO := LH ho
   have hiz : (i : Int) < (n : Int) := by omega
   have hiz1 : (i : Int).toNat = i := by omega
   obtain ⟨gko, hgko⟩ : ∃ gko, gko = gk := ⟨_, rfl⟩
   have HG := LH hgko
   rw [<- hgko] at hig
   clear ho hgko
   go_wp2_with fail
   obtain ⟨wo, hwo⟩ : ∃ wo : World, wo = wr := ⟨_, rfl⟩
   have HWO := LH hwo
   rw [<- hwo] at HX
   clear hwo
   go_loopg [3] r.length (fun g' s3 wr => ∃ (p : Nat) (a3 : Option Addr) (l3 c3 : Nat), s3 = .slice a3 l3 c3 /\ l3 = o.length + p /\ p <= r.length - o.length /\ r.length - o.length <= p + g' /\ Hid (XAt w wr s3 (o ++ List.replicate p 0)))
   case atStart => exact ⟨0, a3, l3, c3, rfl, by have := HX.out.2; omega, by omega, by omega, LH (by rw [<- HS3.out, List.replicate_zero, List.append_nil, <- HWO.out]; exact HX.out.1)⟩
   case round =>
    obtain ⟨p, a4, l4, c4, rfl, hl4, hp, hpg, HY⟩ := hrel
    clear HX HS3 HWO
    obtain ⟨s3, hs3⟩ : ∃ s3, s3 = Value.slice a4 l4 c4 := ⟨_, rfl⟩
    have HS3 := LH hs3
    rw [<- hs3] at HY
    have HL4 := LH hl4
    have hxc := HC.out wr HY.out.2.2
    clear hs3 hl4
    by_cases hp2 : o.length + p < r.length
    ·have HBy := LH (one_byte wr 0 _ rfl)
     unfold bv at HBy
     have HR2 := LH (HY.out.1.keep (w' := wr.alloc (.cells #[.int .u8 0] 5)) (fun g hg => heap_alloc_old wr _ (HY.out.1.lt g hg)))
     have hlz : (l4 : Int) < (r.length : Int) := by have := HL4.out; omega
     have hsz : Hid ((o ++ List.replicate p 0).length + [(0 : UInt8)].length <= 140737488355328) := LH (by simp; omega)
     have HSN := LH (pad_snoc o p)
     go_wp2_with (at_builtin; refine wpList_appB rfl (.tmp 20) (.tmp 21) rfl s3 (o ++ List.replicate p 0) HS3.out.symm HR2.out _ [0] rfl HBy.out hsz.out ?_; intro v1 w1 ho1 hg1 hat1)
     have HO1 := LH ho1
     have HG1 := LH hg1
     have HA1 := LH hat1
     clear ho1 hg1 hat1 hxc
     go_roundg (gk - 1)
     case measure => omega
     case rel =>
      have hr : BRow w1 v1 (o ++ List.replicate (p + 1) 0) := by rw [<- HSN.out]; exact HO1.out
      obtain ⟨a5, c5, he⟩ := hr.slice
      refine ⟨p + 1, a5, _, c5, he, by simp, by omega, by omega, LH ⟨hr, fun q hq => ?_, (HY.out.2.2.alloc _).grown HG1.out (fun q hq => .inr (HY.out.2.1 q hq))⟩⟩
      rcases HA1.out with h | h
      ·exact HY.out.2.1 q (by rw [<- h]; exact hq)
      ·rw [h] at hq
       have h1 := HY.out.2.2.size
       have h2 : wr.heap.size + 1 = q := by simpa using hq
       omega
    ·have hlz : ¬ (l4 : Int) < (r.length : Int) := by have := HL4.out; omega
     have HPD : Hid (o ++ List.replicate p 0 = padL o r.length) := LH (by unfold padL; congr 2; omega)
     rw [HPD.out] at HY
     have hpl := padL_len o r.length
     have hL5 : l4 = (padL o r.length).length := by have := HL4.out; omega
     have HL5 := LH hL5
     have HOR : Hid (r.length <= (padL o r.length).length) := LH (by omega)
     have HXR : Hid (xorR ((R.take (i + 1)).map (·.2)) = xor1 (padL o r.length) r) := LH (by rw [HT.out, xorR_snoc, <- HO.out]; rfl)
     generalize padL o r.length = P at *
     clear hL5 hpl hp hpg HL4 HPD
     go_wp2_with fail
     obtain ⟨wo, hwo⟩ : ∃ wo : World, wo = wr := ⟨_, rfl⟩
     have HWO := LH hwo
     rw [<- hwo] at HY
     clear hwo hxc
     go_loopg [5] r.length (fun g' s5 wr => ∃ q : Nat, s5 = .int .i64 q /\ q <= r.length /\ r.length <= q + g' /\ Hid (XAt w wr s3 (xor1 P (r.take q))))
     case atStart => exact ⟨0, rfl, by omega, by omega, LH (by rw [List.take_zero, xor1_nil, <- HWO.out]; exact HY.out)⟩
     case round =>
      obtain ⟨q, rfl, hq, hqg, HZ⟩ := hrel
      clear HY HWO
      have hxc := HC.out wr HZ.out.2.2
      by_cases hq2 : q < r.length
      ·have hqP : q < (xor1 P (r.take q)).length := by rw [xor1_len]; have := HOR.out; omega
       obtain ⟨go, co, hv, hgo, hcell, hfr⟩ := HZ.out.1.form q hqP
       have hs := HS3.out.symm.trans hv
       injection hs with e1 e2 e3
       subst e1
       have hog : w.heap.size <= go := HZ.out.2.1 go (by rw [hv]; rfl)
       have hqP2 : q < P.length := by have := HOR.out; omega
       have hcell2 : wr.cell? ⟨go, q, none⟩ = some (.int .u8 ((P.getD q 0).toNat : Int)) := by
        rw [xor1_at' P _ q hqP2 (by rw [List.length_take]; omega)] at hcell
        exact hcell
       obtain ⟨xa', xc', hxe, hx1, hx2, hx3⟩ := HB.out wr HZ.out.2.2
       have hxe2 : xa = xa' /\ xc = xc' := by injection hxe with e1 e2 e3; exact ⟨e1, e3⟩
       obtain ⟨rfl, rfl⟩ := hxe2
       rcases hx3 with ⟨h0, _⟩ | ⟨gr, oo, rfl, hrc⟩
       ·rw [h0] at hq2; simp at hq2
       have hgr : gr < w.heap.size := (HB.out w (Chg.refl _ _)).lt (fun e => by rw [e] at hq2; simp at hq2) gr rfl
       have hcr := hrc q hq2
       have hxx := u8_xor (P.getD q 0) (r.getD q 0)
       have HSET : Hid (XAt w (wr.drew.setCell ⟨go, q, none⟩ (.int .u8 ((P.getD q 0 ^^^ r.getD q 0).toNat : Int))) s3 (xor1 P (r.take (q + 1)))) := LH (by
        have hZ1 := HZ.out.1
        rw [hv] at hZ1
        have h1 := (hZ1.keep (w' := wr.drew) (fun _ _ => rfl)).setAt q hqP (P.getD q 0 ^^^ r.getD q 0)
        rw [<- xor1_step P r q hq2 HOR.out, xor1_len] at h1
        rw [hv, xor1_len]
        exact ⟨h1, fun k hk => own_eq hk ▸ hog, (HZ.out.2.2.drew).setCell (.inr hog) _⟩)
       have hl4P : l4 = P.length := HL5.out
       have hlz : (q : Int) < (l4 : Int) := by omega
       have hlz2 : (q : Int) < (r.length : Int) := by omega
       have hlz3 : (q : Int).toNat = q := by omega
       clear hrc hx2 hx1 hxe hv e2 e3 hcell hqP hqP2 hl4P
       generalize P.getD q 0 = c1 at *
       generalize r.getD q 0 = c2 at *
       go_wp2_with fail
       refine wp_region_L [(13, fun w' => w'.cell? ⟨go, q, none⟩ = some (.int .u8 (c1.toNat : Int))), (13, fun w' => w'.cell? ⟨g, i, none⟩ = some (.slice (some ⟨gr, oo, none⟩) r.length xc)), (13, fun w' => w'.cell? ⟨gr, oo + q, none⟩ = some (.int .u8 (c2.toNat : Int)))] (by kernel_rfl) ?_ (fun hHeld => ?_)
       ·exact (HoldC.cons (hcell2) (HoldC.cons (hxc) (HoldC.cons (hcr) HoldC.nil)))
       refine tk 0 ?_ rfl (by kernel_rfl) (fun _ _ _ h => h) (.inl ⟨by rfl, ?_⟩) hHeld ?_; rotate_left; · (intro w _; go_simp; try with_reducible rfl)
       clear hHeld; intro hHeld; try simp only [gA,gB,gC,Act.put,gD,gE,gF]
       refine tk 1 ?_ rfl (by kernel_rfl) (fun _ _ _ h => h) (.inl ⟨by rfl, ?_⟩) hHeld ?_; rotate_left; · (intro w _; go_simp; try with_reducible rfl)
       clear hHeld; intro hHeld; try simp only [gA,gB,gC,Act.put,gD,gE,gF]
       refine tk 2 ?_ rfl (by kernel_rfl) (fun _ _ _ h => h) (.inl ⟨by rfl, ?_⟩) hHeld ?_; rotate_left; · (intro w _; go_simp; try with_reducible rfl)
       clear hHeld; intro hHeld; try simp only [gA,gB,gC,Act.put,gD,gE,gF]
       refine tk 3 ?_ rfl (by kernel_rfl) (fun _ _ _ h => h) (.inl ⟨by rfl, ?_⟩) hHeld ?_; rotate_left; · (intro w _; go_simp; try with_reducible rfl)
       clear hHeld; intro hHeld; try simp only [gA,gB,gC,Act.put,gD,gE,gF]
       refine tk 4 ?_ rfl (by kernel_rfl) (fun _ _ _ h => h) (.inl ⟨by rfl, ?_⟩) hHeld ?_; rotate_left; · (intro w _; go_simp; try with_reducible rfl)
       clear hHeld; intro hHeld; try simp only [gA,gB,gC,Act.put,gD,gE,gF]
       refine ld 0 5 ?_ rfl rfl (by kernel_rfl) (fun _ _ _ h => h) (.inl ⟨by rfl, ?_⟩) hHeld ?_; rotate_left; · (intro w hSw; (try dsimp only at hSw); go_simp; try with_reducible rfl)
       clear hHeld; intro hHeld; try simp only [gA,gB,gC,Act.put,gD,gE,gF]
       refine tk 6 ?_ rfl (by kernel_rfl) (fun _ _ _ h => h) (.inl ⟨by rfl, ?_⟩) hHeld ?_; rotate_left; · (intro w _; go_simp; try with_reducible rfl)
       clear hHeld; intro hHeld; try simp only [gA,gB,gC,Act.put,gD,gE,gF]
       refine tk 7 ?_ rfl (by kernel_rfl) (fun _ _ _ h => h) (.inl ⟨by rfl, ?_⟩) hHeld ?_; rotate_left; · (intro w _; go_simp; try with_reducible rfl)
       clear hHeld; intro hHeld; try simp only [gA,gB,gC,Act.put,gD,gE,gF]
       refine tk 8 ?_ rfl (by kernel_rfl) (fun _ _ _ h => h) (.inl ⟨by rfl, ?_⟩) hHeld ?_; rotate_left; · (intro w _; go_simp; try with_reducible rfl)
       clear hHeld; intro hHeld; try simp only [gA,gB,gC,Act.put,gD,gE,gF]
       refine ld 1 9 ?_ rfl rfl (by kernel_rfl) (fun _ _ _ h => h) (.inl ⟨by rfl, ?_⟩) hHeld ?_; rotate_left; · (intro w hSw; (try dsimp only at hSw); go_simp; try with_reducible rfl)
       clear hHeld; intro hHeld; try simp only [gA,gB,gC,Act.put,gD,gE,gF]
       refine tk 10 ?_ rfl (by kernel_rfl) (fun _ _ _ h => h) (.inl ⟨by rfl, ?_⟩) hHeld ?_; rotate_left; · (intro w _; go_simp; try with_reducible rfl)
       clear hHeld; intro hHeld; try simp only [gA,gB,gC,Act.put,gD,gE,gF]
       refine tk 11 ?_ rfl (by kernel_rfl) (fun _ _ _ h => h) (.inl ⟨by rfl, ?_⟩) hHeld ?_; rotate_left; · (intro w _; go_simp; try with_reducible rfl)
       clear hHeld; intro hHeld; try simp only [gA,gB,gC,Act.put,gD,gE,gF]
       refine ld 2 12 ?_ rfl rfl (by kernel_rfl) (fun _ _ _ h => h) (.inl ⟨by rfl, ?_⟩) hHeld ?_; rotate_left; · (intro w hSw; (try dsimp only at hSw); go_simp; try with_reducible rfl)
       clear hHeld; intro hHeld; try simp only [gA,gB,gC,Act.put,gD,gE,gF]
       refine wpAnyL_ready (rs := [13]) (by kernel_rfl) (by simp) (AllReadyL.cons (o := _) rfl (fun K hK => ?_) AllReadyL.nil)
       try simp only [gA,gB,gC]
       go_simp
       clear hHeld
       refine hK.out _ _ ?_ (fun hHeld => ?_)
       ·exact (HoldC.past (by kernel_rfl) (HoldC.past (by kernel_rfl) (HoldC.past (by kernel_rfl) HoldC.nil)))
       clear hK K
       try simp only [gA,gB,gC,Act.put,gD,gE,gF]
       refine tk 14 ?_ rfl (by kernel_rfl) (fun _ _ _ h => h) (.inl ⟨by rfl, ?_⟩) hHeld ?_; rotate_left; · (intro w _; go_simp; try with_reducible rfl)
       clear hHeld; intro hHeld; try simp only [gA,gB,gC,Act.put,gD,gE,gF]
       refine wpAnyL_ready (rs := [15]) (by kernel_rfl) (by simp) (AllReadyL.cons (o := _) rfl (fun K hK => ?_) AllReadyL.nil)
       try simp only [gA,gB,gC]
       go_simp
       clear hHeld
       refine hK.out _ _ ?_ (fun hHeld => ?_)
       ·exact (HoldC.past (by kernel_rfl) (HoldC.past (by kernel_rfl) (HoldC.past (by kernel_rfl) HoldC.nil)))
       clear hK K
       try simp only [gA,gB,gC,Act.put,gD,gE,gF]
       refine wpAnyL_done (by kernel_rfl) ?_ _
       clear hHeld
       go_wp2
       go_roundg (gk - 1)
       case measure => omega
       case rel => exact ⟨q + 1, by go_num, by omega, by omega, HSET⟩
      ·have hqn : q = r.length := by omega
       have HK : Hid (xor1 P (r.take q) = xorR ((R.take (i + 1)).map (·.2))) := LH (by rw [HXR.out, hqn, List.take_length])
       rw [HK.out] at HZ
       have HL6 : Hid (l4 = (xorR ((R.take (i + 1)).map (·.2))).length) := LH (by rw [HXR.out, xor1_len]; exact HL5.out)
       have hlz2 : ¬ (q : Int) < (r.length : Int) := by omega
       clear hqn HK
       go_wp2
       rw [<- HG.out]
       go_roundg (gko - 1)
       case measure => omega
       case rel => exact ⟨i + 1, _, l4, _, rfl, by go_num, by omega, by omega, LH ⟨by rw [<- HS3.out]; exact HZ.out, HL6.out⟩⟩
  ·have hkn : i = n := by omega
   have HK : Hid (xorR ((R.take i).map (·.2)) = sumL (R.map (·.2))) := LH (by rw [hkn, <- HN.out, List.take_length, xorR_eq])
   rw [HK.out] at HX
   have hlz : ¬ (i : Int) < (n : Int) := by omega
   clear hkn
   go_wp2
   go_ret
   exact ⟨_, rfl, by rw [<- HS3.out]; exact HX.out.1⟩
end
section
open Go.RowKit Go.Shelf
theorem rpart13_ok (data : List UInt8) (v : Value) (i n : Nat) (w : World) (h : BytesAt w v data) (h3 : 3 <= n) (h16 : n <= 16) (hi : i < n) (hL : 1 <= data.length) (hL2 : data.length <= 100000) :
  Calls Tryz.prog 62 #[v, .int .i64 (i : Int), .int .i64 (n : Int)] w fun e w' => ∃ u, e = .returned u /\ Chg [] w w' /\ BytesAt w' u (partN data n i) /\ (∀ q, u.ownBlock = some q -> v.ownBlock = some q) := by
 obtain ⟨a, cap, rfl, h1, h2, h3b⟩ := h
 have HE := LH (reach_ok data.length n w hL (by omega) h3 h16)
 have hm := each_mul data.length n i hL (by omega) (by omega)
 have hle := each_le (n := n) hL
 have CE := LH h3b
 have HP : Hid (partN data n i = (data.drop (min (i * eachN data.length n) data.length)).take (min (i * eachN data.length n + eachN data.length n) data.length - min (i * eachN data.length n) data.length)) := LH rfl
 generalize hE : eachN data.length n = E at *
 have hi1 : (i : Int) * (E : Int) = ((i * E : Nat) : Int) := by rw [Int.natCast_mul]
 generalize hM : i * E = M at *
 have hw1 : IntKind.i64.wrap ((i : Int) * (E : Int)) = (M : Int) := by rw [hi1]; exact IntWalk.i64_in _ ⟨by omega, by omega⟩
 have hw2 : IntKind.i64.wrap ((M : Int) + (E : Int)) = ((M + E : Nat) : Int) := by rw [IntWalk.i64_in _ ⟨by omega, by omega⟩]; omega
 have hw3 : IntKind.i64.wrap ((data.length : Int) + (E : Int)) = ((data.length + E : Nat) : Int) := by rw [IntWalk.i64_in _ ⟨by omega, by omega⟩]; omega
 clear h3b hi1 hM hE
 go_enter Tryz.func62, Tryz.ntmps62
 go_wp2_with fail
 refine HE.out.mono ?_
 rintro e w' ⟨rfl, hq⟩
 subst hq
 clear HE
 have HZ1 : Hid ((min (M : Int) (data.length : Int)).toNat = min M data.length) := LH (by omega)
 have HZ2 : Hid ((min (min (M : Int) (data.length : Int) + (E : Int)) (data.length : Int)).toNat = min (M + E) data.length) := LH (by omega)
 go_wp2_with fail
 ·have HCA := LH h
  clear h
  go_ret
  rw [HZ2.out, HZ1.out, HP.out]
  refine ⟨Value.slice a (min (M + E) data.length - min M data.length) 0, rfl, Chg.refl _ _, ?_, fun q hq => by rcases a with _ | ⟨b, o, _⟩ <;> exact hq⟩
  have hc := HCA.out
  rw [HZ1.out] at hc
  have e1 : min (M + E) data.length - min M data.length = 0 := by omega
  rw [e1, List.take_zero]
  refine ⟨a, 0, rfl, by simp, by unfold maxLen; omega, ?_⟩
  rcases CE.out with ⟨h0, _⟩ | ⟨g, o, rfl, _⟩
  ·rw [h0] at hL; simp at hL
  ·exact .inr ⟨g, o, rfl, fun k hk => by simp at hk⟩
 ·clear h
  rcases CE.out with ⟨h0, _⟩ | ⟨g, o, rfl, hcell⟩
  ·rw [h0] at hL; simp at hL
  go_ret
  rw [HZ2.out, HZ1.out, HP.out]
  refine ⟨Value.slice (some ((⟨g, o, none⟩ : Addr).add (min M data.length))) (min (M + E) data.length - min M data.length) (cap - min M data.length), rfl, Chg.refl _ _, ?_, fun q hq => ?_⟩
  ·rw [add_none]
   have hl : ((data.drop (min M data.length)).take (min (M + E) data.length - min M data.length)).length = min (M + E) data.length - min M data.length := by rw [List.length_take, List.length_drop]; omega
   refine ⟨_, _, by rw [hl], by rw [hl]; omega, by omega, .inr ⟨g, o + min M data.length, rfl, fun k hk => ?_⟩⟩
   rw [hl] at hk
   have := hcell (min M data.length + k) (by omega)
   rw [List.getD_eq_getElem?_getD, List.getElem?_take_of_lt hk, List.getElem?_drop, <- List.getD_eq_getElem?_getD, Nat.add_assoc]
   exact this
  ·rw [add_none] at hq
   exact hq
theorem elBBs : El Tryz.prog 67 22 (.slice none 0 0) 1 24 := El.mk Tryz.underlying67 (by kernel_rfl) rfl (by decide)
theorem wpList_app1F {P : Program} {w : World} {ops : Array Oper} {rest : List Oper} {o : Oper} {a : Act} {Q : Exit -> Act -> World -> Prop} (hgd : o.guard = none) (s x : Operand) (t : TypeId)
  (ho : o.op = .call { callee := .builtin .append, args := #[s, x], argTypes := #[t, t] })
  (base : Nat) {e : TypeId} {z : Value} {size bytes : Nat} (hE : El P t e z size bytes)
  (v : Value) (n : Nat) (xs : List Value) (hs : a.eval s = v) (hown : w.ownsRow base e size v n xs)
  (c : Nat) (news : Array Value) (hx : a.eval x = .slice (some ⟨w.heap.size, 0, none⟩) 1 c) (hl : news.size = size) (h1 : ∀ u ∈ news.toList, u.oneCell' = true)
  (h63 : n + 1 <= maxLen) (hbytes : (n + 1) * bytes <= 140737488355328) (hbase : base <= w.heap.size)
  (h : ∀ g cap w', w'.ownsRow base e size (.slice (some ⟨g, 0, none⟩) (n + 1) cap) (n + 1) (xs ++ news.toList) -> w.grownBy w' v.ownBlock -> (v.ownBlock = some g ∨ g = w.heap.size + 1) -> wpList P ops Q rest (a.put o.dst (.slice (some ⟨g, 0, none⟩) (n + 1) cap)) w') : wpList P ops Q (o :: rest) a (w.alloc (.cells news e)) := by
 obtain ⟨ht, ⟨i, hi, hz, hsize, hby⟩, hzs, hsz⟩ := hE
 refine wpList_append_lies _ hgd s x t ho base e i z size bytes ht hi hz hsize hby hzs hsz v n xs hs (hown.alloc _) ⟨w.heap.size, 0, none⟩ 1 c news.toList hx (by simpa using hl) (World.news_of_block (heap_alloc_new w _)) h1 (by omega) h63 hbytes (by simp; omega) (w.heap.size + 1) (by simp) ?_
 intro g cap w' h2 h3 h4 _
 exact h g cap w' h2 (grownBy_trans (World.grownBy_alloc w _ _) h3) h4
structure RowsB (w0 w : World) (v : Value) (R : List VRow) : Prop where
 row : w.ownsRow w0.heap.size 22 1 v R.length (R.map (·.1))
 each : ∀ x ∈ R, BytesAt w x.1 x.2 /\ ∀ q, x.1.ownBlock = some q -> w0.heap.size <= q /\ q < w.heap.size /\ v.ownBlock ≠ some q
 chg : Chg [] w0 w
theorem RowsB.nil (w : World) : RowsB w w (.slice none 0 0) [] := ⟨World.ownsRow_nil _ _ _ _, by simp, Chg.refl _ _⟩
theorem RowsB.keep {w0 w w' : World} {v : Value} {R : List VRow} (h : RowsB w0 w v R) (hc : Chg [] w w') : RowsB w0 w' v R :=
 ⟨row_keep h.row (fun g hg => hc.block g (World.ownsRow.lt h.row g hg).2 (by simp)), fun x hx => ⟨(h.each x hx).1.chg hc (by simp), fun q hq => ⟨((h.each x hx).2 q hq).1, Nat.lt_of_lt_of_le ((h.each x hx).2 q hq).2.1 hc.size, ((h.each x hx).2 q hq).2.2⟩⟩, h.chg.trans hc (by simp)⟩
theorem RowsB.app {w0 w w' : World} {v u : Value} {R : List VRow} {b : List UInt8} {g cap : Nat} (h : RowsB w0 w v R) (hb : BytesAt w u b) (hu : ∀ q, u.ownBlock = some q -> w0.heap.size <= q /\ q < w.heap.size /\ v.ownBlock ≠ some q)
  (hrow : w'.ownsRow w0.heap.size 22 1 (.slice (some ⟨g, 0, none⟩) (R.length + 1) cap) (R.length + 1) (R.map (·.1) ++ [u])) (hg : w.grownBy w' v.ownBlock) (hat : v.ownBlock = some g ∨ g = w.heap.size + 1) :
  RowsB w0 w' (.slice (some ⟨g, 0, none⟩) (R.length + 1) cap) (R ++ [(u, b)]) := by
 have hc : Chg v.ownBlock.toList w w' := (Chg.refl _ w).grown hg (fun k hk => .inl (by rw [hk]; simp))
 have hne : ∀ x : Value, (∀ q, x.ownBlock = some q -> w0.heap.size <= q /\ q < w.heap.size /\ v.ownBlock ≠ some q) -> ∀ q, x.ownBlock = some q -> w0.heap.size <= q /\ q < w'.heap.size /\ (Value.slice (some ⟨g, 0, none⟩) (R.length + 1) cap).ownBlock ≠ some q := fun x hx q hq => by
  obtain ⟨h1, h2, h3⟩ := hx q hq
  refine ⟨h1, Nat.lt_of_lt_of_le h2 hc.size, fun e => ?_⟩
  have e2 := own_eq e
  rcases hat with h4 | h4
  ·exact h3 (by rw [h4, e2])
  ·omega
 have hkb : ∀ x : Value, ∀ l : List UInt8, BytesAt w x l -> (∀ q, x.ownBlock = some q -> w0.heap.size <= q /\ q < w.heap.size /\ v.ownBlock ≠ some q) -> BytesAt w' x l := fun x l hx hq => hx.chg hc (fun k hk hm => (hq k hk).2.2 (by simpa using hm))
 refine ⟨?_, fun x hx => ?_, h.chg.trans hc (fun x hx => .inr ?_)⟩
 ·rw [List.length_append, List.map_append]; exact hrow
 ·rcases List.mem_append.1 hx with hx | hx
  ·exact ⟨hkb _ _ (h.each x hx).1 (h.each x hx).2, hne _ (h.each x hx).2⟩
  ·rw [List.mem_singleton.1 hx]
   exact ⟨hkb _ _ hb hu, hne _ hu⟩
 ·have : v.ownBlock = some x := by simpa using hx
  exact (World.ownsRow.lt h.row x this).1
theorem RowsB.at' {w0 w : World} {v : Value} {R : List VRow} (h : RowsB w0 w v R) (h1 : 1 <= R.length) (h2 : R.length <= 1000) : ∃ g cap, v = .slice (some ⟨g, 0, none⟩) R.length cap /\ RowsAt w g R /\ w0.heap.size <= g := by
 rcases h.row.2 with ⟨e1, e2⟩ | ⟨g, cap, cur, e1, hbg, hg, hnc, hcm, hcs, htake⟩
 ·omega
 ·subst e1
  refine ⟨g, cap, rfl, ⟨blk_lt hg, h2, fun j x hx => ?_⟩, hbg⟩
  have := h.row.cells (g := g) rfl j x.1 (by rw [List.getElem?_map, hx]; rfl)
  rwa [add_none, Nat.zero_add] at this
theorem rparts13_ok (data : List UInt8) (v : Value) (n : Nat) (w : World) (h : BytesAt w v data) (h3 : 3 <= n) (h16 : n <= 16) (hL : 1 <= data.length) (hL2 : data.length <= 100000) :
  Calls Tryz.prog 42 #[v, .int .i64 (n : Int)] w fun e w' => ∃ g cap R, e = .returned (.slice (some ⟨g, 0, none⟩) n cap) /\ RowsB w w' (.slice (some ⟨g, 0, none⟩) n cap) R /\ R.map (·.2) = rowsN data n := by
 obtain ⟨va, vc, hv⟩ := h.slice
 have HV := LH h
 have HPT := LH (fun (i : Nat) (hi : i < n) (W : World) (hW : Chg [] w W) => rpart13_ok data v i n W (h.chg hW (by simp)) h3 h16 hi hL hL2)
 rw [hv] at HPT ⊢
 clear h hv
 have hw1 : IntKind.i64.wrap ((n : Int) - 1) = (n : Int) - 1 := IntWalk.i64_in _ ⟨by omega, by omega⟩
 go_enter Tryz.func42, Tryz.ntmps42
 go_wp2
 go_loopg [5, 6] n (fun g' s5 s6 wr => ∃ (i : Nat) (R : List VRow) (a5 : Option Addr) (l5 c5 : Nat), s5 = .slice a5 l5 c5 /\ s6 = .int .i64 (i : Int) /\ i <= n - 1 /\ n <= i + g' /\ Hid (RowsB w wr s5 R /\ R.map (·.2) = (List.range i).map (partN data n) /\ R.length = i /\ l5 = i))
 case atStart => exact ⟨0, [], none, 0, 0, rfl, rfl, by omega, by omega, LH ⟨RowsB.nil _, by simp, rfl, rfl⟩⟩
 case round =>
  obtain ⟨i, R, a5, l5, c5, rfl, rfl, hi, hig, HX⟩ := hrel
  obtain ⟨s5, hs5⟩ : ∃ s5, s5 = Value.slice a5 l5 c5 := ⟨_, rfl⟩
  have HS5 := LH hs5
  rw [<- hs5] at HX
  clear hs5
  have HI : Hid (i = R.length) := LH HX.out.2.2.1.symm
  have hl5 : i = l5 := HX.out.2.2.2.symm
  subst hl5
  by_cases hlt : i < n - 1
  ·have hiz : (i : Int) < (n : Int) - 1 := by omega
   have CP := LH (HPT.out i (by omega) wr HX.out.1.chg)
   go_wp2_with fail
   refine CP.out.mono ?_
   rintro e w1 ⟨u1, rfl, hc1, hb1, -⟩
   have CC := LH (rcopy_any u1 _ w1 hb1 (by rw [part_len]; have := from_to data.length n i; omega))
   have HX1 := LH (HX.out.1.keep hc1)
   clear hc1 hb1 CP
   go_wp2_with fail
   refine CC.out.mono ?_
   rintro e w2 ⟨u2, rfl, hb2, hn2, hc2⟩
   obtain ⟨ua, uc, hue⟩ := hb2.slice
   subst hue
   have HX2 := LH (HX1.out.keep hc2)
   have HU : Hid (BytesAt w2 (Value.slice ua (partN data n i).length uc) (partN data n i) /\ ∀ q, (Value.slice ua (partN data n i).length uc).ownBlock = some q -> w.heap.size <= q /\ q < w2.heap.size /\ s5.ownBlock ≠ some q) := LH ⟨hb2.bytes, fun q hq => ⟨Nat.le_trans HX1.out.chg.size (hn2 q hq), hb2.lt q hq, fun e => by
    have h1 := (World.ownsRow.lt HX1.out.row q e).2
    have h2 := hn2 q hq
    omega⟩⟩
   have hone : ∀ x ∈ (#[(Value.slice ua (partN data n i).length uc)] : Array Value).toList, x.oneCell' = true := by
    simp [Value.oneCell']
   have HONE := LH hone
   have HRW : Hid (w2.ownsRow w.heap.size 22 1 s5 i (R.map (·.1))) := LH (by have := HX2.out.row; rwa [<- HI.out] at this)
   have HBS := LH HX2.out.chg.size
   have hin : i + 1 <= maxLen := by unfold maxLen; omega
   clear hb2 hn2 hc2 CC hone
   go_wp2_with (at_builtin; refine wpList_app1F rfl (.tmp 13) (.tmp 19) 67 rfl w.heap.size elBBs s5 i (R.map (·.1)) (by exact HS5.out.symm) HRW.out 1 #[(Value.slice ua (partN data n i).length uc)] rfl rfl HONE.out hin (by omega) HBS.out ?_; intro g5 c5 w3 ho3 hg3 hat3)
   have HN := LH (RowsB.app HX2.out HU.out.1 HU.out.2 (g := g5) (cap := c5) (by rw [<- HI.out]; exact ho3) hg3 hat3)
   rw [<- HI.out] at HN
   clear ho3 hg3 hat3
   go_roundg (gk - 1)
   case measure => omega
   case rel =>
    refine ⟨i + 1, R ++ [((Value.slice ua (partN data n i).length uc), partN data n i)], _, _, _, rfl, by go_num, by omega, by omega, LH ⟨HN.out, ?_, by rw [List.length_append, <- HI.out]; rfl, rfl⟩⟩
    rw [List.map_append, HX.out.2.1, List.range_succ, List.map_append]
    rfl
  ·have HKN : Hid (i = n - 1) := LH (by omega)
   have hiz : ¬ (i : Int) < (n : Int) - 1 := by omega
   have CX := LH (fun g cap (hg : s5 = .slice (some ⟨g, 0, none⟩) i cap) (hr : RowsAt wr g R) => rxor_any (g := g) (cap := cap) (n := i) wr HI.out.symm (fun x hx => ⟨(HX.out.1.each x hx).1, by
    have h1 : x.2 ∈ R.map (·.2) := List.mem_map.2 ⟨x, hx, rfl⟩
    rw [HX.out.2.1] at h1
    obtain ⟨k, _, h2⟩ := List.mem_map.1 h1
    rw [<- h2, part_len]
    have := from_to data.length n k
    omega⟩) hr)
   obtain ⟨g, cap, hv, hra, hgb⟩ := HX.out.1.at' (by have := HI.out; omega) (by have := HI.out; omega)
   rw [<- HI.out] at hv
   have CX2 := LH (CX.out g cap hv hra)
   have hv2 := HS5.out.symm.trans hv
   injection hv2 with e1 e2 e3
   subst e1 e3
   have HX3 := LH HX.out
   rw [hv] at HX3
   clear HX CX hv hra hgb HS5
   go_wp2_with fail
   refine CX2.out.mono ?_
   rintro e w2 ⟨u2, rfl, hb2, hn2, hc2⟩
   obtain ⟨ua, uc, hue⟩ := hb2.slice
   subst hue
   obtain ⟨ln, hln⟩ : ∃ ln, ln = (sumL (R.map (·.2))).length := ⟨_, rfl⟩
   rw [<- hln] at hb2 hn2
   rw [<- hln]
   clear hln
   have HX2 := LH (HX3.out.1.keep hc2)
   have HPL : Hid (sumL (R.map (·.2)) = sumL (partsN data n)) := LH (by rw [HX3.out.2.1, HKN.out]; rfl)
   have HRS : Hid (R.map (·.2) ++ [sumL (partsN data n)] = rowsN data n) := LH (by rw [rows_eq (by omega), HX3.out.2.1, HKN.out]; rfl)
   have HU : Hid (BytesAt w2 (Value.slice ua ln uc) (sumL (partsN data n)) /\ ∀ q, (Value.slice ua ln uc).ownBlock = some q -> w.heap.size <= q /\ q < w2.heap.size /\ (Value.slice (some ⟨g, 0, none⟩) i c5).ownBlock ≠ some q) := LH ⟨by rw [<- HPL.out]; exact hb2.bytes, fun q hq => ⟨Nat.le_trans HX3.out.1.chg.size (hn2 q hq), hb2.lt q hq, fun e => by
    have h1 := (World.ownsRow.lt HX3.out.1.row q e).2
    have h2 := hn2 q hq
    omega⟩⟩
   have hone : ∀ x ∈ (#[(Value.slice ua ln uc)] : Array Value).toList, x.oneCell' = true := by
    simp [Value.oneCell']
   have HONE := LH hone
   have HRW : Hid (w2.ownsRow w.heap.size 22 1 (.slice (some ⟨g, 0, none⟩) i c5) i (R.map (·.1))) := LH (by have := HX2.out.row; rwa [<- HI.out] at this)
   have HBS := LH HX2.out.chg.size
   have hin : i + 1 <= maxLen := by unfold maxLen; omega
   clear hb2 hn2 hc2 CX2 hone
   go_wp2_with (at_builtin; (refine wpList_app1F rfl (.tmp 21) (.tmp 24) 67 rfl w.heap.size elBBs (.slice (some ⟨g, 0, none⟩) i c5) i (R.map (·.1)) (by rfl) HRW.out 1 #[(Value.slice ua ln uc)] (by rfl) rfl HONE.out hin (by omega) HBS.out ?_); intro g5 c6 w3 ho3 hg3 hat3)
   have HN := LH (RowsB.app HX2.out HU.out.1 HU.out.2 (g := g5) (cap := c6) (by rw [<- HI.out]; exact ho3) hg3 hat3)
   rw [<- HI.out] at HN
   clear ho3 hg3 hat3
   go_wp2
   go_ret
   have hin2 : i + 1 = n := by have := HKN.out; omega
   rw [hin2] at HN
   exact ⟨g5, c6, by rw [<- hin2]; rfl, R ++ [(Value.slice ua ln uc, sumL (partsN data n))], HN.out, by rw [List.map_append]; exact HRS.out⟩
end
section
open Go.RowKit Go.Shelf
theorem rmaystripe_ok (s : Sp) (w : World) (hs : s.Ok) : Calls Tryz.prog 41 #[spV s] w fun e w' => e = .returned (.bool true) /\ Chg [] w w' := by
 obtain ⟨c, l, m⟩ := s
 obtain ⟨h1, h2, h3, h4, h5, h6⟩ := hs
 dsimp only at h1 h2 h3 h4 h5 h6
 unfold spV spC
 go_enter Tryz.func41, Tryz.ntmps41
 go_wp2
 go_ret
 exact ⟨rfl, (Chg.refl [] w).alloc _⟩
theorem fragN_len {s : Sp} {data : List UInt8} {n i : Nat} (h : 1 <= data.length) (hn : 2 <= n) : (fragN s data n i).length = 12 + longN data.length n i := by
 unfold fragN
 rw [List.length_append, headB_len, row_len h hn]
theorem RowsB.set {w0 w : World} {g cap i : Nat} {u : Value} {R : List VRow} {b : List UInt8} (h : RowsB w0 w (.slice (some ⟨g, 0, none⟩) R.length cap) R) (hi : i < R.length) (hb : BytesAt w u b) (hu : ∀ q, u.ownBlock = some q -> w0.heap.size <= q /\ q < w.heap.size /\ q ≠ g) :
  RowsB w0 (w.setCell ⟨g, i, none⟩ u) (.slice (some ⟨g, 0, none⟩) R.length cap) (R.set i (u, b)) := by
 have hc : Chg [g] w (w.setCell ⟨g, i, none⟩ u) := (Chg.refl _ w).setCell (.inl (by simp)) _
 have hne : ∀ q, q ≠ g -> (Value.slice (some ⟨g, 0, none⟩) R.length cap).ownBlock ≠ some q := fun q hq e => hq (own_eq e).symm
 refine ⟨?_, fun x hx => ?_, h.chg.setCell (.inr (World.ownsRow.lt h.row g rfl).1) _⟩
 ·rw [List.length_set, List.map_set]
  exact row_set h.row i u (by omega)
 ·rcases List.mem_or_eq_of_mem_set hx with hx | rfl
  ·obtain ⟨h1, h2⟩ := h.each x hx
   exact ⟨h1.chg hc (fun k hk hm => (h2 k hk).2.2 (by rw [List.mem_singleton.1 hm]; rfl)), fun q hq => ⟨(h2 q hq).1, Nat.lt_of_lt_of_le (h2 q hq).2.1 hc.size, (h2 q hq).2.2⟩⟩
  ·exact ⟨hb.chg hc (fun k hk hm => (hu k hk).2.2 (List.mem_singleton.1 hm)), fun q hq => ⟨(hu q hq).1, Nat.lt_of_lt_of_le (hu q hq).2.1 hc.size, hne q (hu q hq).2.2⟩⟩
theorem RowsB.there {w0 w : World} {g n cap i : Nat} {R : List VRow} (h : RowsB w0 w (.slice (some ⟨g, 0, none⟩) n cap) R) (hn : R.length = n) (hi : i < n) : w.frozen? ⟨g, i, none⟩ = false /\ g < w.heap.size := by
 rcases h.row.2 with ⟨e1, e2⟩ | ⟨g', cap', cur, e1, hbg, hg, hnc, hcm, hcs, htake⟩
 ·cases e1
 ·have e : g = g' := by injection e1 with e1; simpa using e1
  subst e
  exact ⟨blk_frozen hg _, blk_lt hg⟩
def CutR (s : Sp) (data : List UInt8) (n i : Nat) (R : List VRow) : Prop := R.length = n /\ ∀ j x, R[j]? = some x -> x.2 = if j < i then fragN s data n j else rowN data n j
theorem CutR.set {s : Sp} {data : List UInt8} {n i : Nat} {R : List VRow} (h : CutR s data n i R) (u : Value) : CutR s data n (i + 1) (R.set i (u, fragN s data n i)) := by
 refine ⟨by rw [List.length_set]; exact h.1, fun j x hx => ?_⟩
 rw [List.getElem?_set] at hx
 by_cases hij : i = j
 ·subst hij
  rw [if_pos rfl] at hx
  split at hx
  ·rw [<- Option.some.inj hx, if_pos (by omega)]
  ·cases hx
 ·rw [if_neg hij] at hx
  rw [h.2 j x hx]
  by_cases hj : j < i
  ·rw [if_pos hj, if_pos (by omega)]
  ·rw [if_neg hj, if_neg (by omega)]
def CutPost (s : Sp) (data : List UInt8) (n : Nat) (w : World) : Ending -> World -> Prop := fun e w' => ∃ g cap R, e = .returned (.tuple #[.slice (some ⟨g, 0, none⟩) n cap, .int .i64 0]) /\ RowsB w w' (.slice (some ⟨g, 0, none⟩) n cap) R /\ R.length = n /\ ∀ j x, R[j]? = some x -> x.2 = fragN s data n j
theorem row_le4 {data : List UInt8} {n i : Nat} (h : 1 <= data.length) (hn : 2 <= n) (h2 : data.length <= 400 * (n - 1)) : (rowN data n i).length <= 400 := by
 rw [row_len h hn]
 exact Nat.le_trans (long_le _ _ _) (each_max hn h2)
theorem rcut_ok (s : Sp) (data : List UInt8) (v : Value) (n : Nat) (w : World) (hs : s.Ok) (h : BytesAt w v data) (h3 : 3 <= n) (h16 : n <= 16) (hL : 1 <= data.length) (hL2 : data.length <= 400 * (n - 1)) :
  Calls Tryz.prog 22 #[spV s, v, .int .i64 (n : Int)] w (CutPost s data n w) := by
 obtain ⟨va, vc, hv⟩ := h.slice
 have HV := LH h
 have CM := LH (fun w => rmaystripe_ok s w hs)
 have CN := LH (fun w => rmayn_ok (n : Int) w (by omega) (by omega))
 have CP := LH (fun (W : World) (hW : Chg [] w W) => rparts13_ok data v n W (h.chg hW (by simp)) h3 h16 hL (by omega))
 have HOK := LH hs
 rw [hv] at CP ⊢
 clear h hv hs
 have hw1 : IntKind.i64.wrap ((n : Int) - 1) = (n : Int) - 1 := IntWalk.i64_in _ ⟨by omega, by omega⟩
 have hw2 : IntKind.i64.wrap (400 * ((n : Int) - 1)) = 400 * ((n : Int) - 1) := IntWalk.i64_in _ ⟨by omega, by omega⟩
 have hlz : ¬ 400 * ((n : Int) - 1) < (data.length : Int) := by omega
 have HB0 := LH (heap_alloc_new w (.cells (spC s) 26))
 obtain ⟨w1, hww⟩ : ∃ w1, w1 = w.alloc (.cells (spC s) 26) := ⟨_, rfl⟩
 have hc1 : Chg [] w w1 := by rw [hww]; exact (Chg.refl _ _).alloc _
 have HW := LH hww
 rw [<- hww] at HB0
 clear hww
 have hb1 : w1.heap[w.heap.size]? = some (.cells (spC s) 26 (0, 0)) := HB0.out
 have s0 := blk_cell hb1 0 _ rfl
 have s1 := blk_cell hb1 1 _ rfl
 have s2 := blk_cell hb1 2 _ rfl
 have HB := LH hb1
 have HC := LH hc1
 clear hb1 hc1
 go_enter Tryz.func22, Tryz.ntmps22
 go_wp2_with fail
 rw [<- HW.out]
 refine (CN.out w1).mono ?_
 rintro e w2 ⟨rfl, hq⟩
 subst hq
 go_wp2_with fail
 refine (CM.out w1).mono ?_
 rintro e w2 ⟨rfl, hc2⟩
 have HC2 := LH (HC.out.trans hc2 (by simp))
 have HB2 := LH (hc2.keep HB.out (by simp))
 have CP2 := LH (CP.out w2 HC2.out)
 clear hc2 s0 s1 s2
 go_wp2_with fail
 refine CP2.out.mono ?_
 rintro e w3 ⟨g, cap, R, rfl, hr, hrm⟩
 have hRn : R.length = n := by have := congrArg List.length hrm; rwa [List.length_map, rowsN_len] at this
 have HRR : Hid (RowsB w2 w3 (.slice (some ⟨g, 0, none⟩) n cap) R /\ CutR s data n 0 R /\ Chg [] w w3 /\ w3.heap[w.heap.size]? = some (.cells (spC s) 26 (0, 0))) := LH ⟨hr, ⟨hRn, fun j x hx => by
  have hj : j < n := by have := (List.getElem?_eq_some_iff.1 hx).1; omega
  have h1 : (R.map (·.2))[j]? = some x.2 := by rw [List.getElem?_map, hx]; rfl
  rw [hrm, rowsN_at data n j hj] at h1
  rw [if_neg (by omega)]
  exact (Option.some.inj h1).symm⟩, HC2.out.trans hr.chg (by simp), hr.chg.keep HB2.out (by simp)⟩
 have HZ2 : Hid (w.heap.size < w2.heap.size) := LH (blk_lt HB2.out)
 clear hr hrm hRn CP2 CP
 go_wp2_with fail
 go_loopg [9] n (fun g' s9 wr => ∃ (i : Nat) (R : List VRow), s9 = .int .i64 (i : Int) /\ i <= n /\ n <= i + g' /\ Hid (RowsB w2 wr (.slice (some ⟨g, 0, none⟩) n cap) R /\ CutR s data n i R /\ Chg [] w wr /\ wr.heap[w.heap.size]? = some (.cells (spC s) 26 (0, 0))))
 case atStart => exact ⟨0, R, rfl, by omega, by omega, HRR⟩
 case round =>
  obtain ⟨i, R, rfl, hi, hig, HX⟩ := hrel
  clear HRR
  by_cases hlt : i < n
  ·obtain ⟨hr, hcr, hcw, hb⟩ := HX.out
   obtain ⟨x, hx⟩ : ∃ x, R[i]? = some x := ⟨R[i]'(by rw [hcr.1]; exact hlt), List.getElem?_eq_getElem _⟩
   obtain ⟨g', cap', hv', hra, hgb⟩ := hr.at' (by rw [hcr.1]; omega) (by rw [hcr.1]; omega)
   have e1 : g = g' := by injection hv' with e1; simpa using e1
   subst e1
   obtain ⟨hxb, hxq⟩ := hr.each x (List.mem_of_getElem? hx)
   have hx2 : x.2 = rowN data n i := by rw [hcr.2 i x hx, if_neg (by omega)]
   obtain ⟨xa, xc, hxv⟩ := hxb.slice
   rw [hx2] at hxv hxb
   have s0 := blk_cell hb 0 _ rfl
   have s1 := blk_cell hb 1 _ rfl
   have s2 := blk_cell hb 2 _ rfl
   have CH := LH (rhead13_ok s i n data.length wr.drew HOK.out (by omega) (by omega) (by omega))
   have HXB := LH hxb
   have HXQ := LH hxq
   have HRA := LH (hra.row i x hx)
   rw [hxv] at HXB HXQ HRA
   have HRL := LH (row_le4 (data := data) (n := n) (i := i) hL (by omega) hL2)
   clear hr hcr hcw hb hx hra hv' hxb hxq hx2 hxv
   have hiz : (i : Int) < (n : Int) := by omega
   have hiz1 : (i : Int).toNat = i := by omega
   go_wp2_with fail
   refine wp_region_L [(8, fun w' => (w'.cell? ⟨w.heap.size, 0, none⟩ = some (.int .i64 s.c) /\ w'.cell? ⟨w.heap.size, 1, none⟩ = some (.int .i64 s.l) /\ w'.cell? ⟨w.heap.size, 2, none⟩ = some (.int .i64 s.n))), (13, fun w' => w'.cell? ⟨g, i, none⟩ = some (.slice xa (rowN data n i).length xc))] (by kernel_rfl) ?_ (fun hHeld => ?_)
   ·exact (HoldC.cons (⟨s0, s1, s2⟩) (HoldC.cons (HRA.out) HoldC.nil))
   refine tk 0 ?_ rfl (by kernel_rfl) (fun _ _ _ h => h) (.inl ⟨by rfl, ?_⟩) hHeld ?_; rotate_left; · (intro w _; go_simp; try with_reducible rfl)
   clear hHeld; intro hHeld; try simp only [gA,gB,gC,Act.put,gD,gE,gF]
   refine tk 1 ?_ rfl (by kernel_rfl) (fun _ _ _ h => h) (.inl ⟨by rfl, ?_⟩) hHeld ?_; rotate_left; · (intro w _; go_simp; try with_reducible rfl)
   clear hHeld; intro hHeld; try simp only [gA,gB,gC,Act.put,gD,gE,gF]
   refine ld 0 2 ?_ rfl rfl (by kernel_rfl) (fun _ _ _ h => h) (.inl ⟨by rfl, ?_⟩) hHeld ?_; rotate_left; · (intro w hSw; (try dsimp only at hSw); go_simp; try with_reducible rfl)
   clear hHeld; intro hHeld; try simp only [gA,gB,gC,Act.put,gD,gE,gF]
   refine tk 3 ?_ rfl (by kernel_rfl) (fun _ _ _ h => h) (.inl ⟨by rfl, ?_⟩) hHeld ?_; rotate_left; · (intro w _; go_simp; try with_reducible rfl)
   clear hHeld; intro hHeld; try simp only [gA,gB,gC,Act.put,gD,gE,gF]
   refine tk 4 ?_ rfl (by kernel_rfl) (fun _ _ _ h => h) (.inl ⟨by rfl, ?_⟩) hHeld ?_; rotate_left; · (intro w _; go_simp; try with_reducible rfl)
   clear hHeld; intro hHeld; try simp only [gA,gB,gC,Act.put,gD,gE,gF]
   refine tk 5 ?_ rfl (by kernel_rfl) (fun _ _ _ h => h) (.inl ⟨by rfl, ?_⟩) hHeld ?_; rotate_left; · (intro w _; go_simp; try with_reducible rfl)
   clear hHeld; intro hHeld; try simp only [gA,gB,gC,Act.put,gD,gE,gF]
   refine tk 6 ?_ rfl (by kernel_rfl) (fun _ _ _ h => h) (.inl ⟨by rfl, ?_⟩) hHeld ?_; rotate_left; · (intro w _; go_simp; try with_reducible rfl)
   clear hHeld; intro hHeld; try simp only [gA,gB,gC,Act.put,gD,gE,gF]
   refine tk 7 ?_ rfl (by kernel_rfl) (fun _ _ _ h => h) (.inl ⟨by rfl, ?_⟩) hHeld ?_; rotate_left; · (intro w _; go_simp; try with_reducible rfl)
   clear hHeld; intro hHeld; try simp only [gA,gB,gC,Act.put,gD,gE,gF]
   refine tk 9 ?_ rfl (by kernel_rfl) (fun _ _ _ h => h) (.inl ⟨by rfl, ?_⟩) hHeld ?_; rotate_left; · (intro w _; go_simp; try with_reducible rfl)
   clear hHeld; intro hHeld; try simp only [gA,gB,gC,Act.put,gD,gE,gF]
   refine tk 10 ?_ rfl (by kernel_rfl) (fun _ _ _ h => h) (.inl ⟨by rfl, ?_⟩) hHeld ?_; rotate_left; · (intro w _; go_simp; try with_reducible rfl)
   clear hHeld; intro hHeld; try simp only [gA,gB,gC,Act.put,gD,gE,gF]
   refine tk 11 ?_ rfl (by kernel_rfl) (fun _ _ _ h => h) (.inl ⟨by rfl, ?_⟩) hHeld ?_; rotate_left; · (intro w _; go_simp; try with_reducible rfl)
   clear hHeld; intro hHeld; try simp only [gA,gB,gC,Act.put,gD,gE,gF]
   refine ld 1 12 ?_ rfl rfl (by kernel_rfl) (fun _ _ _ h => h) (.inl ⟨by rfl, ?_⟩) hHeld ?_; rotate_left; · (intro w hSw; (try dsimp only at hSw); go_simp; try with_reducible rfl)
   clear hHeld; intro hHeld; try simp only [gA,gB,gC,Act.put,gD,gE,gF]
   refine wpAnyL_ready (rs := [8]) (by kernel_rfl) (by simp) (AllReadyL.cons (o := _) rfl (fun K hK => ?_) AllReadyL.nil)
   try simp only [gA,gB,gC]
   go_simp
   refine CH.out.mono ?_
   rintro e w4 ⟨u, rfl, hbu, hun, hcu⟩
   obtain ⟨ua, uc, hue⟩ := hbu.slice
   subst hue
   have hc4 : Chg [] wr w4 := ((Chg.refl [] wr).drew).trans hcu (by simp)
   have HC4 := LH hc4
   have HRA4 := LH (hc4.cell HRA.out (by simp))
   have HXB4 := LH (HXB.out.chg hc4 (by simp))
   have HBU := LH (And.intro hbu hun)
   clear hbu hun hcu hc4
   clear hHeld
   refine hK.out _ _ ?_ (fun hHeld => ?_)
   ·exact (HoldC.past (by kernel_rfl) (HoldC.cons (HRA4.out) HoldC.nil))
   clear hK K
   try simp only [gA,gB,gC,Act.put,gD,gE,gF]
   refine wpAnyL_ready (rs := [13]) (by kernel_rfl) (by simp) (AllReadyL.cons (o := _) rfl (fun K hK => ?_) AllReadyL.nil)
   try simp only [gA,gB,gC]
   try rw [if_pos (by rfl)]
   refine wp_appB (.tmp 40) (.tmp 44) (by rfl) (.slice ua (headB s i n data.length).length uc) (headB s i n data.length) (by rfl) HBU.out.1 (.slice xa (rowN data n i).length xc) (rowN data n i) (by rfl) HXB4.out (by have := HRL.out; rw [headB_len]; omega) ?_
   intro v' w5 hv5 hg5 hat5
   have hold : ∀ q, (Value.slice ua (headB s i n data.length).length uc).ownBlock = some q -> wr.heap.size <= q := HBU.out.2
   have hc5 : Chg [] wr w5 := HC4.out.grown hg5 (fun q hq => .inr (hold q hq))
   have hvq : ∀ q, v'.ownBlock = some q -> wr.heap.size <= q /\ q < w5.heap.size := fun q hq => by
    refine ⟨?_, hv5.lt q hq⟩
    rcases hat5 with h1 | h1
    ·exact hold q (h1.symm.trans hq)
    ·rw [h1] at hq
     have h2 : w4.heap.size = q := by simpa using hq
     have h3 := HC4.out.size
     omega
   have hr5 := HX.out.1.keep hc5
   have hgw : g < wr.heap.size := (HX.out.1.there HX.out.2.1.1 hlt).2
   have hf5 := (hr5.there HX.out.2.1.1 hlt).1
   have hg5l := (hr5.there HX.out.2.1.1 hlt).2
   obtain ⟨va', vc', hve⟩ := hv5.bytes.slice
   have hset := RowsB.set (R := R) (cap := cap) (g := g) (i := i) (u := v') (b := fragN s data n i) (by rw [HX.out.2.1.1]; exact hr5) (by rw [HX.out.2.1.1]; exact hlt) hv5.bytes (fun q hq => ⟨by have h1 := (hvq q hq).1; have h2 := HX.out.1.chg.size; omega, (hvq q hq).2, by have h1 := (hvq q hq).1; omega⟩)
   rw [HX.out.2.1.1] at hset
   have hcs : Chg [] w (w5.setCell ⟨g, i, none⟩ v') := ((HX.out.2.2.1.trans hc5 (by simp)).setCell (.inr (by show w.heap.size <= g; have h1 := (World.ownsRow.lt HX.out.1.row g rfl).1; have h2 := HZ2.out; omega)) _)
   have hgne : w.heap.size ≠ g := by have h1 := (World.ownsRow.lt HX.out.1.row g rfl).1; have h2 := HZ2.out; omega
   have hd5 := hc5.cell HRA.out (by simp)
   have hbs : (w5.setCell ⟨g, i, none⟩ v').heap[w.heap.size]? = some (.cells (spC s) 26 (0, 0)) := blk_sets (hc5.keep HX.out.2.2.2 (by simp)) hgne
   have HN := LH (show RowsB w2 (w5.setCell ⟨g, i, none⟩ v') (.slice (some ⟨g, 0, none⟩) n cap) (R.set i (v', fragN s data n i)) /\ CutR s data n (i + 1) (R.set i (v', fragN s data n i)) /\ Chg [] w (w5.setCell ⟨g, i, none⟩ v') /\ (w5.setCell ⟨g, i, none⟩ v').heap[w.heap.size]? = some (.cells (spC s) 26 (0, 0)) from ⟨hset, HX.out.2.1.set v', hcs, hbs⟩)
   clear hold hc5 hvq hr5 hgw hv5 hg5 hat5 hset hcs hbs
   rw [List.length_append] at hve
   rw [hve] at HN ⊢
   clear hve
   clear hHeld
   refine hK.out _ _ ?_ (fun hHeld => ?_)
   ·exact (HoldC.past (by kernel_rfl) (HoldC.past (by kernel_rfl) HoldC.nil))
   clear hK K
   try simp only [gA,gB,gC,Act.put,gD,gE,gF]
   refine tk 14 ?_ rfl (by kernel_rfl) (fun _ _ _ h => h) (.inl ⟨by rfl, ?_⟩) hHeld ?_; rotate_left; · (intro w _; go_simp; try with_reducible rfl)
   clear hHeld; intro hHeld; try simp only [gA,gB,gC,Act.put,gD,gE,gF]
   refine wpAnyL_ready (rs := [15]) (by kernel_rfl) (by simp) (AllReadyL.cons (o := _) rfl (fun K hK => ?_) AllReadyL.nil)
   try simp only [gA,gB,gC]
   go_simp
   clear hHeld
   refine hK.out _ _ ?_ (fun hHeld => ?_)
   ·exact (HoldC.past (by kernel_rfl) (HoldC.past (by kernel_rfl) HoldC.nil))
   clear hK K
   try simp only [gA,gB,gC,Act.put,gD,gE,gF]
   refine wpAnyL_done (by kernel_rfl) ?_ _
   clear hHeld
   go_wp2_with fail
   go_roundg (gk - 1)
   case measure => omega
   case rel => exact ⟨i + 1, _, by go_num, by omega, by omega, HN⟩
  ·have HKN : Hid (i = n) := LH (by omega)
   have hiz : ¬ (i : Int) < (n : Int) := by omega
   go_wp2
   go_ret2
   exact ⟨g, cap, R, rfl, ⟨row_base HX.out.1.row _ (fun q hq => by have h1 := (World.ownsRow.lt HX.out.1.row q hq).1; have h2 := HZ2.out; omega), fun x hx => ⟨(HX.out.1.each x hx).1, fun q hq => ⟨by have h1 := ((HX.out.1.each x hx).2 q hq).1; have h2 := HZ2.out; omega, ((HX.out.1.each x hx).2 q hq).2⟩⟩, HX.out.2.2.1⟩, HX.out.2.1.1, fun j x hx => by
    have h1 := HX.out.2.1.2 j x hx
    have h2 := (List.getElem?_eq_some_iff.1 hx).1
    have h3 := HX.out.2.1.1
    have h4 := HKN.out
    rw [if_pos (by omega)] at h1
    exact h1⟩
end
section
open Go.RowKit Go.Shelf
theorem and_mask (x : Int) (k : Nat) (hk : k < 4611686018427387904) : 0 <= bits .and .i64 x (k : Int) /\ bits .and .i64 x (k : Int) <= (k : Int) := by
 have e : bits .and .i64 x (k : Int) = IntKind.i64.wrap ((BitVec.ofInt 64 x &&& BitVec.ofInt 64 (k : Int)).toNat : Int) := rfl
 have h1 : (BitVec.ofInt 64 x &&& BitVec.ofInt 64 (k : Int)).toNat <= k := by
  rw [BitVec.toNat_and]
  refine Nat.le_trans Nat.and_le_right ?_
  rw [BitVec.ofInt_natCast, BitVec.toNat_ofNat]
  exact Nat.mod_le _ _
 rw [e, IntWalk.i64_in _ ⟨by omega, by omega⟩]
 omega
theorem stripe_ok (m : Int) (w : World) : Calls Tryz.prog 10 #[.int .i64 m] w fun e w' => ∃ s : Sp, s.Ok /\ e = .returned (spV s) /\ Chg [] w w' := by
 go_enter Tryz.func10, Tryz.ntmps10
 go_wp2
 have a1 := and_mask m 3 (by omega)
 have a2 := and_mask (m / 4) 7 (by omega)
 have a3 := and_mask (m / 32) 16777215 (by omega)
 have a1' : 0 <= bits .and .i64 m 3 /\ bits .and .i64 m 3 <= 3 := a1
 have a2' : 0 <= bits .and .i64 (m / 4) 7 /\ bits .and .i64 (m / 4) 7 <= 7 := a2
 have a3' : 0 <= bits .and .i64 (m / 32) 16777215 /\ bits .and .i64 (m / 32) 16777215 <= 16777215 := a3
 clear a1 a2 a3
 generalize bits .and .i64 m 3 = c at *
 generalize bits .and .i64 (m / 4) 7 = l at *
 generalize bits .and .i64 (m / 32) 16777215 = n at *
 have hb := heap_alloc_new w (.cells #[.int .i64 c, .int .i64 l, .int .i64 n] 26)
 have d0 := blk_cell hb 0 _ rfl
 have d1 := blk_cell hb 1 _ rfl
 have d2 := blk_cell hb 2 _ rfl
 exact bodyPost_ret (v := spV ⟨c, l, n⟩) (by simp [results, Tryz.results10, go_sem, d0, d1, d2]) rfl ⟨⟨c, l, n⟩, ⟨by dsimp only; omega, by dsimp only; omega, by dsimp only; omega, by dsimp only; omega, by dsimp only; omega, by dsimp only; omega⟩, rfl, (Chg.refl [] w).alloc _⟩
theorem servers13_ok (m : Int) (w : World) : Calls Tryz.prog 9 #[.int .i64 m] w fun e w' => ∃ n : Nat, 3 <= n /\ n <= 16 /\ e = .returned (.int .i64 (n : Int)) /\ w = w' := by
 have h1 : -14 < m.tmod 14 /\ m.tmod 14 < 14 := by
  by_cases h : 0 <= m
  ·rw [Int.tmod_eq_emod_of_nonneg h]; omega
  ·obtain ⟨y, rfl⟩ : ∃ y, m = -y := ⟨-m, by omega⟩
   rw [Int.neg_tmod, Int.tmod_eq_emod_of_nonneg (by omega)]; omega
 have h2 : IntKind.i64.wrap (m.tmod 14 + 14) = m.tmod 14 + 14 := IntWalk.i64_in _ ⟨by omega, by omega⟩
 have h3 : 0 <= (m.tmod 14 + 14).tmod 14 /\ (m.tmod 14 + 14).tmod 14 < 14 := by
  rw [Int.tmod_eq_emod_of_nonneg (by omega)]; omega
 have h4 : IntKind.i64.wrap (3 + (m.tmod 14 + 14).tmod 14) = 3 + (m.tmod 14 + 14).tmod 14 := IntWalk.i64_in _ ⟨by omega, by omega⟩
 go_enter Tryz.func9, Tryz.ntmps9
 go_wp2
 go_ret
 exact ⟨(3 + m.tmod 14 % 14).toNat, by omega, by omega, by rw [Int.toNat_of_nonneg (by omega)]; rfl, rfl⟩
def badN (K : List UInt8) : Nat := K.countP (fun k => k != 1 && k != 3)
def noneN (K : List UInt8) : Nat := K.countP (fun k => k == 3)
end
end Go.Proofs.YtnbhanmpmjjkkaaGreatDoor.W
