/- A move, and back: plain. -/
import Derived.Test.YtaiihklfeoeoeaaTListP
namespace Go.Proofs.Ytaiihklfeoeoeaa.W
open Go.Proofs.Ytaiihklfeoeoeaa.NM
set_option linter.unusedVariables false
set_option linter.unusedSimpArgs false

theorem ren_mem_of {T : PT} (hT : TOk T) {x : Th} (hx : x ∈ T) (d : Nat) (s : List UInt8) : ({ x with dir := d, name := s } : Th) ∈ tRename T x.ino d s := mem_ren.2 ⟨x, hx, by rw [if_pos rfl]⟩
theorem ren_other {T : PT} {x y : Th} {d : Nat} {s : List UInt8} (hy : y ∈ tRename T x.ino d s) : y = { y with dir := d, name := s } ∧ y.ino = x.ino ∨ y ∈ T ∧ y.ino ≠ x.ino := by
  obtain ⟨z, hz, rfl⟩ := mem_ren.1 hy
  by_cases e : z.ino = x.ino
  · left; rw [if_pos e]; exact ⟨rfl, e⟩
  · right; rw [if_neg e]; exact ⟨hz, e⟩
theorem ren_back {T : PT} (hT : TOk T) {x : Th} (hx : x ∈ T) (d : Nat) (s : List UInt8) : tRename (tRename T x.ino d s) x.ino x.dir x.name = T := by
  unfold tRename
  rw [List.map_map]
  conv => rhs; rw [← List.map_id T]
  refine List.map_congr_left fun y hy => ?_
  show (if (if y.ino = x.ino then ({ y with dir := d, name := s } : Th) else y).ino = x.ino then _ else _) = y
  by_cases e : y.ino = x.ino
  · have := ino_inj hT hy hx e
    subst this
    simp
  · simp [e]
/-- What is known of a move that goes. -/
structure Moved (T : PT) (p q : List UInt8) (n d : Nat) (s : List UInt8) (x : Th) (l m : List (List UInt8)) : Prop where
  hx : x ∈ T
  xn : x.ino = n
  sp : splitB p = some (l ++ [x.name])
  sq : splitB q = some (m ++ [s])
  wl : tWalk T l 1 = (x.dir, 0)
  dl : tIsDir T x.dir = true
  wm : tWalk T m 1 = (d, 0)
  dm : tIsDir T d = true
  km : tKid T d s = 0
  ok : TOk (tRename T n d s)
  n1 : n ≠ 1
  ne : ¬ (x.dir = d ∧ x.name = s)
  wl' : tWalk (tRename T n d s) l 1 = (x.dir, 0)
  wm' : tWalk (tRename T n d s) m 1 = (d, 0)
  dn : d ≠ n
  xd : x.dir ≠ n
  w1 : withinB q p = false
  w2 : withinB p q = false
  mv : tMove T p q = (0, tRename T n d s)
  lk : tLook T p = (n, tIsDir T n, 0)
theorem moved {T : PT} (hT : TOk T) {p q : List UInt8} (h : (tMove T p q).1 = 0) : ∃ n d s x l m, Moved T p q n d s x l m := by
  obtain ⟨l, m, s, n, d, e1, e2, e3, e4, e5, e6, e7, e8, e9, e10, e11⟩ := move_goes h
  have hok := ren_tok (n := n) hT e2 e6 e7
  rcases List.eq_nil_or_concat l with rfl | ⟨l', s0, rfl⟩
  · obtain rfl : 1 = n := (Prod.mk.inj e3).1
    exact absurd rfl e4
  · rw [List.concat_eq_append] at e1 e3 e8 e9
    obtain ⟨c, g1, g2, g3, g4⟩ := walk_snoc_inv e3
    obtain ⟨x, _, hx, xd, xn, xe⟩ := kid_some g4
    have hxn : x.ino = n := by omega
    subst xd; subst xn
    have hfm := free_walk hT e3 e8
    have hw' := walk_ren hT hok m 1 d e5 hfm
    have hfl : ∀ k, k ≤ l'.length → k ≠ 0 → tWalk T (l'.take k) 1 ≠ (n, 0) := fun k hk _ he => by
      have := congrArg List.length (walk_inj hT e3 he)
      rw [List.length_append, List.length_take] at this
      simp at this
      omega
    have hdn : d ≠ n := by
      rcases List.eq_nil_or_concat m with rfl | ⟨m', u, rfl⟩
      · obtain rfl : 1 = d := (Prod.mk.inj e5).1
        exact fun e => e4 e.symm
      · intro e
        exact hfm (m'.concat u).length (Nat.le_refl _) (by simp) (by rw [List.take_length, e5, e])
    have hxd : x.dir ≠ n := by
      rcases List.eq_nil_or_concat l' with rfl | ⟨m', u, rfl⟩
      · have : 1 = x.dir := (Prod.mk.inj g1).1
        omega
      · intro e
        exact hfl (m'.concat u).length (Nat.le_refl _) (by simp) (by rw [List.take_length, g1, e])
    refine ⟨n, d, s, x, l', m, ⟨hx, hxn, e1, e2, g1, g2, e5, e6, e7, hok, e4, fun hh => ?_, walk_ren hT hok l' 1 x.dir g1 hfl, hw', hdn, hxd, ?_, ?_, e10, e11⟩⟩
    · have := (kid_of_mem hT hx).2
      rw [hh.1, hh.2, e7] at this; exact this rfl
    · unfold withinB; rw [e1, e2]; exact e8
    · unfold withinB; rw [e1, e2]; exact e9
theorem Moved.lookQ {T : PT} {p q : List UInt8} {n d : Nat} {s : List UInt8} {x : Th} {l m : List (List UInt8)} (hT : TOk T) (h : Moved T p q n d s x l m) : tLook (tRename T n d s) q = (n, tIsDir T n, 0) := by
  have hm := ren_mem_of hT h.hx d s
  rw [h.xn] at hm
  obtain ⟨k1, k2⟩ := kid_of_mem h.ok hm
  simp only at k1 k2
  have hw := walk_snoc h.wm' (by rw [isDir_ren]; exact h.dm) k2
  rw [k1] at hw
  unfold tLook
  rw [h.sq]
  simp only [hw]
  rw [isDir_ren]; simp
theorem Moved.kidP {T : PT} {p q : List UInt8} {n d : Nat} {s : List UInt8} {x : Th} {l m : List (List UInt8)} (hT : TOk T) (h : Moved T p q n d s x l m) : tKid (tRename T n d s) x.dir x.name = 0 := by
  rw [kid_zero h.ok]
  cases hk : tKidOf (tRename T n d s) x.dir x.name with
  | none => rfl
  | some y =>
    exfalso
    obtain ⟨h1, h2, h3⟩ := kidOf_some hk
    rw [← h.xn] at h1
    rcases ren_other h1 with ⟨e, _⟩ | ⟨hy, hne⟩
    · rw [e] at h2 h3
      exact h.ne ⟨h2.symm, h3.symm⟩
    · have a1 := kidOf_mem hT hy
      have a2 := kidOf_mem hT h.hx
      rw [h2, h3, a2] at a1
      exact hne (by rw [Option.some.inj a1])
theorem Moved.lookP {T : PT} {p q : List UInt8} {n d : Nat} {s : List UInt8} {x : Th} {l m : List (List UInt8)} (hT : TOk T) (h : Moved T p q n d s x l m) : tLook (tRename T n d s) p = (0, false, 6) := by
  have hw : tWalk (tRename T n d s) (l ++ [x.name]) 1 = (0, 6) := by
    rw [walk_app _ l [x.name] 1 (by rw [h.wl']), h.wl', walk_one, isDir_ren, if_neg (by rw [h.dl]; simp), if_pos (h.kidP hT)]
  unfold tLook
  rw [h.sp]
  simp [hw]
theorem Moved.kids {T : PT} {p q : List UInt8} {n d : Nat} {s : List UInt8} {x : Th} {l m : List (List UInt8)} (hT : TOk T) (h : Moved T p q n d s x l m) : entsOf (tRename T n d s) n = entsOf T n := by
  have hf : (tRename T n d s).filter (fun y => y.dir == n) = T.filter (fun y => y.dir == n) := by
    unfold tRename
    rw [List.filter_map]
    have e : T.filter ((fun y : Th => y.dir == n) ∘ fun y : Th => if y.ino = n then { y with dir := d, name := s } else y) = T.filter (fun y => y.dir == n) := by
      refine List.filter_congr fun y hy => ?_
      show ((if y.ino = n then ({ y with dir := d, name := s } : Th) else y).dir == n) = _
      by_cases e : y.ino = n
      · have := ino_inj hT hy h.hx (by rw [e, h.xn])
        subst this
        rw [if_pos e]
        have h1 : (d == n) = false := by simpa using h.dn
        have h2 : (y.dir == n) = false := by simpa using h.xd
        simp [h1, h2]
      · rw [if_neg e]
    rw [e]
    conv => rhs; rw [← List.map_id (T.filter (fun y => y.dir == n))]
    refine List.map_congr_left fun y hy => ?_
    obtain ⟨hy1, hy2⟩ := List.mem_filter.1 hy
    rw [if_neg]
    · rfl
    · intro e
      have := ino_inj hT hy1 h.hx (by rw [e, h.xn])
      subst this
      exact h.xd (by simpa using hy2)
  have hn : namesOf (tRename T n d s) n = namesOf T n := by unfold namesOf; rw [hf]
  unfold entsOf
  rw [hn]
  refine List.map_congr_left fun u hu => ?_
  have hk : tKid (tRename T n d s) n u = tKid T n u := by
    obtain ⟨y, hy, yd, yn, ye, _⟩ := kid_facts hT hu
    have hyn : y.ino ≠ n := fun e => by
      have := ino_inj hT hy h.hx (by rw [e, h.xn])
      subst this
      exact h.xd yd
    have hy' : y ∈ tRename T n d s := mem_ren.2 ⟨y, hy, by rw [if_neg hyn]⟩
    have := (kid_of_mem h.ok hy').1
    rw [yd, yn] at this
    rw [this, ye]
  unfold entOf
  rw [hk, isDir_ren]
theorem Moved.list {T : PT} {p q : List UInt8} {n d : Nat} {s : List UInt8} {x : Th} {l m : List (List UInt8)} (hT : TOk T) (h : Moved T p q n d s x l m) : tList (tRename T n d s) q = tList T p := by
  unfold tList
  rw [h.lookQ hT, h.lk]
  simp only
  rw [h.kids hT]
theorem Moved.back {T : PT} {p q : List UInt8} {n d : Nat} {s : List UInt8} {x : Th} {l m : List (List UInt8)} (hT : TOk T) (h : Moved T p q n d s x l m) : tMove (tRename T n d s) q p = (0, T) := by
  have hpl : tPlace (tRename T n d s) p = (x.dir, x.name, 0) := by
    unfold tPlace
    rw [h.sp]
    have e1 : (l ++ [x.name]) ≠ [] := by simp
    have e2 : (l ++ [x.name]).dropLast = l := by simp
    have e3 : (l ++ [x.name]).getLastD [] = x.name := by simp [List.getLastD_eq_getLast?]
    simp only [if_neg e1, e2, e3, h.wl']
    rw [isDir_ren, h.dl]
    simp
  unfold tMove
  rw [h.lookQ hT, hpl]
  simp only [ne_eq, not_true_eq_false, if_false, if_neg h.n1, h.w1, h.w2, h.kidP hT]
  rw [if_neg (by rw [h.sp]; simp)]
  simp only [Bool.or_self, Bool.false_eq_true, if_false]
  have := ren_back hT h.hx d s
  rw [h.xn] at this
  rw [this]
end Go.Proofs.Ytaiihklfeoeoeaa.W
