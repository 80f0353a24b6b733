/- Each directory once: plain. -/
import Derived.Test.YtaiihklfeoeoeaaTPath
import Derived.Test.YtaiihklfeoeoeaaT9
namespace Go.Proofs.Ytaiihklfeoeoeaa.W
open Go.Proofs.Ytaiihklfeoeoeaa.NM
set_option linter.unusedVariables false
set_option linter.unusedSimpArgs false

def inoW (T : PT) (l : List (List UInt8)) : Nat := (tWalk T l 1).1
def cntP (T : PT) (P : List Nat) : Nat := T.countP (fun x => decide (x.dir ∈ P))
structure BFS (T : PT) (P : List Nat) (Q : List (List (List UInt8))) : Prop where
  ways : ∀ l ∈ Q, (∀ p ∈ l, mayB p = true) ∧ l.length ≤ 8 ∧ tWalk T l 1 = (inoW T l, 0) ∧ tIsDir T (inoW T l) = true
  nodup : (P ++ Q.map (inoW T)).Nodup
  root : 1 ∈ P ++ Q.map (inoW T)
  kids : ∀ x ∈ T, x.dir ∈ P → x.isDir = true → x.ino ∈ P ++ Q.map (inoW T)
  src : ∀ b ∈ P ++ Q.map (inoW T), b = 1 ∨ ∃ x ∈ T, x.ino = b ∧ x.dir ∈ P
theorem BFS.start (T : PT) : BFS T [] [[]] where
  ways l hl := by
    obtain rfl := List.mem_singleton.1 hl
    exact ⟨by simp, by simp, rfl, rfl⟩
  nodup := by simp
  root := by simp [inoW, tWalk]
  kids x _ h := by cases h
  src b hb := by
    left
    simpa [inoW, tWalk] using hb
theorem cnt_nil (T : PT) : cntP T [] = 0 := by
  unfold cntP
  rw [List.countP_eq_zero]
  intro x _; simp
theorem cnt_le (T : PT) (P : List Nat) : cntP T P ≤ T.length := List.countP_le_length
theorem mem_names {T : PT} {a : Nat} {s : List UInt8} : s ∈ namesOf T a ↔ ∃ x ∈ T, x.dir = a ∧ x.name = s := by
  unfold namesOf
  rw [List.mem_mergeSort, List.mem_map]
  constructor
  · rintro ⟨x, hx, rfl⟩
    obtain ⟨h1, h2⟩ := List.mem_filter.1 hx
    exact ⟨x, h1, by simpa using h2, rfl⟩
  · rintro ⟨x, hx, h2, rfl⟩
    exact ⟨x, List.mem_filter.2 ⟨hx, by simpa using h2⟩, rfl⟩
theorem names_len (T : PT) (a : Nat) : (namesOf T a).length = T.countP (fun x => x.dir == a) := by
  unfold namesOf
  rw [List.length_mergeSort, List.length_map, List.countP_eq_length_filter]
theorem cnt_snoc {T : PT} {P : List Nat} {a : Nat} (ha : a ∉ P) : cntP T (P ++ [a]) = cntP T P + (namesOf T a).length := by
  rw [names_len]
  unfold cntP
  induction T with
  | nil => rfl
  | cons x r ih =>
    rw [List.countP_cons, List.countP_cons, List.countP_cons, ih]
    by_cases h1 : x.dir ∈ P
    · have h2 : x.dir ≠ a := fun e => ha (by rw [← e]; exact h1)
      simp [h1, h2]; omega
    · by_cases h2 : x.dir = a
      · subst h2; simp [h1]; omega
      · simp [h1, h2]
theorem names_nodup' {T : PT} (h : TOk T) (a : Nat) : (namesOf T a).Nodup := by
  unfold namesOf
  exact (List.mergeSort_perm _ _).nodup_iff.2 (names_nodup h a)
theorem names_sorted (T : PT) (a : Nat) : (namesOf T a).Pairwise (fun x y => x ≤ y) :=
  (List.pairwise_mergeSort (le := fun x y : List UInt8 => decide (x ≤ y)) leB_trans leB_total _).imp fun {a b} hab => by simpa using hab
theorem names_strict {T : PT} (h : TOk T) {a i : Nat} {s u : List UInt8} (hi : (namesOf T a)[i]? = some s) (hj : (namesOf T a)[i + 1]? = some u) : s < u := by
  obtain ⟨h1, h2⟩ := List.getElem?_eq_some_iff.1 hi
  obtain ⟨h3, h4⟩ := List.getElem?_eq_some_iff.1 hj
  have hle := List.pairwise_iff_getElem.1 (names_sorted T a) i (i + 1) h1 h3 (by omega)
  have hne := List.pairwise_iff_getElem.1 (names_nodup' h a) i (i + 1) h1 h3 (by omega)
  rw [h2, h4] at hle hne
  rcases List.le_iff_lt_or_eq.1 hle with h | h
  · exact h
  · exact absurd h hne
/-- A directory's kid, by its name. -/
theorem kid_facts {T : PT} (h : TOk T) {a : Nat} {s : List UInt8} (hs : s ∈ namesOf T a) : ∃ x ∈ T, x.dir = a ∧ x.name = s ∧ tKid T a s = x.ino ∧ tKid T a s ≠ 0 ∧ tIsDir T (tKid T a s) = x.isDir ∧ mayB s = true := by
  obtain ⟨x, hx, rfl, rfl⟩ := mem_names.1 hs
  obtain ⟨e1, e2⟩ := kid_of_mem h hx
  refine ⟨x, hx, rfl, rfl, e1, e2, ?_, h.may x hx⟩
  have := (h.nums x hx).1
  have e : (x.ino == 1) = false := by simp; omega
  rw [e1]
  unfold tIsDir
  rw [get_mem h hx, e]; rfl
/-- What the directories among some names are called. -/
def downs (T : PT) (l : List (List UInt8)) (a : Nat) (ss : List (List UInt8)) : List (List (List UInt8)) := (ss.filter (fun s => tIsDir T (tKid T a s))).map (fun s => l ++ [s])
theorem downs_snoc (T : PT) (l : List (List UInt8)) (a : Nat) (ss : List (List UInt8)) (s : List UInt8) : downs T l a (ss ++ [s]) = downs T l a ss ++ if tIsDir T (tKid T a s) then [l ++ [s]] else [] := by
  unfold downs
  rw [List.filter_append, List.map_append]
  congr 1
  cases h : tIsDir T (tKid T a s) <;> simp [List.filter_cons, h]
theorem downs_ino {T : PT} (h : TOk T) {l : List (List UInt8)} {a : Nat} (hl : tWalk T l 1 = (a, 0)) (hd : tIsDir T a = true) {s : List UInt8} (hs : s ∈ namesOf T a) : tWalk T (l ++ [s]) 1 = (tKid T a s, 0) := by
  obtain ⟨x, _, _, _, _, e2, _⟩ := kid_facts h hs
  exact walk_snoc hl hd e2
theorem BFS.step {T : PT} (hT : TOk T) {P : List Nat} {l : List (List UInt8)} {Q : List (List (List UInt8))} (h : BFS T P (l :: Q)) (h7 : l.length ≤ 7 ∨ namesOf T (inoW T l) = []) :
    BFS T (P ++ [inoW T l]) (Q ++ downs T l (inoW T l) (namesOf T (inoW T l))) := by
  obtain ⟨w1, w2, w3, w4⟩ := h.ways l (List.mem_cons_self ..)
  generalize inoW T l = a at *
  have hmap : (downs T l a (namesOf T a)).map (inoW T) = ((namesOf T a).filter (fun s => tIsDir T (tKid T a s))).map (tKid T a) := by
    unfold downs
    rw [List.map_map]
    refine List.map_congr_left fun s hs => ?_
    show inoW T (l ++ [s]) = _
    unfold inoW
    rw [downs_ino hT w3 w4 (List.mem_filter.1 hs).1]
  have hnd := h.nodup
  have hsrc := h.src
  have hroot := h.root
  have hkids := h.kids
  have hla : inoW T l = a := by unfold inoW; rw [w3]
  rw [List.map_cons, hla] at hnd hsrc hroot hkids
  have haP : a ∉ P := fun hm => by
    have := List.nodup_append.1 hnd
    exact this.2.2 a hm a (List.mem_cons_self ..) rfl
  have hmem : ∀ b, b ∈ (P ++ [a]) ++ (Q ++ downs T l a (namesOf T a)).map (inoW T) ↔ b ∈ P ++ a :: Q.map (inoW T) ∨ b ∈ ((namesOf T a).filter (fun s => tIsDir T (tKid T a s))).map (tKid T a) := by
    intro b
    rw [List.map_append, hmap]
    simp only [List.mem_append, List.mem_cons, List.mem_nil_iff, or_false]
    constructor
    · rintro ((h | h) | (h | h))
      · exact .inl (.inl h)
      · exact .inl (.inr (.inl h))
      · exact .inl (.inr (.inr h))
      · exact .inr h
    · rintro ((h | (h | h)) | h)
      · exact .inl (.inl h)
      · exact .inl (.inr h)
      · exact .inr (.inl h)
      · exact .inr (.inr h)
  refine ⟨fun l' hl' => ?_, ?_, (hmem 1).2 (.inl hroot), fun x hx hxd hxi => (hmem _).2 ?_, fun b hb => ?_⟩
  · rcases List.mem_append.1 hl' with h1 | h1
    · exact h.ways l' (List.mem_cons_of_mem _ h1)
    · unfold downs at h1
      obtain ⟨s, hs, rfl⟩ := List.mem_map.1 h1
      obtain ⟨hs1, hs2⟩ := List.mem_filter.1 hs
      obtain ⟨x, hx, xd, xn, xe, e2, e3, e4⟩ := kid_facts hT hs1
      have hw := downs_ino hT w3 w4 hs1
      have hi : inoW T (l ++ [s]) = tKid T a s := by unfold inoW; rw [hw]
      refine ⟨fun p hp => ?_, ?_, by rw [hi]; exact hw, by rw [hi]; exact hs2⟩
      · rcases List.mem_append.1 hp with hp | hp
        · exact w1 p hp
        · obtain rfl := List.mem_singleton.1 hp
          exact e4
      · rcases h7 with h7 | h7
        · simp; omega
        · rw [h7] at hs1; cases hs1
  · rw [List.map_append, hmap]
    have hp : ((P ++ [a]) ++ (Q.map (inoW T) ++ ((namesOf T a).filter (fun s => tIsDir T (tKid T a s))).map (tKid T a))) = (P ++ a :: Q.map (inoW T)) ++ ((namesOf T a).filter (fun s => tIsDir T (tKid T a s))).map (tKid T a) := by simp
    rw [hp]
    refine List.nodup_append.2 ⟨hnd, ?_, ?_⟩
    · unfold List.Nodup
      rw [List.pairwise_map]
      refine List.Pairwise.imp_of_mem ?_ ((names_nodup' hT a).filter _)
      intro s u hs hu hne he
      obtain ⟨x, hx, xd, xn, xe, _⟩ := kid_facts hT (List.mem_filter.1 hs).1
      obtain ⟨y, hy, yd, yn, ye, _⟩ := kid_facts hT (List.mem_filter.1 hu).1
      have := ino_inj hT hx hy (by omega)
      exact hne (by rw [← xn, ← yn, this])
    · intro b hb c hc e
      subst e
      obtain ⟨s, hs, rfl⟩ := List.mem_map.1 hc
      obtain ⟨y, hy, yd, yn, ye, _⟩ := kid_facts hT (List.mem_filter.1 hs).1
      have h2 := (hT.nums y hy).1
      rcases hsrc _ hb with h1 | ⟨x, hx, xe, xP⟩
      · omega
      · have := ino_inj hT hx hy (by omega)
        subst this
        exact haP (by rw [← yd]; exact xP)
  · rcases List.mem_append.1 hxd with h1 | h1
    · exact .inl (hkids x hx h1 hxi)
    · right
      have hxa : x.dir = a := List.mem_singleton.1 h1
      obtain ⟨e1, e2⟩ := kid_of_mem hT hx
      rw [hxa] at e1
      have hs : x.name ∈ namesOf T a := mem_names.2 ⟨x, hx, hxa, rfl⟩
      obtain ⟨y, hy, yd, yn, ye, _, yi, _⟩ := kid_facts hT hs
      have := ino_inj hT hx hy (by omega)
      subst this
      exact List.mem_map.2 ⟨x.name, List.mem_filter.2 ⟨hs, by rw [yi]; exact hxi⟩, e1⟩
  · rcases (hmem b).1 hb with h1 | h1
    · rcases hsrc b h1 with h2 | ⟨x, hx, xe, xP⟩
      · exact .inl h2
      · exact .inr ⟨x, hx, xe, List.mem_append_left _ xP⟩
    · right
      obtain ⟨s, hs, rfl⟩ := List.mem_map.1 h1
      obtain ⟨y, hy, yd, yn, ye, _⟩ := kid_facts hT (List.mem_filter.1 hs).1
      exact ⟨y, hy, ye.symm, List.mem_append_right _ (by rw [yd]; simp)⟩
theorem BFS.fresh {T : PT} {P : List Nat} {l : List (List UInt8)} {Q : List (List (List UInt8))} (h : BFS T P (l :: Q)) : inoW T l ∉ P := fun hm => by
  have := List.nodup_append.1 h.nodup
  exact this.2.2 _ hm _ (by rw [List.map_cons]; exact List.mem_cons_self ..) rfl
theorem BFS.all {T : PT} (hT : TOk T) (hR : TR T) {P : List Nat} (h : BFS T P []) : cntP T P = T.length := by
  have key : ∀ a, Reach T a → tIsDir T a = true → a ∈ P := by
    intro a ha
    induction ha with
    | root => intro _; simpa using h.root
    | @step x hx _ ih =>
      intro hd
      have h2 := (hT.nums x hx).1
      have e : (x.ino == 1) = false := by simp; omega
      have : x.isDir = true := by
        unfold tIsDir at hd
        rw [get_mem hT hx, e] at hd
        simpa using hd
      simpa using h.kids x hx (ih (hT.dirs x hx)) this
  unfold cntP
  rw [List.countP_eq_length]
  intro x hx
  have : Reach T x.dir := by
    have h1 := hR x hx
    generalize hb : x.ino = b at h1
    cases h1 with
    | root => have := (hT.nums x hx).1; omega
    | @step y hy hr =>
      obtain rfl := ino_inj hT hx hy hb
      exact hr
  simpa using key _ this (hT.dirs x hx)

theorem nodup_le : ∀ (l m : List Nat), l.Nodup → (∀ x ∈ l, x ∈ m) → l.length ≤ m.length
  | [], m, _, _ => Nat.zero_le _
  | x :: r, m, h, hs => by
    have h' := List.nodup_cons.1 h
    have hx := hs x (List.mem_cons_self ..)
    have := nodup_le r (m.erase x) h'.2 (fun y hy => (List.mem_erase_of_ne (fun e => h'.1 (by rw [← e]; exact hy))).2 (hs y (List.mem_cons_of_mem _ hy)))
    rw [List.length_erase_of_mem hx] at this
    have := List.length_pos_of_mem hx
    rw [List.length_cons]; omega
theorem BFS.len {T : PT} {P : List Nat} {Q : List (List (List UInt8))} (h : BFS T P Q) : P.length + Q.length ≤ T.length + 1 := by
  have := nodup_le _ (1 :: T.map (fun x => x.ino)) h.nodup (fun b hb => by
    rcases h.src b hb with h1 | ⟨x, hx, h1, _⟩
    · rw [h1]; exact List.mem_cons_self ..
    · exact List.mem_cons_of_mem _ (List.mem_map.2 ⟨x, hx, h1⟩))
  simpa using this

/-! ### The paths -/
theorem tail_app : ∀ (l : List (List UInt8)) (s : List UInt8), tailB (l ++ [s]) = tailB l ++ 47 :: s
  | [], s => by simp [tailB]
  | p :: l, s => by rw [List.cons_append]; simp only [tailB]; rw [tail_app l s]; simp
theorem join_app (l : List (List UInt8)) (s : List UInt8) : joinB (l ++ [s]) = (if l = [] then [] else joinB l) ++ 47 :: s := by
  unfold joinB
  rw [if_neg (by simp), tail_app]
  by_cases h : l = []
  · subst h; simp [tailB]
  · rw [if_neg h, if_neg h]
theorem join_root {l : List (List UInt8)} (h : ∀ p ∈ l, mayB p = true) : joinB l = [47] ↔ l = [] := by
  constructor
  · intro e
    cases l with
    | nil => rfl
    | cons p r =>
      unfold joinB at e
      rw [if_neg (by simp)] at e
      have h1 := (may_len (h p (List.mem_cons_self ..))).1
      simp only [tailB] at e
      have h2 := congrArg List.length e
      simp only [List.length_cons, List.length_append, List.length_nil] at h2
      omega
  · rintro rfl; rfl
theorem split_nine {l : List (List UInt8)} (hm : ∀ p ∈ l, mayB p = true) (h9 : 9 ≤ l.length) : splitB (joinB l) = none := by
  cases hs : splitB (joinB l) with
  | none => rfl
  | some k =>
    obtain ⟨k1, k2, k3⟩ := split_some hs
    have hl0 : l ≠ [] := by rintro rfl; simp at h9
    have hk0 : k ≠ [] := by
      rintro rfl
      have := (join_root hm).1 k3.symm
      exact hl0 this
    unfold joinB at k3
    rw [if_neg hl0, if_neg hk0] at k3
    obtain ⟨r, e1, e2⟩ := cuts_tail l hl0 (fun p hp => may_stroke (hm p hp))
    obtain ⟨r', f1, f2⟩ := cuts_tail k hk0 (fun p hp => may_stroke (k1 p hp))
    rw [e1, f1] at k3
    obtain rfl : r' = r := (List.cons.inj k3).2
    rw [e2] at f2
    rw [f2] at h9; omega
def depB (l : List UInt8) : Nat := l.countP (fun c => c == 47)
theorem dep_name {p : List UInt8} (h : mayB p = true) : depB p = 0 := by
  unfold depB
  rw [List.countP_eq_zero]
  intro c hc
  simp
  rintro rfl
  exact may_stroke h hc
theorem dep_tail : ∀ (l : List (List UInt8)), (∀ p ∈ l, mayB p = true) → depB (tailB l) = l.length
  | [], _ => rfl
  | p :: l, h => by
    have h1 := dep_tail l (fun q hq => h q (List.mem_cons_of_mem _ hq))
    have h2 := dep_name (h p (List.mem_cons_self ..))
    unfold depB at h1 h2 ⊢
    simp only [tailB]
    rw [List.countP_cons, List.countP_append, h1, h2]
    simp
theorem dep_join {l : List (List UInt8)} (h0 : l ≠ []) (h : ∀ p ∈ l, mayB p = true) : depB (joinB l) = l.length := by
  unfold joinB
  rw [if_neg h0, dep_tail l h]
/-- A kid's path: looked at. -/
theorem look_kid {T : PT} (hT : TOk T) {l : List (List UInt8)} {a : Nat} (hm : ∀ p ∈ l, mayB p = true) (hl : tWalk T l 1 = (a, 0)) (hd : tIsDir T a = true) {s : List UInt8} (hs : s ∈ namesOf T a) (h7 : l.length ≤ 7) :
    tLook T (joinB (l ++ [s])) = (tKid T a s, tIsDir T (tKid T a s), 0) ∧ (tList T (joinB (l ++ [s]))).2 = if tIsDir T (tKid T a s) then 0 else 10 := by
  obtain ⟨x, _, _, _, _, _, _, e4⟩ := kid_facts hT hs
  have hsp : splitB (joinB (l ++ [s])) = some (l ++ [s]) := split_join _ (fun p hp => by
    rcases List.mem_append.1 hp with hp | hp
    · exact hm p hp
    · obtain rfl := List.mem_singleton.1 hp; exact e4) (by simp; omega)
  have hw := downs_ino hT hl hd hs
  have hlk : tLook T (joinB (l ++ [s])) = (tKid T a s, tIsDir T (tKid T a s), 0) := by
    unfold tLook
    rw [hsp]
    simp [hw]
  refine ⟨hlk, ?_⟩
  unfold tList
  rw [hlk]
  cases tIsDir T (tKid T a s) <;> simp
theorem look_deep {T : PT} {l : List (List UInt8)} {s : List UInt8} (hm : ∀ p ∈ l, mayB p = true) (hs : mayB s = true) (h8 : 8 ≤ l.length) : tLook T (joinB (l ++ [s])) = (0, false, 12) ∧ (tList T (joinB (l ++ [s]))).2 = 12 := by
  have hsp : splitB (joinB (l ++ [s])) = none := split_nine (fun p hp => by
    rcases List.mem_append.1 hp with hp | hp
    · exact hm p hp
    · obtain rfl := List.mem_singleton.1 hp; exact hs) (by simp; omega)
  have hlk : tLook T (joinB (l ++ [s])) = (0, false, 12) := by unfold tLook; rw [hsp]
  refine ⟨hlk, ?_⟩
  unfold tList
  rw [hlk]
  simp
theorem list_join {T : PT} {l : List (List UInt8)} {a : Nat} (hm : ∀ p ∈ l, mayB p = true) (h8 : l.length ≤ 8) (hl : tWalk T l 1 = (a, 0)) (hd : tIsDir T a = true) : tList T (joinB l) = (entsOf T a, 0) := by
  have hlk : tLook T (joinB l) = (a, true, 0) := by
    unfold tLook
    rw [split_join l hm h8]
    simp [hl, hd]
  unfold tList
  rw [hlk]
  simp
end Go.Proofs.Ytaiihklfeoeoeaa.W
