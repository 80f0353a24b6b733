/- Slots on a disk that lives: what Put and Clear leave, plainly. -/
import Derived.Test.YtipfgghdoicdhaaDoorS10
namespace Go.Proofs.YtipfgghdoicdhaaDoor.W
set_option linter.unusedVariables false
set_option linter.unusedSimpArgs false

def DS.Live (d : DS) : Prop := d.dead = false ∧ d.fuse < 0
theorem DS.write_live {d : DS} (hd : d.Live) (k : Nat) (b : List UInt8) (hk : k < d.n) (hb : b.length = 64) : (d.write (k : Int) b).1 = 0 ∧ (d.write (k : Int) b).2.Live ∧ (d.write (k : Int) b).2.n = d.n ∧ (d.write (k : Int) b).2.now = upd d.now k b := by
  obtain ⟨h1, h2⟩ := hd
  have h3 : ¬ d.fuse = 0 := by omega
  have h4 : ¬ (0 : Int) < d.fuse := by omega
  unfold DS.write DS.op
  simp [h1, h3, h4, hb, hk, DS.Live]
  omega
theorem DS.sync_live {d : DS} (hd : d.Live) : (d.sync).1 = 0 ∧ (d.sync).2.Live ∧ (d.sync).2.n = d.n ∧ (d.sync).2.now = d.now ∧ (d.sync).2.since = [] := by
  obtain ⟨h1, h2⟩ := hd
  have h3 : ¬ d.fuse = 0 := by omega
  have h4 : ¬ (0 : Int) < d.fuse := by omega
  unfold DS.sync DS.op
  simp [h1, h3, h4, DS.Live]
  omega
theorem DS.lay_live (pos : Nat) (b : List UInt8) : ∀ (k j : Nat) (d : DS), d.Live → pos + j + k ≤ d.n → (d.lay pos b k j).1 = 0 ∧ (d.lay pos b k j).2.Live ∧ (d.lay pos b k j).2.n = d.n ∧ (∀ i, (d.lay pos b k j).2.now i = if pos + j ≤ i ∧ i < pos + j + k then secAt b (i - pos) else d.now i) ∧ (d.lay pos b k j).2.since = [] := by
  intro k
  induction k with
  | zero =>
    intro j d hd hn
    obtain ⟨h1, h2, h3, h4, h5⟩ := d.sync_live hd
    exact ⟨h1, h2, h3, fun i => by rw [if_neg (by omega)]; show (d.sync).2.now i = _; rw [h4], h5⟩
  | succ k ih =>
    intro j d hd hn
    obtain ⟨h1, h2, h3, h4⟩ := DS.write_live hd (pos + j) (secAt b j) (by omega) (secAt_len b j)
    obtain ⟨i1, i2, i3, i4, i5⟩ := ih (j + 1) _ h2 (by rw [h3]; omega)
    unfold DS.lay
    rw [if_neg (by rw [h1]; simp)]
    refine ⟨i1, i2, by rw [i3, h3], fun i => ?_, i5⟩
    rw [i4, h4]
    unfold upd
    by_cases hi : i = pos + j
    · subst hi
      rw [if_neg (by omega), if_pos rfl, if_pos (by omega)]
      congr 1
      omega
    · rw [if_neg hi]
      by_cases hm : pos + (j + 1) ≤ i ∧ i < pos + (j + 1) + k
      · rw [if_pos hm, if_pos (by omega)]
      · rw [if_neg hm, if_neg (by omega)]
theorem DS.lays_live {d : DS} (pos : Nat) (b : List UInt8) (hd : d.Live) (hn : pos + nsec b.length ≤ d.n) : (d.lays pos b).1 = 0 ∧ (d.lays pos b).2.Live ∧ (d.lays pos b).2.n = d.n ∧ (∀ i, (d.lays pos b).2.now i = if pos ≤ i ∧ i < pos + nsec b.length then secAt b (i - pos) else d.now i) ∧ (d.lays pos b).2.since = [] :=
  DS.lay_live pos b _ 0 d hd hn

theorem beNum_two (n : Nat) (hn : n < 65536) : beNum (beBytes 2 n) = n := by
  simp [beBytes, beNum, UInt8.toNat_ofNat']
  omega
theorem allZ_zeros (n : Nat) : allZ (zeros n) = true := by simp [allZ, zeros]
theorem head_back (n : Nat) (key : List UInt8) (hn : n ≤ 448) (hk : key.length ≤ 40) : headOf (secAt (headBytes n key) 0) = some ⟨true, n, key⟩ := by
  have hl := headBytes_len n key hn hk
  have hs : secAt (headBytes n key) 0 = 1 :: (beBytes 2 n ++ (beBytes 2 key.length ++ (key ++ zeros (64 - (5 + key.length))))) := by
    unfold secAt
    rw [Nat.zero_mul, List.drop_zero, List.take_of_length_le (by omega), hl, head_h3, h3_eq n key hn hk]
    simp
  obtain ⟨z, hz⟩ : ∃ z, z = zeros (64 - (5 + key.length)) := ⟨_, rfl⟩
  have hzz : allZ z = true := by rw [hz]; exact allZ_zeros _
  rw [hs, ← hz]
  have e1 : eyeNum (1 :: (beBytes 2 n ++ (beBytes 2 key.length ++ (key ++ z)))) 0 1 = (1, beBytes 2 n ++ (beBytes 2 key.length ++ (key ++ z)), 0) := by
    unfold eyeNum
    rw [if_neg (by simp), if_neg (by simp)]
    rfl
  have e2 : eyeNum (beBytes 2 n ++ (beBytes 2 key.length ++ (key ++ z))) 0 2 = ((n : Int), beBytes 2 key.length ++ (key ++ z), 0) := by
    unfold eyeNum
    rw [if_neg (by simp), if_neg (by simp [beBytes_len]), List.take_left' (beBytes_len 2 n), List.drop_left' (beBytes_len 2 n), beNum_two n (by omega)]
  have e3 : eyeRaw (beBytes 2 key.length ++ (key ++ z)) 0 40 = (key, z, 0) := by
    unfold eyeRaw
    rw [if_neg (by simp), if_neg (by simp [beBytes_len]), List.take_left' (beBytes_len 2 _), List.drop_left' (beBytes_len 2 _), beNum_two _ (by omega), if_neg (by omega), if_neg (by simp), List.take_left' rfl, List.drop_left' rfl]
  unfold headOf
  rw [if_neg (by simp [allZ]), e1]
  dsimp only
  rw [e2]
  dsimp only
  rw [e3]
  dsimp only
  rw [if_neg (by simp [hzz]; omega)]
  simp
theorem head_none : headOf (secAt (zeros 64) 0) = some noRow := by rfl
theorem flat_full (b : List UInt8) : ∀ m, m * 64 ≤ b.length → flat m (secAt b) = b.take (m * 64) := by
  intro m
  induction m with
  | zero => intro _; simp [flat]
  | succ m ih =>
    intro h
    rw [flat_succ, ih (by omega)]
    unfold secAt
    have hl : ((b.drop (m * 64)).take 64).length = 64 := by rw [List.length_take, List.length_drop]; omega
    rw [hl]
    simp only [zeros, Nat.sub_self, List.replicate_zero, List.append_nil]
    rw [show (m + 1) * 64 = m * 64 + 64 by omega, List.take_add]
theorem flat_back (b : List UInt8) : (flat (nsec b.length) (secAt b)).take b.length = b := by
  by_cases h : b.length % 64 = 0
  · have hm : nsec b.length * 64 = b.length := by unfold nsec; omega
    rw [flat_full b _ (by omega), hm, List.take_length, List.take_length]
  · obtain ⟨m, hm⟩ : ∃ m, nsec b.length = m + 1 := ⟨nsec b.length - 1, by unfold nsec; omega⟩
    have hm1 : m * 64 ≤ b.length ∧ b.length < (m + 1) * 64 := by unfold nsec at hm; omega
    rw [hm, flat_succ, flat_full b m hm1.1]
    unfold secAt
    have hl : (b.drop (m * 64)).take 64 = b.drop (m * 64) := List.take_of_length_le (by rw [List.length_drop]; omega)
    rw [hl, ← List.append_assoc, List.take_append_drop, List.take_left' rfl]
theorem flat_congr (m : Nat) (f g : Nat → List UInt8) (h : ∀ k, k < m → f k = g k) : flat m f = flat m g := by
  induction m with
  | zero => rfl
  | succ m ih => rw [flat_succ, flat_succ, ih (fun k hk => h k (by omega)), h m (by omega)]

/-- Slots on a disk that lives, each told: used or not, and what it holds. -/
structure Told (s : SS) (u : Nat → Bool) (v : Nat → List UInt8) : Prop where
  live : s.d.Live
  room : s.first + 8 * s.rows.length ≤ s.d.n
  head : ∀ k, k < s.rows.length → headOf (s.d.now (s.first + 8 * k)) = some (s.rows.getD k noRow)
  used : ∀ k, k < s.rows.length → (s.rows.getD k noRow).used = u k
  data : ∀ k, k < s.rows.length → u k = true → s.data (k : Int) = v k
theorem Told.small {s : SS} {u : Nat → Bool} {v : Nat → List UInt8} (h : Told s u v) (k : Nat) (hk : k < s.rows.length) : (s.rows.getD k noRow).n ≤ 448 := (headOf_ok (h.head k hk)).1
theorem Told.get {s : SS} {u : Nat → Bool} {v : Nat → List UInt8} (h : Told s u v) (k : Nat) (hk : k < s.rows.length) : s.get (k : Int) = if u k then (v k, 0) else ([], 6) := by
  unfold SS.get
  have hh : s.has (k : Int) := ⟨by omega, by omega⟩
  have hr : s.row (k : Int) = s.rows.getD k noRow := rfl
  rw [if_neg (by simpa using hh), hr, h.used k hk]
  cases hu : u k with
  | false => simp
  | true =>
    rw [if_neg (by simp), h.live.1]
    simp [h.data k hk hu]
theorem set_getD (l : List SRow) (k j : Nat) (x : SRow) (hk : k < l.length) : (l.set k x).getD j noRow = if j = k then x else l.getD j noRow := by
  rw [List.getD_eq_getElem?_getD, List.getElem?_set, List.getD_eq_getElem?_getD]
  by_cases h : k = j
  · subst h; simp [hk]
  · rw [if_neg h, if_neg (fun e => h e.symm)]
/-- Put, where it may be. -/
theorem Told.put {s : SS} {u : Nat → Bool} {v : Nat → List UInt8} (h : Told s u v) (k : Nat) (hk : k < s.rows.length) (key b : List UInt8) (hu : u k = false) (hkey : key.length ≤ 40) (hb : b.length ≤ 448) :
    (s.put (k : Int) key b).1 = 0 ∧ Told (s.put (k : Int) key b).2 (fun j => if j = k then true else u j) (fun j => if j = k then b else v j) ∧ (s.put (k : Int) key b).2.rows.length = s.rows.length ∧ (s.put (k : Int) key b).2.first = s.first ∧ (s.put (k : Int) key b).2.d.n = s.d.n ∧ (s.put (k : Int) key b).2.d.since = [] := by
  have hh : s.has (k : Int) := ⟨by omega, by omega⟩
  have hr : s.row (k : Int) = s.rows.getD k noRow := rfl
  have hp : s.pos (k : Int) = s.first + 8 * k := rfl
  have hns : nsec b.length ≤ 7 := by unfold nsec; omega
  have hroom := h.room
  obtain ⟨a1, a2, a3, a4, a5⟩ := DS.lays_live (s.pos k + 1) b h.live (by rw [hp]; omega)
  have hh1 : nsec (headBytes b.length key).length = 1 := by rw [headBytes_len _ _ hb hkey]; unfold nsec; omega
  obtain ⟨b1, b2, b3, b4, b5⟩ := DS.lays_live (s.pos k) (headBytes b.length key) a2 (by rw [hh1, a3, hp]; omega)
  have hput : s.put (k : Int) key b = (0, { s with d := ((s.d.lays (s.pos k + 1) b).2.lays (s.pos k) (headBytes b.length key)).2, rows := s.rows.set k ⟨true, b.length, key⟩ }) := by
    unfold SS.put
    rw [if_neg (by simpa using hh), if_neg (by omega), hr, h.used k hk, hu, if_neg (by simp), if_neg (by rw [a1]; simp), if_neg (by rw [b1]; simp)]
    rfl
  rw [hput]
  generalize hd2 : ((s.d.lays (s.pos k + 1) b).2.lays (s.pos k) (headBytes b.length key)).2 = d2 at *
  have hnow : ∀ i, d2.now i = if i = s.first + 8 * k then secAt (headBytes b.length key) 0 else if s.first + 8 * k + 1 ≤ i ∧ i < s.first + 8 * k + 1 + nsec b.length then secAt b (i - (s.first + 8 * k + 1)) else s.d.now i := fun i => by
    rw [b4, a4, hh1, hp]
    by_cases hi : i = s.first + 8 * k
    · rw [if_pos (by omega), if_pos hi, hi, Nat.sub_self]
    · rw [if_neg (by omega), if_neg hi]
  refine ⟨rfl, ⟨b2, ?_, fun j hj => ?_, fun j hj => ?_, fun j hj huj => ?_⟩, by simp, rfl, by rw [← a3, ← b3], b5⟩
  · show s.first + 8 * (s.rows.set k _).length ≤ d2.n
    rw [List.length_set, b3, a3]
    exact hroom
  · replace hj : j < s.rows.length := by simpa using hj
    show headOf (d2.now (s.first + 8 * j)) = some ((s.rows.set k _).getD j noRow)
    rw [set_getD _ _ _ _ hk, hnow]
    by_cases hjk : j = k
    · subst hjk
      rw [if_pos rfl, if_pos rfl]
      exact head_back _ _ hb hkey
    · rw [if_neg (by omega), if_neg (by omega), if_neg hjk]
      exact h.head j hj
  · replace hj : j < s.rows.length := by simpa using hj
    show ((s.rows.set k _).getD j noRow).used = _
    rw [set_getD _ _ _ _ hk]
    by_cases hjk : j = k
    · rw [if_pos hjk, if_pos hjk]
    · rw [if_neg hjk, if_neg hjk]
      exact h.used j hj
  · replace hj : j < s.rows.length := by simpa using hj
    show (flat (nsec ((s.rows.set k _).getD j noRow).n) (fun i => d2.now (s.first + 8 * j + 1 + i))).take ((s.rows.set k _).getD j noRow).n = _
    rw [set_getD _ _ _ _ hk]
    by_cases hjk : j = k
    · subst hjk
      rw [if_pos rfl, if_pos rfl]
      dsimp only
      rw [flat_congr _ _ (secAt b) (fun i hi => by rw [hnow, if_neg (by omega), if_pos (by omega)]; congr 1; omega)]
      exact flat_back b
    · rw [if_neg hjk, if_neg hjk]
      try dsimp only at huj
      rw [if_neg hjk] at huj
      have hsm := h.small j hj
      rw [flat_congr _ _ (fun i => s.d.now (s.first + 8 * j + 1 + i)) (fun i hi => by
        have : i < 7 := by unfold nsec at hi; omega
        rw [hnow, if_neg (by omega), if_neg (by omega)])]
      exact h.data j hj huj
/-- Clear, where it may be. -/
theorem Told.clear {s : SS} {u : Nat → Bool} {v : Nat → List UInt8} (h : Told s u v) (k : Nat) (hk : k < s.rows.length) (hu : u k = true) :
    (s.clear (k : Int)).1 = 0 ∧ Told (s.clear (k : Int)).2 (fun j => if j = k then false else u j) v ∧ (s.clear (k : Int)).2.rows.length = s.rows.length ∧ (s.clear (k : Int)).2.first = s.first ∧ (s.clear (k : Int)).2.d.n = s.d.n ∧ (s.clear (k : Int)).2.d.since = [] := by
  have hh : s.has (k : Int) := ⟨by omega, by omega⟩
  have hr : s.row (k : Int) = s.rows.getD k noRow := rfl
  have hp : s.pos (k : Int) = s.first + 8 * k := rfl
  have hroom := h.room
  have hh1 : nsec (zeros 64).length = 1 := rfl
  obtain ⟨a1, a2, a3, a4, a5⟩ := DS.lays_live (s.pos k) (zeros 64) h.live (by rw [hp, hh1]; omega)
  have hcl : s.clear (k : Int) = (0, { s with d := (s.d.lays (s.pos k) (zeros 64)).2, rows := s.rows.set k noRow }) := by
    unfold SS.clear
    rw [if_neg (by simpa using hh), hr, h.used k hk, hu, if_neg (by simp), if_neg (by rw [a1]; simp)]
    rfl
  rw [hcl]
  generalize hd2 : (s.d.lays (s.pos k) (zeros 64)).2 = d2 at *
  have hnow : ∀ i, d2.now i = if i = s.first + 8 * k then secAt (zeros 64) 0 else s.d.now i := fun i => by
    rw [a4, hh1, hp]
    by_cases hi : i = s.first + 8 * k
    · rw [if_pos (by omega), if_pos hi, hi, Nat.sub_self]
    · rw [if_neg (by omega), if_neg hi]
  refine ⟨rfl, ⟨a2, ?_, fun j hj => ?_, fun j hj => ?_, fun j hj huj => ?_⟩, by simp, rfl, a3, a5⟩
  · show s.first + 8 * (s.rows.set k _).length ≤ d2.n
    rw [List.length_set, a3]
    exact hroom
  · replace hj : j < s.rows.length := by simpa using hj
    show headOf (d2.now (s.first + 8 * j)) = some ((s.rows.set k _).getD j noRow)
    rw [set_getD _ _ _ _ hk, hnow]
    by_cases hjk : j = k
    · subst hjk
      rw [if_pos rfl, if_pos rfl]
      exact head_none
    · rw [if_neg (by omega), if_neg hjk]
      exact h.head j hj
  · replace hj : j < s.rows.length := by simpa using hj
    show ((s.rows.set k _).getD j noRow).used = _
    rw [set_getD _ _ _ _ hk]
    by_cases hjk : j = k
    · rw [if_pos hjk, if_pos hjk]; rfl
    · rw [if_neg hjk, if_neg hjk]
      exact h.used j hj
  · replace hj : j < s.rows.length := by simpa using hj
    try dsimp only at huj
    by_cases hjk : j = k
    · rw [if_pos hjk] at huj; cases huj
    · rw [if_neg hjk] at huj
      show (flat (nsec ((s.rows.set k _).getD j noRow).n) (fun i => d2.now (s.first + 8 * j + 1 + i))).take ((s.rows.set k _).getD j noRow).n = _
      rw [set_getD _ _ _ _ hk, if_neg hjk]
      have hsm := h.small j hj
      rw [flat_congr _ _ (fun i => s.d.now (s.first + 8 * j + 1 + i)) (fun i hi => by
        have : i < 7 := by unfold nsec at hi; omega
        rw [hnow, if_neg (by omega)])]
      exact h.data j hj huj
/-- Opened anew they are the same. -/
theorem rowsFrom_told {d : DS} {first : Nat} {rows : List SRow} : ∀ (m k : Nat), k + m = rows.length → (∀ j, k ≤ j → j < rows.length → headOf (d.now (first + 8 * j)) = some (rows.getD j noRow)) → rowsFrom d first m k = some (rows.drop k) := by
  intro m
  induction m with
  | zero => intro k hk _; unfold rowsFrom; rw [List.drop_eq_nil_of_le (by omega)]
  | succ m ih =>
    intro k hk h
    unfold rowsFrom
    rw [h k (Nat.le_refl _) (by omega)]
    dsimp only
    rw [ih (k + 1) (by omega) (fun j h1 h2 => h j (by omega) h2)]
    have hlt : k < rows.length := by omega
    rw [Option.map_some, List.drop_eq_getElem_cons hlt, List.getD_eq_getElem?_getD, List.getElem?_eq_getElem hlt]
    rfl
theorem Told.anew {s : SS} {u : Nat → Bool} {v : Nat → List UInt8} (h : Told s u v) (hn : (s.d.n - s.first) / 8 = s.rows.length) (hz : s.d.n ≠ 0) : s.d.slots (s.first : Int) = (0, some s) := by
  have hroom := h.room
  unfold DS.slots
  rw [if_neg (by omega), if_neg (by rw [h.live.1]; simp [hz]), Int.toNat_natCast, hn, rowsFrom_told s.rows.length 0 (by omega) (fun j _ hj => h.head j hj)]
  rfl
end Go.Proofs.YtipfgghdoicdhaaDoor.W
