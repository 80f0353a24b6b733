/- A tree's Clone. -/
import Derived.Test.YtaiihklfeoeoeaaTOwn
import Derived.Deep.CutBlock
import Derived.Deep.DeepCutAuto
namespace Go.Proofs.Ytaiihklfeoeoeaa.W
open Go.RowKit
open Go.Proofs.Ytaiihklfeoeoeaa.NM
set_option linter.unusedVariables false
set_option linter.unusedSimpArgs false

/-- What of a tree has been cloned: the things ks. -/
structure CloneSt (w0 w : World) (ct cm r : Nat) (T : PT) (ks : List Nat) (f g : Nat → Nat) : Prop where
  head : w.heap[ct]? = some (.cells #[.map (some cm)] 63 (0, 0))
  things : MapF 3 klI okI w cm (fun a => if 0 ≤ a ∧ a.toNat ∈ ks then some (pth (f a.toNat)) else none) ks.length
  each : ∀ a ∈ ks, w.heap[f a]? = some (.cells (thCells (thOf T a) (if tIsDir T a then some (g a) else none)) 69 (0, 0))
  ins : ∀ a ∈ ks, tIsDir T a = true → MapF 9 klS okS w (g a) (φK T a) (nKids T a)
  finj : ∀ a b, a ∈ ks → b ∈ ks → f a = f b → a = b
  ginj : ∀ a b, a ∈ ks → b ∈ ks → tIsDir T a = true → tIsDir T b = true → g a = g b → a = b
  gm : ∀ a, a ∈ ks → tIsDir T a = true → g a ≠ cm
  farC : w0.heap.size ≤ ct ∧ ct ≠ r ∧ w0.heap.size ≤ cm ∧ cm ≠ r ∧ ct ≠ cm
  farF : ∀ a ∈ ks, w0.heap.size ≤ f a ∧ f a ≠ r ∧ f a ≠ cm
  farG : ∀ a ∈ ks, tIsDir T a = true → w0.heap.size ≤ g a ∧ g a ≠ r ∧ g a ≠ ct
theorem CloneSt.keep {S : List Nat} {w0 w w' : World} {ct cm r : Nat} {T : PT} {ks : List Nat} {f g : Nat → Nat} (h : CloneSt w0 w ct cm r T ks f g) (hc : Chg S w w') (hS : ∀ x ∈ S, x = r ∨ w.heap.size ≤ x) : CloneSt w0 w' ct cm r T ks f g := by
  have far : ∀ b, b < w.heap.size → b ≠ r → b ∉ S := fun b hb hr hm => by rcases hS b hm with h1 | h1 <;> omega
  refine ⟨hc.keep h.head (far _ (blk_lt h.head) h.farC.2.1), h.things.chg hc (far _ h.things.lt h.farC.2.2.2.1), fun a ha => hc.keep (h.each a ha) (far _ (blk_lt (h.each a ha)) (h.farF a ha).2.1), fun a ha hd => (h.ins a ha hd).chg hc (far _ (h.ins a ha hd).lt (h.farG a ha hd).2.1), h.finj, h.ginj, h.gm, h.farC, h.farF, h.farG⟩
theorem CloneSt.start (w : World) (T : PT) (r : Nat) (hr : w.heap.size + 2 ≤ r) : CloneSt w ((w.alloc (.map #[] 0)).alloc (.cells #[.map (some w.heap.size)] 63)) (w.heap.size + 1) w.heap.size r T [] (fun _ => 0) (fun _ => 0) := by
  have h1 := heap_alloc_new (w.alloc (.map #[] 0)) (.cells #[.map (some w.heap.size)] 63)
  have e : (w.alloc (.map #[] 0)).heap.size = w.heap.size + 1 := by simp
  rw [e] at h1
  refine ⟨h1, ?_, by simp, by simp, by simp, by simp, by simp, ⟨by omega, by omega, by omega, by omega, by omega⟩, by simp, by simp⟩
  have h2 : MapF 3 klI okI (w.alloc (.map #[] 0)) w.heap.size (fun _ => none) 0 := MapF.made w
  exact (h2.chg ((Chg.refl [] _).alloc (.cells #[.map (some w.heap.size)] 63)) (by simp)).congr rfl (fun x _ => by simp)
/-- One thing more. -/
theorem CloneSt.more {w0 w w3 : World} {ct cm r : Nat} {T : PT} {ks : List Nat} {f g : Nat → Nat} {a fx gx : Nat} (h : CloneSt w0 w ct cm r T ks f g) (ha : a ∉ ks) (hw0 : w0.heap.size ≤ w.heap.size) (hrl : r < w.heap.size)
    {w2 : World} (hc2 : Chg [] w w2) (hfx : w2.heap[fx]? = some (.cells (thCells (thOf T a) (if tIsDir T a then some gx else none)) 69 (0, 0))) (hfn : w.heap.size ≤ fx) (hgx : tIsDir T a = true → MapF 9 klS okS w2 gx (φK T a) (nKids T a) ∧ w.heap.size ≤ gx)
    (hm : MapF 3 klI okI w3 cm (updF (fun a => if 0 ≤ a ∧ a.toNat ∈ ks then some (pth (f a.toNat)) else none) (a : Int) (pth fx)) (ks.length + 1)) (hc3 : Chg [cm] w2 w3) : CloneSt w0 w3 ct cm r T (a :: ks) (fun b => if b = a then fx else f b) (fun b => if b = a then gx else g b) := by
  have h2 := h.keep hc2 (by simp)
  have hcml := h.things.lt
  have hfar : fx ≠ cm := by omega
  have key : ∀ b, b ≠ cm → b ∉ [cm] := fun b hb hm => hb (by simpa using hm)
  refine ⟨hc3.keep h2.head (key _ h.farC.2.2.2.2), hm.congr rfl (fun x _ => ?_), fun b hb => ?_, fun b hb hd => ?_, fun b c hb hc e => ?_, fun b c hb hc hdb hdc e => ?_, fun b hb hd => ?_, h.farC, fun b hb => ?_, fun b hb hd => ?_⟩
  · unfold updF
    by_cases e : x = (a : Int)
    · rw [if_pos e, e]
      simp
    · rw [if_neg e]
      by_cases hx : 0 ≤ x
      · have e2 : x.toNat ≠ a := by omega
        simp [hx, e2]
      · simp [hx]
  · rcases List.mem_cons.1 hb with rfl | hb
    · simp only [if_pos]
      exact hc3.keep hfx (key _ hfar)
    · have e : b ≠ a := fun e => ha (by rw [← e]; exact hb)
      simp only [if_neg e]
      exact hc3.keep (h2.each b hb) (key _ (h.farF b hb).2.2)
  · rcases List.mem_cons.1 hb with rfl | hb
    · simp only [if_pos]
      exact (hgx hd).1.chg hc3 (key _ (by have := (hgx hd).2; omega))
    · have e : b ≠ a := fun e => ha (by rw [← e]; exact hb)
      simp only [if_neg e]
      exact (h2.ins b hb hd).chg hc3 (key _ (h.gm b hb hd))
  · rcases List.mem_cons.1 hb with rfl | hb'
    · rcases List.mem_cons.1 hc with rfl | hc
      · rfl
      · have e2 : c ≠ b := fun e => ha (by rw [← e]; exact hc)
        simp only [if_pos, if_neg e2] at e
        have := blk_lt (h.each c hc); omega
    · have e1 : b ≠ a := fun e => ha (by rw [← e]; exact hb')
      rcases List.mem_cons.1 hc with rfl | hc
      · simp only [if_pos, if_neg e1] at e
        have := blk_lt (h.each b hb'); omega
      · have e2 : c ≠ a := fun e => ha (by rw [← e]; exact hc)
        simp only [if_neg e1, if_neg e2] at e
        exact h.finj b c hb' hc e
  · rcases List.mem_cons.1 hb with rfl | hb'
    · rcases List.mem_cons.1 hc with rfl | hc
      · rfl
      · have e2 : c ≠ b := fun e => ha (by rw [← e]; exact hc)
        simp only [if_pos, if_neg e2] at e
        have := (h.ins c hc hdc).lt
        have := (hgx hdb).2; omega
    · have e1 : b ≠ a := fun e => ha (by rw [← e]; exact hb')
      rcases List.mem_cons.1 hc with rfl | hc
      · simp only [if_pos, if_neg e1] at e
        have := (h.ins b hb' hdb).lt
        have := (hgx hdc).2; omega
      · have e2 : c ≠ a := fun e => ha (by rw [← e]; exact hc)
        simp only [if_neg e1, if_neg e2] at e
        exact h.ginj b c hb' hc hdb hdc e
  · rcases List.mem_cons.1 hb with rfl | hb
    · simp only [if_pos]
      have := (hgx hd).2; omega
    · have e1 : b ≠ a := fun e => ha (by rw [← e]; exact hb)
      simp only [if_neg e1]
      exact h.gm b hb hd
  · rcases List.mem_cons.1 hb with rfl | hb
    · simp only [if_pos]
      exact ⟨by omega, by omega, hfar⟩
    · have e1 : b ≠ a := fun e => ha (by rw [← e]; exact hb)
      simp only [if_neg e1]
      exact h.farF b hb
  · rcases List.mem_cons.1 hb with rfl | hb
    · simp only [if_pos]
      have := (hgx hd).2
      have := blk_lt h.head
      exact ⟨by omega, by omega, by omega⟩
    · have e1 : b ≠ a := fun e => ha (by rw [← e]; exact hb)
      simp only [if_neg e1]
      exact h.farG b hb hd
/-- All cloned. -/
theorem CloneSt.done {w0 w : World} {ct cm r : Nat} {T : PT} {ks : List Nat} {f g : Nat → Nat} (h : CloneSt w0 w ct cm r T ks f g) (hok : TOk T) (hnd : ks.Nodup) (hall : ∀ a, a ∈ ks ↔ tHas T a = true) : ∃ S, TreeAt w ct S T ∧ ∀ x ∈ S, w0.heap.size ≤ x := by
  have hlen : ks.length = T.length + 1 := by
    have hp : ks.Perm (1 :: T.map (fun x => x.ino)) := (List.perm_ext_iff_of_nodup hnd (by
      have := inosL_rise hok
      unfold inosL at this
      refine List.nodup_cons.2 ⟨fun hm => ?_, ?_⟩
      · obtain ⟨x, hx, e⟩ := List.mem_map.1 hm
        have := (hok.nums x hx).1; omega
      · unfold List.Nodup
        rw [List.pairwise_map]
        exact hok.rise.imp fun {a b} hab => by omega)).2 (fun a => by
        rw [hall, has_iff, List.mem_cons, List.mem_map])
    rw [hp.length_eq]; simp
  refine ⟨ct :: cm :: (ks.map f ++ (ks.filter (fun a => tIsDir T a)).map g), ⟨cm, f, g, ?_⟩, fun x hx => ?_⟩
  · refine ⟨h.head, h.things.congr hlen (fun x _ => ?_), fun a ha => h.each a ((hall a).2 ha), fun a ha => h.ins a ((hall a).2 (dir_has ha)) ha, fun a b ha hb => h.finj a b ((hall a).2 ha) ((hall b).2 hb), fun a b ha hb => h.ginj a b ((hall a).2 (dir_has ha)) ((hall b).2 (dir_has hb)) ha hb, fun a ha => h.gm a ((hall a).2 (dir_has ha)) ha, ⟨by simp, by simp, fun a ha => ?_, fun a ha => ?_⟩, fun x hx => ?_, hok⟩
    · unfold φT
      by_cases hx : 0 ≤ x ∧ tHas T x.toNat = true
      · rw [if_pos hx, if_pos ⟨hx.1, (hall _).2 hx.2⟩]
      · rw [if_neg hx, if_neg (fun h2 => hx ⟨h2.1, (hall _).1 h2.2⟩)]
    · refine List.mem_cons_of_mem _ (List.mem_cons_of_mem _ (List.mem_append_left _ (List.mem_map.2 ⟨a, (hall a).2 ha, rfl⟩)))
    · exact List.mem_cons_of_mem _ (List.mem_cons_of_mem _ (List.mem_append_right _ (List.mem_map.2 ⟨a, List.mem_filter.2 ⟨(hall a).2 (dir_has ha), ha⟩, rfl⟩)))
    · rcases List.mem_cons.1 hx with rfl | hx
      · exact blk_lt h.head
      · rcases List.mem_cons.1 hx with rfl | hx
        · exact h.things.lt
        · rcases List.mem_append.1 hx with hx | hx
          · obtain ⟨a, ha, rfl⟩ := List.mem_map.1 hx
            exact blk_lt (h.each a ha)
          · obtain ⟨a, ha, rfl⟩ := List.mem_map.1 hx
            obtain ⟨h1, h2⟩ := List.mem_filter.1 ha
            exact (h.ins a h1 h2).lt
  · rcases List.mem_cons.1 hx with rfl | hx
    · exact h.farC.1
    · rcases List.mem_cons.1 hx with rfl | hx
      · exact h.farC.2.2.1
      · rcases List.mem_append.1 hx with hx | hx
        · obtain ⟨a, ha, rfl⟩ := List.mem_map.1 hx
          exact (h.farF a ha).1
        · obtain ⟨a, ha, rfl⟩ := List.mem_map.1 hx
          obtain ⟨h1, h2⟩ := List.mem_filter.1 ha
          exact (h.farG a h1 h2).1

set_option maxHeartbeats 8000000 in
set_option maxRecDepth 100000 in
theorem tclone_any (t : Nat) (S : List Nat) (T : PT) (w : World) (h : TreeAt w t S T) : Calls Try.prog 19 #[.pointer (some ⟨t, 0, none⟩)] w fun e w' => ∃ ct S', e = .returned (.pointer (some ⟨ct, 0, none⟩)) ∧ TreeAt w' ct S' T ∧ (∀ x ∈ S', w.heap.size ≤ x) ∧ Chg [] w w' := by
  have hmm := @run_makeMap Try.prog
  have H := Lib.hid h
  have hok := Lib.hid h.ok
  have hTl := tok_len h.ok
  obtain ⟨bm, f, g, HT⟩ := h
  have HTT := Lib.hid HT
  have c0 := blk_cell HT.head 0 _ rfl
  have hbml := HT.things.lt
  have htl := blk_lt HT.head
  have HC0 : Hid (Chg [] w ((w.alloc (.map #[] 0)).alloc (.cells #[.map (some w.heap.size)] 63))) := Lib.hid (((Chg.refl [] w).alloc _).alloc _)
  have HTC := Lib.hid (HT.keep HC0.out (by simp))
  clear HT
  go_enter Try.func19, Try.ntmps19
  go_wp2_with fail
  refine (tmade_any t S T w H.out).mono ?_
  rintro e w' ⟨rfl, rfl⟩
  go_wp2_with (refine wpList_rng keInt _ rfl _ _ rfl 59 Try.underlying61 bm (T.length + 1) (φT T f) rfl HTC.out.things ?_; intro w2 hr1 hc1 hs1; have HR1 := Lib.hid (And.intro hr1 (And.intro hc1 hs1)); clear hr1 hc1 hs1)
  have HST : Hid (CloneSt w w2 (w.heap.size + 1) w.heap.size (w.heap.size + 2) T [] (fun _ => 0) (fun _ => 0)) := Lib.hid ((CloneSt.start w T (w.heap.size + 2) (by omega)).keep HR1.out.2.1 (by simp))
  have HRG : Hid (Rng 3 klI okI w2 bm (w.heap.size + 2) (φT T f) (T.length + 1) (fun x => (φT T f x).isSome) (T.length + 1)) := Lib.hid (by
    have := HR1.out.1
    have e : ((w.alloc (.map #[] 0)).alloc (.cells #[.map (some w.heap.size)] 63)).heap.size = w.heap.size + 2 := by simp
    rw [e] at this; exact this)
  have HCW : Hid (Chg [] w w2) := Lib.hid (chg_tr HC0.out HR1.out.2.1)
  have hsz2 : w.heap.size + 3 ≤ w2.heap.size := by have := HR1.out.2.2; simp at this; omega
  obtain ⟨ct, hct⟩ : ∃ ct, ct = w.heap.size + 1 := ⟨_, rfl⟩
  obtain ⟨cm, hcm⟩ : ∃ cm, cm = w.heap.size := ⟨_, rfl⟩
  obtain ⟨r, hr⟩ : ∃ r, r = w.heap.size + 2 := ⟨_, rfl⟩
  have HX : Hid (ct = w.heap.size + 1 ∧ cm = w.heap.size ∧ r = w.heap.size + 2) := Lib.hid ⟨hct, hcm, hr⟩
  have hrl : r < w2.heap.size := by omega
  have hrw : w.heap.size ≤ r := by omega
  have hrcm : cm ≠ r := by omega
  have hcmw : w.heap.size ≤ cm := by omega
  have hbc : bm ≠ cm := by omega
  rw [← hr, ← hct, ← hcm] at HST
  rw [← hr] at HRG
  have e2 : ((w.alloc (.map #[] 0)).alloc (.cells #[.map (some w.heap.size)] 63)).heap.size = r := by rw [hr]; simp
  have e3 : (w.alloc (.map #[] 0)).heap.size = ct := by rw [hct]; simp
  try rw [e2]
  try rw [e3]
  try rw [← hr]
  try rw [← hct]
  try rw [← hcm]
  clear e2 e3
  clear HR1 HC0 HTC hct hcm hr
  go_frame
  go_loopg [] (T.length + 1) (fun gh wr => ∃ (ks : List Nat) (f' g' : Nat → Nat) (left : Int → Bool) (cnt : Nat), cnt ≤ gh ∧ ks.length + cnt ≤ T.length + 1 ∧ Hid (Rng 3 klI okI wr bm r (φT T f) (T.length + 1) left cnt) ∧ Hid (CloneSt w wr ct cm r T ks f' g') ∧ Hid (ks.Nodup ∧ ∀ a : Nat, a ≤ 1000 → (a ∈ ks ↔ tHas T a = true ∧ left (a : Int) = false)) ∧ Hid (∀ a ∈ ks, a ≤ 1000) ∧ Hid (Chg [] w wr) ∧ w2.heap.size ≤ wr.heap.size)
  case atStart =>
    refine ⟨[], _, _, _, T.length + 1, Nat.le_refl _, by simp, HRG, HST, Lib.hid ⟨List.nodup_nil, fun a ha => ?_⟩, Lib.hid (by simp), HCW, Nat.le_refl _⟩
    constructor
    · intro h; cases h
    · rintro ⟨h1, h2⟩
      rw [φT_has h1] at h2; cases h2
  case round =>
    obtain ⟨ks, f', g', left, cnt, hcg, hkc, HR, HS, HK, HKS, HC, hsz⟩ := hrel
    go_wp2_with (refine wpList_nxtI _ rfl _ rfl bm r (T.length + 1) (φT T f) left cnt rfl HR.out ?_ ?_)
    · intro hc0 hl0
      have HF : Hid (∃ S', TreeAt wr ct S' T ∧ ∀ x ∈ S', w.heap.size ≤ x) := Lib.hid (HS.out.done hok.out HK.out.1 (fun a => by
        constructor
        · intro ha
          exact ((HK.out.2 a (HKS.out a ha)).1 ha).1
        · intro ha
          have hs := has_small hok.out ha
          exact (HK.out.2 a (by omega)).2 ⟨ha, hl0 (a : Int) (i64_ok (by omega) (by omega))⟩))
      clear hc0 hl0
      go_wp2
      go_ret
      obtain ⟨S', h1, h2⟩ := HF.out
      exact ⟨ct, S', rfl, h1, h2, HC.out⟩
    · intro x v w3 cnt2 hox hlx hvx hr2 hlt hc2 hs2 hen
      obtain ⟨a, rfl, ha, rfl⟩ : ∃ a : Nat, x = (a : Int) ∧ tHas T a = true ∧ v = .pointer (some ⟨f a, 0, none⟩) := by
        unfold φT at hvx
        by_cases h : 0 ≤ x ∧ tHas T x.toNat = true
        · rw [if_pos h] at hvx
          exact ⟨x.toNat, by omega, h.2, (Option.some.inj hvx).symm⟩
        · rw [if_neg h] at hvx; cases hvx
      have has := has_small hok.out ha
      have HNK : Hid (a ∉ ks) := Lib.hid (fun hk => by
        have := ((HK.out.2 a (by omega)).1 hk).2
        rw [hlx] at this; cases this)
      have HA := Lib.hid ha
      have HCx : Hid (Chg [] w w3) := Lib.hid (HC.out.trans hc2 (fun z hz => .inr (by simp at hz; subst hz; exact hrw)))
      have HT3 := Lib.hid (HTT.out.keep HCx.out (by simp))
      have HS3 := Lib.hid (HS.out.keep hc2 (fun z hz => .inl (by simpa using hz)))
      have HR3 := Lib.hid hr2
      have HOX := Lib.hid hox
      obtain ⟨d0, d1, d2, d3⟩ := HT3.out.cells ha
      have hfl := blk_lt (HT3.out.each a ha)
      have hnext : w2.heap.size ≤ w3.heap.size := by rw [hs2]; exact hsz
      have HNX : Hid (Chg [] w w3 ∧ w.heap.size ≤ w3.heap.size) := Lib.hid ⟨HCx.out, HCx.out.size⟩
      have hrl3 : r < w3.heap.size := by omega
      have HKK : Hid ((a :: ks).Nodup ∧ ∀ b : Nat, b ≤ 1000 → (b ∈ a :: ks ↔ tHas T b = true ∧ (!decide ((b : Int) = (a : Int)) && left (b : Int)) = false)) := Lib.hid (by
        refine ⟨List.nodup_cons.2 ⟨HNK.out, HK.out.1⟩, fun b hb => ?_⟩
        rw [List.mem_cons, HK.out.2 b hb]
        by_cases e : b = a
        · subst e; simp [HA.out]
        · have e' : ¬ (b : Int) = (a : Int) := by omega
          simp [e, e'])
      have HKK2 : Hid (∀ b ∈ a :: ks, b ≤ 1000) := Lib.hid (fun b hb => by
        rcases List.mem_cons.1 hb with rfl | hb
        · omega
        · exact HKS.out b hb)
      have hnc : ks.length + 1 + cnt2 ≤ T.length + 1 := by omega
      obtain ⟨fx, hfx⟩ : ∃ fx, fx = w3.heap.size := ⟨_, rfl⟩
      have HFX := Lib.hid hfx
      clear hox hlx hvx hr2 hc2 hs2 ha c0
      cases hd : tIsDir T a with
      | false =>
        rw [hd] at d2 d3
        have d3' : w3.cell? ⟨f a, 3, none⟩ = some (.map none) := d3
        have HD := Lib.hid hd
        have HALL : Hid (Chg [] w3 (w3.alloc (.cells #[.int .i64 ((thOf T a).dir : Int), .string ⟨(thOf T a).name.toArray⟩, .bool false, .map none] 69))) := Lib.hid ((Chg.refl [] _).alloc _)
        have HM4 := Lib.hid (HS3.out.things.chg HALL.out (by simp))
        have HBL : Hid ((w3.alloc (.cells #[.int .i64 ((thOf T a).dir : Int), .string ⟨(thOf T a).name.toArray⟩, .bool false, .map none] 69)).heap[fx]? = some (.cells (thCells (thOf T a) (if tIsDir T a then some 0 else none)) 69 (0, 0))) := Lib.hid (by
          rw [hfx, HD.out, heap_alloc_new]
          have : (thOf T a).isDir = false := by rw [← isDir_thOf a HA.out]; exact HD.out
          unfold thCells
          rw [this]; rfl)
        have hct0 := blk_cell (HALL.out.keep HS3.out.head (by simp)) 0 _ rfl
        clear hd d3 hfx
        go_wp2_with (at_mapUpdate; refine wpList_upd keInt _ rfl _ _ _ _ (.inl rfl) 59 Try.underlying61 cm ks.length _ rfl HM4.out (by unfold maxLen; omega) (a : Int) rfl HOX.out (.pointer (some ⟨w3.heap.size, 0, none⟩)) rfl ?_; intro w5 hm5 hc5 hs5)
        have HS5 : Hid (CloneSt w w5 ct cm r T (a :: ks) (fun b => if b = a then fx else f' b) (fun b => if b = a then 0 else g' b)) := Lib.hid (HS3.out.more HNK.out HNX.out.2 hrl3 HALL.out HBL.out (by rw [HFX.out]; exact Nat.le_refl _) (fun h => by rw [HD.out] at h; cases h) (hm5.congr (by simp [HNK.out]) (fun x _ => by rw [HFX.out]; rfl)) hc5)
        have HC5 : Hid (Chg [] w w5) := Lib.hid ((chg_tr HNX.out.1 HALL.out).trans hc5 (fun z hz => .inr (by simp at hz; subst hz; exact hcmw)))
        have HR5 : Hid (Rng 3 klI okI w5 bm r (φT T f) (T.length + 1) (fun y => !decide (y = (a : Int)) && left y) cnt2) := Lib.hid ((HR3.out.kept HALL.out (by simp) (by simp)).kept hc5 (by simpa using hbc) (by simpa using fun e => hrcm e.symm))
        have hsz5 : w2.heap.size ≤ w5.heap.size := by rw [hs5]; simp; omega
        clear hm5 hc5 hs5 d0 d1 d2 d3' hct0
        go_frame
        go_roundg cnt2
        case measure => omega
        case rel => exact ⟨a :: ks, _, _, _, cnt2, Nat.le_refl _, by simp; omega, HR5, HS5, HKK, HKK2, HC5, hsz5⟩
      | true =>
        rw [hd] at d2 d3
        have d3' : w3.cell? ⟨f a, 3, none⟩ = some (.map (some (g a))) := d3
        have HD := Lib.hid hd
        have hgl := (HT3.out.ins a hd).lt
        obtain ⟨W5, hW5⟩ : ∃ W5, W5 = (w3.alloc (.cells #[.int .i64 ((thOf T a).dir : Int), .string ⟨(thOf T a).name.toArray⟩, .bool true, .map (some (w3.heap.size + 1))] 69)).alloc (.map #[] 0) := ⟨_, rfl⟩
        have HW5 : Hid (Chg [] w3 W5 ∧ W5.heap[fx]? = some (.cells (thCells (thOf T a) (if tIsDir T a then some (w3.heap.size + 1) else none)) 69 (0, 0)) ∧ MapF 9 klS okS W5 (w3.heap.size + 1) (fun _ => none) 0 ∧ W5.heap.size = w3.heap.size + 2) := Lib.hid (by
          have e1 : (w3.alloc (.cells #[.int .i64 ((thOf T a).dir : Int), .string ⟨(thOf T a).name.toArray⟩, .bool true, .map (some (w3.heap.size + 1))] 69)).heap.size = w3.heap.size + 1 := by simp
          refine ⟨by rw [hW5]; exact ((Chg.refl [] w3).alloc _).alloc _, ?_, ?_, by rw [hW5]; simp⟩
          · have hh := heap_alloc_new w3 (.cells #[.int .i64 ((thOf T a).dir : Int), .string ⟨(thOf T a).name.toArray⟩, .bool true, .map (some (w3.heap.size + 1))] 69)
            have : (thOf T a).isDir = true := by rw [← isDir_thOf a HA.out]; exact HD.out
            rw [hW5, hfx, HD.out]
            unfold thCells
            rw [this]
            exact ((Chg.refl [] _).alloc (.map #[] 0)).keep hh (by simp)
          · have := MapF.made (k := 9) (kl := klS) (ok := okS) (w3.alloc (.cells #[.int .i64 ((thOf T a).dir : Int), .string ⟨(thOf T a).name.toArray⟩, .bool true, .map (some (w3.heap.size + 1))] 69))
            rw [e1, ← hW5] at this
            exact this)
        clear hd d3
        go_upto_region 10 with (fail)
        rw [← hW5]
        obtain ⟨gn, hgn⟩ : ∃ gn, gn = w3.heap.size + 1 := ⟨_, rfl⟩
        rw [← hgn] at HW5 ⊢
        try rw [← hfx]
        have HGN := Lib.hid hgn
        have e3 := HW5.out.1.cell d3' (by simp)
        have HIN := Lib.hid ((HT3.out.keep HW5.out.1 (by simp)).ins a HD.out)
        have hs5 := HW5.out.2.2.2
        have HFN : Hid (fx = w3.heap.size ∧ gn = w3.heap.size + 1 ∧ W5.heap.size = w3.heap.size + 2) := Lib.hid ⟨hfx, hgn, hs5⟩
        have hfl5 : f a < W5.heap.size := by omega
        clear hW5 hfx hgn d0 d1 d2 d3' hs5
        go_wp2_with (refine wpList_rng keStr _ rfl _ _ rfl 3 Try.underlying67 (g a) (nKids T a) (φK T a) rfl HIN.out ?_; intro w6 hr6 hc6 hs6; have HR6 := Lib.hid (And.intro hr6 (And.intro hc6 hs6)); clear hr6 hc6 hs6)
        obtain ⟨r2, hr2⟩ : ∃ r2, r2 = W5.heap.size := ⟨_, rfl⟩
        rw [← hr2] at HR6 ⊢
        have HR2 := Lib.hid hr2
        clear hr2 e3
        have HB6 : Hid (Chg [] w3 w6 ∧ w6.heap[fx]? = some (.cells (thCells (thOf T a) (if tIsDir T a then some gn else none)) 69 (0, 0)) ∧ MapF 9 klS okS w6 gn (fun _ => none) 0 ∧ w6.heap.size = r2 + 1) := Lib.hid ⟨chg_tr HW5.out.1 HR6.out.2.1, HR6.out.2.1.keep HW5.out.2.1 (by simp), HW5.out.2.2.1.chg HR6.out.2.1 (by simp), HR6.out.2.2⟩
        have HQ : Hid (fx ≠ gn ∧ fx ≠ r2 ∧ gn ≠ r2 ∧ w3.heap.size ≤ gn ∧ w3.heap.size ≤ r2 ∧ w3.heap.size ≤ fx ∧ r2 < w6.heap.size ∧ g a ≠ gn ∧ g a ≠ r2) := Lib.hid (by
          have := HFN.out
          have := HR2.out
          have := HB6.out.2.2.2
          omega)
        obtain ⟨wo, rfl⟩ : ∃ wo : World, wo = wr := ⟨_, rfl⟩
        obtain ⟨gko, rfl⟩ : ∃ gko : Nat, gko = gk := ⟨_, rfl⟩
        go_frame
        go_loopg [] (nKids T a) (fun gh wr => ∃ (ss : List (List UInt8)) (left2 : List UInt8 → Bool) (cnt3 : Nat), cnt3 ≤ gh ∧ ss.length + cnt3 ≤ nKids T a ∧ Hid (Rng 9 klS okS wr (g a) r2 (φK T a) (nKids T a) left2 cnt3) ∧ Hid (MapF 9 klS okS wr gn (fun s => if s ∈ ss then φK T a s else none) ss.length) ∧ Hid (ss.Nodup ∧ ∀ s, okS s → (s ∈ ss ↔ (φK T a s).isSome = true ∧ left2 s = false)) ∧ Hid (∀ s ∈ ss, okS s) ∧ Hid (Chg [gn, r2] w6 wr) ∧ w6.heap.size ≤ wr.heap.size)
        case atStart =>
          refine ⟨[], _, _, Nat.le_refl _, by simp, Lib.hid HR6.out.1, Lib.hid (HB6.out.2.2.1.congr rfl (fun x _ => by simp)), Lib.hid ⟨List.nodup_nil, fun s hs => ?_⟩, Lib.hid (by simp), Lib.hid (Chg.refl _ _), Nat.le_refl _⟩
          constructor
          · intro h; cases h
          · rintro ⟨h1, h2⟩
            rw [h1] at h2; cases h2
        case round =>
          obtain ⟨ss, left2, cnt3, hcg3, hkc3, HRS, HMS, HKS3, HOS, HC6, hsz6⟩ := hrel
          have hkl := Nat.le_trans (kids_le' T a) hTl
          have hb6 := HC6.out.keep HB6.out.2.1 (by have := HQ.out; simp; omega)
          rw [HD.out] at hb6
          have x3 : wr.cell? ⟨fx, 3, none⟩ = some (.map (some gn)) := blk_cell hb6 3 _ rfl
          have hfxl : fx < wr.heap.size := blk_lt hb6
          clear hb6
          go_wp2_with (refine wpList_nxtS _ rfl _ rfl (g a) r2 (nKids T a) (φK T a) left2 cnt3 rfl HRS.out ?_ ?_)
          · intro hc0 hl0
            have HALL2 : Hid (∀ s, s ∈ ss ↔ (φK T a s).isSome = true) := Lib.hid (fun s => by
              constructor
              · intro hk
                exact ((HKS3.out.2 s (HOS.out s hk)).1 hk).1
              · intro hk
                have hki : okS s := by
                  obtain ⟨x, hx, rfl⟩ := List.mem_map.1 ((kid_names s).1 hk)
                  have := may_len (hok.out.may x (List.mem_filter.1 hx).1)
                  unfold okS maxLen; omega
                exact (HKS3.out.2 s hki).2 ⟨hk, hl0 s hki⟩)
            have HLS : Hid (ss.length = nKids T a) := Lib.hid (by
              have hp : ss.Perm ((T.filter (fun x => x.dir == a)).map (fun x => x.name)) := (List.perm_ext_iff_of_nodup HKS3.out.1 (names_nodup hok.out a)).2 (fun s => (HALL2.out s).trans (kid_names s))
              rw [hp.length_eq]; unfold nKids; simp)
            have HMG : Hid (MapF 9 klS okS wr gn (φK T a) (nKids T a)) := Lib.hid (HMS.out.congr HLS.out (fun s _ => by
              by_cases hs : s ∈ ss
              · rw [if_pos hs]
              · rw [if_neg hs]
                cases hphi : φK T a s with
                | none => rfl
                | some v => exact absurd ((HALL2.out s).2 (by rw [hphi]; rfl)) hs))
            have HC3r : Hid (Chg [] w3 wr) := Lib.hid (HB6.out.1.trans HC6.out (fun z hz => .inr (by have := HQ.out; simp at hz; rcases hz with rfl | rfl <;> omega)))
            have HFB : Hid (wr.heap[fx]? = some (.cells (thCells (thOf T a) (if tIsDir T a then some gn else none)) 69 (0, 0))) := Lib.hid (HC6.out.keep HB6.out.2.1 (by have := HQ.out; simp; omega))
            have HM4 := Lib.hid (HS3.out.things.chg HC3r.out (by simp))
            have hct0 := blk_cell (HC3r.out.keep HS3.out.head (by simp)) 0 _ rfl
            clear hc0 hl0 x3
            go_wp2_with (at_mapUpdate; refine wpList_upd keInt _ rfl _ _ _ _ (.inl rfl) 59 Try.underlying61 cm ks.length _ rfl HM4.out (by unfold maxLen; omega) (a : Int) rfl HOX.out (.pointer (some ⟨fx, 0, none⟩)) rfl ?_; intro w9 hm9 hc9 hs9)
            have HS9 : Hid (CloneSt w w9 ct cm r T (a :: ks) (fun b => if b = a then fx else f' b) (fun b => if b = a then gn else g' b)) := Lib.hid (HS3.out.more HNK.out HNX.out.2 hrl3 HC3r.out HFB.out HQ.out.2.2.2.2.2.1 (fun _ => ⟨HMG.out, HQ.out.2.2.2.1⟩) (hm9.congr (by simp [HNK.out]) (fun x _ => rfl)) hc9)
            have HC9 : Hid (Chg [] w w9) := Lib.hid ((chg_tr HNX.out.1 HC3r.out).trans hc9 (fun z hz => .inr (by simp at hz; subst hz; exact hcmw)))
            have HR9 : Hid (Rng 3 klI okI w9 bm r (φT T f) (T.length + 1) (fun y => !decide (y = (a : Int)) && left y) cnt2) := Lib.hid ((HR3.out.kept HC3r.out (by simp) (by simp)).kept hc9 (by simpa using hbc) (by simpa using fun e => hrcm e.symm))
            have hsz9 : w2.heap.size ≤ w9.heap.size := by have := HC3r.out.size; rw [hs9]; omega
            clear hm9 hc9 hs9 hct0
            go_frame
            go_roundg cnt2
            case measure => omega
            case rel => exact ⟨a :: ks, _, _, _, cnt2, Nat.le_refl _, by simp; omega, HR9, HS9, HKK, HKK2, HC9, hsz9⟩
          · intro s v w7 cnt4 hos hls hvs hr7 hlt7 hc7 hs7 hen7
            have HNS : Hid (s ∉ ss ∧ okS s ∧ (φK T a s).isSome = true) := Lib.hid ⟨(fun hk => by
              have := ((HKS3.out.2 s hos).1 hk).2
              rw [hls] at this; cases this), hos, by rw [hvs]; rfl⟩
            have HV := Lib.hid hvs
            have HR7 := Lib.hid hr7
            have HC7 := Lib.hid hc7
            have HM7 := Lib.hid (HMS.out.chg hc7 (by have := HQ.out; simp; omega))
            have y3 := hc7.cell x3 (by have := HQ.out; simp; omega)
            have hfxl7 : fx < w7.heap.size := by rw [hs7]; exact hfxl
            have hsz7 : w6.heap.size ≤ w7.heap.size := by rw [hs7]; exact hsz6
            clear hos hls hvs hr7 hc7 hs7 x3
            go_wp2_with (at_mapUpdate; refine wpList_upd keStr _ rfl _ _ _ _ (.inl rfl) 3 Try.underlying67 gn ss.length _ rfl HM7.out (by unfold maxLen; omega) s rfl HNS.out.2.1 v rfl ?_; intro w8 hm8 hc8 hs8)
            have HM8 : Hid (MapF 9 klS okS w8 gn (fun u => if u ∈ s :: ss then φK T a u else none) (s :: ss).length) := Lib.hid (hm8.congr (by simp [HNS.out.1]) (fun u _ => by
              unfold updF
              by_cases e : u = s
              · subst e; simp [HV.out]
              · simp [e]))
            have HR8 := Lib.hid (HR7.out.kept hc8 (by have := HQ.out; simp; omega) (by have := HQ.out; simp; omega))
            have HC8 : Hid (Chg [gn, r2] w6 w8) := Lib.hid ((HC6.out.trans HC7.out (fun z hz => .inl (by simp at hz; simp [hz]))).trans hc8 (fun z hz => .inl (by simp at hz; simp [hz])))
            have hsz8 : w6.heap.size ≤ w8.heap.size := by rw [hs8]; exact hsz7
            clear hm8 hc8 hs8 y3
            go_frame
            go_roundg cnt4
            case measure => omega
            case rel =>
              refine ⟨s :: ss, _, cnt4, Nat.le_refl _, by simp; omega, HR8, HM8, Lib.hid ⟨List.nodup_cons.2 ⟨HNS.out.1, HKS3.out.1⟩, fun u hu => ?_⟩, Lib.hid (fun u hu => ?_), HC8, hsz8⟩
              · rw [List.mem_cons, HKS3.out.2 u hu]
                by_cases e : u = s
                · subst e; simp [HNS.out.2.2]
                · simp [e]
              · rcases List.mem_cons.1 hu with rfl | hu
                · exact HNS.out.2.1
                · exact HOS.out u hu
end Go.Proofs.Ytaiihklfeoeoeaa.W
