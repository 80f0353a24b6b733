/- Chapter 10's examples. -/
import Derived.Test.YtaiihklfeoeoeaaTOwn
namespace Go.Proofs.Ytaiihklfeoeoeaa.treeKnown
open Go.RowKit
open Go.Proofs.Ytaiihklfeoeoeaa.NM
open Go.Proofs.Ytaiihklfeoeoeaa.W
set_option linter.unusedVariables false
set_option linter.unusedSimpArgs false

def kT1 : PT := [⟨2, 1, [97], true⟩]
def kT2 : PT := [⟨2, 1, [97], true⟩, ⟨3, 2, [102], false⟩]
def kT3 : PT := [⟨2, 1, [97], true⟩, ⟨3, 1, [103], false⟩]
theorem k1 : tMake [] [47, 97] true = ((2, 0), kT1) := by kernel_rfl
theorem k2 : tMake kT1 [47, 97, 47, 102] false = ((3, 0), kT2) := by kernel_rfl
theorem k3 : tMake kT2 [47, 97, 47, 102] false = ((0, 7), kT2) := by kernel_rfl
theorem k4 : tRemove kT2 [47, 97] true = ((0, 11), kT2) := by kernel_rfl
theorem k5 : tMove kT2 [47, 97] [47, 97, 47, 98] = (1, kT2) := by kernel_rfl
theorem k6 : tMove kT2 [47, 97, 47, 102] [47, 103] = (0, kT3) := by kernel_rfl
theorem k7 : tLook kT1 [47, 97] = (2, true, 0) := by kernel_rfl
theorem k8 : tList kT3 [47] = ([([97], 2, true), ([103], 3, false)], 0) := by
  have h1 : tLook kT3 [47] = (1, true, 0) := by kernel_rfl
  have h2 : namesOf kT3 1 = [[97], [103]] := by
    unfold namesOf
    have e : ((kT3.filter (fun x => x.dir == 1)).map (fun x => x.name)) = [[97], [103]] := by kernel_rfl
    rw [e]
    exact List.mergeSort_of_pairwise (by decide)
  unfold tList
  rw [h1]
  simp only [ne_eq, not_true_eq_false, if_false]
  have h3 : entsOf kT3 1 = [([97], 2, true), ([103], 3, false)] := by
    unfold entsOf
    rw [h2]; kernel_rfl
  rw [h3]; rfl


set_option maxHeartbeats 4000000 in
set_option maxRecDepth 100000 in
theorem walk (w : World) : Calls Try.prog 4 #[] w fun e w' => e = .returned (.bool true) ∧ Below w.heap.size w w' := by
  go_enter Try.func4, Try.ntmps4
  go_wp2_with fail
  refine (tawake_any w).mono ?_
  rintro e w0 ⟨rfl, h0⟩
  have H0 := Lib.hid h0
  clear h0
  go_wp2_with fail
  refine (onew_any H0.out).mono ?_
  rintro e w1 ⟨t, rfl, h1⟩
  have H1 := Lib.hid h1
  clear h1
  go_wp2_with fail
  refine (omake_any H1.out [47, 97] true _ k1 (by decide)).mono ?_
  rintro e w2 ⟨rfl, h2⟩
  have H2 := Lib.hid h2
  clear h2
  go_wp2_with fail
  refine (omake_any H2.out [47, 97, 47, 102] false _ k2 (by decide)).mono ?_
  rintro e w3 ⟨rfl, h3⟩
  have H3 := Lib.hid h3
  clear h3
  go_wp2_with fail
  refine (omake_any H3.out [47, 97, 47, 102] false _ k3 (by decide)).mono ?_
  rintro e w4 ⟨rfl, h4⟩
  have H4 := Lib.hid h4
  clear h4
  go_wp2_with fail
  refine (oremove_any H4.out [47, 97] true _ k4 (by decide)).mono ?_
  rintro e w5 ⟨rfl, h5⟩
  have H5 := Lib.hid h5
  clear h5
  go_wp2_with fail
  refine (omove_any H5.out [47, 97] [47, 97, 47, 98] _ k5 (by decide) (by decide)).mono ?_
  rintro e w6 ⟨rfl, h6⟩
  have H6 := Lib.hid h6
  clear h6
  go_wp2_with fail
  refine (omove_any H6.out [47, 97, 47, 102] [47, 103] _ k6 (by decide) (by decide)).mono ?_
  rintro e w7 ⟨rfl, h7⟩
  have H7 := Lib.hid h7
  clear h7
  go_wp2_with fail
  refine (olist_any H7.out [47] _ k8 (by decide)).mono ?_
  rintro e w8 ⟨v, rfl, hrow, hc, h8⟩
  have H8 := Lib.hid (h8.chg.below (by simp))
  clear h8 hc
  obtain ⟨hl, hrow'⟩ := id hrow
  rcases hrow' with ⟨rfl, h0⟩ | ⟨gb, cap, cur, rfl, _⟩
  · simp at h0
  have hcs := World.ownsRow.cells hrow (g := gb) rfl
  have e0 : w8.cell? ⟨gb, 0, none⟩ = some (.string (mk [97])) := hcs 0 _ rfl
  have e1 : w8.cell? ⟨gb, 1, none⟩ = some (.int .i64 2) := hcs 1 _ rfl
  have e2 : w8.cell? ⟨gb, 2, none⟩ = some (.bool true) := hcs 2 _ rfl
  have e3 : w8.cell? ⟨gb, 3, none⟩ = some (.string (mk [103])) := hcs 3 _ rfl
  have e4 : w8.cell? ⟨gb, 4, none⟩ = some (.int .i64 3) := hcs 4 _ rfl
  have e5 : w8.cell? ⟨gb, 5, none⟩ = some (.bool false) := hcs 5 _ rfl
  clear hcs hrow hl
  go_wp2
  go_ret
  exact ⟨rfl, H8.out⟩
end Go.Proofs.Ytaiihklfeoeoeaa.treeKnown
