/-
  DERIVED. GIVEN WITH THE SEED: THE CARDS: each row of YtipfgghdoicdhaaDoorRows.lean that lists a variable, with what it lists TIED to the program's text (the seventh form; the later family's looks); each row that meets fmt, with fmt's text TOLD by the authors' own Lean function (tested against real Go, not proved from fmt's source: count such statements apart). THE CARD IS WHAT COUNTS. Prove the row's statement (the work); the ties are given (YtipfgghdoicdhaaDoorTie.lean); close each card by the builder's one call (the guide's Derived/Test/ToyasCard.lean, 'card_holds'). Laid BY PROGRAM, IN A SANDBOX (cutbox-door.mjs). By AI agents, Wed Nov 11 2026. No macro, syntax, notation, axiom, sorry.
-/
import Derived.Test.YtipfgghdoicdhaaDoorRows
import GoSem.ClaimSeven
namespace Go.Proofs.YtipfgghdoicdhaaDoor
namespace Rows

/-- THE TIED CARD OF 'pinstripelaw5.SlotOpens'. -/
def slotOpensCard : Claim7 := { stood := { row := slotOpensRow, standIns := [], harness := (true, "9f4b9fcf2fd5aed5671cc0cbe82360911c7979f9195e8759a5dcf0a557d6e6f7"), looks := true }, kinds := [], alts := [], laidByText := true, laidKinds := [.data, .pinned], laidTests := true, laidLooks := .later }
def SlotOpensCardSaid : Prop := Claim7.holds Tryd.pinned (.plain (OpenSpec.ofChange slotOpensSpec)) slotOpensCard

/-- THE TIED CARD OF 'pinstripelaw5.SlotKnown'. -/
def slotKnownCard : Claim7 := { stood := { row := slotKnownRow, standIns := [], harness := (true, "9f4b9fcf2fd5aed5671cc0cbe82360911c7979f9195e8759a5dcf0a557d6e6f7"), looks := true }, kinds := [], alts := [], laidByText := true, laidKinds := [.data, .pinned], laidTests := true, laidLooks := .later }
def SlotKnownCardSaid : Prop := Claim7.holds Tryd.pinned (.plain (OpenSpec.ofChange slotKnownSpec)) slotKnownCard

/-- THE TIED CARD OF 'pinstripelaw5.SlotApart'. -/
def slotApartCard : Claim7 := { stood := { row := slotApartRow, standIns := [], harness := (true, "9f4b9fcf2fd5aed5671cc0cbe82360911c7979f9195e8759a5dcf0a557d6e6f7"), looks := true }, kinds := [], alts := [], laidByText := true, laidKinds := [.data, .pinned], laidTests := true, laidLooks := .later }
def SlotApartCardSaid : Prop := Claim7.holds Tryd.pinned (.plain (OpenSpec.ofChange slotApartSpec)) slotApartCard

/-- THE TIED CARD OF 'pinstripelaw5.SlotDies'. -/
def slotDiesCard : Claim7 := { stood := { row := slotDiesRow, standIns := [], harness := (true, "9f4b9fcf2fd5aed5671cc0cbe82360911c7979f9195e8759a5dcf0a557d6e6f7"), looks := true }, kinds := [], alts := [], laidByText := true, laidKinds := [.data, .pinned], laidTests := true, laidLooks := .later }
def SlotDiesCardSaid : Prop := Claim7.holds Tryd.pinned (.plain (OpenSpec.ofChange slotDiesSpec)) slotDiesCard

/-- THE TIED CARD OF 'pinstripelaw5.SlotTwice'. -/
def slotTwiceCard : Claim7 := { stood := { row := slotTwiceRow, standIns := [], harness := (true, "9f4b9fcf2fd5aed5671cc0cbe82360911c7979f9195e8759a5dcf0a557d6e6f7"), looks := true }, kinds := [], alts := [], laidByText := true, laidKinds := [.data, .pinned], laidTests := true, laidLooks := .later }
def SlotTwiceCardSaid : Prop := Claim7.holds Tryd.pinned (.plain (OpenSpec.ofChange slotTwiceSpec)) slotTwiceCard

/-- THE TIED CARD OF 'pinstripelaw5.SlotPlays'. -/
def slotPlaysCard : Claim7 := { stood := { row := slotPlaysRow, standIns := [], harness := (true, "9f4b9fcf2fd5aed5671cc0cbe82360911c7979f9195e8759a5dcf0a557d6e6f7"), looks := true }, kinds := [], alts := [], laidByText := true, laidKinds := [.data, .pinned], laidTests := true, laidLooks := .later }
def SlotPlaysCardSaid : Prop := Claim7.holds Tryd.pinned (.plain (OpenSpec.ofChange slotPlaysSpec)) slotPlaysCard

/-- THE SECOND FORM's CARD OF 'pinstripelaw5.SlotOpens'. -/
def slotOpensUptoCard : Claim7 := { stood := { row := slotOpensUptoRow, standIns := [], harness := (true, "9f4b9fcf2fd5aed5671cc0cbe82360911c7979f9195e8759a5dcf0a557d6e6f7"), looks := true }, kinds := [], alts := [], laidByText := true, laidKinds := [.data, .pinned], laidTests := true, laidLooks := .later }
def SlotOpensUptoCardSaid : Prop := Claim7.holds Tryd.pinned (.plain (OpenSpec.upto slotOpensSpec)) slotOpensUptoCard

/-- THE SECOND FORM's CARD OF 'pinstripelaw5.SlotKnown'. -/
def slotKnownUptoCard : Claim7 := { stood := { row := slotKnownUptoRow, standIns := [], harness := (true, "9f4b9fcf2fd5aed5671cc0cbe82360911c7979f9195e8759a5dcf0a557d6e6f7"), looks := true }, kinds := [], alts := [], laidByText := true, laidKinds := [.data, .pinned], laidTests := true, laidLooks := .later }
def SlotKnownUptoCardSaid : Prop := Claim7.holds Tryd.pinned (.plain (OpenSpec.upto slotKnownSpec)) slotKnownUptoCard

/-- THE SECOND FORM's CARD OF 'pinstripelaw5.SlotApart'. -/
def slotApartUptoCard : Claim7 := { stood := { row := slotApartUptoRow, standIns := [], harness := (true, "9f4b9fcf2fd5aed5671cc0cbe82360911c7979f9195e8759a5dcf0a557d6e6f7"), looks := true }, kinds := [], alts := [], laidByText := true, laidKinds := [.data, .pinned], laidTests := true, laidLooks := .later }
def SlotApartUptoCardSaid : Prop := Claim7.holds Tryd.pinned (.plain (OpenSpec.upto slotApartSpec)) slotApartUptoCard

/-- THE SECOND FORM's CARD OF 'pinstripelaw5.SlotDies'. -/
def slotDiesUptoCard : Claim7 := { stood := { row := slotDiesUptoRow, standIns := [], harness := (true, "9f4b9fcf2fd5aed5671cc0cbe82360911c7979f9195e8759a5dcf0a557d6e6f7"), looks := true }, kinds := [], alts := [], laidByText := true, laidKinds := [.data, .pinned], laidTests := true, laidLooks := .later }
def SlotDiesUptoCardSaid : Prop := Claim7.holds Tryd.pinned (.plain (OpenSpec.upto slotDiesSpec)) slotDiesUptoCard

/-- THE SECOND FORM's CARD OF 'pinstripelaw5.SlotTwice'. -/
def slotTwiceUptoCard : Claim7 := { stood := { row := slotTwiceUptoRow, standIns := [], harness := (true, "9f4b9fcf2fd5aed5671cc0cbe82360911c7979f9195e8759a5dcf0a557d6e6f7"), looks := true }, kinds := [], alts := [], laidByText := true, laidKinds := [.data, .pinned], laidTests := true, laidLooks := .later }
def SlotTwiceUptoCardSaid : Prop := Claim7.holds Tryd.pinned (.plain (OpenSpec.upto slotTwiceSpec)) slotTwiceUptoCard

/-- THE SECOND FORM's CARD OF 'pinstripelaw5.SlotPlays'. -/
def slotPlaysUptoCard : Claim7 := { stood := { row := slotPlaysUptoRow, standIns := [], harness := (true, "9f4b9fcf2fd5aed5671cc0cbe82360911c7979f9195e8759a5dcf0a557d6e6f7"), looks := true }, kinds := [], alts := [], laidByText := true, laidKinds := [.data, .pinned], laidTests := true, laidLooks := .later }
def SlotPlaysUptoCardSaid : Prop := Claim7.holds Tryd.pinned (.plain (OpenSpec.upto slotPlaysSpec)) slotPlaysUptoCard
end Rows
end Go.Proofs.YtipfgghdoicdhaaDoor
