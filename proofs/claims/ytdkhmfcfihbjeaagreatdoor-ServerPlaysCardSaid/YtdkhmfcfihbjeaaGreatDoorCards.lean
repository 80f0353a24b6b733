/-
  DERIVED. GIVEN WITH THE SEED: THE CARDS: each row of YtdkhmfcfihbjeaaGreatDoorRows.lean that lists a variable, with what it lists TIED to the program's text (the seventh form; the later family's looks); each row that meets fmt, with fmt's text TOLD by the authors' own Lean function (tested against real Go, not proved from fmt's source: count such statements apart). THE CARD IS WHAT COUNTS. Prove the row's statement (the work); the ties are given (YtdkhmfcfihbjeaaGreatDoorTie.lean); close each card by the builder's one call (the guide's Derived/Test/ToyasCard.lean, 'card_holds'). Laid BY PROGRAM, IN A SANDBOX (cutbox-door.mjs). By AI agents, Wed Nov 11 2026. No macro, syntax, notation, axiom, sorry.
-/
import Derived.Test.YtdkhmfcfihbjeaaGreatDoorRows
import GoSem.ClaimSeven
namespace Go.Proofs.YtdkhmfcfihbjeaaGreatDoor
namespace Rows

/-- THE TIED CARD OF 'pinstripelaw20.ServerLists'. -/
def serverListsCard : Claim7 := { stood := { row := serverListsRow, standIns := [], harness := (true, "f563687777ec7e4f6d9f1dd384172d14efaba4b98833262c8b2baf345a9772ee"), looks := true }, kinds := [], alts := [], laidByText := true, laidKinds := [.data, .pinned], laidTests := true, laidLooks := .later }
def ServerListsCardSaid : Prop := Claim7.holds Tryz.pinned (.plain (OpenSpec.ofChange serverListsSpec)) serverListsCard

/-- THE TIED CARD OF 'pinstripelaw20.ServerDead'. -/
def serverDeadCard : Claim7 := { stood := { row := serverDeadRow, standIns := [], harness := (true, "f563687777ec7e4f6d9f1dd384172d14efaba4b98833262c8b2baf345a9772ee"), looks := true }, kinds := [], alts := [], laidByText := true, laidKinds := [.data, .pinned], laidTests := true, laidLooks := .later }
def ServerDeadCardSaid : Prop := Claim7.holds Tryz.pinned (.plain (OpenSpec.ofChange serverDeadSpec)) serverDeadCard

/-- THE TIED CARD OF 'pinstripelaw20.ServerWhole'. -/
def serverWholeCard : Claim7 := { stood := { row := serverWholeRow, standIns := [], harness := (true, "f563687777ec7e4f6d9f1dd384172d14efaba4b98833262c8b2baf345a9772ee"), looks := true }, kinds := [], alts := [], laidByText := true, laidKinds := [.data, .pinned], laidTests := true, laidLooks := .later }
def ServerWholeCardSaid : Prop := Claim7.holds Tryz.pinned (.plain (OpenSpec.ofChange serverWholeSpec)) serverWholeCard

/-- THE TIED CARD OF 'pinstripelaw20.ServerKnown'. -/
def serverKnownCard : Claim7 := { stood := { row := serverKnownRow, standIns := [], harness := (true, "f563687777ec7e4f6d9f1dd384172d14efaba4b98833262c8b2baf345a9772ee"), looks := true }, kinds := [], alts := [], laidByText := true, laidKinds := [.data, .pinned], laidTests := true, laidLooks := .later }
def ServerKnownCardSaid : Prop := Claim7.holds Tryz.pinned (.plain (OpenSpec.ofChange serverKnownSpec)) serverKnownCard

/-- THE TIED CARD OF 'pinstripelaw20.ServerCodes'. -/
def serverCodesCard : Claim7 := { stood := { row := serverCodesRow, standIns := [], harness := (true, "f563687777ec7e4f6d9f1dd384172d14efaba4b98833262c8b2baf345a9772ee"), looks := true }, kinds := [], alts := [], laidByText := true, laidKinds := [.data, .pinned], laidTests := true, laidLooks := .later }
def ServerCodesCardSaid : Prop := Claim7.holds Tryz.pinned (.plain (OpenSpec.ofChange serverCodesSpec)) serverCodesCard

/-- THE TIED CARD OF 'pinstripelaw20.ServerPlays'. -/
def serverPlaysCard : Claim7 := { stood := { row := serverPlaysRow, standIns := [], harness := (true, "f563687777ec7e4f6d9f1dd384172d14efaba4b98833262c8b2baf345a9772ee"), looks := true }, kinds := [], alts := [], laidByText := true, laidKinds := [.data, .pinned], laidTests := true, laidLooks := .later }
def ServerPlaysCardSaid : Prop := Claim7.holds Tryz.pinned (.plain (OpenSpec.ofChange serverPlaysSpec)) serverPlaysCard

/-- THE SECOND FORM's CARD OF 'pinstripelaw20.ServerLists'. -/
def serverListsUptoCard : Claim7 := { stood := { row := serverListsUptoRow, standIns := [], harness := (true, "f563687777ec7e4f6d9f1dd384172d14efaba4b98833262c8b2baf345a9772ee"), looks := true }, kinds := [], alts := [], laidByText := true, laidKinds := [.data, .pinned], laidTests := true, laidLooks := .later }
def ServerListsUptoCardSaid : Prop := Claim7.holds Tryz.pinned (.plain (OpenSpec.upto serverListsSpec)) serverListsUptoCard

/-- THE SECOND FORM's CARD OF 'pinstripelaw20.ServerDead'. -/
def serverDeadUptoCard : Claim7 := { stood := { row := serverDeadUptoRow, standIns := [], harness := (true, "f563687777ec7e4f6d9f1dd384172d14efaba4b98833262c8b2baf345a9772ee"), looks := true }, kinds := [], alts := [], laidByText := true, laidKinds := [.data, .pinned], laidTests := true, laidLooks := .later }
def ServerDeadUptoCardSaid : Prop := Claim7.holds Tryz.pinned (.plain (OpenSpec.upto serverDeadSpec)) serverDeadUptoCard

/-- THE SECOND FORM's CARD OF 'pinstripelaw20.ServerWhole'. -/
def serverWholeUptoCard : Claim7 := { stood := { row := serverWholeUptoRow, standIns := [], harness := (true, "f563687777ec7e4f6d9f1dd384172d14efaba4b98833262c8b2baf345a9772ee"), looks := true }, kinds := [], alts := [], laidByText := true, laidKinds := [.data, .pinned], laidTests := true, laidLooks := .later }
def ServerWholeUptoCardSaid : Prop := Claim7.holds Tryz.pinned (.plain (OpenSpec.upto serverWholeSpec)) serverWholeUptoCard

/-- THE SECOND FORM's CARD OF 'pinstripelaw20.ServerKnown'. -/
def serverKnownUptoCard : Claim7 := { stood := { row := serverKnownUptoRow, standIns := [], harness := (true, "f563687777ec7e4f6d9f1dd384172d14efaba4b98833262c8b2baf345a9772ee"), looks := true }, kinds := [], alts := [], laidByText := true, laidKinds := [.data, .pinned], laidTests := true, laidLooks := .later }
def ServerKnownUptoCardSaid : Prop := Claim7.holds Tryz.pinned (.plain (OpenSpec.upto serverKnownSpec)) serverKnownUptoCard

/-- THE SECOND FORM's CARD OF 'pinstripelaw20.ServerCodes'. -/
def serverCodesUptoCard : Claim7 := { stood := { row := serverCodesUptoRow, standIns := [], harness := (true, "f563687777ec7e4f6d9f1dd384172d14efaba4b98833262c8b2baf345a9772ee"), looks := true }, kinds := [], alts := [], laidByText := true, laidKinds := [.data, .pinned], laidTests := true, laidLooks := .later }
def ServerCodesUptoCardSaid : Prop := Claim7.holds Tryz.pinned (.plain (OpenSpec.upto serverCodesSpec)) serverCodesUptoCard

/-- THE SECOND FORM's CARD OF 'pinstripelaw20.ServerPlays'. -/
def serverPlaysUptoCard : Claim7 := { stood := { row := serverPlaysUptoRow, standIns := [], harness := (true, "f563687777ec7e4f6d9f1dd384172d14efaba4b98833262c8b2baf345a9772ee"), looks := true }, kinds := [], alts := [], laidByText := true, laidKinds := [.data, .pinned], laidTests := true, laidLooks := .later }
def ServerPlaysUptoCardSaid : Prop := Claim7.holds Tryz.pinned (.plain (OpenSpec.upto serverPlaysSpec)) serverPlaysUptoCard
end Rows
end Go.Proofs.YtdkhmfcfihbjeaaGreatDoor
