/-
  DERIVED. GIVEN WITH THE SEED: THE CARDS: each row of YtnbhanmpmjjkkaaGreatDoorRows.lean that lists a variable, with what it lists TIED to the program's text (the seventh form; the later family's looks); each row that meets fmt, with fmt's text TOLD by the authors' own Lean function (tested against real Go, not proved from fmt's source: count such statements apart). THE CARD IS WHAT COUNTS. Prove the row's statement (the work); the ties are given (YtnbhanmpmjjkkaaGreatDoorTie.lean); close each card by the builder's one call (the guide's Derived/Test/ToyasCard.lean, 'card_holds'). Laid BY PROGRAM, IN A SANDBOX (cutbox-door.mjs). By AI agents, Wed Nov 11 2026. No macro, syntax, notation, axiom, sorry.
-/
import Derived.Test.YtnbhanmpmjjkkaaGreatDoorRows
import GoSem.ClaimSeven
namespace Go.Proofs.YtnbhanmpmjjkkaaGreatDoor
namespace Rows

/-- THE TIED CARD OF 'pinstripelaw21.FetchBeyond'. -/
def fetchBeyondCard : Claim7 := { stood := { row := fetchBeyondRow, standIns := [], harness := (true, "8aac6abac236c57b6218e2609acfc2bfa5f8f7a1eaad41a029eb6fefe862141b"), looks := true }, kinds := [], alts := [], laidByText := true, laidKinds := [.data, .pinned], laidTests := true, laidLooks := .later }
def FetchBeyondCardSaid : Prop := Claim7.holds Tryz.pinned (.plain (OpenSpec.ofChange fetchBeyondSpec)) fetchBeyondCard

/-- THE TIED CARD OF 'pinstripelaw21.FetchFew'. -/
def fetchFewCard : Claim7 := { stood := { row := fetchFewRow, standIns := [], harness := (true, "8aac6abac236c57b6218e2609acfc2bfa5f8f7a1eaad41a029eb6fefe862141b"), looks := true }, kinds := [], alts := [], laidByText := true, laidKinds := [.data, .pinned], laidTests := true, laidLooks := .later }
def FetchFewCardSaid : Prop := Claim7.holds Tryz.pinned (.plain (OpenSpec.ofChange fetchFewSpec)) fetchFewCard

/-- THE TIED CARD OF 'pinstripelaw21.FetchKnown'. -/
def fetchKnownCard : Claim7 := { stood := { row := fetchKnownRow, standIns := [], harness := (true, "8aac6abac236c57b6218e2609acfc2bfa5f8f7a1eaad41a029eb6fefe862141b"), looks := true }, kinds := [], alts := [], laidByText := true, laidKinds := [.data, .pinned], laidTests := true, laidLooks := .later }
def FetchKnownCardSaid : Prop := Claim7.holds Tryz.pinned (.plain (OpenSpec.ofChange fetchKnownSpec)) fetchKnownCard

/-- THE TIED CARD OF 'pinstripelaw21.FetchReads'. -/
def fetchReadsCard : Claim7 := { stood := { row := fetchReadsRow, standIns := [], harness := (true, "8aac6abac236c57b6218e2609acfc2bfa5f8f7a1eaad41a029eb6fefe862141b"), looks := true }, kinds := [], alts := [], laidByText := true, laidKinds := [.data, .pinned], laidTests := true, laidLooks := .later }
def FetchReadsCardSaid : Prop := Claim7.holds Tryz.pinned (.plain (OpenSpec.ofChange fetchReadsSpec)) fetchReadsCard

/-- THE TIED CARD OF 'pinstripelaw21.FetchFails'. -/
def fetchFailsCard : Claim7 := { stood := { row := fetchFailsRow, standIns := [], harness := (true, "8aac6abac236c57b6218e2609acfc2bfa5f8f7a1eaad41a029eb6fefe862141b"), looks := true }, kinds := [], alts := [], laidByText := true, laidKinds := [.data, .pinned], laidTests := true, laidLooks := .later }
def FetchFailsCardSaid : Prop := Claim7.holds Tryz.pinned (.plain (OpenSpec.ofChange fetchFailsSpec)) fetchFailsCard

/-- THE SECOND FORM's CARD OF 'pinstripelaw21.FetchBeyond'. -/
def fetchBeyondUptoCard : Claim7 := { stood := { row := fetchBeyondUptoRow, standIns := [], harness := (true, "8aac6abac236c57b6218e2609acfc2bfa5f8f7a1eaad41a029eb6fefe862141b"), looks := true }, kinds := [], alts := [], laidByText := true, laidKinds := [.data, .pinned], laidTests := true, laidLooks := .later }
def FetchBeyondUptoCardSaid : Prop := Claim7.holds Tryz.pinned (.plain (OpenSpec.upto fetchBeyondSpec)) fetchBeyondUptoCard

/-- THE SECOND FORM's CARD OF 'pinstripelaw21.FetchFew'. -/
def fetchFewUptoCard : Claim7 := { stood := { row := fetchFewUptoRow, standIns := [], harness := (true, "8aac6abac236c57b6218e2609acfc2bfa5f8f7a1eaad41a029eb6fefe862141b"), looks := true }, kinds := [], alts := [], laidByText := true, laidKinds := [.data, .pinned], laidTests := true, laidLooks := .later }
def FetchFewUptoCardSaid : Prop := Claim7.holds Tryz.pinned (.plain (OpenSpec.upto fetchFewSpec)) fetchFewUptoCard

/-- THE SECOND FORM's CARD OF 'pinstripelaw21.FetchKnown'. -/
def fetchKnownUptoCard : Claim7 := { stood := { row := fetchKnownUptoRow, standIns := [], harness := (true, "8aac6abac236c57b6218e2609acfc2bfa5f8f7a1eaad41a029eb6fefe862141b"), looks := true }, kinds := [], alts := [], laidByText := true, laidKinds := [.data, .pinned], laidTests := true, laidLooks := .later }
def FetchKnownUptoCardSaid : Prop := Claim7.holds Tryz.pinned (.plain (OpenSpec.upto fetchKnownSpec)) fetchKnownUptoCard

/-- THE SECOND FORM's CARD OF 'pinstripelaw21.FetchReads'. -/
def fetchReadsUptoCard : Claim7 := { stood := { row := fetchReadsUptoRow, standIns := [], harness := (true, "8aac6abac236c57b6218e2609acfc2bfa5f8f7a1eaad41a029eb6fefe862141b"), looks := true }, kinds := [], alts := [], laidByText := true, laidKinds := [.data, .pinned], laidTests := true, laidLooks := .later }
def FetchReadsUptoCardSaid : Prop := Claim7.holds Tryz.pinned (.plain (OpenSpec.upto fetchReadsSpec)) fetchReadsUptoCard

/-- THE SECOND FORM's CARD OF 'pinstripelaw21.FetchFails'. -/
def fetchFailsUptoCard : Claim7 := { stood := { row := fetchFailsUptoRow, standIns := [], harness := (true, "8aac6abac236c57b6218e2609acfc2bfa5f8f7a1eaad41a029eb6fefe862141b"), looks := true }, kinds := [], alts := [], laidByText := true, laidKinds := [.data, .pinned], laidTests := true, laidLooks := .later }
def FetchFailsUptoCardSaid : Prop := Claim7.holds Tryz.pinned (.plain (OpenSpec.upto fetchFailsSpec)) fetchFailsUptoCard
end Rows
end Go.Proofs.YtnbhanmpmjjkkaaGreatDoor
