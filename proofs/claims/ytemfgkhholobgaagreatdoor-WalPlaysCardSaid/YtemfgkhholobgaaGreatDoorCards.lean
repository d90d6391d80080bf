/-
  DERIVED. GIVEN WITH THE SEED: THE CARDS: each row of YtemfgkhholobgaaGreatDoorRows.lean that lists a variable, with what it lists TIED to the program's text (the seventh form; the later family's looks); each row that meets fmt, with fmt's text TOLD by the authors' own Lean function (tested against real Go, not proved from fmt's source: count such statements apart). THE CARD IS WHAT COUNTS. Prove the row's statement (the work); the ties are given (YtemfgkhholobgaaGreatDoorTie.lean); close each card by the builder's one call (the guide's Derived/Test/ToyasCard.lean, 'card_holds'). Laid BY PROGRAM, IN A SANDBOX (cutbox-door.mjs). By AI agents, Wed Nov 11 2026. No macro, syntax, notation, axiom, sorry.
-/
import Derived.Test.YtemfgkhholobgaaGreatDoorRows
import GoSem.ClaimSeven
namespace Go.Proofs.YtemfgkhholobgaaGreatDoor
namespace Rows

/-- THE TIED CARD OF 'copyholdlaw07.WalPlays'. -/
def walPlaysCard : Claim7 := { stood := { row := walPlaysRow, standIns := [], harness := (true, "aa6b1040fae10dd5a25c2e20a21eae0a5ef01bfaf432c89b4b579e69ba400503"), looks := true }, kinds := [], alts := [], laidByText := true, laidKinds := [.data, .data, .data, .data, .sentinel, .sentinel], laidTests := true, laidLooks := .later }
def WalPlaysCardSaid : Prop := Claim7.holds Tryz.pinned (.plain (OpenSpec.ofChange walPlaysSpec)) walPlaysCard

/-- THE TIED CARD OF 'copyholdlaw17.JobRoom'. -/
def jobRoomCard : Claim7 := { stood := { row := jobRoomRow, standIns := [], harness := (true, "aa6b1040fae10dd5a25c2e20a21eae0a5ef01bfaf432c89b4b579e69ba400503"), looks := true }, kinds := [], alts := [], laidByText := true, laidKinds := [.data, .data, .data, .data, .data, .pinned], laidTests := true, laidLooks := .later }
def JobRoomCardSaid : Prop := Claim7.holds Tryz.pinned (.plain (OpenSpec.ofChange jobRoomSpec)) jobRoomCard

/-- THE TIED CARD OF 'copyholdlaw15.ManifestTakes'. -/
def manifestTakesCard : Claim7 := { stood := { row := manifestTakesRow, standIns := [], harness := (true, "aa6b1040fae10dd5a25c2e20a21eae0a5ef01bfaf432c89b4b579e69ba400503"), looks := true }, kinds := [], alts := [], laidByText := true, laidKinds := [.data, .data, .data, .data, .sentinel, .sentinel], laidTests := true, laidLooks := .later }
def ManifestTakesCardSaid : Prop := Claim7.holds Tryz.pinned (.plain (OpenSpec.ofChange manifestTakesSpec)) manifestTakesCard

/-- THE TIED CARD OF 'copyholdlaw15.ManifestRoom'. -/
def manifestRoomCard : Claim7 := { stood := { row := manifestRoomRow, standIns := [], harness := (true, "aa6b1040fae10dd5a25c2e20a21eae0a5ef01bfaf432c89b4b579e69ba400503"), looks := true }, kinds := [], alts := [], laidByText := true, laidKinds := [.data, .data, .data, .data, .sentinel, .sentinel], laidTests := true, laidLooks := .later }
def ManifestRoomCardSaid : Prop := Claim7.holds Tryz.pinned (.plain (OpenSpec.ofChange manifestRoomSpec)) manifestRoomCard

/-- THE TIED CARD OF 'copyholdlaw17.JobWrites'. -/
def jobWritesCard : Claim7 := { stood := { row := jobWritesRow, standIns := [], harness := (true, "aa6b1040fae10dd5a25c2e20a21eae0a5ef01bfaf432c89b4b579e69ba400503"), looks := true }, kinds := [], alts := [], laidByText := true, laidKinds := [.data, .data, .data, .data, .data, .pinned], laidTests := true, laidLooks := .later }
def JobWritesCardSaid : Prop := Claim7.holds Tryz.pinned (.plain (OpenSpec.ofChange jobWritesSpec)) jobWritesCard

/-- THE TIED CARD OF 'copyholdlaw17.JobFuse'. -/
def jobFuseCard : Claim7 := { stood := { row := jobFuseRow, standIns := [], harness := (true, "aa6b1040fae10dd5a25c2e20a21eae0a5ef01bfaf432c89b4b579e69ba400503"), looks := true }, kinds := [], alts := [], laidByText := true, laidKinds := [.data, .data, .data, .data, .data, .sentinel, .sentinel, .pinned], laidTests := true, laidLooks := .later }
def JobFuseCardSaid : Prop := Claim7.holds Tryz.pinned (.plain (OpenSpec.ofChange jobFuseSpec)) jobFuseCard

/-- THE TIED CARD OF 'copyholdlaw15.ManifestLasts'. -/
def manifestLastsCard : Claim7 := { stood := { row := manifestLastsRow, standIns := [], harness := (true, "aa6b1040fae10dd5a25c2e20a21eae0a5ef01bfaf432c89b4b579e69ba400503"), looks := true }, kinds := [], alts := [], laidByText := true, laidKinds := [.data, .data, .data, .data, .sentinel, .sentinel], laidTests := true, laidLooks := .later }
def ManifestLastsCardSaid : Prop := Claim7.holds Tryz.pinned (.plain (OpenSpec.ofChange manifestLastsSpec)) manifestLastsCard

/-- THE TIED CARD OF 'copyholdlaw15.ManifestKnown'. -/
def manifestKnownCard : Claim7 := { stood := { row := manifestKnownRow, standIns := [], harness := (true, "aa6b1040fae10dd5a25c2e20a21eae0a5ef01bfaf432c89b4b579e69ba400503"), looks := true }, kinds := [], alts := [], laidByText := true, laidKinds := [.data, .data, .data, .data, .sentinel, .sentinel], laidTests := true, laidLooks := .later }
def ManifestKnownCardSaid : Prop := Claim7.holds Tryz.pinned (.plain (OpenSpec.ofChange manifestKnownSpec)) manifestKnownCard

/-- THE TIED CARD OF 'copyholdlaw17.JobLasts'. -/
def jobLastsCard : Claim7 := { stood := { row := jobLastsRow, standIns := [], harness := (true, "aa6b1040fae10dd5a25c2e20a21eae0a5ef01bfaf432c89b4b579e69ba400503"), looks := true }, kinds := [], alts := [], laidByText := true, laidKinds := [.data, .data, .data, .data, .data, .pinned], laidTests := true, laidLooks := .later }
def JobLastsCardSaid : Prop := Claim7.holds Tryz.pinned (.plain (OpenSpec.ofChange jobLastsSpec)) jobLastsCard

/-- THE SECOND FORM's CARD OF 'copyholdlaw07.WalPlays'. -/
def walPlaysUptoCard : Claim7 := { stood := { row := walPlaysUptoRow, standIns := [], harness := (true, "aa6b1040fae10dd5a25c2e20a21eae0a5ef01bfaf432c89b4b579e69ba400503"), looks := true }, kinds := [], alts := [], laidByText := true, laidKinds := [.data, .data, .data, .data, .sentinel, .sentinel], laidTests := true, laidLooks := .later }
def WalPlaysUptoCardSaid : Prop := Claim7.holds Tryz.pinned (.plain (OpenSpec.upto walPlaysSpec)) walPlaysUptoCard

/-- THE SECOND FORM's CARD OF 'copyholdlaw17.JobRoom'. -/
def jobRoomUptoCard : Claim7 := { stood := { row := jobRoomUptoRow, standIns := [], harness := (true, "aa6b1040fae10dd5a25c2e20a21eae0a5ef01bfaf432c89b4b579e69ba400503"), looks := true }, kinds := [], alts := [], laidByText := true, laidKinds := [.data, .data, .data, .data, .data, .pinned], laidTests := true, laidLooks := .later }
def JobRoomUptoCardSaid : Prop := Claim7.holds Tryz.pinned (.plain (OpenSpec.upto jobRoomSpec)) jobRoomUptoCard

/-- THE SECOND FORM's CARD OF 'copyholdlaw15.ManifestTakes'. -/
def manifestTakesUptoCard : Claim7 := { stood := { row := manifestTakesUptoRow, standIns := [], harness := (true, "aa6b1040fae10dd5a25c2e20a21eae0a5ef01bfaf432c89b4b579e69ba400503"), looks := true }, kinds := [], alts := [], laidByText := true, laidKinds := [.data, .data, .data, .data, .sentinel, .sentinel], laidTests := true, laidLooks := .later }
def ManifestTakesUptoCardSaid : Prop := Claim7.holds Tryz.pinned (.plain (OpenSpec.upto manifestTakesSpec)) manifestTakesUptoCard

/-- THE SECOND FORM's CARD OF 'copyholdlaw15.ManifestRoom'. -/
def manifestRoomUptoCard : Claim7 := { stood := { row := manifestRoomUptoRow, standIns := [], harness := (true, "aa6b1040fae10dd5a25c2e20a21eae0a5ef01bfaf432c89b4b579e69ba400503"), looks := true }, kinds := [], alts := [], laidByText := true, laidKinds := [.data, .data, .data, .data, .sentinel, .sentinel], laidTests := true, laidLooks := .later }
def ManifestRoomUptoCardSaid : Prop := Claim7.holds Tryz.pinned (.plain (OpenSpec.upto manifestRoomSpec)) manifestRoomUptoCard

/-- THE SECOND FORM's CARD OF 'copyholdlaw17.JobWrites'. -/
def jobWritesUptoCard : Claim7 := { stood := { row := jobWritesUptoRow, standIns := [], harness := (true, "aa6b1040fae10dd5a25c2e20a21eae0a5ef01bfaf432c89b4b579e69ba400503"), looks := true }, kinds := [], alts := [], laidByText := true, laidKinds := [.data, .data, .data, .data, .data, .pinned], laidTests := true, laidLooks := .later }
def JobWritesUptoCardSaid : Prop := Claim7.holds Tryz.pinned (.plain (OpenSpec.upto jobWritesSpec)) jobWritesUptoCard

/-- THE SECOND FORM's CARD OF 'copyholdlaw17.JobFuse'. -/
def jobFuseUptoCard : Claim7 := { stood := { row := jobFuseUptoRow, standIns := [], harness := (true, "aa6b1040fae10dd5a25c2e20a21eae0a5ef01bfaf432c89b4b579e69ba400503"), looks := true }, kinds := [], alts := [], laidByText := true, laidKinds := [.data, .data, .data, .data, .data, .sentinel, .sentinel, .pinned], laidTests := true, laidLooks := .later }
def JobFuseUptoCardSaid : Prop := Claim7.holds Tryz.pinned (.plain (OpenSpec.upto jobFuseSpec)) jobFuseUptoCard

/-- THE SECOND FORM's CARD OF 'copyholdlaw15.ManifestLasts'. -/
def manifestLastsUptoCard : Claim7 := { stood := { row := manifestLastsUptoRow, standIns := [], harness := (true, "aa6b1040fae10dd5a25c2e20a21eae0a5ef01bfaf432c89b4b579e69ba400503"), looks := true }, kinds := [], alts := [], laidByText := true, laidKinds := [.data, .data, .data, .data, .sentinel, .sentinel], laidTests := true, laidLooks := .later }
def ManifestLastsUptoCardSaid : Prop := Claim7.holds Tryz.pinned (.plain (OpenSpec.upto manifestLastsSpec)) manifestLastsUptoCard

/-- THE SECOND FORM's CARD OF 'copyholdlaw15.ManifestKnown'. -/
def manifestKnownUptoCard : Claim7 := { stood := { row := manifestKnownUptoRow, standIns := [], harness := (true, "aa6b1040fae10dd5a25c2e20a21eae0a5ef01bfaf432c89b4b579e69ba400503"), looks := true }, kinds := [], alts := [], laidByText := true, laidKinds := [.data, .data, .data, .data, .sentinel, .sentinel], laidTests := true, laidLooks := .later }
def ManifestKnownUptoCardSaid : Prop := Claim7.holds Tryz.pinned (.plain (OpenSpec.upto manifestKnownSpec)) manifestKnownUptoCard

/-- THE SECOND FORM's CARD OF 'copyholdlaw17.JobLasts'. -/
def jobLastsUptoCard : Claim7 := { stood := { row := jobLastsUptoRow, standIns := [], harness := (true, "aa6b1040fae10dd5a25c2e20a21eae0a5ef01bfaf432c89b4b579e69ba400503"), looks := true }, kinds := [], alts := [], laidByText := true, laidKinds := [.data, .data, .data, .data, .data, .pinned], laidTests := true, laidLooks := .later }
def JobLastsUptoCardSaid : Prop := Claim7.holds Tryz.pinned (.plain (OpenSpec.upto jobLastsSpec)) jobLastsUptoCard
end Rows
end Go.Proofs.YtemfgkhholobgaaGreatDoor
