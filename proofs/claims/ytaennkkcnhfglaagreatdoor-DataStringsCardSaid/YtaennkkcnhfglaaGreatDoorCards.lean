/-
  DERIVED. GIVEN WITH THE SEED: THE CARDS: each row of YtaennkkcnhfglaaGreatDoorRows.lean that lists a variable, with what it lists TIED to the program's text (the seventh form; the later family's looks); each row that meets fmt, with fmt's text TOLD by the authors' own Lean function (tested against real Go, not proved from fmt's source: count such statements apart). THE CARD IS WHAT COUNTS. Prove the row's statement (the work); the ties are given (YtaennkkcnhfglaaGreatDoorTie.lean); close each card by the builder's one call (the guide's Derived/Test/ToyasCard.lean, 'card_holds'). Laid BY PROGRAM, IN A SANDBOX (cutbox-door.mjs). By AI agents, Wed Nov 11 2026. No macro, syntax, notation, axiom, sorry.
-/
import Derived.Test.YtaennkkcnhfglaaGreatDoorRows
import GoSem.ClaimSeven
namespace Go.Proofs.YtaennkkcnhfglaaGreatDoor
namespace Rows

/-- THE TIED CARD OF 'ratchetlaw11.DataCounts'. -/
def dataCountsCard : Claim7 := { stood := { row := dataCountsRow, standIns := [], harness := (true, "1f105511264ad4721eda63a22dc6eacb70d292d515123a386b83a4c918cb99f7"), looks := true }, kinds := [], alts := [], laidByText := true, laidKinds := [.data, .data, .data], laidTests := true, laidLooks := .later }
def DataCountsCardSaid : Prop := Claim7.holds Tryz.pinned (.plain (OpenSpec.ofChange dataCountsSpec)) dataCountsCard

/-- THE TIED CARD OF 'ratchetlaw11.DataChecks'. -/
def dataChecksCard : Claim7 := { stood := { row := dataChecksRow, standIns := [], harness := (true, "1f105511264ad4721eda63a22dc6eacb70d292d515123a386b83a4c918cb99f7"), looks := true }, kinds := [], alts := [], laidByText := true, laidKinds := [.data, .data, .data], laidTests := true, laidLooks := .later }
def DataChecksCardSaid : Prop := Claim7.holds Tryz.pinned (.plain (OpenSpec.ofChange dataChecksSpec)) dataChecksCard

/-- THE TIED CARD OF 'ratchetlaw11.DataValues'. -/
def dataValuesCard : Claim7 := { stood := { row := dataValuesRow, standIns := [], harness := (true, "1f105511264ad4721eda63a22dc6eacb70d292d515123a386b83a4c918cb99f7"), looks := true }, kinds := [], alts := [], laidByText := true, laidKinds := [.data, .data, .data], laidTests := true, laidLooks := .later }
def DataValuesCardSaid : Prop := Claim7.holds Tryz.pinned (.plain (OpenSpec.ofChange dataValuesSpec)) dataValuesCard

/-- THE TIED CARD OF 'ratchetlaw11.DataApart'. -/
def dataApartCard : Claim7 := { stood := { row := dataApartRow, standIns := [], harness := (true, "1f105511264ad4721eda63a22dc6eacb70d292d515123a386b83a4c918cb99f7"), looks := true }, kinds := [], alts := [], laidByText := true, laidKinds := [.data, .data, .data], laidTests := true, laidLooks := .later }
def DataApartCardSaid : Prop := Claim7.holds Tryz.pinned (.plain (OpenSpec.ofChange dataApartSpec)) dataApartCard

/-- THE TIED CARD OF 'ratchetlaw11.DataLayouts'. -/
def dataLayoutsCard : Claim7 := { stood := { row := dataLayoutsRow, standIns := [], harness := (true, "1f105511264ad4721eda63a22dc6eacb70d292d515123a386b83a4c918cb99f7"), looks := true }, kinds := [], alts := [], laidByText := true, laidKinds := [.data, .data, .data], laidTests := true, laidLooks := .later }
def DataLayoutsCardSaid : Prop := Claim7.holds Tryz.pinned (.plain (OpenSpec.ofChange dataLayoutsSpec)) dataLayoutsCard

/-- THE TIED CARD OF 'ratchetlaw11.DataOrder'. -/
def dataOrderCard : Claim7 := { stood := { row := dataOrderRow, standIns := [], harness := (true, "1f105511264ad4721eda63a22dc6eacb70d292d515123a386b83a4c918cb99f7"), looks := true }, kinds := [], alts := [], laidByText := true, laidKinds := [.data, .data, .data], laidTests := true, laidLooks := .later }
def DataOrderCardSaid : Prop := Claim7.holds Tryz.pinned (.plain (OpenSpec.ofChange dataOrderSpec)) dataOrderCard

/-- THE TIED CARD OF 'ratchetlaw11.DataStrings'. -/
def dataStringsCard : Claim7 := { stood := { row := dataStringsRow, standIns := [], harness := (true, "1f105511264ad4721eda63a22dc6eacb70d292d515123a386b83a4c918cb99f7"), looks := true }, kinds := [], alts := [], laidByText := true, laidKinds := [.data, .data, .data, .sentinel, .sentinel], laidTests := true, laidLooks := .later }
def DataStringsCardSaid : Prop := Claim7.holds Tryz.pinned (.plain (OpenSpec.ofChange dataStringsSpec)) dataStringsCard

/-- THE SECOND FORM's CARD OF 'ratchetlaw11.DataCounts'. -/
def dataCountsUptoCard : Claim7 := { stood := { row := dataCountsUptoRow, standIns := [], harness := (true, "1f105511264ad4721eda63a22dc6eacb70d292d515123a386b83a4c918cb99f7"), looks := true }, kinds := [], alts := [], laidByText := true, laidKinds := [.data, .data, .data], laidTests := true, laidLooks := .later }
def DataCountsUptoCardSaid : Prop := Claim7.holds Tryz.pinned (.plain (OpenSpec.upto dataCountsSpec)) dataCountsUptoCard

/-- THE SECOND FORM's CARD OF 'ratchetlaw11.DataChecks'. -/
def dataChecksUptoCard : Claim7 := { stood := { row := dataChecksUptoRow, standIns := [], harness := (true, "1f105511264ad4721eda63a22dc6eacb70d292d515123a386b83a4c918cb99f7"), looks := true }, kinds := [], alts := [], laidByText := true, laidKinds := [.data, .data, .data], laidTests := true, laidLooks := .later }
def DataChecksUptoCardSaid : Prop := Claim7.holds Tryz.pinned (.plain (OpenSpec.upto dataChecksSpec)) dataChecksUptoCard

/-- THE SECOND FORM's CARD OF 'ratchetlaw11.DataValues'. -/
def dataValuesUptoCard : Claim7 := { stood := { row := dataValuesUptoRow, standIns := [], harness := (true, "1f105511264ad4721eda63a22dc6eacb70d292d515123a386b83a4c918cb99f7"), looks := true }, kinds := [], alts := [], laidByText := true, laidKinds := [.data, .data, .data], laidTests := true, laidLooks := .later }
def DataValuesUptoCardSaid : Prop := Claim7.holds Tryz.pinned (.plain (OpenSpec.upto dataValuesSpec)) dataValuesUptoCard

/-- THE SECOND FORM's CARD OF 'ratchetlaw11.DataApart'. -/
def dataApartUptoCard : Claim7 := { stood := { row := dataApartUptoRow, standIns := [], harness := (true, "1f105511264ad4721eda63a22dc6eacb70d292d515123a386b83a4c918cb99f7"), looks := true }, kinds := [], alts := [], laidByText := true, laidKinds := [.data, .data, .data], laidTests := true, laidLooks := .later }
def DataApartUptoCardSaid : Prop := Claim7.holds Tryz.pinned (.plain (OpenSpec.upto dataApartSpec)) dataApartUptoCard

/-- THE SECOND FORM's CARD OF 'ratchetlaw11.DataLayouts'. -/
def dataLayoutsUptoCard : Claim7 := { stood := { row := dataLayoutsUptoRow, standIns := [], harness := (true, "1f105511264ad4721eda63a22dc6eacb70d292d515123a386b83a4c918cb99f7"), looks := true }, kinds := [], alts := [], laidByText := true, laidKinds := [.data, .data, .data], laidTests := true, laidLooks := .later }
def DataLayoutsUptoCardSaid : Prop := Claim7.holds Tryz.pinned (.plain (OpenSpec.upto dataLayoutsSpec)) dataLayoutsUptoCard

/-- THE SECOND FORM's CARD OF 'ratchetlaw11.DataOrder'. -/
def dataOrderUptoCard : Claim7 := { stood := { row := dataOrderUptoRow, standIns := [], harness := (true, "1f105511264ad4721eda63a22dc6eacb70d292d515123a386b83a4c918cb99f7"), looks := true }, kinds := [], alts := [], laidByText := true, laidKinds := [.data, .data, .data], laidTests := true, laidLooks := .later }
def DataOrderUptoCardSaid : Prop := Claim7.holds Tryz.pinned (.plain (OpenSpec.upto dataOrderSpec)) dataOrderUptoCard

/-- THE SECOND FORM's CARD OF 'ratchetlaw11.DataStrings'. -/
def dataStringsUptoCard : Claim7 := { stood := { row := dataStringsUptoRow, standIns := [], harness := (true, "1f105511264ad4721eda63a22dc6eacb70d292d515123a386b83a4c918cb99f7"), looks := true }, kinds := [], alts := [], laidByText := true, laidKinds := [.data, .data, .data, .sentinel, .sentinel], laidTests := true, laidLooks := .later }
def DataStringsUptoCardSaid : Prop := Claim7.holds Tryz.pinned (.plain (OpenSpec.upto dataStringsSpec)) dataStringsUptoCard
end Rows
end Go.Proofs.YtaennkkcnhfglaaGreatDoor
