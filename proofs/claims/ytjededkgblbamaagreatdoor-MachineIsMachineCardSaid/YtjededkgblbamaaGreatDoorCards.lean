/-
  DERIVED. GIVEN WITH THE SEED: THE CARDS: each row of YtjededkgblbamaaGreatDoorRows.lean that lists a variable, with what it lists TIED to the program's text (the seventh form; the later family's looks); each row that meets fmt, with fmt's text TOLD by the authors' own Lean function (tested against real Go, not proved from fmt's source: count such statements apart). THE CARD IS WHAT COUNTS. Prove the row's statement (the work); the ties are given (YtjededkgblbamaaGreatDoorTie.lean); close each card by the builder's one call (the guide's Derived/Test/ToyasCard.lean, 'card_holds'). Laid BY PROGRAM, IN A SANDBOX (cutbox-door.mjs). By AI agents, Wed Nov 11 2026. No macro, syntax, notation, axiom, sorry.
-/
import Derived.Test.YtjededkgblbamaaGreatDoorRows
import GoSem.ClaimSeven
namespace Go.Proofs.YtjededkgblbamaaGreatDoor
namespace Rows

/-- THE TIED CARD OF 'ratchetlaw31.MachineHalts'. -/
def machineHaltsCard : Claim7 := { stood := { row := machineHaltsRow, standIns := [], harness := (true, "db12460b223b7c4ebe0ba5f5d64ceed555a49c2c0235d588933f6d8e50fd59a8"), looks := true }, kinds := [], alts := [], laidByText := true, laidKinds := [.data, .data, .data, .data, .sentinel, .sentinel, .widerDeep, .pinned], laidTests := true, laidLooks := .later }
def MachineHaltsCardSaid : Prop := Claim7.holds Tryz.pinned (.plain (OpenSpec.ofChange machineHaltsSpec)) machineHaltsCard

/-- THE TIED CARD OF 'ratchetlaw31.MachineChecks'. -/
def machineChecksCard : Claim7 := { stood := { row := machineChecksRow, standIns := [], harness := (true, "db12460b223b7c4ebe0ba5f5d64ceed555a49c2c0235d588933f6d8e50fd59a8"), looks := true }, kinds := [], alts := [], laidByText := true, laidKinds := [.data, .data, .data, .data, .sentinel, .sentinel, .widerDeep, .pinned], laidTests := true, laidLooks := .later }
def MachineChecksCardSaid : Prop := Claim7.holds Tryz.pinned (.plain (OpenSpec.ofChange machineChecksSpec)) machineChecksCard

/-- THE TIED CARD OF 'ratchetlaw31.MachineSteps'. -/
def machineStepsCard : Claim7 := { stood := { row := machineStepsRow, standIns := [], harness := (true, "db12460b223b7c4ebe0ba5f5d64ceed555a49c2c0235d588933f6d8e50fd59a8"), looks := true }, kinds := [], alts := [], laidByText := true, laidKinds := [.data, .data, .data, .data, .sentinel, .sentinel, .widerDeep, .pinned], laidTests := true, laidLooks := .later }
def MachineStepsCardSaid : Prop := Claim7.holds Tryz.pinned (.plain (OpenSpec.ofChange machineStepsSpec)) machineStepsCard

/-- THE TIED CARD OF 'ratchetlaw31.MachineCaches'. -/
def machineCachesCard : Claim7 := { stood := { row := machineCachesRow, standIns := [], harness := (true, "db12460b223b7c4ebe0ba5f5d64ceed555a49c2c0235d588933f6d8e50fd59a8"), looks := true }, kinds := [], alts := [], laidByText := true, laidKinds := [.data, .data, .data, .data, .sentinel, .sentinel, .widerDeep, .pinned], laidTests := true, laidLooks := .later }
def MachineCachesCardSaid : Prop := Claim7.holds Tryz.pinned (.plain (OpenSpec.ofChange machineCachesSpec)) machineCachesCard

/-- THE TIED CARD OF 'ratchetlaw31.MachineCoherent'. -/
def machineCoherentCard : Claim7 := { stood := { row := machineCoherentRow, standIns := [], harness := (true, "db12460b223b7c4ebe0ba5f5d64ceed555a49c2c0235d588933f6d8e50fd59a8"), looks := true }, kinds := [], alts := [], laidByText := true, laidKinds := [.data, .data, .data, .data, .sentinel, .sentinel, .widerDeep, .pinned], laidTests := true, laidLooks := .later }
def MachineCoherentCardSaid : Prop := Claim7.holds Tryz.pinned (.plain (OpenSpec.ofChange machineCoherentSpec)) machineCoherentCard

/-- THE TIED CARD OF 'ratchetlaw31.MachineTexts'. -/
def machineTextsCard : Claim7 := { stood := { row := machineTextsRow, standIns := [], harness := (true, "db12460b223b7c4ebe0ba5f5d64ceed555a49c2c0235d588933f6d8e50fd59a8"), looks := true }, kinds := [], alts := [], laidByText := true, laidKinds := [.data, .data, .data, .data, .sentinel, .sentinel, .widerDeep, .pinned], laidTests := true, laidLooks := .later }
def MachineTextsCardSaid : Prop := Claim7.holds Tryz.pinned (.plain (OpenSpec.ofChange machineTextsSpec)) machineTextsCard

/-- THE TIED CARD OF 'ratchetlaw31.MachineIsMachine'. -/
def machineIsMachineCard : Claim7 := { stood := { row := machineIsMachineRow, standIns := [], harness := (true, "db12460b223b7c4ebe0ba5f5d64ceed555a49c2c0235d588933f6d8e50fd59a8"), looks := true }, kinds := [], alts := [], laidByText := true, laidKinds := [.data, .data, .data, .data, .sentinel, .sentinel, .widerDeep, .pinned], laidTests := true, laidLooks := .later }
def MachineIsMachineCardSaid : Prop := Claim7.holds Tryz.pinned (.plain (OpenSpec.ofChange machineIsMachineSpec)) machineIsMachineCard

/-- THE TIED CARD OF 'ratchetlaw31.MachineProcessors'. -/
def machineProcessorsCard : Claim7 := { stood := { row := machineProcessorsRow, standIns := [], harness := (true, "db12460b223b7c4ebe0ba5f5d64ceed555a49c2c0235d588933f6d8e50fd59a8"), looks := true }, kinds := [], alts := [], laidByText := true, laidKinds := [.data, .data, .data, .data, .sentinel, .sentinel, .widerDeep, .pinned], laidTests := true, laidLooks := .later }
def MachineProcessorsCardSaid : Prop := Claim7.holds Tryz.pinned (.plain (OpenSpec.ofChange machineProcessorsSpec)) machineProcessorsCard

/-- THE SECOND FORM's CARD OF 'ratchetlaw31.MachineHalts'. -/
def machineHaltsUptoCard : Claim7 := { stood := { row := machineHaltsUptoRow, standIns := [], harness := (true, "db12460b223b7c4ebe0ba5f5d64ceed555a49c2c0235d588933f6d8e50fd59a8"), looks := true }, kinds := [], alts := [], laidByText := true, laidKinds := [.data, .data, .data, .data, .sentinel, .sentinel, .widerDeep, .pinned], laidTests := true, laidLooks := .later }
def MachineHaltsUptoCardSaid : Prop := Claim7.holds Tryz.pinned (.plain (OpenSpec.upto machineHaltsSpec)) machineHaltsUptoCard

/-- THE SECOND FORM's CARD OF 'ratchetlaw31.MachineChecks'. -/
def machineChecksUptoCard : Claim7 := { stood := { row := machineChecksUptoRow, standIns := [], harness := (true, "db12460b223b7c4ebe0ba5f5d64ceed555a49c2c0235d588933f6d8e50fd59a8"), looks := true }, kinds := [], alts := [], laidByText := true, laidKinds := [.data, .data, .data, .data, .sentinel, .sentinel, .widerDeep, .pinned], laidTests := true, laidLooks := .later }
def MachineChecksUptoCardSaid : Prop := Claim7.holds Tryz.pinned (.plain (OpenSpec.upto machineChecksSpec)) machineChecksUptoCard

/-- THE SECOND FORM's CARD OF 'ratchetlaw31.MachineSteps'. -/
def machineStepsUptoCard : Claim7 := { stood := { row := machineStepsUptoRow, standIns := [], harness := (true, "db12460b223b7c4ebe0ba5f5d64ceed555a49c2c0235d588933f6d8e50fd59a8"), looks := true }, kinds := [], alts := [], laidByText := true, laidKinds := [.data, .data, .data, .data, .sentinel, .sentinel, .widerDeep, .pinned], laidTests := true, laidLooks := .later }
def MachineStepsUptoCardSaid : Prop := Claim7.holds Tryz.pinned (.plain (OpenSpec.upto machineStepsSpec)) machineStepsUptoCard

/-- THE SECOND FORM's CARD OF 'ratchetlaw31.MachineCaches'. -/
def machineCachesUptoCard : Claim7 := { stood := { row := machineCachesUptoRow, standIns := [], harness := (true, "db12460b223b7c4ebe0ba5f5d64ceed555a49c2c0235d588933f6d8e50fd59a8"), looks := true }, kinds := [], alts := [], laidByText := true, laidKinds := [.data, .data, .data, .data, .sentinel, .sentinel, .widerDeep, .pinned], laidTests := true, laidLooks := .later }
def MachineCachesUptoCardSaid : Prop := Claim7.holds Tryz.pinned (.plain (OpenSpec.upto machineCachesSpec)) machineCachesUptoCard

/-- THE SECOND FORM's CARD OF 'ratchetlaw31.MachineCoherent'. -/
def machineCoherentUptoCard : Claim7 := { stood := { row := machineCoherentUptoRow, standIns := [], harness := (true, "db12460b223b7c4ebe0ba5f5d64ceed555a49c2c0235d588933f6d8e50fd59a8"), looks := true }, kinds := [], alts := [], laidByText := true, laidKinds := [.data, .data, .data, .data, .sentinel, .sentinel, .widerDeep, .pinned], laidTests := true, laidLooks := .later }
def MachineCoherentUptoCardSaid : Prop := Claim7.holds Tryz.pinned (.plain (OpenSpec.upto machineCoherentSpec)) machineCoherentUptoCard

/-- THE SECOND FORM's CARD OF 'ratchetlaw31.MachineTexts'. -/
def machineTextsUptoCard : Claim7 := { stood := { row := machineTextsUptoRow, standIns := [], harness := (true, "db12460b223b7c4ebe0ba5f5d64ceed555a49c2c0235d588933f6d8e50fd59a8"), looks := true }, kinds := [], alts := [], laidByText := true, laidKinds := [.data, .data, .data, .data, .sentinel, .sentinel, .widerDeep, .pinned], laidTests := true, laidLooks := .later }
def MachineTextsUptoCardSaid : Prop := Claim7.holds Tryz.pinned (.plain (OpenSpec.upto machineTextsSpec)) machineTextsUptoCard

/-- THE SECOND FORM's CARD OF 'ratchetlaw31.MachineIsMachine'. -/
def machineIsMachineUptoCard : Claim7 := { stood := { row := machineIsMachineUptoRow, standIns := [], harness := (true, "db12460b223b7c4ebe0ba5f5d64ceed555a49c2c0235d588933f6d8e50fd59a8"), looks := true }, kinds := [], alts := [], laidByText := true, laidKinds := [.data, .data, .data, .data, .sentinel, .sentinel, .widerDeep, .pinned], laidTests := true, laidLooks := .later }
def MachineIsMachineUptoCardSaid : Prop := Claim7.holds Tryz.pinned (.plain (OpenSpec.upto machineIsMachineSpec)) machineIsMachineUptoCard

/-- THE SECOND FORM's CARD OF 'ratchetlaw31.MachineProcessors'. -/
def machineProcessorsUptoCard : Claim7 := { stood := { row := machineProcessorsUptoRow, standIns := [], harness := (true, "db12460b223b7c4ebe0ba5f5d64ceed555a49c2c0235d588933f6d8e50fd59a8"), looks := true }, kinds := [], alts := [], laidByText := true, laidKinds := [.data, .data, .data, .data, .sentinel, .sentinel, .widerDeep, .pinned], laidTests := true, laidLooks := .later }
def MachineProcessorsUptoCardSaid : Prop := Claim7.holds Tryz.pinned (.plain (OpenSpec.upto machineProcessorsSpec)) machineProcessorsUptoCard
end Rows
end Go.Proofs.YtjededkgblbamaaGreatDoor
