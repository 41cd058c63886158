/-
  DERIVED. GIVEN WITH THE SEED: THE CARDS: each row of YtcgkjbglijganaaGreatDoorRows.lean that lists a variable, with what it lists TIED to the program's text (the seventh form; the later family's looks); each row that meets fmt, with fmt's text TOLD by the authors' own Lean function (tested against real Go, not proved from fmt's source: count such statements apart). THE CARD IS WHAT COUNTS. Prove the row's statement (the work); the ties are given (YtcgkjbglijganaaGreatDoorTie.lean); close each card by the builder's one call (the guide's Derived/Test/ToyasCard.lean, 'card_holds'). Laid BY PROGRAM, IN A SANDBOX (cutbox-door.mjs). By AI agents, Wed Nov 11 2026. No macro, syntax, notation, axiom, sorry.
-/
import Derived.Test.YtcgkjbglijganaaGreatDoorRows
import GoSem.ClaimSeven
namespace Go.Proofs.YtcgkjbglijganaaGreatDoor
namespace Rows

/-- THE TIED CARD OF 'ratchetlaw01.BitsStrings'. -/
def bitsStringsCard : Claim7 := { stood := { row := bitsStringsRow, standIns := [], harness := (true, "4afeb824491579c7edf7f1a6262beb8026b8eb2f0eb0f3d138426115b880b1d8"), looks := true }, kinds := [], alts := [], laidByText := true, laidKinds := [.data, .data, .data, .sentinel, .sentinel, .widerDeep], laidTests := true, laidLooks := .later }
def BitsStringsCardSaid : Prop := Claim7.holds Tryz.pinned (.plain (OpenSpec.ofChange bitsStringsSpec)) bitsStringsCard

/-- THE SECOND FORM's CARD OF 'ratchetlaw01.BitsStrings'. -/
def bitsStringsUptoCard : Claim7 := { stood := { row := bitsStringsUptoRow, standIns := [], harness := (true, "4afeb824491579c7edf7f1a6262beb8026b8eb2f0eb0f3d138426115b880b1d8"), looks := true }, kinds := [], alts := [], laidByText := true, laidKinds := [.data, .data, .data, .sentinel, .sentinel, .widerDeep], laidTests := true, laidLooks := .later }
def BitsStringsUptoCardSaid : Prop := Claim7.holds Tryz.pinned (.plain (OpenSpec.upto bitsStringsSpec)) bitsStringsUptoCard
end Rows
end Go.Proofs.YtcgkjbglijganaaGreatDoor
