/-
  DERIVED. GIVEN WITH THE SEED: THE CARDS: each row of YtfmkleeneddijaaGreatDoorRows.lean that lists a variable, with what it lists TIED to the program's text (the seventh form; the later family's looks); each row that meets fmt, with fmt's text TOLD by the authors' own Lean function (tested against real Go, not proved from fmt's source: count such statements apart). THE CARD IS WHAT COUNTS. Prove the row's statement (the work); the ties are given (YtfmkleeneddijaaGreatDoorTie.lean); close each card by the builder's one call (the guide's Derived/Test/ToyasCard.lean, 'card_holds'). Laid BY PROGRAM, IN A SANDBOX (cutbox-door.mjs). By AI agents, Wed Nov 11 2026. No macro, syntax, notation, axiom, sorry.
-/
import Derived.Test.YtfmkleeneddijaaGreatDoorRows
import GoSem.ClaimSeven
namespace Go.Proofs.YtfmkleeneddijaaGreatDoor
namespace Rows

/-- THE TIED CARD OF 'ratchetlaw05.LexerTokens'. -/
def lexerTokensCard : Claim7 := { stood := { row := lexerTokensRow, standIns := [], harness := (true, "d21578ad616a84cfe5bb56869727e05701152885baf4ed509683b95cfaa2253f"), looks := true }, kinds := [], alts := [], laidByText := true, laidKinds := [.data, .data, .data, .data, .sentinel, .sentinel, .pinned], laidTests := true, laidLooks := .later }
def LexerTokensCardSaid : Prop := Claim7.holds Tryz.pinned (.plain (OpenSpec.ofChange lexerTokensSpec)) lexerTokensCard

/-- THE TIED CARD OF 'ratchetlaw05.LexerSpaced'. -/
def lexerSpacedCard : Claim7 := { stood := { row := lexerSpacedRow, standIns := [], harness := (true, "d21578ad616a84cfe5bb56869727e05701152885baf4ed509683b95cfaa2253f"), looks := true }, kinds := [], alts := [], laidByText := true, laidKinds := [.data, .data, .data, .data, .sentinel, .sentinel, .pinned], laidTests := true, laidLooks := .later }
def LexerSpacedCardSaid : Prop := Claim7.holds Tryz.pinned (.plain (OpenSpec.ofChange lexerSpacedSpec)) lexerSpacedCard

/-- THE TIED CARD OF 'ratchetlaw05.LexerBack'. -/
def lexerBackCard : Claim7 := { stood := { row := lexerBackRow, standIns := [], harness := (true, "d21578ad616a84cfe5bb56869727e05701152885baf4ed509683b95cfaa2253f"), looks := true }, kinds := [], alts := [], laidByText := true, laidKinds := [.data, .data, .data, .data, .sentinel, .sentinel, .pinned], laidTests := true, laidLooks := .later }
def LexerBackCardSaid : Prop := Claim7.holds Tryz.pinned (.plain (OpenSpec.ofChange lexerBackSpec)) lexerBackCard

/-- THE TIED CARD OF 'ratchetlaw05.LexerLiterals'. -/
def lexerLiteralsCard : Claim7 := { stood := { row := lexerLiteralsRow, standIns := [], harness := (true, "d21578ad616a84cfe5bb56869727e05701152885baf4ed509683b95cfaa2253f"), looks := true }, kinds := [], alts := [], laidByText := true, laidKinds := [.data, .data, .data, .data, .sentinel, .sentinel, .pinned], laidTests := true, laidLooks := .later }
def LexerLiteralsCardSaid : Prop := Claim7.holds Tryz.pinned (.plain (OpenSpec.ofChange lexerLiteralsSpec)) lexerLiteralsCard

/-- THE SECOND FORM's CARD OF 'ratchetlaw05.LexerTokens'. -/
def lexerTokensUptoCard : Claim7 := { stood := { row := lexerTokensUptoRow, standIns := [], harness := (true, "d21578ad616a84cfe5bb56869727e05701152885baf4ed509683b95cfaa2253f"), looks := true }, kinds := [], alts := [], laidByText := true, laidKinds := [.data, .data, .data, .data, .sentinel, .sentinel, .pinned], laidTests := true, laidLooks := .later }
def LexerTokensUptoCardSaid : Prop := Claim7.holds Tryz.pinned (.plain (OpenSpec.upto lexerTokensSpec)) lexerTokensUptoCard

/-- THE SECOND FORM's CARD OF 'ratchetlaw05.LexerSpaced'. -/
def lexerSpacedUptoCard : Claim7 := { stood := { row := lexerSpacedUptoRow, standIns := [], harness := (true, "d21578ad616a84cfe5bb56869727e05701152885baf4ed509683b95cfaa2253f"), looks := true }, kinds := [], alts := [], laidByText := true, laidKinds := [.data, .data, .data, .data, .sentinel, .sentinel, .pinned], laidTests := true, laidLooks := .later }
def LexerSpacedUptoCardSaid : Prop := Claim7.holds Tryz.pinned (.plain (OpenSpec.upto lexerSpacedSpec)) lexerSpacedUptoCard

/-- THE SECOND FORM's CARD OF 'ratchetlaw05.LexerBack'. -/
def lexerBackUptoCard : Claim7 := { stood := { row := lexerBackUptoRow, standIns := [], harness := (true, "d21578ad616a84cfe5bb56869727e05701152885baf4ed509683b95cfaa2253f"), looks := true }, kinds := [], alts := [], laidByText := true, laidKinds := [.data, .data, .data, .data, .sentinel, .sentinel, .pinned], laidTests := true, laidLooks := .later }
def LexerBackUptoCardSaid : Prop := Claim7.holds Tryz.pinned (.plain (OpenSpec.upto lexerBackSpec)) lexerBackUptoCard

/-- THE SECOND FORM's CARD OF 'ratchetlaw05.LexerLiterals'. -/
def lexerLiteralsUptoCard : Claim7 := { stood := { row := lexerLiteralsUptoRow, standIns := [], harness := (true, "d21578ad616a84cfe5bb56869727e05701152885baf4ed509683b95cfaa2253f"), looks := true }, kinds := [], alts := [], laidByText := true, laidKinds := [.data, .data, .data, .data, .sentinel, .sentinel, .pinned], laidTests := true, laidLooks := .later }
def LexerLiteralsUptoCardSaid : Prop := Claim7.holds Tryz.pinned (.plain (OpenSpec.upto lexerLiteralsSpec)) lexerLiteralsUptoCard
end Rows
end Go.Proofs.YtfmkleeneddijaaGreatDoor
