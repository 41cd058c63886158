/-
  DERIVED. GIVEN WITH THE SEED: THE CARDS: each row of YtcgkjbglijganaaDoorRows.lean that lists a variable, with what it lists TIED to the program's text (the seventh form; the later family's looks); each row that meets fmt, with fmt's text TOLD by the authors' own Lean function (tested against real Go, not proved from fmt's source: count such statements apart). THE CARD IS WHAT COUNTS. Prove the row's statement (the work); the ties are given (YtcgkjbglijganaaDoorTie.lean); close each card by the builder's one call (the guide's Derived/Test/ToyasCard.lean, 'card_holds'). Laid BY PROGRAM, IN A SANDBOX (cutbox-door.mjs). By AI agents, Wed Nov 11 2026. No macro, syntax, notation, axiom, sorry.
-/
import Derived.Test.YtcgkjbglijganaaDoorRows
import GoSem.ClaimSeven
namespace Go.Proofs.YtcgkjbglijganaaDoor
namespace Rows

/-- THE TIED CARD OF 'ratchetlaw01.BitsShifts'. -/
def bitsShiftsCard : Claim7 := { stood := { row := bitsShiftsRow, standIns := [], harness := (true, "657fe34ec5c3f09b27d863e611e48b18dd304c8822417fa5b7188314f2416671"), looks := true }, kinds := [], alts := [], laidByText := true, laidKinds := [.data, .data, .data, .sentinel, .sentinel, .widerDeep], laidTests := true, laidLooks := .later }
def BitsShiftsCardSaid : Prop := Claim7.holds Tryd.pinned (.plain (OpenSpec.ofChange bitsShiftsSpec)) bitsShiftsCard

/-- THE TIED CARD OF 'ratchetlaw01.BitsSums'. -/
def bitsSumsCard : Claim7 := { stood := { row := bitsSumsRow, standIns := [], harness := (true, "657fe34ec5c3f09b27d863e611e48b18dd304c8822417fa5b7188314f2416671"), looks := true }, kinds := [], alts := [], laidByText := true, laidKinds := [.data, .data, .data, .sentinel, .sentinel, .widerDeep], laidTests := true, laidLooks := .later }
def BitsSumsCardSaid : Prop := Claim7.holds Tryd.pinned (.plain (OpenSpec.ofChange bitsSumsSpec)) bitsSumsCard

/-- THE TIED CARD OF 'ratchetlaw01.BitsProducts'. -/
def bitsProductsCard : Claim7 := { stood := { row := bitsProductsRow, standIns := [], harness := (true, "657fe34ec5c3f09b27d863e611e48b18dd304c8822417fa5b7188314f2416671"), looks := true }, kinds := [], alts := [], laidByText := true, laidKinds := [.data, .data, .data, .sentinel, .sentinel, .widerDeep], laidTests := true, laidLooks := .later }
def BitsProductsCardSaid : Prop := Claim7.holds Tryd.pinned (.plain (OpenSpec.ofChange bitsProductsSpec)) bitsProductsCard

/-- THE TIED CARD OF 'ratchetlaw01.BitsSigns'. -/
def bitsSignsCard : Claim7 := { stood := { row := bitsSignsRow, standIns := [], harness := (true, "657fe34ec5c3f09b27d863e611e48b18dd304c8822417fa5b7188314f2416671"), looks := true }, kinds := [], alts := [], laidByText := true, laidKinds := [.data, .data, .data, .sentinel, .sentinel, .widerDeep], laidTests := true, laidLooks := .later }
def BitsSignsCardSaid : Prop := Claim7.holds Tryd.pinned (.plain (OpenSpec.ofChange bitsSignsSpec)) bitsSignsCard

/-- THE TIED CARD OF 'ratchetlaw01.BitsBack'. -/
def bitsBackCard : Claim7 := { stood := { row := bitsBackRow, standIns := [], harness := (true, "657fe34ec5c3f09b27d863e611e48b18dd304c8822417fa5b7188314f2416671"), looks := true }, kinds := [], alts := [], laidByText := true, laidKinds := [.data, .data, .data, .sentinel, .sentinel, .widerDeep], laidTests := true, laidLooks := .later }
def BitsBackCardSaid : Prop := Claim7.holds Tryd.pinned (.plain (OpenSpec.ofChange bitsBackSpec)) bitsBackCard

/-- THE TIED CARD OF 'ratchetlaw01.BitsGray'. -/
def bitsGrayCard : Claim7 := { stood := { row := bitsGrayRow, standIns := [], harness := (true, "657fe34ec5c3f09b27d863e611e48b18dd304c8822417fa5b7188314f2416671"), looks := true }, kinds := [], alts := [], laidByText := true, laidKinds := [.data, .data, .data, .sentinel, .sentinel, .widerDeep], laidTests := true, laidLooks := .later }
def BitsGrayCardSaid : Prop := Claim7.holds Tryd.pinned (.plain (OpenSpec.ofChange bitsGraySpec)) bitsGrayCard

/-- THE TIED CARD OF 'ratchetlaw01.BitsFields'. -/
def bitsFieldsCard : Claim7 := { stood := { row := bitsFieldsRow, standIns := [], harness := (true, "657fe34ec5c3f09b27d863e611e48b18dd304c8822417fa5b7188314f2416671"), looks := true }, kinds := [], alts := [], laidByText := true, laidKinds := [.data, .data, .data, .sentinel, .sentinel, .widerDeep], laidTests := true, laidLooks := .later }
def BitsFieldsCardSaid : Prop := Claim7.holds Tryd.pinned (.plain (OpenSpec.ofChange bitsFieldsSpec)) bitsFieldsCard

/-- THE TIED CARD OF 'ratchetlaw01.BitsCounts'. -/
def bitsCountsCard : Claim7 := { stood := { row := bitsCountsRow, standIns := [], harness := (true, "657fe34ec5c3f09b27d863e611e48b18dd304c8822417fa5b7188314f2416671"), looks := true }, kinds := [], alts := [], laidByText := true, laidKinds := [.data, .data, .data, .sentinel, .sentinel, .widerDeep], laidTests := true, laidLooks := .later }
def BitsCountsCardSaid : Prop := Claim7.holds Tryd.pinned (.plain (OpenSpec.ofChange bitsCountsSpec)) bitsCountsCard

/-- THE SECOND FORM's CARD OF 'ratchetlaw01.BitsShifts'. -/
def bitsShiftsUptoCard : Claim7 := { stood := { row := bitsShiftsUptoRow, standIns := [], harness := (true, "657fe34ec5c3f09b27d863e611e48b18dd304c8822417fa5b7188314f2416671"), looks := true }, kinds := [], alts := [], laidByText := true, laidKinds := [.data, .data, .data, .sentinel, .sentinel, .widerDeep], laidTests := true, laidLooks := .later }
def BitsShiftsUptoCardSaid : Prop := Claim7.holds Tryd.pinned (.plain (OpenSpec.upto bitsShiftsSpec)) bitsShiftsUptoCard

/-- THE SECOND FORM's CARD OF 'ratchetlaw01.BitsSums'. -/
def bitsSumsUptoCard : Claim7 := { stood := { row := bitsSumsUptoRow, standIns := [], harness := (true, "657fe34ec5c3f09b27d863e611e48b18dd304c8822417fa5b7188314f2416671"), looks := true }, kinds := [], alts := [], laidByText := true, laidKinds := [.data, .data, .data, .sentinel, .sentinel, .widerDeep], laidTests := true, laidLooks := .later }
def BitsSumsUptoCardSaid : Prop := Claim7.holds Tryd.pinned (.plain (OpenSpec.upto bitsSumsSpec)) bitsSumsUptoCard

/-- THE SECOND FORM's CARD OF 'ratchetlaw01.BitsProducts'. -/
def bitsProductsUptoCard : Claim7 := { stood := { row := bitsProductsUptoRow, standIns := [], harness := (true, "657fe34ec5c3f09b27d863e611e48b18dd304c8822417fa5b7188314f2416671"), looks := true }, kinds := [], alts := [], laidByText := true, laidKinds := [.data, .data, .data, .sentinel, .sentinel, .widerDeep], laidTests := true, laidLooks := .later }
def BitsProductsUptoCardSaid : Prop := Claim7.holds Tryd.pinned (.plain (OpenSpec.upto bitsProductsSpec)) bitsProductsUptoCard

/-- THE SECOND FORM's CARD OF 'ratchetlaw01.BitsSigns'. -/
def bitsSignsUptoCard : Claim7 := { stood := { row := bitsSignsUptoRow, standIns := [], harness := (true, "657fe34ec5c3f09b27d863e611e48b18dd304c8822417fa5b7188314f2416671"), looks := true }, kinds := [], alts := [], laidByText := true, laidKinds := [.data, .data, .data, .sentinel, .sentinel, .widerDeep], laidTests := true, laidLooks := .later }
def BitsSignsUptoCardSaid : Prop := Claim7.holds Tryd.pinned (.plain (OpenSpec.upto bitsSignsSpec)) bitsSignsUptoCard

/-- THE SECOND FORM's CARD OF 'ratchetlaw01.BitsBack'. -/
def bitsBackUptoCard : Claim7 := { stood := { row := bitsBackUptoRow, standIns := [], harness := (true, "657fe34ec5c3f09b27d863e611e48b18dd304c8822417fa5b7188314f2416671"), looks := true }, kinds := [], alts := [], laidByText := true, laidKinds := [.data, .data, .data, .sentinel, .sentinel, .widerDeep], laidTests := true, laidLooks := .later }
def BitsBackUptoCardSaid : Prop := Claim7.holds Tryd.pinned (.plain (OpenSpec.upto bitsBackSpec)) bitsBackUptoCard

/-- THE SECOND FORM's CARD OF 'ratchetlaw01.BitsGray'. -/
def bitsGrayUptoCard : Claim7 := { stood := { row := bitsGrayUptoRow, standIns := [], harness := (true, "657fe34ec5c3f09b27d863e611e48b18dd304c8822417fa5b7188314f2416671"), looks := true }, kinds := [], alts := [], laidByText := true, laidKinds := [.data, .data, .data, .sentinel, .sentinel, .widerDeep], laidTests := true, laidLooks := .later }
def BitsGrayUptoCardSaid : Prop := Claim7.holds Tryd.pinned (.plain (OpenSpec.upto bitsGraySpec)) bitsGrayUptoCard

/-- THE SECOND FORM's CARD OF 'ratchetlaw01.BitsFields'. -/
def bitsFieldsUptoCard : Claim7 := { stood := { row := bitsFieldsUptoRow, standIns := [], harness := (true, "657fe34ec5c3f09b27d863e611e48b18dd304c8822417fa5b7188314f2416671"), looks := true }, kinds := [], alts := [], laidByText := true, laidKinds := [.data, .data, .data, .sentinel, .sentinel, .widerDeep], laidTests := true, laidLooks := .later }
def BitsFieldsUptoCardSaid : Prop := Claim7.holds Tryd.pinned (.plain (OpenSpec.upto bitsFieldsSpec)) bitsFieldsUptoCard

/-- THE SECOND FORM's CARD OF 'ratchetlaw01.BitsCounts'. -/
def bitsCountsUptoCard : Claim7 := { stood := { row := bitsCountsUptoRow, standIns := [], harness := (true, "657fe34ec5c3f09b27d863e611e48b18dd304c8822417fa5b7188314f2416671"), looks := true }, kinds := [], alts := [], laidByText := true, laidKinds := [.data, .data, .data, .sentinel, .sentinel, .widerDeep], laidTests := true, laidLooks := .later }
def BitsCountsUptoCardSaid : Prop := Claim7.holds Tryd.pinned (.plain (OpenSpec.upto bitsCountsSpec)) bitsCountsUptoCard
end Rows
end Go.Proofs.YtcgkjbglijganaaDoor
