/-
  DERIVED. GIVEN WITH THE SEED: THE CARDS: each row of YtifdibkpaeocfaaGreatDoorRows.lean that lists a variable, with what it lists TIED to the program's text (the seventh form; the later family's looks); each row that meets fmt, with fmt's text TOLD by the authors' own Lean function (tested against real Go, not proved from fmt's source: count such statements apart). THE CARD IS WHAT COUNTS. Prove the row's statement (the work); the ties are given (YtifdibkpaeocfaaGreatDoorTie.lean); close each card by the builder's one call (the guide's Derived/Test/ToyasCard.lean, 'card_holds'). Laid BY PROGRAM, IN A SANDBOX (cutbox-door.mjs). By AI agents, Wed Nov 11 2026. No macro, syntax, notation, axiom, sorry.
-/
import Derived.Test.YtifdibkpaeocfaaGreatDoorRows
import GoSem.ClaimSeven
namespace Go.Proofs.YtifdibkpaeocfaaGreatDoor
namespace Rows

/-- THE TIED CARD OF 'glossarylaw21.CodecUnpacks'. -/
def codecUnpacksCard : Claim7 := { stood := { row := codecUnpacksRow, standIns := [], harness := (true, "effa6744feedfbd946001857e9f3c7623c7c7fbb8afb036c577002fc2f022124"), looks := true }, kinds := [], alts := [], laidByText := true, laidKinds := [.handle], laidTests := true, laidLooks := .later }
def CodecUnpacksCardSaid : Prop := Claim7.holds Tryz.pinned (.plain (OpenSpec.ofChange codecUnpacksSpec)) codecUnpacksCard

/-- THE TIED CARD OF 'glossarylaw21.CodecKnown'. -/
def codecKnownCard : Claim7 := { stood := { row := codecKnownRow, standIns := [], harness := (true, "effa6744feedfbd946001857e9f3c7623c7c7fbb8afb036c577002fc2f022124"), looks := true }, kinds := [], alts := [], laidByText := true, laidKinds := [.handle], laidTests := true, laidLooks := .later }
def CodecKnownCardSaid : Prop := Claim7.holds Tryz.pinned (.plain (OpenSpec.ofChange codecKnownSpec)) codecKnownCard

/-- THE SECOND FORM's CARD OF 'glossarylaw21.CodecUnpacks'. -/
def codecUnpacksUptoCard : Claim7 := { stood := { row := codecUnpacksUptoRow, standIns := [], harness := (true, "effa6744feedfbd946001857e9f3c7623c7c7fbb8afb036c577002fc2f022124"), looks := true }, kinds := [], alts := [], laidByText := true, laidKinds := [.handle], laidTests := true, laidLooks := .later }
def CodecUnpacksUptoCardSaid : Prop := Claim7.holds Tryz.pinned (.plain (OpenSpec.upto codecUnpacksSpec)) codecUnpacksUptoCard

/-- THE SECOND FORM's CARD OF 'glossarylaw21.CodecKnown'. -/
def codecKnownUptoCard : Claim7 := { stood := { row := codecKnownUptoRow, standIns := [], harness := (true, "effa6744feedfbd946001857e9f3c7623c7c7fbb8afb036c577002fc2f022124"), looks := true }, kinds := [], alts := [], laidByText := true, laidKinds := [.handle], laidTests := true, laidLooks := .later }
def CodecKnownUptoCardSaid : Prop := Claim7.holds Tryz.pinned (.plain (OpenSpec.upto codecKnownSpec)) codecKnownUptoCard
end Rows
end Go.Proofs.YtifdibkpaeocfaaGreatDoor
