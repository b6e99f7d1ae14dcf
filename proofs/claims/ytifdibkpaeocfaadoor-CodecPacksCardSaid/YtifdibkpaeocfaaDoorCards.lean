/-
  DERIVED. GIVEN WITH THE SEED: THE CARDS: each row of YtifdibkpaeocfaaDoorRows.lean that lists a variable, with what it lists TIED to the program's text (the seventh form; the later family's looks); each row that meets fmt, with fmt's text TOLD by the authors' own Lean function (tested against real Go, not proved from fmt's source: count such statements apart). THE CARD IS WHAT COUNTS. Prove the row's statement (the work); the ties are given (YtifdibkpaeocfaaDoorTie.lean); close each card by the builder's one call (the guide's Derived/Test/ToyasCard.lean, 'card_holds'). Laid BY PROGRAM, IN A SANDBOX (cutbox-door.mjs). By AI agents, Wed Nov 11 2026. No macro, syntax, notation, axiom, sorry.
-/
import Derived.Test.YtifdibkpaeocfaaDoorRows
import GoSem.ClaimSeven
namespace Go.Proofs.YtifdibkpaeocfaaDoor
namespace Rows

/-- THE TIED CARD OF 'glossarylaw21.CodecPacks'. -/
def codecPacksCard : Claim7 := { stood := { row := codecPacksRow, standIns := [], harness := (true, "38c71d11f29e411e9fbb9c43d9c72d1e39dad3ef90f5eb5fb3822c36e78d4b61"), looks := true }, kinds := [], alts := [], laidByText := true, laidKinds := [.handle], laidTests := true, laidLooks := .later }
def CodecPacksCardSaid : Prop := Claim7.holds Tryd.pinned (.plain (OpenSpec.ofChange codecPacksSpec)) codecPacksCard

/-- THE TIED CARD OF 'glossarylaw21.CodecReads'. -/
def codecReadsCard : Claim7 := { stood := { row := codecReadsRow, standIns := [], harness := (true, "38c71d11f29e411e9fbb9c43d9c72d1e39dad3ef90f5eb5fb3822c36e78d4b61"), looks := true }, kinds := [], alts := [], laidByText := true, laidKinds := [.handle], laidTests := true, laidLooks := .later }
def CodecReadsCardSaid : Prop := Claim7.holds Tryd.pinned (.plain (OpenSpec.ofChange codecReadsSpec)) codecReadsCard

/-- THE TIED CARD OF 'glossarylaw21.CodecBack'. -/
def codecBackCard : Claim7 := { stood := { row := codecBackRow, standIns := [], harness := (true, "38c71d11f29e411e9fbb9c43d9c72d1e39dad3ef90f5eb5fb3822c36e78d4b61"), looks := true }, kinds := [], alts := [], laidByText := true, laidKinds := [.handle], laidTests := true, laidLooks := .later }
def CodecBackCardSaid : Prop := Claim7.holds Tryd.pinned (.plain (OpenSpec.ofChange codecBackSpec)) codecBackCard

/-- THE SECOND FORM's CARD OF 'glossarylaw21.CodecPacks'. -/
def codecPacksUptoCard : Claim7 := { stood := { row := codecPacksUptoRow, standIns := [], harness := (true, "38c71d11f29e411e9fbb9c43d9c72d1e39dad3ef90f5eb5fb3822c36e78d4b61"), looks := true }, kinds := [], alts := [], laidByText := true, laidKinds := [.handle], laidTests := true, laidLooks := .later }
def CodecPacksUptoCardSaid : Prop := Claim7.holds Tryd.pinned (.plain (OpenSpec.upto codecPacksSpec)) codecPacksUptoCard

/-- THE SECOND FORM's CARD OF 'glossarylaw21.CodecReads'. -/
def codecReadsUptoCard : Claim7 := { stood := { row := codecReadsUptoRow, standIns := [], harness := (true, "38c71d11f29e411e9fbb9c43d9c72d1e39dad3ef90f5eb5fb3822c36e78d4b61"), looks := true }, kinds := [], alts := [], laidByText := true, laidKinds := [.handle], laidTests := true, laidLooks := .later }
def CodecReadsUptoCardSaid : Prop := Claim7.holds Tryd.pinned (.plain (OpenSpec.upto codecReadsSpec)) codecReadsUptoCard

/-- THE SECOND FORM's CARD OF 'glossarylaw21.CodecBack'. -/
def codecBackUptoCard : Claim7 := { stood := { row := codecBackUptoRow, standIns := [], harness := (true, "38c71d11f29e411e9fbb9c43d9c72d1e39dad3ef90f5eb5fb3822c36e78d4b61"), looks := true }, kinds := [], alts := [], laidByText := true, laidKinds := [.handle], laidTests := true, laidLooks := .later }
def CodecBackUptoCardSaid : Prop := Claim7.holds Tryd.pinned (.plain (OpenSpec.upto codecBackSpec)) codecBackUptoCard
end Rows
end Go.Proofs.YtifdibkpaeocfaaDoor
