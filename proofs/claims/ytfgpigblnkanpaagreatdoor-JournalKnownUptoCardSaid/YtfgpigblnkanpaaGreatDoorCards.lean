/-
  DERIVED. GIVEN WITH THE SEED: THE CARDS: each row of YtfgpigblnkanpaaGreatDoorRows.lean that lists a variable, with what it lists TIED to the program's text (the seventh form; the later family's looks); each row that meets fmt, with fmt's text TOLD by the authors' own Lean function (tested against real Go, not proved from fmt's source: count such statements apart). THE CARD IS WHAT COUNTS. Prove the row's statement (the work); the ties are given (YtfgpigblnkanpaaGreatDoorTie.lean); close each card by the builder's one call (the guide's Derived/Test/ToyasCard.lean, 'card_holds'). Laid BY PROGRAM, IN A SANDBOX (cutbox-door.mjs). By AI agents, Wed Nov 11 2026. No macro, syntax, notation, axiom, sorry.
-/
import Derived.Test.YtfgpigblnkanpaaGreatDoorRows
import GoSem.ClaimSeven
namespace Go.Proofs.YtfgpigblnkanpaaGreatDoor
namespace Rows

/-- THE TIED CARD OF 'glossarylaw22.DiskSafe'. -/
def diskSafeCard : Claim7 := { stood := { row := diskSafeRow, standIns := [], harness := (true, "d4dd18cedabf11ba6ec5645fe159ff32d653a1a96aa1190822e8aa55234a5d50"), looks := true }, kinds := [], alts := [], laidByText := true, laidKinds := [.handle], laidTests := true, laidLooks := .later }
def DiskSafeCardSaid : Prop := Claim7.holds Tryz.pinned (.plain (OpenSpec.ofChange diskSafeSpec)) diskSafeCard

/-- THE TIED CARD OF 'glossarylaw22.DiskStill'. -/
def diskStillCard : Claim7 := { stood := { row := diskStillRow, standIns := [], harness := (true, "d4dd18cedabf11ba6ec5645fe159ff32d653a1a96aa1190822e8aa55234a5d50"), looks := true }, kinds := [], alts := [], laidByText := true, laidKinds := [.handle], laidTests := true, laidLooks := .later }
def DiskStillCardSaid : Prop := Claim7.holds Tryz.pinned (.plain (OpenSpec.ofChange diskStillSpec)) diskStillCard

/-- THE TIED CARD OF 'glossarylaw22.DiskPlays'. -/
def diskPlaysCard : Claim7 := { stood := { row := diskPlaysRow, standIns := [], harness := (true, "d4dd18cedabf11ba6ec5645fe159ff32d653a1a96aa1190822e8aa55234a5d50"), looks := true }, kinds := [], alts := [], laidByText := true, laidKinds := [.handle], laidTests := true, laidLooks := .later }
def DiskPlaysCardSaid : Prop := Claim7.holds Tryz.pinned (.plain (OpenSpec.ofChange diskPlaysSpec)) diskPlaysCard

/-- THE TIED CARD OF 'glossarylaw22.DiskStruck'. -/
def diskStruckCard : Claim7 := { stood := { row := diskStruckRow, standIns := [], harness := (true, "d4dd18cedabf11ba6ec5645fe159ff32d653a1a96aa1190822e8aa55234a5d50"), looks := true }, kinds := [], alts := [], laidByText := true, laidKinds := [.handle], laidTests := true, laidLooks := .later }
def DiskStruckCardSaid : Prop := Claim7.holds Tryz.pinned (.plain (OpenSpec.ofChange diskStruckSpec)) diskStruckCard

/-- THE TIED CARD OF 'glossarylaw22.DiskKnown'. -/
def diskKnownCard : Claim7 := { stood := { row := diskKnownRow, standIns := [], harness := (true, "d4dd18cedabf11ba6ec5645fe159ff32d653a1a96aa1190822e8aa55234a5d50"), looks := true }, kinds := [], alts := [], laidByText := true, laidKinds := [.handle], laidTests := true, laidLooks := .later }
def DiskKnownCardSaid : Prop := Claim7.holds Tryz.pinned (.plain (OpenSpec.ofChange diskKnownSpec)) diskKnownCard

/-- THE TIED CARD OF 'glossarylaw23.JournalKnown'. -/
def journalKnownCard : Claim7 := { stood := { row := journalKnownRow, standIns := [], harness := (true, "d4dd18cedabf11ba6ec5645fe159ff32d653a1a96aa1190822e8aa55234a5d50"), looks := true }, kinds := [], alts := [], laidByText := true, laidKinds := [.handle], laidTests := true, laidLooks := .later }
def JournalKnownCardSaid : Prop := Claim7.holds Tryz.pinned (.plain (OpenSpec.ofChange journalKnownSpec)) journalKnownCard

/-- THE TIED CARD OF 'glossarylaw23.JournalKept'. -/
def journalKeptCard : Claim7 := { stood := { row := journalKeptRow, standIns := [], harness := (true, "d4dd18cedabf11ba6ec5645fe159ff32d653a1a96aa1190822e8aa55234a5d50"), looks := true }, kinds := [], alts := [], laidByText := true, laidKinds := [.handle], laidTests := true, laidLooks := .later }
def JournalKeptCardSaid : Prop := Claim7.holds Tryz.pinned (.plain (OpenSpec.ofChange journalKeptSpec)) journalKeptCard

/-- THE TIED CARD OF 'glossarylaw23.JournalPlays'. -/
def journalPlaysCard : Claim7 := { stood := { row := journalPlaysRow, standIns := [], harness := (true, "d4dd18cedabf11ba6ec5645fe159ff32d653a1a96aa1190822e8aa55234a5d50"), looks := true }, kinds := [], alts := [], laidByText := true, laidKinds := [.handle], laidTests := true, laidLooks := .later }
def JournalPlaysCardSaid : Prop := Claim7.holds Tryz.pinned (.plain (OpenSpec.ofChange journalPlaysSpec)) journalPlaysCard

/-- THE SECOND FORM's CARD OF 'glossarylaw22.DiskSafe'. -/
def diskSafeUptoCard : Claim7 := { stood := { row := diskSafeUptoRow, standIns := [], harness := (true, "d4dd18cedabf11ba6ec5645fe159ff32d653a1a96aa1190822e8aa55234a5d50"), looks := true }, kinds := [], alts := [], laidByText := true, laidKinds := [.handle], laidTests := true, laidLooks := .later }
def DiskSafeUptoCardSaid : Prop := Claim7.holds Tryz.pinned (.plain (OpenSpec.upto diskSafeSpec)) diskSafeUptoCard

/-- THE SECOND FORM's CARD OF 'glossarylaw22.DiskStill'. -/
def diskStillUptoCard : Claim7 := { stood := { row := diskStillUptoRow, standIns := [], harness := (true, "d4dd18cedabf11ba6ec5645fe159ff32d653a1a96aa1190822e8aa55234a5d50"), looks := true }, kinds := [], alts := [], laidByText := true, laidKinds := [.handle], laidTests := true, laidLooks := .later }
def DiskStillUptoCardSaid : Prop := Claim7.holds Tryz.pinned (.plain (OpenSpec.upto diskStillSpec)) diskStillUptoCard

/-- THE SECOND FORM's CARD OF 'glossarylaw22.DiskPlays'. -/
def diskPlaysUptoCard : Claim7 := { stood := { row := diskPlaysUptoRow, standIns := [], harness := (true, "d4dd18cedabf11ba6ec5645fe159ff32d653a1a96aa1190822e8aa55234a5d50"), looks := true }, kinds := [], alts := [], laidByText := true, laidKinds := [.handle], laidTests := true, laidLooks := .later }
def DiskPlaysUptoCardSaid : Prop := Claim7.holds Tryz.pinned (.plain (OpenSpec.upto diskPlaysSpec)) diskPlaysUptoCard

/-- THE SECOND FORM's CARD OF 'glossarylaw22.DiskStruck'. -/
def diskStruckUptoCard : Claim7 := { stood := { row := diskStruckUptoRow, standIns := [], harness := (true, "d4dd18cedabf11ba6ec5645fe159ff32d653a1a96aa1190822e8aa55234a5d50"), looks := true }, kinds := [], alts := [], laidByText := true, laidKinds := [.handle], laidTests := true, laidLooks := .later }
def DiskStruckUptoCardSaid : Prop := Claim7.holds Tryz.pinned (.plain (OpenSpec.upto diskStruckSpec)) diskStruckUptoCard

/-- THE SECOND FORM's CARD OF 'glossarylaw22.DiskKnown'. -/
def diskKnownUptoCard : Claim7 := { stood := { row := diskKnownUptoRow, standIns := [], harness := (true, "d4dd18cedabf11ba6ec5645fe159ff32d653a1a96aa1190822e8aa55234a5d50"), looks := true }, kinds := [], alts := [], laidByText := true, laidKinds := [.handle], laidTests := true, laidLooks := .later }
def DiskKnownUptoCardSaid : Prop := Claim7.holds Tryz.pinned (.plain (OpenSpec.upto diskKnownSpec)) diskKnownUptoCard

/-- THE SECOND FORM's CARD OF 'glossarylaw23.JournalKnown'. -/
def journalKnownUptoCard : Claim7 := { stood := { row := journalKnownUptoRow, standIns := [], harness := (true, "d4dd18cedabf11ba6ec5645fe159ff32d653a1a96aa1190822e8aa55234a5d50"), looks := true }, kinds := [], alts := [], laidByText := true, laidKinds := [.handle], laidTests := true, laidLooks := .later }
def JournalKnownUptoCardSaid : Prop := Claim7.holds Tryz.pinned (.plain (OpenSpec.upto journalKnownSpec)) journalKnownUptoCard

/-- THE SECOND FORM's CARD OF 'glossarylaw23.JournalKept'. -/
def journalKeptUptoCard : Claim7 := { stood := { row := journalKeptUptoRow, standIns := [], harness := (true, "d4dd18cedabf11ba6ec5645fe159ff32d653a1a96aa1190822e8aa55234a5d50"), looks := true }, kinds := [], alts := [], laidByText := true, laidKinds := [.handle], laidTests := true, laidLooks := .later }
def JournalKeptUptoCardSaid : Prop := Claim7.holds Tryz.pinned (.plain (OpenSpec.upto journalKeptSpec)) journalKeptUptoCard

/-- THE SECOND FORM's CARD OF 'glossarylaw23.JournalPlays'. -/
def journalPlaysUptoCard : Claim7 := { stood := { row := journalPlaysUptoRow, standIns := [], harness := (true, "d4dd18cedabf11ba6ec5645fe159ff32d653a1a96aa1190822e8aa55234a5d50"), looks := true }, kinds := [], alts := [], laidByText := true, laidKinds := [.handle], laidTests := true, laidLooks := .later }
def JournalPlaysUptoCardSaid : Prop := Claim7.holds Tryz.pinned (.plain (OpenSpec.upto journalPlaysSpec)) journalPlaysUptoCard
end Rows
end Go.Proofs.YtfgpigblnkanpaaGreatDoor
