/-
  DERIVED. GIVEN WITH THE SEED: THE CARDS: each row of YtblcaeoeeepajaaGreatDoorRows.lean that lists a variable, with what it lists TIED to the program's text (the seventh form; the later family's looks); each row that meets fmt, with fmt's text TOLD by the authors' own Lean function (tested against real Go, not proved from fmt's source: count such statements apart). THE CARD IS WHAT COUNTS. Prove the row's statement (the work); the ties are given (YtblcaeoeeepajaaGreatDoorTie.lean); close each card by the builder's one call (the guide's Derived/Test/ToyasCard.lean, 'card_holds'). Laid BY PROGRAM, IN A SANDBOX (cutbox-door.mjs). By AI agents, Wed Nov 11 2026. No macro, syntax, notation, axiom, sorry.
-/
import Derived.Test.YtblcaeoeeepajaaGreatDoorRows
import GoSem.ClaimSeven
namespace Go.Proofs.YtblcaeoeeepajaaGreatDoor
namespace Rows

/-- THE TIED CARD OF 'refuterlaw06.DiskNumbers'. -/
def diskNumbersCard : Claim7 := { stood := { row := diskNumbersRow, standIns := [], harness := (true, "39c8e6077d4c353a26366867863e3e478a14408bef07cdb21ec9d5d2f670386b"), looks := true }, kinds := [], alts := [], laidByText := true, laidKinds := [.data, .data, .data, .sentinel, .sentinel], laidTests := true, laidLooks := .later }
def DiskNumbersCardSaid : Prop := Claim7.holds Tryz.pinned (.plain (OpenSpec.ofChange diskNumbersSpec)) diskNumbersCard

/-- THE TIED CARD OF 'refuterlaw07.JournalReplays'. -/
def journalReplaysCard : Claim7 := { stood := { row := journalReplaysRow, standIns := [], harness := (true, "39c8e6077d4c353a26366867863e3e478a14408bef07cdb21ec9d5d2f670386b"), looks := true }, kinds := [], alts := [], laidByText := true, laidKinds := [.data, .data, .data, .sentinel, .sentinel], laidTests := true, laidLooks := .later }
def JournalReplaysCardSaid : Prop := Claim7.holds Tryz.pinned (.plain (OpenSpec.ofChange journalReplaysSpec)) journalReplaysCard

/-- THE SECOND FORM's CARD OF 'refuterlaw06.DiskNumbers'. -/
def diskNumbersUptoCard : Claim7 := { stood := { row := diskNumbersUptoRow, standIns := [], harness := (true, "39c8e6077d4c353a26366867863e3e478a14408bef07cdb21ec9d5d2f670386b"), looks := true }, kinds := [], alts := [], laidByText := true, laidKinds := [.data, .data, .data, .sentinel, .sentinel], laidTests := true, laidLooks := .later }
def DiskNumbersUptoCardSaid : Prop := Claim7.holds Tryz.pinned (.plain (OpenSpec.upto diskNumbersSpec)) diskNumbersUptoCard

/-- THE SECOND FORM's CARD OF 'refuterlaw07.JournalReplays'. -/
def journalReplaysUptoCard : Claim7 := { stood := { row := journalReplaysUptoRow, standIns := [], harness := (true, "39c8e6077d4c353a26366867863e3e478a14408bef07cdb21ec9d5d2f670386b"), looks := true }, kinds := [], alts := [], laidByText := true, laidKinds := [.data, .data, .data, .sentinel, .sentinel], laidTests := true, laidLooks := .later }
def JournalReplaysUptoCardSaid : Prop := Claim7.holds Tryz.pinned (.plain (OpenSpec.upto journalReplaysSpec)) journalReplaysUptoCard
end Rows
end Go.Proofs.YtblcaeoeeepajaaGreatDoor
