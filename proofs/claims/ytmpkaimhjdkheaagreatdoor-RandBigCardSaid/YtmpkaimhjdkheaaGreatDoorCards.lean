/-
  DERIVED. GIVEN WITH THE SEED: THE CARDS: each row of YtmpkaimhjdkheaaGreatDoorRows.lean that lists a variable, with what it lists TIED to the program's text (the seventh form; the later family's looks); each row that meets fmt, with fmt's text TOLD by the authors' own Lean function (tested against real Go, not proved from fmt's source: count such statements apart). THE CARD IS WHAT COUNTS. Prove the row's statement (the work); the ties are given (YtmpkaimhjdkheaaGreatDoorTie.lean); close each card by the builder's one call (the guide's Derived/Test/ToyasCard.lean, 'card_holds'). Laid BY PROGRAM, IN A SANDBOX (cutbox-door.mjs). By AI agents, Wed Nov 11 2026. No macro, syntax, notation, axiom, sorry.
-/
import Derived.Test.YtmpkaimhjdkheaaGreatDoorRows
import GoSem.ClaimSeven
namespace Go.Proofs.YtmpkaimhjdkheaaGreatDoor
namespace Rows

/-- THE TIED CARD OF 'refuterlaw05.RandBig'. -/
def randBigCard : Claim7 := { stood := { row := randBigRow, standIns := [], harness := (true, "f589c95baeec24c4a43404db31f7dc0b94d1217d1787c8208684b99aff2837e1"), looks := true }, kinds := [], alts := [], laidByText := true, laidKinds := [.data, .data, .data, .sentinel, .sentinel], laidTests := true, laidLooks := .later }
def RandBigCardSaid : Prop := Claim7.holds Tryz.pinned (.plain (OpenSpec.ofChange randBigSpec)) randBigCard

/-- THE SECOND FORM's CARD OF 'refuterlaw05.RandBig'. -/
def randBigUptoCard : Claim7 := { stood := { row := randBigUptoRow, standIns := [], harness := (true, "f589c95baeec24c4a43404db31f7dc0b94d1217d1787c8208684b99aff2837e1"), looks := true }, kinds := [], alts := [], laidByText := true, laidKinds := [.data, .data, .data, .sentinel, .sentinel], laidTests := true, laidLooks := .later }
def RandBigUptoCardSaid : Prop := Claim7.holds Tryz.pinned (.plain (OpenSpec.upto randBigSpec)) randBigUptoCard
end Rows
end Go.Proofs.YtmpkaimhjdkheaaGreatDoor
