/-
  DERIVED. GIVEN WITH THE SEED: THE CARDS: each row of YtgofjkppeobjfaaGreatDoorRows.lean that lists a variable, with what it lists TIED to the program's text (the seventh form; the later family's looks); each row that meets fmt, with fmt's text TOLD by the authors' own Lean function (tested against real Go, not proved from fmt's source: count such statements apart). THE CARD IS WHAT COUNTS. Prove the row's statement (the work); the ties are given (YtgofjkppeobjfaaGreatDoorTie.lean); close each card by the builder's one call (the guide's Derived/Test/ToyasCard.lean, 'card_holds'). Laid BY PROGRAM, IN A SANDBOX (cutbox-door.mjs). By AI agents, Wed Nov 11 2026. No macro, syntax, notation, axiom, sorry.
-/
import Derived.Test.YtgofjkppeobjfaaGreatDoorRows
import GoSem.ClaimSeven
namespace Go.Proofs.YtgofjkppeobjfaaGreatDoor
namespace Rows

/-- THE TIED CARD OF 'refuterlaw03.WideDivisors'. -/
def wideDivisorsCard : Claim7 := { stood := { row := wideDivisorsRow, standIns := [], harness := (true, "7f0fa0eb747e2fb56d5696eb77d48c9fbf5182f3d68f381accafc924760dc45b"), looks := true }, kinds := [], alts := [], laidByText := true, laidKinds := [.data, .data, .data, .sentinel, .sentinel], laidTests := true, laidLooks := .later }
def WideDivisorsCardSaid : Prop := Claim7.holds Tryz.pinned (.plain (OpenSpec.ofChange wideDivisorsSpec)) wideDivisorsCard

/-- THE TIED CARD OF 'refuterlaw03.WideLimits'. -/
def wideLimitsCard : Claim7 := { stood := { row := wideLimitsRow, standIns := [], harness := (true, "7f0fa0eb747e2fb56d5696eb77d48c9fbf5182f3d68f381accafc924760dc45b"), looks := true }, kinds := [], alts := [], laidByText := true, laidKinds := [.data, .data, .data, .sentinel, .sentinel], laidTests := true, laidLooks := .later }
def WideLimitsCardSaid : Prop := Claim7.holds Tryz.pinned (.plain (OpenSpec.ofChange wideLimitsSpec)) wideLimitsCard

/-- THE SECOND FORM's CARD OF 'refuterlaw03.WideDivisors'. -/
def wideDivisorsUptoCard : Claim7 := { stood := { row := wideDivisorsUptoRow, standIns := [], harness := (true, "7f0fa0eb747e2fb56d5696eb77d48c9fbf5182f3d68f381accafc924760dc45b"), looks := true }, kinds := [], alts := [], laidByText := true, laidKinds := [.data, .data, .data, .sentinel, .sentinel], laidTests := true, laidLooks := .later }
def WideDivisorsUptoCardSaid : Prop := Claim7.holds Tryz.pinned (.plain (OpenSpec.upto wideDivisorsSpec)) wideDivisorsUptoCard

/-- THE SECOND FORM's CARD OF 'refuterlaw03.WideLimits'. -/
def wideLimitsUptoCard : Claim7 := { stood := { row := wideLimitsUptoRow, standIns := [], harness := (true, "7f0fa0eb747e2fb56d5696eb77d48c9fbf5182f3d68f381accafc924760dc45b"), looks := true }, kinds := [], alts := [], laidByText := true, laidKinds := [.data, .data, .data, .sentinel, .sentinel], laidTests := true, laidLooks := .later }
def WideLimitsUptoCardSaid : Prop := Claim7.holds Tryz.pinned (.plain (OpenSpec.upto wideLimitsSpec)) wideLimitsUptoCard
end Rows
end Go.Proofs.YtgofjkppeobjfaaGreatDoor
