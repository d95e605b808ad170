/-
  DERIVED. GIVEN WITH THE SEED: THE CARDS: each row of YtbocpkjajocpiaaGreatDoorRows.lean that lists a variable, with what it lists TIED to the program's text (the seventh form; the later family's looks); each row that meets fmt, with fmt's text TOLD by the authors' own Lean function (tested against real Go, not proved from fmt's source: count such statements apart). THE CARD IS WHAT COUNTS. Prove the row's statement (the work); the ties are given (YtbocpkjajocpiaaGreatDoorTie.lean); close each card by the builder's one call (the guide's Derived/Test/ToyasCard.lean, 'card_holds'). Laid BY PROGRAM, IN A SANDBOX (cutbox-door.mjs). By AI agents, Wed Nov 11 2026. No macro, syntax, notation, axiom, sorry.
-/
import Derived.Test.YtbocpkjajocpiaaGreatDoorRows
import GoSem.ClaimSeven
namespace Go.Proofs.YtbocpkjajocpiaaGreatDoor
namespace Rows

/-- THE TIED CARD OF 'refuterlaw05.RandBig'. -/
def randBigCard : Claim7 := { stood := { row := randBigRow, standIns := [], harness := (true, "c825da7052ccf53c621cb0fcca7b8ac4428fe48a4b6445382f32e69352821fc5"), looks := true }, kinds := [], alts := [], laidByText := true, laidKinds := [.data, .data, .data, .sentinel, .sentinel], laidTests := true, laidLooks := .later }
def RandBigCardSaid : Prop := Claim7.holds Tryz.pinned (.plain (OpenSpec.ofChange randBigSpec)) randBigCard

/-- THE TIED CARD OF 'refuterlaw04.FracMakes'. -/
def fracMakesCard : Claim7 := { stood := { row := fracMakesRow, standIns := [], harness := (true, "c825da7052ccf53c621cb0fcca7b8ac4428fe48a4b6445382f32e69352821fc5"), looks := true }, kinds := [], alts := [], laidByText := true, laidKinds := [.data, .data, .data, .sentinel, .sentinel], laidTests := true, laidLooks := .later }
def FracMakesCardSaid : Prop := Claim7.holds Tryz.pinned (.plain (OpenSpec.ofChange fracMakesSpec)) fracMakesCard

/-- THE TIED CARD OF 'refuterlaw04.FracSums'. -/
def fracSumsCard : Claim7 := { stood := { row := fracSumsRow, standIns := [], harness := (true, "c825da7052ccf53c621cb0fcca7b8ac4428fe48a4b6445382f32e69352821fc5"), looks := true }, kinds := [], alts := [], laidByText := true, laidKinds := [.data, .data, .data, .sentinel, .sentinel], laidTests := true, laidLooks := .later }
def FracSumsCardSaid : Prop := Claim7.holds Tryz.pinned (.plain (OpenSpec.ofChange fracSumsSpec)) fracSumsCard

/-- THE TIED CARD OF 'refuterlaw04.FracBounds'. -/
def fracBoundsCard : Claim7 := { stood := { row := fracBoundsRow, standIns := [], harness := (true, "c825da7052ccf53c621cb0fcca7b8ac4428fe48a4b6445382f32e69352821fc5"), looks := true }, kinds := [], alts := [], laidByText := true, laidKinds := [.data, .data, .data, .sentinel, .sentinel], laidTests := true, laidLooks := .later }
def FracBoundsCardSaid : Prop := Claim7.holds Tryz.pinned (.plain (OpenSpec.ofChange fracBoundsSpec)) fracBoundsCard

/-- THE TIED CARD OF 'refuterlaw04.FracPowers'. -/
def fracPowersCard : Claim7 := { stood := { row := fracPowersRow, standIns := [], harness := (true, "c825da7052ccf53c621cb0fcca7b8ac4428fe48a4b6445382f32e69352821fc5"), looks := true }, kinds := [], alts := [], laidByText := true, laidKinds := [.data, .data, .data, .sentinel, .sentinel], laidTests := true, laidLooks := .later }
def FracPowersCardSaid : Prop := Claim7.holds Tryz.pinned (.plain (OpenSpec.ofChange fracPowersSpec)) fracPowersCard

/-- THE TIED CARD OF 'refuterlaw04.FracField'. -/
def fracFieldCard : Claim7 := { stood := { row := fracFieldRow, standIns := [], harness := (true, "c825da7052ccf53c621cb0fcca7b8ac4428fe48a4b6445382f32e69352821fc5"), looks := true }, kinds := [], alts := [], laidByText := true, laidKinds := [.data, .data, .data, .sentinel, .sentinel], laidTests := true, laidLooks := .later }
def FracFieldCardSaid : Prop := Claim7.holds Tryz.pinned (.plain (OpenSpec.ofChange fracFieldSpec)) fracFieldCard

/-- THE TIED CARD OF 'refuterlaw04.FracTexts'. -/
def fracTextsCard : Claim7 := { stood := { row := fracTextsRow, standIns := [], harness := (true, "c825da7052ccf53c621cb0fcca7b8ac4428fe48a4b6445382f32e69352821fc5"), looks := true }, kinds := [], alts := [], laidByText := true, laidKinds := [.data, .data, .data, .sentinel, .sentinel], laidTests := true, laidLooks := .later }
def FracTextsCardSaid : Prop := Claim7.holds Tryz.pinned (.plain (OpenSpec.ofChange fracTextsSpec)) fracTextsCard

/-- THE TIED CARD OF 'refuterlaw04.FracOrder'. -/
def fracOrderCard : Claim7 := { stood := { row := fracOrderRow, standIns := [], harness := (true, "c825da7052ccf53c621cb0fcca7b8ac4428fe48a4b6445382f32e69352821fc5"), looks := true }, kinds := [], alts := [], laidByText := true, laidKinds := [.data, .data, .data, .sentinel, .sentinel], laidTests := true, laidLooks := .later }
def FracOrderCardSaid : Prop := Claim7.holds Tryz.pinned (.plain (OpenSpec.ofChange fracOrderSpec)) fracOrderCard

/-- THE TIED CARD OF 'refuterlaw04.FracWritten'. -/
def fracWrittenCard : Claim7 := { stood := { row := fracWrittenRow, standIns := [], harness := (true, "c825da7052ccf53c621cb0fcca7b8ac4428fe48a4b6445382f32e69352821fc5"), looks := true }, kinds := [], alts := [], laidByText := true, laidKinds := [.data, .data, .data, .sentinel, .sentinel], laidTests := true, laidLooks := .later }
def FracWrittenCardSaid : Prop := Claim7.holds Tryz.pinned (.plain (OpenSpec.ofChange fracWrittenSpec)) fracWrittenCard

/-- THE SECOND FORM's CARD OF 'refuterlaw05.RandBig'. -/
def randBigUptoCard : Claim7 := { stood := { row := randBigUptoRow, standIns := [], harness := (true, "c825da7052ccf53c621cb0fcca7b8ac4428fe48a4b6445382f32e69352821fc5"), looks := true }, kinds := [], alts := [], laidByText := true, laidKinds := [.data, .data, .data, .sentinel, .sentinel], laidTests := true, laidLooks := .later }
def RandBigUptoCardSaid : Prop := Claim7.holds Tryz.pinned (.plain (OpenSpec.upto randBigSpec)) randBigUptoCard

/-- THE SECOND FORM's CARD OF 'refuterlaw04.FracMakes'. -/
def fracMakesUptoCard : Claim7 := { stood := { row := fracMakesUptoRow, standIns := [], harness := (true, "c825da7052ccf53c621cb0fcca7b8ac4428fe48a4b6445382f32e69352821fc5"), looks := true }, kinds := [], alts := [], laidByText := true, laidKinds := [.data, .data, .data, .sentinel, .sentinel], laidTests := true, laidLooks := .later }
def FracMakesUptoCardSaid : Prop := Claim7.holds Tryz.pinned (.plain (OpenSpec.upto fracMakesSpec)) fracMakesUptoCard

/-- THE SECOND FORM's CARD OF 'refuterlaw04.FracSums'. -/
def fracSumsUptoCard : Claim7 := { stood := { row := fracSumsUptoRow, standIns := [], harness := (true, "c825da7052ccf53c621cb0fcca7b8ac4428fe48a4b6445382f32e69352821fc5"), looks := true }, kinds := [], alts := [], laidByText := true, laidKinds := [.data, .data, .data, .sentinel, .sentinel], laidTests := true, laidLooks := .later }
def FracSumsUptoCardSaid : Prop := Claim7.holds Tryz.pinned (.plain (OpenSpec.upto fracSumsSpec)) fracSumsUptoCard

/-- THE SECOND FORM's CARD OF 'refuterlaw04.FracBounds'. -/
def fracBoundsUptoCard : Claim7 := { stood := { row := fracBoundsUptoRow, standIns := [], harness := (true, "c825da7052ccf53c621cb0fcca7b8ac4428fe48a4b6445382f32e69352821fc5"), looks := true }, kinds := [], alts := [], laidByText := true, laidKinds := [.data, .data, .data, .sentinel, .sentinel], laidTests := true, laidLooks := .later }
def FracBoundsUptoCardSaid : Prop := Claim7.holds Tryz.pinned (.plain (OpenSpec.upto fracBoundsSpec)) fracBoundsUptoCard

/-- THE SECOND FORM's CARD OF 'refuterlaw04.FracPowers'. -/
def fracPowersUptoCard : Claim7 := { stood := { row := fracPowersUptoRow, standIns := [], harness := (true, "c825da7052ccf53c621cb0fcca7b8ac4428fe48a4b6445382f32e69352821fc5"), looks := true }, kinds := [], alts := [], laidByText := true, laidKinds := [.data, .data, .data, .sentinel, .sentinel], laidTests := true, laidLooks := .later }
def FracPowersUptoCardSaid : Prop := Claim7.holds Tryz.pinned (.plain (OpenSpec.upto fracPowersSpec)) fracPowersUptoCard

/-- THE SECOND FORM's CARD OF 'refuterlaw04.FracField'. -/
def fracFieldUptoCard : Claim7 := { stood := { row := fracFieldUptoRow, standIns := [], harness := (true, "c825da7052ccf53c621cb0fcca7b8ac4428fe48a4b6445382f32e69352821fc5"), looks := true }, kinds := [], alts := [], laidByText := true, laidKinds := [.data, .data, .data, .sentinel, .sentinel], laidTests := true, laidLooks := .later }
def FracFieldUptoCardSaid : Prop := Claim7.holds Tryz.pinned (.plain (OpenSpec.upto fracFieldSpec)) fracFieldUptoCard

/-- THE SECOND FORM's CARD OF 'refuterlaw04.FracTexts'. -/
def fracTextsUptoCard : Claim7 := { stood := { row := fracTextsUptoRow, standIns := [], harness := (true, "c825da7052ccf53c621cb0fcca7b8ac4428fe48a4b6445382f32e69352821fc5"), looks := true }, kinds := [], alts := [], laidByText := true, laidKinds := [.data, .data, .data, .sentinel, .sentinel], laidTests := true, laidLooks := .later }
def FracTextsUptoCardSaid : Prop := Claim7.holds Tryz.pinned (.plain (OpenSpec.upto fracTextsSpec)) fracTextsUptoCard

/-- THE SECOND FORM's CARD OF 'refuterlaw04.FracOrder'. -/
def fracOrderUptoCard : Claim7 := { stood := { row := fracOrderUptoRow, standIns := [], harness := (true, "c825da7052ccf53c621cb0fcca7b8ac4428fe48a4b6445382f32e69352821fc5"), looks := true }, kinds := [], alts := [], laidByText := true, laidKinds := [.data, .data, .data, .sentinel, .sentinel], laidTests := true, laidLooks := .later }
def FracOrderUptoCardSaid : Prop := Claim7.holds Tryz.pinned (.plain (OpenSpec.upto fracOrderSpec)) fracOrderUptoCard

/-- THE SECOND FORM's CARD OF 'refuterlaw04.FracWritten'. -/
def fracWrittenUptoCard : Claim7 := { stood := { row := fracWrittenUptoRow, standIns := [], harness := (true, "c825da7052ccf53c621cb0fcca7b8ac4428fe48a4b6445382f32e69352821fc5"), looks := true }, kinds := [], alts := [], laidByText := true, laidKinds := [.data, .data, .data, .sentinel, .sentinel], laidTests := true, laidLooks := .later }
def FracWrittenUptoCardSaid : Prop := Claim7.holds Tryz.pinned (.plain (OpenSpec.upto fracWrittenSpec)) fracWrittenUptoCard
end Rows
end Go.Proofs.YtbocpkjajocpiaaGreatDoor
