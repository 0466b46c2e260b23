/-
  DERIVED. GIVEN WITH THE SEED: THE CARDS: each row of YtbnipgajhpbolaaGreatDoorRows.lean that lists a variable, with what it lists TIED to the program's text (the seventh form; the later family's looks); each row that meets fmt, with fmt's text TOLD by the authors' own Lean function (tested against real Go, not proved from fmt's source: count such statements apart). THE CARD IS WHAT COUNTS. Prove the row's statement (the work); the ties are given (YtbnipgajhpbolaaGreatDoorTie.lean); close each card by the builder's one call (the guide's Derived/Test/ToyasCard.lean, 'card_holds'). Laid BY PROGRAM, IN A SANDBOX (cutbox-door.mjs). By AI agents, Wed Nov 11 2026. No macro, syntax, notation, axiom, sorry.
-/
import Derived.Test.YtbnipgajhpbolaaGreatDoorRows
import GoSem.ClaimSeven
namespace Go.Proofs.YtbnipgajhpbolaaGreatDoor
namespace Rows

/-- THE TIED CARD OF 'garlandtop.TopFactors'. -/
def topFactorsCard : Claim7 := { stood := { row := topFactorsRow, standIns := [], harness := (true, "81562c5d3168d88b1b60014173cb638165f0b648034ddbe2d0e13cdc5084828a"), looks := true }, kinds := [], alts := [], laidByText := true, laidKinds := [.data, .data, .data, .data, .pinned], laidTests := true, laidLooks := .later }
def TopFactorsCardSaid : Prop := Claim7.holds Tryz.pinned (.plain (OpenSpec.ofChange topFactorsSpec)) topFactorsCard

/-- THE TIED CARD OF 'garlandtop.TopCovers'. -/
def topCoversCard : Claim7 := { stood := { row := topCoversRow, standIns := [], harness := (true, "81562c5d3168d88b1b60014173cb638165f0b648034ddbe2d0e13cdc5084828a"), looks := true }, kinds := [], alts := [], laidByText := true, laidKinds := [.data, .data, .data, .data, .pinned], laidTests := true, laidLooks := .later }
def TopCoversCardSaid : Prop := Claim7.holds Tryz.pinned (.plain (OpenSpec.ofChange topCoversSpec)) topCoversCard

/-- THE TIED CARD OF 'garlandtop.TopEfforts'. -/
def topEffortsCard : Claim7 := { stood := { row := topEffortsRow, standIns := [], harness := (true, "81562c5d3168d88b1b60014173cb638165f0b648034ddbe2d0e13cdc5084828a"), looks := true }, kinds := [], alts := [], laidByText := true, laidKinds := [.data, .data, .data, .data, .pinned], laidTests := true, laidLooks := .later }
def TopEffortsCardSaid : Prop := Claim7.holds Tryz.pinned (.plain (OpenSpec.ofChange topEffortsSpec)) topEffortsCard

/-- THE TIED CARD OF 'garlandtop.TopRenamed'. -/
def topRenamedCard : Claim7 := { stood := { row := topRenamedRow, standIns := [], harness := (true, "81562c5d3168d88b1b60014173cb638165f0b648034ddbe2d0e13cdc5084828a"), looks := true }, kinds := [], alts := [], laidByText := true, laidKinds := [.data, .data, .data, .data, .pinned], laidTests := true, laidLooks := .later }
def TopRenamedCardSaid : Prop := Claim7.holds Tryz.pinned (.plain (OpenSpec.ofChange topRenamedSpec)) topRenamedCard

/-- THE SECOND FORM's CARD OF 'garlandtop.TopFactors'. -/
def topFactorsUptoCard : Claim7 := { stood := { row := topFactorsUptoRow, standIns := [], harness := (true, "81562c5d3168d88b1b60014173cb638165f0b648034ddbe2d0e13cdc5084828a"), looks := true }, kinds := [], alts := [], laidByText := true, laidKinds := [.data, .data, .data, .data, .pinned], laidTests := true, laidLooks := .later }
def TopFactorsUptoCardSaid : Prop := Claim7.holds Tryz.pinned (.plain (OpenSpec.upto topFactorsSpec)) topFactorsUptoCard

/-- THE SECOND FORM's CARD OF 'garlandtop.TopCovers'. -/
def topCoversUptoCard : Claim7 := { stood := { row := topCoversUptoRow, standIns := [], harness := (true, "81562c5d3168d88b1b60014173cb638165f0b648034ddbe2d0e13cdc5084828a"), looks := true }, kinds := [], alts := [], laidByText := true, laidKinds := [.data, .data, .data, .data, .pinned], laidTests := true, laidLooks := .later }
def TopCoversUptoCardSaid : Prop := Claim7.holds Tryz.pinned (.plain (OpenSpec.upto topCoversSpec)) topCoversUptoCard

/-- THE SECOND FORM's CARD OF 'garlandtop.TopEfforts'. -/
def topEffortsUptoCard : Claim7 := { stood := { row := topEffortsUptoRow, standIns := [], harness := (true, "81562c5d3168d88b1b60014173cb638165f0b648034ddbe2d0e13cdc5084828a"), looks := true }, kinds := [], alts := [], laidByText := true, laidKinds := [.data, .data, .data, .data, .pinned], laidTests := true, laidLooks := .later }
def TopEffortsUptoCardSaid : Prop := Claim7.holds Tryz.pinned (.plain (OpenSpec.upto topEffortsSpec)) topEffortsUptoCard

/-- THE SECOND FORM's CARD OF 'garlandtop.TopRenamed'. -/
def topRenamedUptoCard : Claim7 := { stood := { row := topRenamedUptoRow, standIns := [], harness := (true, "81562c5d3168d88b1b60014173cb638165f0b648034ddbe2d0e13cdc5084828a"), looks := true }, kinds := [], alts := [], laidByText := true, laidKinds := [.data, .data, .data, .data, .pinned], laidTests := true, laidLooks := .later }
def TopRenamedUptoCardSaid : Prop := Claim7.holds Tryz.pinned (.plain (OpenSpec.upto topRenamedSpec)) topRenamedUptoCard
end Rows
end Go.Proofs.YtbnipgajhpbolaaGreatDoor
