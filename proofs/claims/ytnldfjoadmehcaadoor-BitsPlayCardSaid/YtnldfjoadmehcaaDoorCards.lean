/-
  DERIVED. GIVEN WITH THE SEED: THE CARDS: each row of YtnldfjoadmehcaaDoorRows.lean that lists a variable, with what it lists TIED to the program's text (the seventh form; the later family's looks); each row that meets fmt, with fmt's text TOLD by the authors' own Lean function (tested against real Go, not proved from fmt's source: count such statements apart). THE CARD IS WHAT COUNTS. Prove the row's statement (the work); the ties are given (YtnldfjoadmehcaaDoorTie.lean); close each card by the builder's one call (the guide's Derived/Test/ToyasCard.lean, 'card_holds'). Laid BY PROGRAM, IN A SANDBOX (cutbox-door.mjs). By AI agents, Wed Nov 11 2026. No macro, syntax, notation, axiom, sorry.
-/
import Derived.Test.YtnldfjoadmehcaaDoorRows
import GoSem.ClaimSeven
namespace Go.Proofs.YtnldfjoadmehcaaDoor
namespace Rows

/-- THE TIED CARD OF 'garlandlaw01.BitsRoom'. -/
def bitsRoomCard : Claim7 := { stood := { row := bitsRoomRow, standIns := [], harness := (true, "b5e7b1ac7fa6401d1013f56670a3f6758bdffc3f8032db7a526886f51c18f87a"), looks := false }, kinds := [], alts := [], laidByText := true, laidKinds := [.data], laidTests := true, laidLooks := .later }
def BitsRoomCardSaid : Prop := Claim7.holds Tryd.pinned (.plain (OpenSpec.ofChange bitsRoomSpec)) bitsRoomCard

/-- THE TIED CARD OF 'garlandlaw01.BitsWalk'. -/
def bitsWalkCard : Claim7 := { stood := { row := bitsWalkRow, standIns := [], harness := (true, "b5e7b1ac7fa6401d1013f56670a3f6758bdffc3f8032db7a526886f51c18f87a"), looks := false }, kinds := [], alts := [], laidByText := true, laidKinds := [.data], laidTests := true, laidLooks := .later }
def BitsWalkCardSaid : Prop := Claim7.holds Tryd.pinned (.plain (OpenSpec.ofChange bitsWalkSpec)) bitsWalkCard

/-- THE TIED CARD OF 'garlandlaw01.BitsPlay'. -/
def bitsPlayCard : Claim7 := { stood := { row := bitsPlayRow, standIns := [], harness := (true, "b5e7b1ac7fa6401d1013f56670a3f6758bdffc3f8032db7a526886f51c18f87a"), looks := false }, kinds := [], alts := [], laidByText := true, laidKinds := [.data], laidTests := true, laidLooks := .later }
def BitsPlayCardSaid : Prop := Claim7.holds Tryd.pinned (.plain (OpenSpec.ofChange bitsPlaySpec)) bitsPlayCard

/-- THE TIED CARD OF 'garlandlaw01.BitsCommon'. -/
def bitsCommonCard : Claim7 := { stood := { row := bitsCommonRow, standIns := [], harness := (true, "b5e7b1ac7fa6401d1013f56670a3f6758bdffc3f8032db7a526886f51c18f87a"), looks := false }, kinds := [], alts := [], laidByText := true, laidKinds := [.data], laidTests := true, laidLooks := .later }
def BitsCommonCardSaid : Prop := Claim7.holds Tryd.pinned (.plain (OpenSpec.ofChange bitsCommonSpec)) bitsCommonCard

/-- THE TIED CARD OF 'garlandlaw01.BitsNil'. -/
def bitsNilCard : Claim7 := { stood := { row := bitsNilRow, standIns := [], harness := (true, "b5e7b1ac7fa6401d1013f56670a3f6758bdffc3f8032db7a526886f51c18f87a"), looks := false }, kinds := [], alts := [], laidByText := true, laidKinds := [.data], laidTests := true, laidLooks := .later }
def BitsNilCardSaid : Prop := Claim7.holds Tryd.pinned (.plain (OpenSpec.ofChange bitsNilSpec)) bitsNilCard

/-- THE SECOND FORM's CARD OF 'garlandlaw01.BitsRoom'. -/
def bitsRoomUptoCard : Claim7 := { stood := { row := bitsRoomUptoRow, standIns := [], harness := (true, "b5e7b1ac7fa6401d1013f56670a3f6758bdffc3f8032db7a526886f51c18f87a"), looks := false }, kinds := [], alts := [], laidByText := true, laidKinds := [.data], laidTests := true, laidLooks := .later }
def BitsRoomUptoCardSaid : Prop := Claim7.holds Tryd.pinned (.plain (OpenSpec.upto bitsRoomSpec)) bitsRoomUptoCard

/-- THE SECOND FORM's CARD OF 'garlandlaw01.BitsWalk'. -/
def bitsWalkUptoCard : Claim7 := { stood := { row := bitsWalkUptoRow, standIns := [], harness := (true, "b5e7b1ac7fa6401d1013f56670a3f6758bdffc3f8032db7a526886f51c18f87a"), looks := false }, kinds := [], alts := [], laidByText := true, laidKinds := [.data], laidTests := true, laidLooks := .later }
def BitsWalkUptoCardSaid : Prop := Claim7.holds Tryd.pinned (.plain (OpenSpec.upto bitsWalkSpec)) bitsWalkUptoCard

/-- THE SECOND FORM's CARD OF 'garlandlaw01.BitsPlay'. -/
def bitsPlayUptoCard : Claim7 := { stood := { row := bitsPlayUptoRow, standIns := [], harness := (true, "b5e7b1ac7fa6401d1013f56670a3f6758bdffc3f8032db7a526886f51c18f87a"), looks := false }, kinds := [], alts := [], laidByText := true, laidKinds := [.data], laidTests := true, laidLooks := .later }
def BitsPlayUptoCardSaid : Prop := Claim7.holds Tryd.pinned (.plain (OpenSpec.upto bitsPlaySpec)) bitsPlayUptoCard

/-- THE SECOND FORM's CARD OF 'garlandlaw01.BitsCommon'. -/
def bitsCommonUptoCard : Claim7 := { stood := { row := bitsCommonUptoRow, standIns := [], harness := (true, "b5e7b1ac7fa6401d1013f56670a3f6758bdffc3f8032db7a526886f51c18f87a"), looks := false }, kinds := [], alts := [], laidByText := true, laidKinds := [.data], laidTests := true, laidLooks := .later }
def BitsCommonUptoCardSaid : Prop := Claim7.holds Tryd.pinned (.plain (OpenSpec.upto bitsCommonSpec)) bitsCommonUptoCard

/-- THE SECOND FORM's CARD OF 'garlandlaw01.BitsNil'. -/
def bitsNilUptoCard : Claim7 := { stood := { row := bitsNilUptoRow, standIns := [], harness := (true, "b5e7b1ac7fa6401d1013f56670a3f6758bdffc3f8032db7a526886f51c18f87a"), looks := false }, kinds := [], alts := [], laidByText := true, laidKinds := [.data], laidTests := true, laidLooks := .later }
def BitsNilUptoCardSaid : Prop := Claim7.holds Tryd.pinned (.plain (OpenSpec.upto bitsNilSpec)) bitsNilUptoCard
end Rows
end Go.Proofs.YtnldfjoadmehcaaDoor
