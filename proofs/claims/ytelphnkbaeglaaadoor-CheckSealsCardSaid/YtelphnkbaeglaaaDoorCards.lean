/-
  DERIVED. GIVEN WITH THE SEED: THE CARDS: each row of YtelphnkbaeglaaaDoorRows.lean that lists a variable, with what it lists TIED to the program's text (the seventh form; the later family's looks); each row that meets fmt, with fmt's text TOLD by the authors' own Lean function (tested against real Go, not proved from fmt's source: count such statements apart). THE CARD IS WHAT COUNTS. Prove the row's statement (the work); the ties are given (YtelphnkbaeglaaaDoorTie.lean); close each card by the builder's one call (the guide's Derived/Test/ToyasCard.lean, 'card_holds'). Laid BY PROGRAM, IN A SANDBOX (cutbox-door.mjs). By AI agents, Wed Nov 11 2026. No macro, syntax, notation, axiom, sorry.
-/
import Derived.Test.YtelphnkbaeglaaaDoorRows
import GoSem.ClaimSeven
namespace Go.Proofs.YtelphnkbaeglaaaDoor
namespace Rows

/-- THE TIED CARD OF 'slabvaultlaw02.CheckFletchers'. -/
def checkFletchersCard : Claim7 := { stood := { row := checkFletchersRow, standIns := [], harness := (true, "1588f3a198da3290c8a053e092cea90e69d94528a0b91e820e359fa06fa375b2"), looks := false }, kinds := [], alts := [], laidByText := true, laidKinds := [.data], laidTests := true, laidLooks := .later }
def CheckFletchersCardSaid : Prop := Claim7.holds Tryd.pinned (.plain (OpenSpec.ofChange checkFletchersSpec)) checkFletchersCard

/-- THE TIED CARD OF 'slabvaultlaw02.CheckCrcs'. -/
def checkCrcsCard : Claim7 := { stood := { row := checkCrcsRow, standIns := [], harness := (true, "1588f3a198da3290c8a053e092cea90e69d94528a0b91e820e359fa06fa375b2"), looks := false }, kinds := [], alts := [], laidByText := true, laidKinds := [.data], laidTests := true, laidLooks := .later }
def CheckCrcsCardSaid : Prop := Claim7.holds Tryd.pinned (.plain (OpenSpec.ofChange checkCrcsSpec)) checkCrcsCard

/-- THE TIED CARD OF 'slabvaultlaw02.CheckPieces'. -/
def checkPiecesCard : Claim7 := { stood := { row := checkPiecesRow, standIns := [], harness := (true, "1588f3a198da3290c8a053e092cea90e69d94528a0b91e820e359fa06fa375b2"), looks := false }, kinds := [], alts := [], laidByText := true, laidKinds := [.data], laidTests := true, laidLooks := .later }
def CheckPiecesCardSaid : Prop := Claim7.holds Tryd.pinned (.plain (OpenSpec.ofChange checkPiecesSpec)) checkPiecesCard

/-- THE TIED CARD OF 'slabvaultlaw02.CheckPlaces'. -/
def checkPlacesCard : Claim7 := { stood := { row := checkPlacesRow, standIns := [], harness := (true, "1588f3a198da3290c8a053e092cea90e69d94528a0b91e820e359fa06fa375b2"), looks := false }, kinds := [], alts := [], laidByText := true, laidKinds := [.data], laidTests := true, laidLooks := .later }
def CheckPlacesCardSaid : Prop := Claim7.holds Tryd.pinned (.plain (OpenSpec.ofChange checkPlacesSpec)) checkPlacesCard

/-- THE TIED CARD OF 'slabvaultlaw02.CheckSeals'. -/
def checkSealsCard : Claim7 := { stood := { row := checkSealsRow, standIns := [], harness := (true, "1588f3a198da3290c8a053e092cea90e69d94528a0b91e820e359fa06fa375b2"), looks := false }, kinds := [], alts := [], laidByText := true, laidKinds := [.data], laidTests := true, laidLooks := .later }
def CheckSealsCardSaid : Prop := Claim7.holds Tryd.pinned (.plain (OpenSpec.ofChange checkSealsSpec)) checkSealsCard

/-- THE TIED CARD OF 'slabvaultlaw02.CheckTurned'. -/
def checkTurnedCard : Claim7 := { stood := { row := checkTurnedRow, standIns := [], harness := (true, "1588f3a198da3290c8a053e092cea90e69d94528a0b91e820e359fa06fa375b2"), looks := false }, kinds := [], alts := [], laidByText := true, laidKinds := [.data], laidTests := true, laidLooks := .later }
def CheckTurnedCardSaid : Prop := Claim7.holds Tryd.pinned (.plain (OpenSpec.ofChange checkTurnedSpec)) checkTurnedCard

/-- THE TIED CARD OF 'slabvaultlaw02.CheckBursts'. -/
def checkBurstsCard : Claim7 := { stood := { row := checkBurstsRow, standIns := [], harness := (true, "1588f3a198da3290c8a053e092cea90e69d94528a0b91e820e359fa06fa375b2"), looks := false }, kinds := [], alts := [], laidByText := true, laidKinds := [.data], laidTests := true, laidLooks := .later }
def CheckBurstsCardSaid : Prop := Claim7.holds Tryd.pinned (.plain (OpenSpec.ofChange checkBurstsSpec)) checkBurstsCard

/-- THE SECOND FORM's CARD OF 'slabvaultlaw02.CheckFletchers'. -/
def checkFletchersUptoCard : Claim7 := { stood := { row := checkFletchersUptoRow, standIns := [], harness := (true, "1588f3a198da3290c8a053e092cea90e69d94528a0b91e820e359fa06fa375b2"), looks := false }, kinds := [], alts := [], laidByText := true, laidKinds := [.data], laidTests := true, laidLooks := .later }
def CheckFletchersUptoCardSaid : Prop := Claim7.holds Tryd.pinned (.plain (OpenSpec.upto checkFletchersSpec)) checkFletchersUptoCard

/-- THE SECOND FORM's CARD OF 'slabvaultlaw02.CheckCrcs'. -/
def checkCrcsUptoCard : Claim7 := { stood := { row := checkCrcsUptoRow, standIns := [], harness := (true, "1588f3a198da3290c8a053e092cea90e69d94528a0b91e820e359fa06fa375b2"), looks := false }, kinds := [], alts := [], laidByText := true, laidKinds := [.data], laidTests := true, laidLooks := .later }
def CheckCrcsUptoCardSaid : Prop := Claim7.holds Tryd.pinned (.plain (OpenSpec.upto checkCrcsSpec)) checkCrcsUptoCard

/-- THE SECOND FORM's CARD OF 'slabvaultlaw02.CheckPieces'. -/
def checkPiecesUptoCard : Claim7 := { stood := { row := checkPiecesUptoRow, standIns := [], harness := (true, "1588f3a198da3290c8a053e092cea90e69d94528a0b91e820e359fa06fa375b2"), looks := false }, kinds := [], alts := [], laidByText := true, laidKinds := [.data], laidTests := true, laidLooks := .later }
def CheckPiecesUptoCardSaid : Prop := Claim7.holds Tryd.pinned (.plain (OpenSpec.upto checkPiecesSpec)) checkPiecesUptoCard

/-- THE SECOND FORM's CARD OF 'slabvaultlaw02.CheckPlaces'. -/
def checkPlacesUptoCard : Claim7 := { stood := { row := checkPlacesUptoRow, standIns := [], harness := (true, "1588f3a198da3290c8a053e092cea90e69d94528a0b91e820e359fa06fa375b2"), looks := false }, kinds := [], alts := [], laidByText := true, laidKinds := [.data], laidTests := true, laidLooks := .later }
def CheckPlacesUptoCardSaid : Prop := Claim7.holds Tryd.pinned (.plain (OpenSpec.upto checkPlacesSpec)) checkPlacesUptoCard

/-- THE SECOND FORM's CARD OF 'slabvaultlaw02.CheckSeals'. -/
def checkSealsUptoCard : Claim7 := { stood := { row := checkSealsUptoRow, standIns := [], harness := (true, "1588f3a198da3290c8a053e092cea90e69d94528a0b91e820e359fa06fa375b2"), looks := false }, kinds := [], alts := [], laidByText := true, laidKinds := [.data], laidTests := true, laidLooks := .later }
def CheckSealsUptoCardSaid : Prop := Claim7.holds Tryd.pinned (.plain (OpenSpec.upto checkSealsSpec)) checkSealsUptoCard

/-- THE SECOND FORM's CARD OF 'slabvaultlaw02.CheckTurned'. -/
def checkTurnedUptoCard : Claim7 := { stood := { row := checkTurnedUptoRow, standIns := [], harness := (true, "1588f3a198da3290c8a053e092cea90e69d94528a0b91e820e359fa06fa375b2"), looks := false }, kinds := [], alts := [], laidByText := true, laidKinds := [.data], laidTests := true, laidLooks := .later }
def CheckTurnedUptoCardSaid : Prop := Claim7.holds Tryd.pinned (.plain (OpenSpec.upto checkTurnedSpec)) checkTurnedUptoCard

/-- THE SECOND FORM's CARD OF 'slabvaultlaw02.CheckBursts'. -/
def checkBurstsUptoCard : Claim7 := { stood := { row := checkBurstsUptoRow, standIns := [], harness := (true, "1588f3a198da3290c8a053e092cea90e69d94528a0b91e820e359fa06fa375b2"), looks := false }, kinds := [], alts := [], laidByText := true, laidKinds := [.data], laidTests := true, laidLooks := .later }
def CheckBurstsUptoCardSaid : Prop := Claim7.holds Tryd.pinned (.plain (OpenSpec.upto checkBurstsSpec)) checkBurstsUptoCard
end Rows
end Go.Proofs.YtelphnkbaeglaaaDoor
