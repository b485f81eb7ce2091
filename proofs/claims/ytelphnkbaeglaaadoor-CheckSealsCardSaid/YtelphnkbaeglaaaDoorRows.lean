/-
  NARROWER THAN 'FOR EVERY INPUT', by the rows' own cells (each row's printed sentence says how): CheckFletchers: laid · CheckCrcs: laid · CheckPieces: laid · CheckPlaces: laid · CheckSeals: laid · CheckTurned: laid · CheckBursts: laid.
  DERIVED. THE GIVEN ROWS OF THIS SEAT. 7 by the template 'for every input the law returns true; each argument reads behind the call as it read before'; 0 by the template 'total and deterministic' (their statements: YtelphnkbaeglaaaDoorTotals.lean).
  GIVEN WITH THE SEED: the statements are not yours to turn. If you find one false, say at which input.
  Laid BY PROGRAM, IN A SANDBOX (cutbox-rows.mjs): the forced cells as the released guide's own fill.sh prints them over the translation 67255c1d165fc2aa… (all of the seat's roots in one cut). By AI agents, Wed Nov 11 2026. No macro, syntax, notation, axiom, sorry.
-/
import Derived.Test.YtelphnkbaeglaaaDoorChecked
import GoSem.Claim
import GoSem.ClaimJoined
import GoSem.ClaimMapViews
import Derived.JoinedTies
import Derived.KernelRfl
namespace Go.Proofs.YtelphnkbaeglaaaDoor
/- THE CELL 'sum', in the pinned program and in every row, IS THE sha256 OF THE DUMP (.gsa) THAT YtelphnkbaeglaaaDoorProg.lean LOADS. Nothing in Lean hashes anything: it is a label: what it is worth is what the hold of that sum in a sandbox is worth. -/
noncomputable def Tryd.pinned : Pinned := { name := "ytelphnkbaeglaaadoor", sum := "67255c1d165fc2aab46fe083595658b9c6e33b1531ebbb3df752927b50a932c1", checked := Tryd.checked }
namespace Rows
def none {H : Type} : Left H := { results := [], args := [] }

/- WHAT THE LISTED PACKAGE-LEVEL VARIABLES READ AS WHEN THE CALL BEGINS. Each datum BY PROGRAM (the guide's laid-datum.mjs) off the statement by which the dump's own 'gosem.cut.vars' lays the variable. In a bare row this is a premise. The card (YtelphnkbaeglaaaDoorCards.lean) ties it to the program's text. -/
def laid_slabvault_check_short {H : Type} : DataW H := .agg [.lit (.int .u32 0), .lit (.int .u32 498536548), .lit (.int .u32 997073096), .lit (.int .u32 651767980), .lit (.int .u32 1994146192), .lit (.int .u32 1802195444), .lit (.int .u32 1303535960), .lit (.int .u32 1342533948), .lit (.int .u32 3988292384), .lit (.int .u32 4027552580), .lit (.int .u32 3604390888), .lit (.int .u32 3412177804), .lit (.int .u32 2607071920), .lit (.int .u32 2262029012), .lit (.int .u32 2685067896), .lit (.int .u32 3183342108)]

/-- 'slabvaultlaw02.CheckFletchers': WHATEVER THE INPUT: true; the input reads as it did. -/
def checkFletchersSpec : ChangeSpec := { name := "checkFletchers", fn := fun _ => fun
  | [d] => { results := [.lit (.bool true)], args := [d] }
  | _ => none }
def checkFletchersRow : OpenClaim := { program := "ytelphnkbaeglaaadoor", sum := "67255c1d165fc2aab46fe083595658b9c6e33b1531ebbb3df752927b50a932c1", func := "slabvault/slabvaultlaw02.CheckFletchers", spec := "checkFletchers", named := ["slabvault/check.short"], apart := false, laid := [("slabvault/check.short", laid_slabvault_check_short)] }
def CheckFletchersSaid : Prop := checkFletchersRow.holds Tryd.pinned (OpenSpec.ofChange checkFletchersSpec)

/-- ITS FALSE NEIGHBOUR: 'it returns false'. Refute it at one input. -/
def checkFletchersWrong : ChangeSpec := { name := "checkFletchers", fn := fun _ => fun
  | [d] => { results := [.lit (.bool false)], args := [d] }
  | _ => none }
def CheckFletchersWrongFalsely : Prop := checkFletchersRow.holds Tryd.pinned (OpenSpec.ofChange checkFletchersWrong)

/-- 'slabvaultlaw02.CheckCrcs': WHATEVER THE INPUT: true; the input reads as it did. -/
def checkCrcsSpec : ChangeSpec := { name := "checkCrcs", fn := fun _ => fun
  | [d1, d2] => { results := [.lit (.bool true)], args := [d1, d2] }
  | _ => none }
def checkCrcsRow : OpenClaim := { program := "ytelphnkbaeglaaadoor", sum := "67255c1d165fc2aab46fe083595658b9c6e33b1531ebbb3df752927b50a932c1", func := "slabvault/slabvaultlaw02.CheckCrcs", spec := "checkCrcs", named := ["slabvault/check.short"], apart := false, laid := [("slabvault/check.short", laid_slabvault_check_short)] }
def CheckCrcsSaid : Prop := checkCrcsRow.holds Tryd.pinned (OpenSpec.ofChange checkCrcsSpec)

/-- ITS FALSE NEIGHBOUR: 'it returns false'. Refute it at one input. -/
def checkCrcsWrong : ChangeSpec := { name := "checkCrcs", fn := fun _ => fun
  | [d1, d2] => { results := [.lit (.bool false)], args := [d1, d2] }
  | _ => none }
def CheckCrcsWrongFalsely : Prop := checkCrcsRow.holds Tryd.pinned (OpenSpec.ofChange checkCrcsWrong)

/-- 'slabvaultlaw02.CheckPieces': WHATEVER THE INPUT: true; the input reads as it did. -/
def checkPiecesSpec : ChangeSpec := { name := "checkPieces", fn := fun _ => fun
  | [d] => { results := [.lit (.bool true)], args := [d] }
  | _ => none }
def checkPiecesRow : OpenClaim := { program := "ytelphnkbaeglaaadoor", sum := "67255c1d165fc2aab46fe083595658b9c6e33b1531ebbb3df752927b50a932c1", func := "slabvault/slabvaultlaw02.CheckPieces", spec := "checkPieces", named := ["slabvault/check.short"], apart := false, laid := [("slabvault/check.short", laid_slabvault_check_short)] }
def CheckPiecesSaid : Prop := checkPiecesRow.holds Tryd.pinned (OpenSpec.ofChange checkPiecesSpec)

/-- ITS FALSE NEIGHBOUR: 'it returns false'. Refute it at one input. -/
def checkPiecesWrong : ChangeSpec := { name := "checkPieces", fn := fun _ => fun
  | [d] => { results := [.lit (.bool false)], args := [d] }
  | _ => none }
def CheckPiecesWrongFalsely : Prop := checkPiecesRow.holds Tryd.pinned (OpenSpec.ofChange checkPiecesWrong)

/-- 'slabvaultlaw02.CheckPlaces': WHATEVER THE INPUT: true; the input reads as it did. -/
def checkPlacesSpec : ChangeSpec := { name := "checkPlaces", fn := fun _ => fun
  | [d1, d2] => { results := [.lit (.bool true)], args := [d1, d2] }
  | _ => none }
def checkPlacesRow : OpenClaim := { program := "ytelphnkbaeglaaadoor", sum := "67255c1d165fc2aab46fe083595658b9c6e33b1531ebbb3df752927b50a932c1", func := "slabvault/slabvaultlaw02.CheckPlaces", spec := "checkPlaces", named := ["slabvault/check.short"], apart := false, laid := [("slabvault/check.short", laid_slabvault_check_short)] }
def CheckPlacesSaid : Prop := checkPlacesRow.holds Tryd.pinned (OpenSpec.ofChange checkPlacesSpec)

/-- ITS FALSE NEIGHBOUR: 'it returns false'. Refute it at one input. -/
def checkPlacesWrong : ChangeSpec := { name := "checkPlaces", fn := fun _ => fun
  | [d1, d2] => { results := [.lit (.bool false)], args := [d1, d2] }
  | _ => none }
def CheckPlacesWrongFalsely : Prop := checkPlacesRow.holds Tryd.pinned (OpenSpec.ofChange checkPlacesWrong)

/-- 'slabvaultlaw02.CheckSeals': WHATEVER THE INPUT: true; the input reads as it did. -/
def checkSealsSpec : ChangeSpec := { name := "checkSeals", fn := fun _ => fun
  | [d] => { results := [.lit (.bool true)], args := [d] }
  | _ => none }
def checkSealsRow : OpenClaim := { program := "ytelphnkbaeglaaadoor", sum := "67255c1d165fc2aab46fe083595658b9c6e33b1531ebbb3df752927b50a932c1", func := "slabvault/slabvaultlaw02.CheckSeals", spec := "checkSeals", unfollowed := true, recurses := true, named := ["slabvault/check.short"], apart := false, laid := [("slabvault/check.short", laid_slabvault_check_short)] }
def CheckSealsSaid : Prop := checkSealsRow.holds Tryd.pinned (OpenSpec.ofChange checkSealsSpec)

/-- ITS FALSE NEIGHBOUR: 'it returns false'. Refute it at one input. -/
def checkSealsWrong : ChangeSpec := { name := "checkSeals", fn := fun _ => fun
  | [d] => { results := [.lit (.bool false)], args := [d] }
  | _ => none }
def CheckSealsWrongFalsely : Prop := checkSealsRow.holds Tryd.pinned (OpenSpec.ofChange checkSealsWrong)

/-- 'slabvaultlaw02.CheckTurned': WHATEVER THE INPUT: true; the input reads as it did. -/
def checkTurnedSpec : ChangeSpec := { name := "checkTurned", fn := fun _ => fun
  | [d1, d2, d3] => { results := [.lit (.bool true)], args := [d1, d2, d3] }
  | _ => none }
def checkTurnedRow : OpenClaim := { program := "ytelphnkbaeglaaadoor", sum := "67255c1d165fc2aab46fe083595658b9c6e33b1531ebbb3df752927b50a932c1", func := "slabvault/slabvaultlaw02.CheckTurned", spec := "checkTurned", unfollowed := true, recurses := true, named := ["slabvault/check.short"], apart := false, laid := [("slabvault/check.short", laid_slabvault_check_short)] }
def CheckTurnedSaid : Prop := checkTurnedRow.holds Tryd.pinned (OpenSpec.ofChange checkTurnedSpec)

/-- ITS FALSE NEIGHBOUR: 'it returns false'. Refute it at one input. -/
def checkTurnedWrong : ChangeSpec := { name := "checkTurned", fn := fun _ => fun
  | [d1, d2, d3] => { results := [.lit (.bool false)], args := [d1, d2, d3] }
  | _ => none }
def CheckTurnedWrongFalsely : Prop := checkTurnedRow.holds Tryd.pinned (OpenSpec.ofChange checkTurnedWrong)

/-- 'slabvaultlaw02.CheckBursts': WHATEVER THE INPUT: true; the input reads as it did. -/
def checkBurstsSpec : ChangeSpec := { name := "checkBursts", fn := fun _ => fun
  | [d1, d2, d3] => { results := [.lit (.bool true)], args := [d1, d2, d3] }
  | _ => none }
def checkBurstsRow : OpenClaim := { program := "ytelphnkbaeglaaadoor", sum := "67255c1d165fc2aab46fe083595658b9c6e33b1531ebbb3df752927b50a932c1", func := "slabvault/slabvaultlaw02.CheckBursts", spec := "checkBursts", unfollowed := true, recurses := true, named := ["slabvault/check.short"], apart := false, laid := [("slabvault/check.short", laid_slabvault_check_short)] }
def CheckBurstsSaid : Prop := checkBurstsRow.holds Tryd.pinned (OpenSpec.ofChange checkBurstsSpec)

/-- ITS FALSE NEIGHBOUR: 'it returns false'. Refute it at one input. -/
def checkBurstsWrong : ChangeSpec := { name := "checkBursts", fn := fun _ => fun
  | [d1, d2, d3] => { results := [.lit (.bool false)], args := [d1, d2, d3] }
  | _ => none }
def CheckBurstsWrongFalsely : Prop := checkBurstsRow.holds Tryd.pinned (OpenSpec.ofChange checkBurstsWrong)

/- THE SECOND FORM. 'bulk': how many values and letters a reading holds, each counted each time it is reached (what is shared counts as often as it is met; a slice's spare places count too). A statement '..UptoSaid' is the law's where the arguments, and the package variables that the reading takes, are together of bulk at most 1048576: NARROWER than '..Said'. Prove '..Said' where nothing that the law and all that it calls make is longer than what came in: it says more and counts as full. Else prove '..UptoSaid'. A law counts once. -/
mutual
def uptoBulk {H : Type} : DataW H → Nat
  | .lit (.string bytes) => bytes.length + 1
  | .lit _ => 1
  | .nil => 1
  | .ptr d => uptoBulk d + 1
  | .slice elems spare => uptoBulkAll elems + uptoBulkAll spare + 1
  | .agg parts => uptoBulkAll parts + 1
  | .iface _ d => uptoBulk d + 1
  | .map entries => uptoBulkEntries entries + 1
  | .held _ => 1
def uptoBulkAll {H : Type} : List (DataW H) → Nat
  | [] => 0
  | d :: r => uptoBulk d + uptoBulkAll r
def uptoBulkEntries {H : Type} : List (Lit × DataW H) → Nat
  | [] => 0
  | x :: r => uptoBulkEntry x + uptoBulkEntries r
def uptoBulkEntry {H : Type} : Lit × DataW H → Nat
  | (.string bytes, d) => bytes.length + uptoBulk d + 1
  | (_, d) => uptoBulk d + 1
 end
def uptoSmall : (H : Type) → List (DataW H) → Bool := fun _ ds => decide (uptoBulkAll ds ≤ 1048576)
def OpenSpec.upto (s : _root_.Go.ChangeSpec) : _root_.Go.OpenSpec := { _root_.Go.OpenSpec.ofChange s with cond := some uptoSmall }

/-- 'slabvaultlaw02.CheckFletchers', WHERE WHAT IT READS IS OF BULK AT MOST 1048576: true; the input reads as it did. -/
def checkFletchersUptoRow : OpenClaim := { program := "ytelphnkbaeglaaadoor", sum := "67255c1d165fc2aab46fe083595658b9c6e33b1531ebbb3df752927b50a932c1", func := "slabvault/slabvaultlaw02.CheckFletchers", spec := "checkFletchers", named := ["slabvault/check.short"], apart := false, laid := [("slabvault/check.short", laid_slabvault_check_short)], narrowed := true }
def CheckFletchersUptoSaid : Prop := checkFletchersUptoRow.holds Tryd.pinned (OpenSpec.upto checkFletchersSpec)

/-- 'slabvaultlaw02.CheckCrcs', WHERE WHAT IT READS IS OF BULK AT MOST 1048576: true; the input reads as it did. -/
def checkCrcsUptoRow : OpenClaim := { program := "ytelphnkbaeglaaadoor", sum := "67255c1d165fc2aab46fe083595658b9c6e33b1531ebbb3df752927b50a932c1", func := "slabvault/slabvaultlaw02.CheckCrcs", spec := "checkCrcs", named := ["slabvault/check.short"], apart := false, laid := [("slabvault/check.short", laid_slabvault_check_short)], narrowed := true }
def CheckCrcsUptoSaid : Prop := checkCrcsUptoRow.holds Tryd.pinned (OpenSpec.upto checkCrcsSpec)

/-- 'slabvaultlaw02.CheckPieces', WHERE WHAT IT READS IS OF BULK AT MOST 1048576: true; the input reads as it did. -/
def checkPiecesUptoRow : OpenClaim := { program := "ytelphnkbaeglaaadoor", sum := "67255c1d165fc2aab46fe083595658b9c6e33b1531ebbb3df752927b50a932c1", func := "slabvault/slabvaultlaw02.CheckPieces", spec := "checkPieces", named := ["slabvault/check.short"], apart := false, laid := [("slabvault/check.short", laid_slabvault_check_short)], narrowed := true }
def CheckPiecesUptoSaid : Prop := checkPiecesUptoRow.holds Tryd.pinned (OpenSpec.upto checkPiecesSpec)

/-- 'slabvaultlaw02.CheckPlaces', WHERE WHAT IT READS IS OF BULK AT MOST 1048576: true; the input reads as it did. -/
def checkPlacesUptoRow : OpenClaim := { program := "ytelphnkbaeglaaadoor", sum := "67255c1d165fc2aab46fe083595658b9c6e33b1531ebbb3df752927b50a932c1", func := "slabvault/slabvaultlaw02.CheckPlaces", spec := "checkPlaces", named := ["slabvault/check.short"], apart := false, laid := [("slabvault/check.short", laid_slabvault_check_short)], narrowed := true }
def CheckPlacesUptoSaid : Prop := checkPlacesUptoRow.holds Tryd.pinned (OpenSpec.upto checkPlacesSpec)

/-- 'slabvaultlaw02.CheckSeals', WHERE WHAT IT READS IS OF BULK AT MOST 1048576: true; the input reads as it did. -/
def checkSealsUptoRow : OpenClaim := { program := "ytelphnkbaeglaaadoor", sum := "67255c1d165fc2aab46fe083595658b9c6e33b1531ebbb3df752927b50a932c1", func := "slabvault/slabvaultlaw02.CheckSeals", spec := "checkSeals", unfollowed := true, recurses := true, named := ["slabvault/check.short"], apart := false, laid := [("slabvault/check.short", laid_slabvault_check_short)], narrowed := true }
def CheckSealsUptoSaid : Prop := checkSealsUptoRow.holds Tryd.pinned (OpenSpec.upto checkSealsSpec)

/-- 'slabvaultlaw02.CheckTurned', WHERE WHAT IT READS IS OF BULK AT MOST 1048576: true; the input reads as it did. -/
def checkTurnedUptoRow : OpenClaim := { program := "ytelphnkbaeglaaadoor", sum := "67255c1d165fc2aab46fe083595658b9c6e33b1531ebbb3df752927b50a932c1", func := "slabvault/slabvaultlaw02.CheckTurned", spec := "checkTurned", unfollowed := true, recurses := true, named := ["slabvault/check.short"], apart := false, laid := [("slabvault/check.short", laid_slabvault_check_short)], narrowed := true }
def CheckTurnedUptoSaid : Prop := checkTurnedUptoRow.holds Tryd.pinned (OpenSpec.upto checkTurnedSpec)

/-- 'slabvaultlaw02.CheckBursts', WHERE WHAT IT READS IS OF BULK AT MOST 1048576: true; the input reads as it did. -/
def checkBurstsUptoRow : OpenClaim := { program := "ytelphnkbaeglaaadoor", sum := "67255c1d165fc2aab46fe083595658b9c6e33b1531ebbb3df752927b50a932c1", func := "slabvault/slabvaultlaw02.CheckBursts", spec := "checkBursts", unfollowed := true, recurses := true, named := ["slabvault/check.short"], apart := false, laid := [("slabvault/check.short", laid_slabvault_check_short)], narrowed := true }
def CheckBurstsUptoSaid : Prop := checkBurstsUptoRow.holds Tryd.pinned (OpenSpec.upto checkBurstsSpec)

end Rows
end Go.Proofs.YtelphnkbaeglaaaDoor
