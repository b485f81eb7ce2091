/-
  NARROWER THAN 'FOR EVERY INPUT', by the rows' own cells (each row's printed sentence says how): SlotsBytes: laid · SlotsLoads: laid · SlotsBack: laid · SlotsBest: laid · SlotsPuts: laid · SlotsCrashes: laid.
  DERIVED. THE GIVEN ROWS OF THIS SEAT. 6 by the template 'for every input the law returns true; each argument reads behind the call as it read before'; 0 by the template 'total and deterministic' (their statements: YtadmpjikkpnjnaaDoorTotals.lean).
  GIVEN WITH THE SEED: the statements are not yours to turn. If you find one false, say at which input.
  Laid BY PROGRAM, IN A SANDBOX (cutbox-rows.mjs): the forced cells as the released guide's own fill.sh prints them over the translation 841a3aab941c7bae… (all of the seat's roots in one cut). By AI agents, Wed Nov 11 2026. No macro, syntax, notation, axiom, sorry.
-/
import Derived.Test.YtadmpjikkpnjnaaDoorChecked
import GoSem.Claim
import GoSem.ClaimJoined
import GoSem.ClaimMapViews
import Derived.JoinedTies
import Derived.KernelRfl
namespace Go.Proofs.YtadmpjikkpnjnaaDoor
/- THE CELL 'sum', in the pinned program and in every row, IS THE sha256 OF THE DUMP (.gsa) THAT YtadmpjikkpnjnaaDoorProg.lean LOADS. Nothing in Lean hashes anything: it is a label: what it is worth is what the hold of that sum in a sandbox is worth. -/
noncomputable def Tryd.pinned : Pinned := { name := "ytadmpjikkpnjnaadoor", sum := "841a3aab941c7bae37dd475541be18ec5c8f7dc7a8df814d00b8e8339fab3ae1", checked := Tryd.checked }
namespace Rows
def none {H : Type} : Left H := { results := [], args := [] }

/- WHAT THE LISTED PACKAGE-LEVEL VARIABLES READ AS WHEN THE CALL BEGINS. Each datum BY PROGRAM (the guide's laid-datum.mjs) off the statement by which the dump's own 'gosem.cut.vars' lays the variable. In a bare row this is a premise. The card (YtadmpjikkpnjnaaDoorCards.lean) ties it to the program's text. -/
def laid_slabvault_check_short {H : Type} : DataW H := .agg [.lit (.int .u32 0), .lit (.int .u32 498536548), .lit (.int .u32 997073096), .lit (.int .u32 651767980), .lit (.int .u32 1994146192), .lit (.int .u32 1802195444), .lit (.int .u32 1303535960), .lit (.int .u32 1342533948), .lit (.int .u32 3988292384), .lit (.int .u32 4027552580), .lit (.int .u32 3604390888), .lit (.int .u32 3412177804), .lit (.int .u32 2607071920), .lit (.int .u32 2262029012), .lit (.int .u32 2685067896), .lit (.int .u32 3183342108)]

/-- 'slabvaultlaw04.SlotsBytes': WHATEVER THE INPUT: true; the input reads as it did. -/
def slotsBytesSpec : ChangeSpec := { name := "slotsBytes", fn := fun _ => fun
  | [d] => { results := [.lit (.bool true)], args := [d] }
  | _ => none }
def slotsBytesRow : OpenClaim := { program := "ytadmpjikkpnjnaadoor", sum := "841a3aab941c7bae37dd475541be18ec5c8f7dc7a8df814d00b8e8339fab3ae1", func := "slabvault/slabvaultlaw04.SlotsBytes", spec := "slotsBytes", unfollowed := true, recurses := true, named := ["slabvault/check.short"], apart := false, laid := [("slabvault/check.short", laid_slabvault_check_short)] }
def SlotsBytesSaid : Prop := slotsBytesRow.holds Tryd.pinned (OpenSpec.ofChange slotsBytesSpec)

/-- ITS FALSE NEIGHBOUR: 'it returns false'. Refute it at one input. -/
def slotsBytesWrong : ChangeSpec := { name := "slotsBytes", fn := fun _ => fun
  | [d] => { results := [.lit (.bool false)], args := [d] }
  | _ => none }
def SlotsBytesWrongFalsely : Prop := slotsBytesRow.holds Tryd.pinned (OpenSpec.ofChange slotsBytesWrong)

/-- 'slabvaultlaw04.SlotsLoads': WHATEVER THE INPUT: true; the input reads as it did. -/
def slotsLoadsSpec : ChangeSpec := { name := "slotsLoads", fn := fun _ => fun
  | [d] => { results := [.lit (.bool true)], args := [d] }
  | _ => none }
def slotsLoadsRow : OpenClaim := { program := "ytadmpjikkpnjnaadoor", sum := "841a3aab941c7bae37dd475541be18ec5c8f7dc7a8df814d00b8e8339fab3ae1", func := "slabvault/slabvaultlaw04.SlotsLoads", spec := "slotsLoads", unfollowed := true, recurses := true, named := ["slabvault/check.short"], apart := false, laid := [("slabvault/check.short", laid_slabvault_check_short)] }
def SlotsLoadsSaid : Prop := slotsLoadsRow.holds Tryd.pinned (OpenSpec.ofChange slotsLoadsSpec)

/-- ITS FALSE NEIGHBOUR: 'it returns false'. Refute it at one input. -/
def slotsLoadsWrong : ChangeSpec := { name := "slotsLoads", fn := fun _ => fun
  | [d] => { results := [.lit (.bool false)], args := [d] }
  | _ => none }
def SlotsLoadsWrongFalsely : Prop := slotsLoadsRow.holds Tryd.pinned (OpenSpec.ofChange slotsLoadsWrong)

/-- 'slabvaultlaw04.SlotsBack': WHATEVER THE INPUT: true; the input reads as it did. -/
def slotsBackSpec : ChangeSpec := { name := "slotsBack", fn := fun _ => fun
  | [d1, d2] => { results := [.lit (.bool true)], args := [d1, d2] }
  | _ => none }
def slotsBackRow : OpenClaim := { program := "ytadmpjikkpnjnaadoor", sum := "841a3aab941c7bae37dd475541be18ec5c8f7dc7a8df814d00b8e8339fab3ae1", func := "slabvault/slabvaultlaw04.SlotsBack", spec := "slotsBack", unfollowed := true, recurses := true, named := ["slabvault/check.short"], apart := false, laid := [("slabvault/check.short", laid_slabvault_check_short)] }
def SlotsBackSaid : Prop := slotsBackRow.holds Tryd.pinned (OpenSpec.ofChange slotsBackSpec)

/-- ITS FALSE NEIGHBOUR: 'it returns false'. Refute it at one input. -/
def slotsBackWrong : ChangeSpec := { name := "slotsBack", fn := fun _ => fun
  | [d1, d2] => { results := [.lit (.bool false)], args := [d1, d2] }
  | _ => none }
def SlotsBackWrongFalsely : Prop := slotsBackRow.holds Tryd.pinned (OpenSpec.ofChange slotsBackWrong)

/-- 'slabvaultlaw04.SlotsBest': WHATEVER THE INPUT: true; the input reads as it did. -/
def slotsBestSpec : ChangeSpec := { name := "slotsBest", fn := fun _ => fun
  | [d] => { results := [.lit (.bool true)], args := [d] }
  | _ => none }
def slotsBestRow : OpenClaim := { program := "ytadmpjikkpnjnaadoor", sum := "841a3aab941c7bae37dd475541be18ec5c8f7dc7a8df814d00b8e8339fab3ae1", func := "slabvault/slabvaultlaw04.SlotsBest", spec := "slotsBest", unfollowed := true, recurses := true, named := ["slabvault/check.short"], apart := false, laid := [("slabvault/check.short", laid_slabvault_check_short)] }
def SlotsBestSaid : Prop := slotsBestRow.holds Tryd.pinned (OpenSpec.ofChange slotsBestSpec)

/-- ITS FALSE NEIGHBOUR: 'it returns false'. Refute it at one input. -/
def slotsBestWrong : ChangeSpec := { name := "slotsBest", fn := fun _ => fun
  | [d] => { results := [.lit (.bool false)], args := [d] }
  | _ => none }
def SlotsBestWrongFalsely : Prop := slotsBestRow.holds Tryd.pinned (OpenSpec.ofChange slotsBestWrong)

/-- 'slabvaultlaw04.SlotsPuts': WHATEVER THE INPUT: true; the input reads as it did. -/
def slotsPutsSpec : ChangeSpec := { name := "slotsPuts", fn := fun _ => fun
  | [d1, d2, d3] => { results := [.lit (.bool true)], args := [d1, d2, d3] }
  | _ => none }
def slotsPutsRow : OpenClaim := { program := "ytadmpjikkpnjnaadoor", sum := "841a3aab941c7bae37dd475541be18ec5c8f7dc7a8df814d00b8e8339fab3ae1", func := "slabvault/slabvaultlaw04.SlotsPuts", spec := "slotsPuts", unfollowed := true, recurses := true, named := ["slabvault/check.short"], apart := false, laid := [("slabvault/check.short", laid_slabvault_check_short)] }
def SlotsPutsSaid : Prop := slotsPutsRow.holds Tryd.pinned (OpenSpec.ofChange slotsPutsSpec)

/-- ITS FALSE NEIGHBOUR: 'it returns false'. Refute it at one input. -/
def slotsPutsWrong : ChangeSpec := { name := "slotsPuts", fn := fun _ => fun
  | [d1, d2, d3] => { results := [.lit (.bool false)], args := [d1, d2, d3] }
  | _ => none }
def SlotsPutsWrongFalsely : Prop := slotsPutsRow.holds Tryd.pinned (OpenSpec.ofChange slotsPutsWrong)

/-- 'slabvaultlaw04.SlotsCrashes': WHATEVER THE INPUT: true; the input reads as it did. -/
def slotsCrashesSpec : ChangeSpec := { name := "slotsCrashes", fn := fun _ => fun
  | [d1, d2] => { results := [.lit (.bool true)], args := [d1, d2] }
  | _ => none }
def slotsCrashesRow : OpenClaim := { program := "ytadmpjikkpnjnaadoor", sum := "841a3aab941c7bae37dd475541be18ec5c8f7dc7a8df814d00b8e8339fab3ae1", func := "slabvault/slabvaultlaw04.SlotsCrashes", spec := "slotsCrashes", unfollowed := true, recurses := true, named := ["slabvault/check.short"], apart := false, laid := [("slabvault/check.short", laid_slabvault_check_short)] }
def SlotsCrashesSaid : Prop := slotsCrashesRow.holds Tryd.pinned (OpenSpec.ofChange slotsCrashesSpec)

/-- ITS FALSE NEIGHBOUR: 'it returns false'. Refute it at one input. -/
def slotsCrashesWrong : ChangeSpec := { name := "slotsCrashes", fn := fun _ => fun
  | [d1, d2] => { results := [.lit (.bool false)], args := [d1, d2] }
  | _ => none }
def SlotsCrashesWrongFalsely : Prop := slotsCrashesRow.holds Tryd.pinned (OpenSpec.ofChange slotsCrashesWrong)

/- THE SECOND FORM. 'bulk': how many values and letters a reading holds, each counted each time it is reached (what is shared counts as often as it is met; a slice's spare places count too). A statement '..UptoSaid' is the law's where the arguments, and the package variables that the reading takes, are together of bulk at most 1048576: NARROWER than '..Said'. Prove '..Said' where nothing that the law and all that it calls make is longer than what came in: it says more and counts as full. Else prove '..UptoSaid'. A law counts once. -/
mutual
def uptoBulk {H : Type} : DataW H → Nat
  | .lit (.string bytes) => bytes.length + 1
  | .lit _ => 1
  | .nil => 1
  | .ptr d => uptoBulk d + 1
  | .slice elems spare => uptoBulkAll elems + uptoBulkAll spare + 1
  | .agg parts => uptoBulkAll parts + 1
  | .iface _ d => uptoBulk d + 1
  | .map entries => uptoBulkEntries entries + 1
  | .held _ => 1
def uptoBulkAll {H : Type} : List (DataW H) → Nat
  | [] => 0
  | d :: r => uptoBulk d + uptoBulkAll r
def uptoBulkEntries {H : Type} : List (Lit × DataW H) → Nat
  | [] => 0
  | x :: r => uptoBulkEntry x + uptoBulkEntries r
def uptoBulkEntry {H : Type} : Lit × DataW H → Nat
  | (.string bytes, d) => bytes.length + uptoBulk d + 1
  | (_, d) => uptoBulk d + 1
 end
def uptoSmall : (H : Type) → List (DataW H) → Bool := fun _ ds => decide (uptoBulkAll ds ≤ 1048576)
def OpenSpec.upto (s : _root_.Go.ChangeSpec) : _root_.Go.OpenSpec := { _root_.Go.OpenSpec.ofChange s with cond := some uptoSmall }

/-- 'slabvaultlaw04.SlotsBytes', WHERE WHAT IT READS IS OF BULK AT MOST 1048576: true; the input reads as it did. -/
def slotsBytesUptoRow : OpenClaim := { program := "ytadmpjikkpnjnaadoor", sum := "841a3aab941c7bae37dd475541be18ec5c8f7dc7a8df814d00b8e8339fab3ae1", func := "slabvault/slabvaultlaw04.SlotsBytes", spec := "slotsBytes", unfollowed := true, recurses := true, named := ["slabvault/check.short"], apart := false, laid := [("slabvault/check.short", laid_slabvault_check_short)], narrowed := true }
def SlotsBytesUptoSaid : Prop := slotsBytesUptoRow.holds Tryd.pinned (OpenSpec.upto slotsBytesSpec)

/-- 'slabvaultlaw04.SlotsLoads', WHERE WHAT IT READS IS OF BULK AT MOST 1048576: true; the input reads as it did. -/
def slotsLoadsUptoRow : OpenClaim := { program := "ytadmpjikkpnjnaadoor", sum := "841a3aab941c7bae37dd475541be18ec5c8f7dc7a8df814d00b8e8339fab3ae1", func := "slabvault/slabvaultlaw04.SlotsLoads", spec := "slotsLoads", unfollowed := true, recurses := true, named := ["slabvault/check.short"], apart := false, laid := [("slabvault/check.short", laid_slabvault_check_short)], narrowed := true }
def SlotsLoadsUptoSaid : Prop := slotsLoadsUptoRow.holds Tryd.pinned (OpenSpec.upto slotsLoadsSpec)

/-- 'slabvaultlaw04.SlotsBack', WHERE WHAT IT READS IS OF BULK AT MOST 1048576: true; the input reads as it did. -/
def slotsBackUptoRow : OpenClaim := { program := "ytadmpjikkpnjnaadoor", sum := "841a3aab941c7bae37dd475541be18ec5c8f7dc7a8df814d00b8e8339fab3ae1", func := "slabvault/slabvaultlaw04.SlotsBack", spec := "slotsBack", unfollowed := true, recurses := true, named := ["slabvault/check.short"], apart := false, laid := [("slabvault/check.short", laid_slabvault_check_short)], narrowed := true }
def SlotsBackUptoSaid : Prop := slotsBackUptoRow.holds Tryd.pinned (OpenSpec.upto slotsBackSpec)

/-- 'slabvaultlaw04.SlotsBest', WHERE WHAT IT READS IS OF BULK AT MOST 1048576: true; the input reads as it did. -/
def slotsBestUptoRow : OpenClaim := { program := "ytadmpjikkpnjnaadoor", sum := "841a3aab941c7bae37dd475541be18ec5c8f7dc7a8df814d00b8e8339fab3ae1", func := "slabvault/slabvaultlaw04.SlotsBest", spec := "slotsBest", unfollowed := true, recurses := true, named := ["slabvault/check.short"], apart := false, laid := [("slabvault/check.short", laid_slabvault_check_short)], narrowed := true }
def SlotsBestUptoSaid : Prop := slotsBestUptoRow.holds Tryd.pinned (OpenSpec.upto slotsBestSpec)

/-- 'slabvaultlaw04.SlotsPuts', WHERE WHAT IT READS IS OF BULK AT MOST 1048576: true; the input reads as it did. -/
def slotsPutsUptoRow : OpenClaim := { program := "ytadmpjikkpnjnaadoor", sum := "841a3aab941c7bae37dd475541be18ec5c8f7dc7a8df814d00b8e8339fab3ae1", func := "slabvault/slabvaultlaw04.SlotsPuts", spec := "slotsPuts", unfollowed := true, recurses := true, named := ["slabvault/check.short"], apart := false, laid := [("slabvault/check.short", laid_slabvault_check_short)], narrowed := true }
def SlotsPutsUptoSaid : Prop := slotsPutsUptoRow.holds Tryd.pinned (OpenSpec.upto slotsPutsSpec)

/-- 'slabvaultlaw04.SlotsCrashes', WHERE WHAT IT READS IS OF BULK AT MOST 1048576: true; the input reads as it did. -/
def slotsCrashesUptoRow : OpenClaim := { program := "ytadmpjikkpnjnaadoor", sum := "841a3aab941c7bae37dd475541be18ec5c8f7dc7a8df814d00b8e8339fab3ae1", func := "slabvault/slabvaultlaw04.SlotsCrashes", spec := "slotsCrashes", unfollowed := true, recurses := true, named := ["slabvault/check.short"], apart := false, laid := [("slabvault/check.short", laid_slabvault_check_short)], narrowed := true }
def SlotsCrashesUptoSaid : Prop := slotsCrashesUptoRow.holds Tryd.pinned (OpenSpec.upto slotsCrashesSpec)

end Rows
end Go.Proofs.YtadmpjikkpnjnaaDoor
