/-
  No cell of these rows narrows 'for every input' (looked for: loops, veiled, ifaces, maps, wideKeys, modest, calm, conditions, laid).
  DERIVED. THE GIVEN ROWS OF THIS SEAT. 7 by the template 'for every input the law returns true; each argument reads behind the call as it read before'; 0 by the template 'total and deterministic' (their statements: YtelphnkbaeglaaaTotals.lean).
  GIVEN WITH THE SEED: the statements are not yours to turn. If you find one false, say at which input.
  Laid BY PROGRAM, IN A SANDBOX (cutbox-rows.mjs): the forced cells as the released guide's own fill.sh prints them over the translation f89161c5365a65f7… (all of the seat's roots in one cut). By AI agents, Wed Nov 11 2026. No macro, syntax, notation, axiom, sorry.
-/
import Derived.Test.YtelphnkbaeglaaaChecked
import GoSem.Claim
import GoSem.ClaimJoined
import GoSem.ClaimMapViews
import Derived.JoinedTies
import Derived.KernelRfl
namespace Go.Proofs.Ytelphnkbaeglaaa
/- THE CELL 'sum', in the pinned program and in every row, IS THE sha256 OF THE DUMP (.gsa) THAT YtelphnkbaeglaaaProg.lean LOADS. Nothing in Lean hashes anything: it is a label: what it is worth is what the hold of that sum in a sandbox is worth. -/
noncomputable def Try.pinned : Pinned := { name := "ytelphnkbaeglaaa", sum := "f89161c5365a65f7f74aa46537b8e9774c09ce5b5a9aa0bbf15882d460322960", checked := Try.checked }
namespace Rows
def none {H : Type} : Left H := { results := [], args := [] }

/-- 'slabvaultlaw01.OctetPuts': WHATEVER THE INPUT: true; the input reads as it did. -/
def octetPutsSpec : ChangeSpec := { name := "octetPuts", fn := fun _ => fun
  | [d1, d2, d3] => { results := [.lit (.bool true)], args := [d1, d2, d3] }
  | _ => none }
def octetPutsRow : OpenClaim := { program := "ytelphnkbaeglaaa", sum := "f89161c5365a65f7f74aa46537b8e9774c09ce5b5a9aa0bbf15882d460322960", func := "slabvault/slabvaultlaw01.OctetPuts", spec := "octetPuts", unfollowed := true, recurses := true, apart := false }
def OctetPutsSaid : Prop := octetPutsRow.holds Try.pinned (OpenSpec.ofChange octetPutsSpec)

/-- ITS FALSE NEIGHBOUR: 'it returns false'. Refute it at one input. -/
def octetPutsWrong : ChangeSpec := { name := "octetPuts", fn := fun _ => fun
  | [d1, d2, d3] => { results := [.lit (.bool false)], args := [d1, d2, d3] }
  | _ => none }
def OctetPutsWrongFalsely : Prop := octetPutsRow.holds Try.pinned (OpenSpec.ofChange octetPutsWrong)

/-- 'slabvaultlaw01.OctetSigns': WHATEVER THE INPUT: true; the input reads as it did. -/
def octetSignsSpec : ChangeSpec := { name := "octetSigns", fn := fun _ => fun
  | [d1, d2] => { results := [.lit (.bool true)], args := [d1, d2] }
  | _ => none }
def octetSignsRow : OpenClaim := { program := "ytelphnkbaeglaaa", sum := "f89161c5365a65f7f74aa46537b8e9774c09ce5b5a9aa0bbf15882d460322960", func := "slabvault/slabvaultlaw01.OctetSigns", spec := "octetSigns", unfollowed := true, recurses := true, apart := false }
def OctetSignsSaid : Prop := octetSignsRow.holds Try.pinned (OpenSpec.ofChange octetSignsSpec)

/-- ITS FALSE NEIGHBOUR: 'it returns false'. Refute it at one input. -/
def octetSignsWrong : ChangeSpec := { name := "octetSigns", fn := fun _ => fun
  | [d1, d2] => { results := [.lit (.bool false)], args := [d1, d2] }
  | _ => none }
def OctetSignsWrongFalsely : Prop := octetSignsRow.holds Try.pinned (OpenSpec.ofChange octetSignsWrong)

/-- 'slabvaultlaw01.OctetGets': WHATEVER THE INPUT: true; the input reads as it did. -/
def octetGetsSpec : ChangeSpec := { name := "octetGets", fn := fun _ => fun
  | [d1, d2, d3] => { results := [.lit (.bool true)], args := [d1, d2, d3] }
  | _ => none }
def octetGetsRow : OpenClaim := { program := "ytelphnkbaeglaaa", sum := "f89161c5365a65f7f74aa46537b8e9774c09ce5b5a9aa0bbf15882d460322960", func := "slabvault/slabvaultlaw01.OctetGets", spec := "octetGets", unfollowed := true, recurses := true, apart := false }
def OctetGetsSaid : Prop := octetGetsRow.holds Try.pinned (OpenSpec.ofChange octetGetsSpec)

/-- ITS FALSE NEIGHBOUR: 'it returns false'. Refute it at one input. -/
def octetGetsWrong : ChangeSpec := { name := "octetGets", fn := fun _ => fun
  | [d1, d2, d3] => { results := [.lit (.bool false)], args := [d1, d2, d3] }
  | _ => none }
def OctetGetsWrongFalsely : Prop := octetGetsRow.holds Try.pinned (OpenSpec.ofChange octetGetsWrong)

/-- 'slabvaultlaw01.OctetSwaps': WHATEVER THE INPUT: true; the input reads as it did. -/
def octetSwapsSpec : ChangeSpec := { name := "octetSwaps", fn := fun _ => fun
  | [d] => { results := [.lit (.bool true)], args := [d] }
  | _ => none }
def octetSwapsRow : OpenClaim := { program := "ytelphnkbaeglaaa", sum := "f89161c5365a65f7f74aa46537b8e9774c09ce5b5a9aa0bbf15882d460322960", func := "slabvault/slabvaultlaw01.OctetSwaps", spec := "octetSwaps", unfollowed := true, recurses := true, apart := false }
def OctetSwapsSaid : Prop := octetSwapsRow.holds Try.pinned (OpenSpec.ofChange octetSwapsSpec)

/-- ITS FALSE NEIGHBOUR: 'it returns false'. Refute it at one input. -/
def octetSwapsWrong : ChangeSpec := { name := "octetSwaps", fn := fun _ => fun
  | [d] => { results := [.lit (.bool false)], args := [d] }
  | _ => none }
def OctetSwapsWrongFalsely : Prop := octetSwapsRow.holds Try.pinned (OpenSpec.ofChange octetSwapsWrong)

/-- 'slabvaultlaw01.OctetBack': WHATEVER THE INPUT: true; the input reads as it did. -/
def octetBackSpec : ChangeSpec := { name := "octetBack", fn := fun _ => fun
  | [d1, d2] => { results := [.lit (.bool true)], args := [d1, d2] }
  | _ => none }
def octetBackRow : OpenClaim := { program := "ytelphnkbaeglaaa", sum := "f89161c5365a65f7f74aa46537b8e9774c09ce5b5a9aa0bbf15882d460322960", func := "slabvault/slabvaultlaw01.OctetBack", spec := "octetBack", unfollowed := true, recurses := true, apart := false }
def OctetBackSaid : Prop := octetBackRow.holds Try.pinned (OpenSpec.ofChange octetBackSpec)

/-- ITS FALSE NEIGHBOUR: 'it returns false'. Refute it at one input. -/
def octetBackWrong : ChangeSpec := { name := "octetBack", fn := fun _ => fun
  | [d1, d2] => { results := [.lit (.bool false)], args := [d1, d2] }
  | _ => none }
def OctetBackWrongFalsely : Prop := octetBackRow.holds Try.pinned (OpenSpec.ofChange octetBackWrong)

/-- 'slabvaultlaw01.OctetRuns': WHATEVER THE INPUT: true; the input reads as it did. -/
def octetRunsSpec : ChangeSpec := { name := "octetRuns", fn := fun _ => fun
  | [d1, d2, d3] => { results := [.lit (.bool true)], args := [d1, d2, d3] }
  | _ => none }
def octetRunsRow : OpenClaim := { program := "ytelphnkbaeglaaa", sum := "f89161c5365a65f7f74aa46537b8e9774c09ce5b5a9aa0bbf15882d460322960", func := "slabvault/slabvaultlaw01.OctetRuns", spec := "octetRuns", unfollowed := true, recurses := true, apart := false }
def OctetRunsSaid : Prop := octetRunsRow.holds Try.pinned (OpenSpec.ofChange octetRunsSpec)

/-- ITS FALSE NEIGHBOUR: 'it returns false'. Refute it at one input. -/
def octetRunsWrong : ChangeSpec := { name := "octetRuns", fn := fun _ => fun
  | [d1, d2, d3] => { results := [.lit (.bool false)], args := [d1, d2, d3] }
  | _ => none }
def OctetRunsWrongFalsely : Prop := octetRunsRow.holds Try.pinned (OpenSpec.ofChange octetRunsWrong)

/-- 'slabvaultlaw01.OctetRows': WHATEVER THE INPUT: true; the input reads as it did. -/
def octetRowsSpec : ChangeSpec := { name := "octetRows", fn := fun _ => fun
  | [d] => { results := [.lit (.bool true)], args := [d] }
  | _ => none }
def octetRowsRow : OpenClaim := { program := "ytelphnkbaeglaaa", sum := "f89161c5365a65f7f74aa46537b8e9774c09ce5b5a9aa0bbf15882d460322960", func := "slabvault/slabvaultlaw01.OctetRows", spec := "octetRows", unfollowed := true, recurses := true, apart := false }
def OctetRowsSaid : Prop := octetRowsRow.holds Try.pinned (OpenSpec.ofChange octetRowsSpec)

/-- ITS FALSE NEIGHBOUR: 'it returns false'. Refute it at one input. -/
def octetRowsWrong : ChangeSpec := { name := "octetRows", fn := fun _ => fun
  | [d] => { results := [.lit (.bool false)], args := [d] }
  | _ => none }
def OctetRowsWrongFalsely : Prop := octetRowsRow.holds Try.pinned (OpenSpec.ofChange octetRowsWrong)

/- THE SECOND FORM. 'bulk': how many values and letters a reading holds, each counted each time it is reached (what is shared counts as often as it is met; a slice's spare places count too). A statement '..UptoSaid' is the law's where the arguments, and the package variables that the reading takes, are together of bulk at most 1048576: NARROWER than '..Said'. Prove '..Said' where nothing that the law and all that it calls make is longer than what came in: it says more and counts as full. Else prove '..UptoSaid'. A law counts once. -/
mutual
def uptoBulk {H : Type} : DataW H → Nat
  | .lit (.string bytes) => bytes.length + 1
  | .lit _ => 1
  | .nil => 1
  | .ptr d => uptoBulk d + 1
  | .slice elems spare => uptoBulkAll elems + uptoBulkAll spare + 1
  | .agg parts => uptoBulkAll parts + 1
  | .iface _ d => uptoBulk d + 1
  | .map entries => uptoBulkEntries entries + 1
  | .held _ => 1
def uptoBulkAll {H : Type} : List (DataW H) → Nat
  | [] => 0
  | d :: r => uptoBulk d + uptoBulkAll r
def uptoBulkEntries {H : Type} : List (Lit × DataW H) → Nat
  | [] => 0
  | x :: r => uptoBulkEntry x + uptoBulkEntries r
def uptoBulkEntry {H : Type} : Lit × DataW H → Nat
  | (.string bytes, d) => bytes.length + uptoBulk d + 1
  | (_, d) => uptoBulk d + 1
 end
def uptoSmall : (H : Type) → List (DataW H) → Bool := fun _ ds => decide (uptoBulkAll ds ≤ 1048576)
def OpenSpec.upto (s : _root_.Go.ChangeSpec) : _root_.Go.OpenSpec := { _root_.Go.OpenSpec.ofChange s with cond := some uptoSmall }

/-- 'slabvaultlaw01.OctetPuts', WHERE WHAT IT READS IS OF BULK AT MOST 1048576: true; the input reads as it did. -/
def octetPutsUptoRow : OpenClaim := { program := "ytelphnkbaeglaaa", sum := "f89161c5365a65f7f74aa46537b8e9774c09ce5b5a9aa0bbf15882d460322960", func := "slabvault/slabvaultlaw01.OctetPuts", spec := "octetPuts", unfollowed := true, recurses := true, apart := false, narrowed := true }
def OctetPutsUptoSaid : Prop := octetPutsUptoRow.holds Try.pinned (OpenSpec.upto octetPutsSpec)

/-- 'slabvaultlaw01.OctetSigns', WHERE WHAT IT READS IS OF BULK AT MOST 1048576: true; the input reads as it did. -/
def octetSignsUptoRow : OpenClaim := { program := "ytelphnkbaeglaaa", sum := "f89161c5365a65f7f74aa46537b8e9774c09ce5b5a9aa0bbf15882d460322960", func := "slabvault/slabvaultlaw01.OctetSigns", spec := "octetSigns", unfollowed := true, recurses := true, apart := false, narrowed := true }
def OctetSignsUptoSaid : Prop := octetSignsUptoRow.holds Try.pinned (OpenSpec.upto octetSignsSpec)

/-- 'slabvaultlaw01.OctetGets', WHERE WHAT IT READS IS OF BULK AT MOST 1048576: true; the input reads as it did. -/
def octetGetsUptoRow : OpenClaim := { program := "ytelphnkbaeglaaa", sum := "f89161c5365a65f7f74aa46537b8e9774c09ce5b5a9aa0bbf15882d460322960", func := "slabvault/slabvaultlaw01.OctetGets", spec := "octetGets", unfollowed := true, recurses := true, apart := false, narrowed := true }
def OctetGetsUptoSaid : Prop := octetGetsUptoRow.holds Try.pinned (OpenSpec.upto octetGetsSpec)

/-- 'slabvaultlaw01.OctetSwaps', WHERE WHAT IT READS IS OF BULK AT MOST 1048576: true; the input reads as it did. -/
def octetSwapsUptoRow : OpenClaim := { program := "ytelphnkbaeglaaa", sum := "f89161c5365a65f7f74aa46537b8e9774c09ce5b5a9aa0bbf15882d460322960", func := "slabvault/slabvaultlaw01.OctetSwaps", spec := "octetSwaps", unfollowed := true, recurses := true, apart := false, narrowed := true }
def OctetSwapsUptoSaid : Prop := octetSwapsUptoRow.holds Try.pinned (OpenSpec.upto octetSwapsSpec)

/-- 'slabvaultlaw01.OctetBack', WHERE WHAT IT READS IS OF BULK AT MOST 1048576: true; the input reads as it did. -/
def octetBackUptoRow : OpenClaim := { program := "ytelphnkbaeglaaa", sum := "f89161c5365a65f7f74aa46537b8e9774c09ce5b5a9aa0bbf15882d460322960", func := "slabvault/slabvaultlaw01.OctetBack", spec := "octetBack", unfollowed := true, recurses := true, apart := false, narrowed := true }
def OctetBackUptoSaid : Prop := octetBackUptoRow.holds Try.pinned (OpenSpec.upto octetBackSpec)

/-- 'slabvaultlaw01.OctetRuns', WHERE WHAT IT READS IS OF BULK AT MOST 1048576: true; the input reads as it did. -/
def octetRunsUptoRow : OpenClaim := { program := "ytelphnkbaeglaaa", sum := "f89161c5365a65f7f74aa46537b8e9774c09ce5b5a9aa0bbf15882d460322960", func := "slabvault/slabvaultlaw01.OctetRuns", spec := "octetRuns", unfollowed := true, recurses := true, apart := false, narrowed := true }
def OctetRunsUptoSaid : Prop := octetRunsUptoRow.holds Try.pinned (OpenSpec.upto octetRunsSpec)

/-- 'slabvaultlaw01.OctetRows', WHERE WHAT IT READS IS OF BULK AT MOST 1048576: true; the input reads as it did. -/
def octetRowsUptoRow : OpenClaim := { program := "ytelphnkbaeglaaa", sum := "f89161c5365a65f7f74aa46537b8e9774c09ce5b5a9aa0bbf15882d460322960", func := "slabvault/slabvaultlaw01.OctetRows", spec := "octetRows", unfollowed := true, recurses := true, apart := false, narrowed := true }
def OctetRowsUptoSaid : Prop := octetRowsUptoRow.holds Try.pinned (OpenSpec.upto octetRowsSpec)

end Rows
end Go.Proofs.Ytelphnkbaeglaaa
