/-
  No cell of these rows narrows 'for every input' (looked for: loops, veiled, ifaces, maps, wideKeys, modest, calm, conditions, laid).
  DERIVED. THE GIVEN ROWS OF THIS SEAT. 7 by the template 'for every input the law returns true; each argument reads behind the call as it read before'; 0 by the template 'total and deterministic' (their statements: YtdfpikimeihefaaTotals.lean).
  GIVEN WITH THE SEED: the statements are not yours to turn. If you find one false, say at which input.
  Laid BY PROGRAM, IN A SANDBOX (cutbox-rows.mjs): the forced cells as the released guide's own fill.sh prints them over the translation 7f9fecd12075ac72… (all of the seat's roots in one cut). By AI agents, Wed Nov 11 2026. No macro, syntax, notation, axiom, sorry.
-/
import Derived.Test.YtdfpikimeihefaaChecked
import GoSem.Claim
import GoSem.ClaimJoined
import GoSem.ClaimMapViews
import Derived.JoinedTies
import Derived.KernelRfl
namespace Go.Proofs.Ytdfpikimeihefaa
/- THE CELL 'sum', in the pinned program and in every row, IS THE sha256 OF THE DUMP (.gsa) THAT YtdfpikimeihefaaProg.lean LOADS. Nothing in Lean hashes anything: it is a label: what it is worth is what the hold of that sum in a sandbox is worth. -/
noncomputable def Try.pinned : Pinned := { name := "ytdfpikimeihefaa", sum := "7f9fecd12075ac72c14d0e0a0d3e13bc93b092f45120a17005f74ef68aae8d12", checked := Try.checked }
namespace Rows
def none {H : Type} : Left H := { results := [], args := [] }

/-- 'slabvaultlaw16.FilterChecks': WHATEVER THE INPUT: true; the input reads as it did. -/
def filterChecksSpec : ChangeSpec := { name := "filterChecks", fn := fun _ => fun
  | [d] => { results := [.lit (.bool true)], args := [d] }
  | _ => none }
def filterChecksRow : OpenClaim := { program := "ytdfpikimeihefaa", sum := "7f9fecd12075ac72c14d0e0a0d3e13bc93b092f45120a17005f74ef68aae8d12", func := "slabvault/slabvaultlaw16.FilterChecks", spec := "filterChecks", inPlace := ["slices.overlaps[byte]"], unfollowed := true, recurses := true, apart := false }
def FilterChecksSaid : Prop := filterChecksRow.holds Try.pinned (OpenSpec.ofChange filterChecksSpec)

/-- ITS FALSE NEIGHBOUR: 'it returns false'. Refute it at one input. -/
def filterChecksWrong : ChangeSpec := { name := "filterChecks", fn := fun _ => fun
  | [d] => { results := [.lit (.bool false)], args := [d] }
  | _ => none }
def FilterChecksWrongFalsely : Prop := filterChecksRow.holds Try.pinned (OpenSpec.ofChange filterChecksWrong)

/-- 'slabvaultlaw16.FilterApplies': WHATEVER THE INPUT: true; the input reads as it did. -/
def filterAppliesSpec : ChangeSpec := { name := "filterApplies", fn := fun _ => fun
  | [d1, d2] => { results := [.lit (.bool true)], args := [d1, d2] }
  | _ => none }
def filterAppliesRow : OpenClaim := { program := "ytdfpikimeihefaa", sum := "7f9fecd12075ac72c14d0e0a0d3e13bc93b092f45120a17005f74ef68aae8d12", func := "slabvault/slabvaultlaw16.FilterApplies", spec := "filterApplies", inPlace := ["slices.overlaps[byte]"], unfollowed := true, recurses := true, apart := false }
def FilterAppliesSaid : Prop := filterAppliesRow.holds Try.pinned (OpenSpec.ofChange filterAppliesSpec)

/-- ITS FALSE NEIGHBOUR: 'it returns false'. Refute it at one input. -/
def filterAppliesWrong : ChangeSpec := { name := "filterApplies", fn := fun _ => fun
  | [d1, d2] => { results := [.lit (.bool false)], args := [d1, d2] }
  | _ => none }
def FilterAppliesWrongFalsely : Prop := filterAppliesRow.holds Try.pinned (OpenSpec.ofChange filterAppliesWrong)

/-- 'slabvaultlaw16.FilterUndoes': WHATEVER THE INPUT: true; the input reads as it did. -/
def filterUndoesSpec : ChangeSpec := { name := "filterUndoes", fn := fun _ => fun
  | [d1, d2, d3] => { results := [.lit (.bool true)], args := [d1, d2, d3] }
  | _ => none }
def filterUndoesRow : OpenClaim := { program := "ytdfpikimeihefaa", sum := "7f9fecd12075ac72c14d0e0a0d3e13bc93b092f45120a17005f74ef68aae8d12", func := "slabvault/slabvaultlaw16.FilterUndoes", spec := "filterUndoes", inPlace := ["slices.overlaps[byte]"], unfollowed := true, recurses := true, apart := false }
def FilterUndoesSaid : Prop := filterUndoesRow.holds Try.pinned (OpenSpec.ofChange filterUndoesSpec)

/-- ITS FALSE NEIGHBOUR: 'it returns false'. Refute it at one input. -/
def filterUndoesWrong : ChangeSpec := { name := "filterUndoes", fn := fun _ => fun
  | [d1, d2, d3] => { results := [.lit (.bool false)], args := [d1, d2, d3] }
  | _ => none }
def FilterUndoesWrongFalsely : Prop := filterUndoesRow.holds Try.pinned (OpenSpec.ofChange filterUndoesWrong)

/-- 'slabvaultlaw16.FilterBack': WHATEVER THE INPUT: true; the input reads as it did. -/
def filterBackSpec : ChangeSpec := { name := "filterBack", fn := fun _ => fun
  | [d1, d2] => { results := [.lit (.bool true)], args := [d1, d2] }
  | _ => none }
def filterBackRow : OpenClaim := { program := "ytdfpikimeihefaa", sum := "7f9fecd12075ac72c14d0e0a0d3e13bc93b092f45120a17005f74ef68aae8d12", func := "slabvault/slabvaultlaw16.FilterBack", spec := "filterBack", inPlace := ["slices.overlaps[byte]"], unfollowed := true, recurses := true, apart := false }
def FilterBackSaid : Prop := filterBackRow.holds Try.pinned (OpenSpec.ofChange filterBackSpec)

/-- ITS FALSE NEIGHBOUR: 'it returns false'. Refute it at one input. -/
def filterBackWrong : ChangeSpec := { name := "filterBack", fn := fun _ => fun
  | [d1, d2] => { results := [.lit (.bool false)], args := [d1, d2] }
  | _ => none }
def FilterBackWrongFalsely : Prop := filterBackRow.holds Try.pinned (OpenSpec.ofChange filterBackWrong)

/-- 'slabvaultlaw16.FilterBound': WHATEVER THE INPUT: true; the input reads as it did. -/
def filterBoundSpec : ChangeSpec := { name := "filterBound", fn := fun _ => fun
  | [d1, d2] => { results := [.lit (.bool true)], args := [d1, d2] }
  | _ => none }
def filterBoundRow : OpenClaim := { program := "ytdfpikimeihefaa", sum := "7f9fecd12075ac72c14d0e0a0d3e13bc93b092f45120a17005f74ef68aae8d12", func := "slabvault/slabvaultlaw16.FilterBound", spec := "filterBound", inPlace := ["slices.overlaps[byte]"], unfollowed := true, recurses := true, apart := false }
def FilterBoundSaid : Prop := filterBoundRow.holds Try.pinned (OpenSpec.ofChange filterBoundSpec)

/-- ITS FALSE NEIGHBOUR: 'it returns false'. Refute it at one input. -/
def filterBoundWrong : ChangeSpec := { name := "filterBound", fn := fun _ => fun
  | [d1, d2] => { results := [.lit (.bool false)], args := [d1, d2] }
  | _ => none }
def FilterBoundWrongFalsely : Prop := filterBoundRow.holds Try.pinned (OpenSpec.ofChange filterBoundWrong)

/-- 'slabvaultlaw16.FilterAlike': WHATEVER THE INPUT: true; the input reads as it did. -/
def filterAlikeSpec : ChangeSpec := { name := "filterAlike", fn := fun _ => fun
  | [d1, d2, d3] => { results := [.lit (.bool true)], args := [d1, d2, d3] }
  | _ => none }
def filterAlikeRow : OpenClaim := { program := "ytdfpikimeihefaa", sum := "7f9fecd12075ac72c14d0e0a0d3e13bc93b092f45120a17005f74ef68aae8d12", func := "slabvault/slabvaultlaw16.FilterAlike", spec := "filterAlike", inPlace := ["slices.overlaps[byte]"], unfollowed := true, recurses := true, apart := false }
def FilterAlikeSaid : Prop := filterAlikeRow.holds Try.pinned (OpenSpec.ofChange filterAlikeSpec)

/-- ITS FALSE NEIGHBOUR: 'it returns false'. Refute it at one input. -/
def filterAlikeWrong : ChangeSpec := { name := "filterAlike", fn := fun _ => fun
  | [d1, d2, d3] => { results := [.lit (.bool false)], args := [d1, d2, d3] }
  | _ => none }
def FilterAlikeWrongFalsely : Prop := filterAlikeRow.holds Try.pinned (OpenSpec.ofChange filterAlikeWrong)

/-- 'slabvaultlaw16.FilterTurned': WHATEVER THE INPUT: true; the input reads as it did. -/
def filterTurnedSpec : ChangeSpec := { name := "filterTurned", fn := fun _ => fun
  | [d1, d2, d3, d4] => { results := [.lit (.bool true)], args := [d1, d2, d3, d4] }
  | _ => none }
def filterTurnedRow : OpenClaim := { program := "ytdfpikimeihefaa", sum := "7f9fecd12075ac72c14d0e0a0d3e13bc93b092f45120a17005f74ef68aae8d12", func := "slabvault/slabvaultlaw16.FilterTurned", spec := "filterTurned", inPlace := ["slices.overlaps[byte]"], unfollowed := true, recurses := true, apart := false }
def FilterTurnedSaid : Prop := filterTurnedRow.holds Try.pinned (OpenSpec.ofChange filterTurnedSpec)

/-- ITS FALSE NEIGHBOUR: 'it returns false'. Refute it at one input. -/
def filterTurnedWrong : ChangeSpec := { name := "filterTurned", fn := fun _ => fun
  | [d1, d2, d3, d4] => { results := [.lit (.bool false)], args := [d1, d2, d3, d4] }
  | _ => none }
def FilterTurnedWrongFalsely : Prop := filterTurnedRow.holds Try.pinned (OpenSpec.ofChange filterTurnedWrong)

/- THE SECOND FORM. 'bulk': how many values and letters a reading holds, each counted each time it is reached (what is shared counts as often as it is met; a slice's spare places count too). A statement '..UptoSaid' is the law's where the arguments, and the package variables that the reading takes, are together of bulk at most 1048576: NARROWER than '..Said'. Prove '..Said' where nothing that the law and all that it calls make is longer than what came in: it says more and counts as full. Else prove '..UptoSaid'. A law counts once. -/
mutual
def uptoBulk {H : Type} : DataW H → Nat
  | .lit (.string bytes) => bytes.length + 1
  | .lit _ => 1
  | .nil => 1
  | .ptr d => uptoBulk d + 1
  | .slice elems spare => uptoBulkAll elems + uptoBulkAll spare + 1
  | .agg parts => uptoBulkAll parts + 1
  | .iface _ d => uptoBulk d + 1
  | .map entries => uptoBulkEntries entries + 1
  | .held _ => 1
def uptoBulkAll {H : Type} : List (DataW H) → Nat
  | [] => 0
  | d :: r => uptoBulk d + uptoBulkAll r
def uptoBulkEntries {H : Type} : List (Lit × DataW H) → Nat
  | [] => 0
  | x :: r => uptoBulkEntry x + uptoBulkEntries r
def uptoBulkEntry {H : Type} : Lit × DataW H → Nat
  | (.string bytes, d) => bytes.length + uptoBulk d + 1
  | (_, d) => uptoBulk d + 1
 end
def uptoSmall : (H : Type) → List (DataW H) → Bool := fun _ ds => decide (uptoBulkAll ds ≤ 1048576)
def OpenSpec.upto (s : _root_.Go.ChangeSpec) : _root_.Go.OpenSpec := { _root_.Go.OpenSpec.ofChange s with cond := some uptoSmall }

/-- 'slabvaultlaw16.FilterChecks', WHERE WHAT IT READS IS OF BULK AT MOST 1048576: true; the input reads as it did. -/
def filterChecksUptoRow : OpenClaim := { program := "ytdfpikimeihefaa", sum := "7f9fecd12075ac72c14d0e0a0d3e13bc93b092f45120a17005f74ef68aae8d12", func := "slabvault/slabvaultlaw16.FilterChecks", spec := "filterChecks", inPlace := ["slices.overlaps[byte]"], unfollowed := true, recurses := true, apart := false, narrowed := true }
def FilterChecksUptoSaid : Prop := filterChecksUptoRow.holds Try.pinned (OpenSpec.upto filterChecksSpec)

/-- 'slabvaultlaw16.FilterApplies', WHERE WHAT IT READS IS OF BULK AT MOST 1048576: true; the input reads as it did. -/
def filterAppliesUptoRow : OpenClaim := { program := "ytdfpikimeihefaa", sum := "7f9fecd12075ac72c14d0e0a0d3e13bc93b092f45120a17005f74ef68aae8d12", func := "slabvault/slabvaultlaw16.FilterApplies", spec := "filterApplies", inPlace := ["slices.overlaps[byte]"], unfollowed := true, recurses := true, apart := false, narrowed := true }
def FilterAppliesUptoSaid : Prop := filterAppliesUptoRow.holds Try.pinned (OpenSpec.upto filterAppliesSpec)

/-- 'slabvaultlaw16.FilterUndoes', WHERE WHAT IT READS IS OF BULK AT MOST 1048576: true; the input reads as it did. -/
def filterUndoesUptoRow : OpenClaim := { program := "ytdfpikimeihefaa", sum := "7f9fecd12075ac72c14d0e0a0d3e13bc93b092f45120a17005f74ef68aae8d12", func := "slabvault/slabvaultlaw16.FilterUndoes", spec := "filterUndoes", inPlace := ["slices.overlaps[byte]"], unfollowed := true, recurses := true, apart := false, narrowed := true }
def FilterUndoesUptoSaid : Prop := filterUndoesUptoRow.holds Try.pinned (OpenSpec.upto filterUndoesSpec)

/-- 'slabvaultlaw16.FilterBack', WHERE WHAT IT READS IS OF BULK AT MOST 1048576: true; the input reads as it did. -/
def filterBackUptoRow : OpenClaim := { program := "ytdfpikimeihefaa", sum := "7f9fecd12075ac72c14d0e0a0d3e13bc93b092f45120a17005f74ef68aae8d12", func := "slabvault/slabvaultlaw16.FilterBack", spec := "filterBack", inPlace := ["slices.overlaps[byte]"], unfollowed := true, recurses := true, apart := false, narrowed := true }
def FilterBackUptoSaid : Prop := filterBackUptoRow.holds Try.pinned (OpenSpec.upto filterBackSpec)

/-- 'slabvaultlaw16.FilterBound', WHERE WHAT IT READS IS OF BULK AT MOST 1048576: true; the input reads as it did. -/
def filterBoundUptoRow : OpenClaim := { program := "ytdfpikimeihefaa", sum := "7f9fecd12075ac72c14d0e0a0d3e13bc93b092f45120a17005f74ef68aae8d12", func := "slabvault/slabvaultlaw16.FilterBound", spec := "filterBound", inPlace := ["slices.overlaps[byte]"], unfollowed := true, recurses := true, apart := false, narrowed := true }
def FilterBoundUptoSaid : Prop := filterBoundUptoRow.holds Try.pinned (OpenSpec.upto filterBoundSpec)

/-- 'slabvaultlaw16.FilterAlike', WHERE WHAT IT READS IS OF BULK AT MOST 1048576: true; the input reads as it did. -/
def filterAlikeUptoRow : OpenClaim := { program := "ytdfpikimeihefaa", sum := "7f9fecd12075ac72c14d0e0a0d3e13bc93b092f45120a17005f74ef68aae8d12", func := "slabvault/slabvaultlaw16.FilterAlike", spec := "filterAlike", inPlace := ["slices.overlaps[byte]"], unfollowed := true, recurses := true, apart := false, narrowed := true }
def FilterAlikeUptoSaid : Prop := filterAlikeUptoRow.holds Try.pinned (OpenSpec.upto filterAlikeSpec)

/-- 'slabvaultlaw16.FilterTurned', WHERE WHAT IT READS IS OF BULK AT MOST 1048576: true; the input reads as it did. -/
def filterTurnedUptoRow : OpenClaim := { program := "ytdfpikimeihefaa", sum := "7f9fecd12075ac72c14d0e0a0d3e13bc93b092f45120a17005f74ef68aae8d12", func := "slabvault/slabvaultlaw16.FilterTurned", spec := "filterTurned", inPlace := ["slices.overlaps[byte]"], unfollowed := true, recurses := true, apart := false, narrowed := true }
def FilterTurnedUptoSaid : Prop := filterTurnedUptoRow.holds Try.pinned (OpenSpec.upto filterTurnedSpec)

end Rows
end Go.Proofs.Ytdfpikimeihefaa
