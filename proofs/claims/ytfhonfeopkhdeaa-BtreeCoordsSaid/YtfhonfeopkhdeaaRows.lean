/-
  No cell of these rows narrows 'for every input' (looked for: loops, veiled, ifaces, maps, wideKeys, modest, calm, conditions, laid).
  DERIVED. THE GIVEN ROWS OF THIS SEAT. 8 by the template 'for every input the law returns true; each argument reads behind the call as it read before'; 0 by the template 'total and deterministic' (their statements: YtfhonfeopkhdeaaTotals.lean).
  GIVEN WITH THE SEED: the statements are not yours to turn. If you find one false, say at which input.
  Laid BY PROGRAM, IN A SANDBOX (cutbox-rows.mjs): the forced cells as the released guide's own fill.sh prints them over the translation ddb6e6906627bbde… (all of the seat's roots in one cut). By AI agents, Wed Nov 11 2026. No macro, syntax, notation, axiom, sorry.
-/
import Derived.Test.YtfhonfeopkhdeaaChecked
import GoSem.Claim
import GoSem.ClaimJoined
import GoSem.ClaimMapViews
import Derived.JoinedTies
import Derived.KernelRfl
namespace Go.Proofs.Ytfhonfeopkhdeaa
/- THE CELL 'sum', in the pinned program and in every row, IS THE sha256 OF THE DUMP (.gsa) THAT YtfhonfeopkhdeaaProg.lean LOADS. Nothing in Lean hashes anything: it is a label: what it is worth is what the hold of that sum in a sandbox is worth. -/
noncomputable def Try.pinned : Pinned := { name := "ytfhonfeopkhdeaa", sum := "ddb6e6906627bbde726d76599c1a6ecd091dd348bf8615b87d70f7f5f09a5b58", checked := Try.checked }
namespace Rows
def none {H : Type} : Left H := { results := [], args := [] }

/-- 'slabvaultlaw07.BtreeOrders': WHATEVER THE INPUT: true; the input reads as it did. -/
def btreeOrdersSpec : ChangeSpec := { name := "btreeOrders", fn := fun _ => fun
  | [d1, d2, d3, d4] => { results := [.lit (.bool true)], args := [d1, d2, d3, d4] }
  | _ => none }
def btreeOrdersRow : OpenClaim := { program := "ytfhonfeopkhdeaa", sum := "ddb6e6906627bbde726d76599c1a6ecd091dd348bf8615b87d70f7f5f09a5b58", func := "slabvault/slabvaultlaw07.BtreeOrders", spec := "btreeOrders", inPlace := ["slices.overlaps[string]", "slices.overlaps[uint64]", "slices.overlaps[*slabvault/btree.node[string]]"], unfollowed := true, recurses := true, apart := false }
def BtreeOrdersSaid : Prop := btreeOrdersRow.holds Try.pinned (OpenSpec.ofChange btreeOrdersSpec)

/-- ITS FALSE NEIGHBOUR: 'it returns false'. Refute it at one input. -/
def btreeOrdersWrong : ChangeSpec := { name := "btreeOrders", fn := fun _ => fun
  | [d1, d2, d3, d4] => { results := [.lit (.bool false)], args := [d1, d2, d3, d4] }
  | _ => none }
def BtreeOrdersWrongFalsely : Prop := btreeOrdersRow.holds Try.pinned (OpenSpec.ofChange btreeOrdersWrong)

/-- 'slabvaultlaw07.BtreeBetween': WHATEVER THE INPUT: true; the input reads as it did. -/
def btreeBetweenSpec : ChangeSpec := { name := "btreeBetween", fn := fun _ => fun
  | [d1, d2] => { results := [.lit (.bool true)], args := [d1, d2] }
  | _ => none }
def btreeBetweenRow : OpenClaim := { program := "ytfhonfeopkhdeaa", sum := "ddb6e6906627bbde726d76599c1a6ecd091dd348bf8615b87d70f7f5f09a5b58", func := "slabvault/slabvaultlaw07.BtreeBetween", spec := "btreeBetween", inPlace := ["slices.overlaps[string]", "slices.overlaps[uint64]", "slices.overlaps[*slabvault/btree.node[string]]"], unfollowed := true, recurses := true, apart := false }
def BtreeBetweenSaid : Prop := btreeBetweenRow.holds Try.pinned (OpenSpec.ofChange btreeBetweenSpec)

/-- ITS FALSE NEIGHBOUR: 'it returns false'. Refute it at one input. -/
def btreeBetweenWrong : ChangeSpec := { name := "btreeBetween", fn := fun _ => fun
  | [d1, d2] => { results := [.lit (.bool false)], args := [d1, d2] }
  | _ => none }
def BtreeBetweenWrongFalsely : Prop := btreeBetweenRow.holds Try.pinned (OpenSpec.ofChange btreeBetweenWrong)

/-- 'slabvaultlaw07.BtreeShape': WHATEVER THE INPUT: true; the input reads as it did. -/
def btreeShapeSpec : ChangeSpec := { name := "btreeShape", fn := fun _ => fun
  | [d1, d2] => { results := [.lit (.bool true)], args := [d1, d2] }
  | _ => none }
def btreeShapeRow : OpenClaim := { program := "ytfhonfeopkhdeaa", sum := "ddb6e6906627bbde726d76599c1a6ecd091dd348bf8615b87d70f7f5f09a5b58", func := "slabvault/slabvaultlaw07.BtreeShape", spec := "btreeShape", inPlace := ["slices.overlaps[string]", "slices.overlaps[uint64]", "slices.overlaps[*slabvault/btree.node[string]]"], unfollowed := true, recurses := true, apart := false }
def BtreeShapeSaid : Prop := btreeShapeRow.holds Try.pinned (OpenSpec.ofChange btreeShapeSpec)

/-- ITS FALSE NEIGHBOUR: 'it returns false'. Refute it at one input. -/
def btreeShapeWrong : ChangeSpec := { name := "btreeShape", fn := fun _ => fun
  | [d1, d2] => { results := [.lit (.bool false)], args := [d1, d2] }
  | _ => none }
def BtreeShapeWrongFalsely : Prop := btreeShapeRow.holds Try.pinned (OpenSpec.ofChange btreeShapeWrong)

/-- 'slabvaultlaw07.BtreeDepth': WHATEVER THE INPUT: true; the input reads as it did. -/
def btreeDepthSpec : ChangeSpec := { name := "btreeDepth", fn := fun _ => fun
  | [d1, d2] => { results := [.lit (.bool true)], args := [d1, d2] }
  | _ => none }
def btreeDepthRow : OpenClaim := { program := "ytfhonfeopkhdeaa", sum := "ddb6e6906627bbde726d76599c1a6ecd091dd348bf8615b87d70f7f5f09a5b58", func := "slabvault/slabvaultlaw07.BtreeDepth", spec := "btreeDepth", inPlace := ["slices.overlaps[string]", "slices.overlaps[uint64]", "slices.overlaps[*slabvault/btree.node[string]]"], unfollowed := true, recurses := true, apart := false }
def BtreeDepthSaid : Prop := btreeDepthRow.holds Try.pinned (OpenSpec.ofChange btreeDepthSpec)

/-- ITS FALSE NEIGHBOUR: 'it returns false'. Refute it at one input. -/
def btreeDepthWrong : ChangeSpec := { name := "btreeDepth", fn := fun _ => fun
  | [d1, d2] => { results := [.lit (.bool false)], args := [d1, d2] }
  | _ => none }
def BtreeDepthWrongFalsely : Prop := btreeDepthRow.holds Try.pinned (OpenSpec.ofChange btreeDepthWrong)

/-- 'slabvaultlaw07.BtreeMixed': WHATEVER THE INPUT: true; the input reads as it did. -/
def btreeMixedSpec : ChangeSpec := { name := "btreeMixed", fn := fun _ => fun
  | [d1, d2, d3] => { results := [.lit (.bool true)], args := [d1, d2, d3] }
  | _ => none }
def btreeMixedRow : OpenClaim := { program := "ytfhonfeopkhdeaa", sum := "ddb6e6906627bbde726d76599c1a6ecd091dd348bf8615b87d70f7f5f09a5b58", func := "slabvault/slabvaultlaw07.BtreeMixed", spec := "btreeMixed", inPlace := ["slices.overlaps[string]", "slices.overlaps[uint64]", "slices.overlaps[*slabvault/btree.node[string]]"], unfollowed := true, recurses := true, apart := false }
def BtreeMixedSaid : Prop := btreeMixedRow.holds Try.pinned (OpenSpec.ofChange btreeMixedSpec)

/-- ITS FALSE NEIGHBOUR: 'it returns false'. Refute it at one input. -/
def btreeMixedWrong : ChangeSpec := { name := "btreeMixed", fn := fun _ => fun
  | [d1, d2, d3] => { results := [.lit (.bool false)], args := [d1, d2, d3] }
  | _ => none }
def BtreeMixedWrongFalsely : Prop := btreeMixedRow.holds Try.pinned (OpenSpec.ofChange btreeMixedWrong)

/-- 'slabvaultlaw07.BtreeNames': WHATEVER THE INPUT: true; the input reads as it did. -/
def btreeNamesSpec : ChangeSpec := { name := "btreeNames", fn := fun _ => fun
  | [d1, d2, d3] => { results := [.lit (.bool true)], args := [d1, d2, d3] }
  | _ => none }
def btreeNamesRow : OpenClaim := { program := "ytfhonfeopkhdeaa", sum := "ddb6e6906627bbde726d76599c1a6ecd091dd348bf8615b87d70f7f5f09a5b58", func := "slabvault/slabvaultlaw07.BtreeNames", spec := "btreeNames", inPlace := ["slices.overlaps[string]", "slices.overlaps[uint64]", "slices.overlaps[*slabvault/btree.node[string]]"], unfollowed := true, recurses := true, apart := false }
def BtreeNamesSaid : Prop := btreeNamesRow.holds Try.pinned (OpenSpec.ofChange btreeNamesSpec)

/-- ITS FALSE NEIGHBOUR: 'it returns false'. Refute it at one input. -/
def btreeNamesWrong : ChangeSpec := { name := "btreeNames", fn := fun _ => fun
  | [d1, d2, d3] => { results := [.lit (.bool false)], args := [d1, d2, d3] }
  | _ => none }
def BtreeNamesWrongFalsely : Prop := btreeNamesRow.holds Try.pinned (OpenSpec.ofChange btreeNamesWrong)

/-- 'slabvaultlaw07.BtreeNobody': WHATEVER THE INPUT: true; the input reads as it did. -/
def btreeNobodySpec : ChangeSpec := { name := "btreeNobody", fn := fun _ => fun
  | [d1, d2] => { results := [.lit (.bool true)], args := [d1, d2] }
  | _ => none }
def btreeNobodyRow : OpenClaim := { program := "ytfhonfeopkhdeaa", sum := "ddb6e6906627bbde726d76599c1a6ecd091dd348bf8615b87d70f7f5f09a5b58", func := "slabvault/slabvaultlaw07.BtreeNobody", spec := "btreeNobody", inPlace := ["slices.overlaps[string]", "slices.overlaps[uint64]", "slices.overlaps[*slabvault/btree.node[string]]"], unfollowed := true, recurses := true, apart := false }
def BtreeNobodySaid : Prop := btreeNobodyRow.holds Try.pinned (OpenSpec.ofChange btreeNobodySpec)

/-- ITS FALSE NEIGHBOUR: 'it returns false'. Refute it at one input. -/
def btreeNobodyWrong : ChangeSpec := { name := "btreeNobody", fn := fun _ => fun
  | [d1, d2] => { results := [.lit (.bool false)], args := [d1, d2] }
  | _ => none }
def BtreeNobodyWrongFalsely : Prop := btreeNobodyRow.holds Try.pinned (OpenSpec.ofChange btreeNobodyWrong)

/-- 'slabvaultlaw07.BtreeCoords': WHATEVER THE INPUT: true; the input reads as it did. -/
def btreeCoordsSpec : ChangeSpec := { name := "btreeCoords", fn := fun _ => fun
  | [d1, d2, d3] => { results := [.lit (.bool true)], args := [d1, d2, d3] }
  | _ => none }
def btreeCoordsRow : OpenClaim := { program := "ytfhonfeopkhdeaa", sum := "ddb6e6906627bbde726d76599c1a6ecd091dd348bf8615b87d70f7f5f09a5b58", func := "slabvault/slabvaultlaw07.BtreeCoords", spec := "btreeCoords", inPlace := ["slices.overlaps[string]", "slices.overlaps[uint64]", "slices.overlaps[*slabvault/btree.node[string]]", "slices.overlaps[[]int]", "slices.overlaps[*slabvault/btree.node[[]int]]"], unfollowed := true, recurses := true, apart := false }
def BtreeCoordsSaid : Prop := btreeCoordsRow.holds Try.pinned (OpenSpec.ofChange btreeCoordsSpec)

/-- ITS FALSE NEIGHBOUR: 'it returns false'. Refute it at one input. -/
def btreeCoordsWrong : ChangeSpec := { name := "btreeCoords", fn := fun _ => fun
  | [d1, d2, d3] => { results := [.lit (.bool false)], args := [d1, d2, d3] }
  | _ => none }
def BtreeCoordsWrongFalsely : Prop := btreeCoordsRow.holds Try.pinned (OpenSpec.ofChange btreeCoordsWrong)

/- THE SECOND FORM. 'bulk': how many values and letters a reading holds, each counted each time it is reached (what is shared counts as often as it is met; a slice's spare places count too). A statement '..UptoSaid' is the law's where the arguments, and the package variables that the reading takes, are together of bulk at most 1048576: NARROWER than '..Said'. Prove '..Said' where nothing that the law and all that it calls make is longer than what came in: it says more and counts as full. Else prove '..UptoSaid'. A law counts once. -/
mutual
def uptoBulk {H : Type} : DataW H → Nat
  | .lit (.string bytes) => bytes.length + 1
  | .lit _ => 1
  | .nil => 1
  | .ptr d => uptoBulk d + 1
  | .slice elems spare => uptoBulkAll elems + uptoBulkAll spare + 1
  | .agg parts => uptoBulkAll parts + 1
  | .iface _ d => uptoBulk d + 1
  | .map entries => uptoBulkEntries entries + 1
  | .held _ => 1
def uptoBulkAll {H : Type} : List (DataW H) → Nat
  | [] => 0
  | d :: r => uptoBulk d + uptoBulkAll r
def uptoBulkEntries {H : Type} : List (Lit × DataW H) → Nat
  | [] => 0
  | x :: r => uptoBulkEntry x + uptoBulkEntries r
def uptoBulkEntry {H : Type} : Lit × DataW H → Nat
  | (.string bytes, d) => bytes.length + uptoBulk d + 1
  | (_, d) => uptoBulk d + 1
 end
def uptoSmall : (H : Type) → List (DataW H) → Bool := fun _ ds => decide (uptoBulkAll ds ≤ 1048576)
def OpenSpec.upto (s : _root_.Go.ChangeSpec) : _root_.Go.OpenSpec := { _root_.Go.OpenSpec.ofChange s with cond := some uptoSmall }

/-- 'slabvaultlaw07.BtreeOrders', WHERE WHAT IT READS IS OF BULK AT MOST 1048576: true; the input reads as it did. -/
def btreeOrdersUptoRow : OpenClaim := { program := "ytfhonfeopkhdeaa", sum := "ddb6e6906627bbde726d76599c1a6ecd091dd348bf8615b87d70f7f5f09a5b58", func := "slabvault/slabvaultlaw07.BtreeOrders", spec := "btreeOrders", inPlace := ["slices.overlaps[string]", "slices.overlaps[uint64]", "slices.overlaps[*slabvault/btree.node[string]]"], unfollowed := true, recurses := true, apart := false, narrowed := true }
def BtreeOrdersUptoSaid : Prop := btreeOrdersUptoRow.holds Try.pinned (OpenSpec.upto btreeOrdersSpec)

/-- 'slabvaultlaw07.BtreeBetween', WHERE WHAT IT READS IS OF BULK AT MOST 1048576: true; the input reads as it did. -/
def btreeBetweenUptoRow : OpenClaim := { program := "ytfhonfeopkhdeaa", sum := "ddb6e6906627bbde726d76599c1a6ecd091dd348bf8615b87d70f7f5f09a5b58", func := "slabvault/slabvaultlaw07.BtreeBetween", spec := "btreeBetween", inPlace := ["slices.overlaps[string]", "slices.overlaps[uint64]", "slices.overlaps[*slabvault/btree.node[string]]"], unfollowed := true, recurses := true, apart := false, narrowed := true }
def BtreeBetweenUptoSaid : Prop := btreeBetweenUptoRow.holds Try.pinned (OpenSpec.upto btreeBetweenSpec)

/-- 'slabvaultlaw07.BtreeShape', WHERE WHAT IT READS IS OF BULK AT MOST 1048576: true; the input reads as it did. -/
def btreeShapeUptoRow : OpenClaim := { program := "ytfhonfeopkhdeaa", sum := "ddb6e6906627bbde726d76599c1a6ecd091dd348bf8615b87d70f7f5f09a5b58", func := "slabvault/slabvaultlaw07.BtreeShape", spec := "btreeShape", inPlace := ["slices.overlaps[string]", "slices.overlaps[uint64]", "slices.overlaps[*slabvault/btree.node[string]]"], unfollowed := true, recurses := true, apart := false, narrowed := true }
def BtreeShapeUptoSaid : Prop := btreeShapeUptoRow.holds Try.pinned (OpenSpec.upto btreeShapeSpec)

/-- 'slabvaultlaw07.BtreeDepth', WHERE WHAT IT READS IS OF BULK AT MOST 1048576: true; the input reads as it did. -/
def btreeDepthUptoRow : OpenClaim := { program := "ytfhonfeopkhdeaa", sum := "ddb6e6906627bbde726d76599c1a6ecd091dd348bf8615b87d70f7f5f09a5b58", func := "slabvault/slabvaultlaw07.BtreeDepth", spec := "btreeDepth", inPlace := ["slices.overlaps[string]", "slices.overlaps[uint64]", "slices.overlaps[*slabvault/btree.node[string]]"], unfollowed := true, recurses := true, apart := false, narrowed := true }
def BtreeDepthUptoSaid : Prop := btreeDepthUptoRow.holds Try.pinned (OpenSpec.upto btreeDepthSpec)

/-- 'slabvaultlaw07.BtreeMixed', WHERE WHAT IT READS IS OF BULK AT MOST 1048576: true; the input reads as it did. -/
def btreeMixedUptoRow : OpenClaim := { program := "ytfhonfeopkhdeaa", sum := "ddb6e6906627bbde726d76599c1a6ecd091dd348bf8615b87d70f7f5f09a5b58", func := "slabvault/slabvaultlaw07.BtreeMixed", spec := "btreeMixed", inPlace := ["slices.overlaps[string]", "slices.overlaps[uint64]", "slices.overlaps[*slabvault/btree.node[string]]"], unfollowed := true, recurses := true, apart := false, narrowed := true }
def BtreeMixedUptoSaid : Prop := btreeMixedUptoRow.holds Try.pinned (OpenSpec.upto btreeMixedSpec)

/-- 'slabvaultlaw07.BtreeNames', WHERE WHAT IT READS IS OF BULK AT MOST 1048576: true; the input reads as it did. -/
def btreeNamesUptoRow : OpenClaim := { program := "ytfhonfeopkhdeaa", sum := "ddb6e6906627bbde726d76599c1a6ecd091dd348bf8615b87d70f7f5f09a5b58", func := "slabvault/slabvaultlaw07.BtreeNames", spec := "btreeNames", inPlace := ["slices.overlaps[string]", "slices.overlaps[uint64]", "slices.overlaps[*slabvault/btree.node[string]]"], unfollowed := true, recurses := true, apart := false, narrowed := true }
def BtreeNamesUptoSaid : Prop := btreeNamesUptoRow.holds Try.pinned (OpenSpec.upto btreeNamesSpec)

/-- 'slabvaultlaw07.BtreeNobody', WHERE WHAT IT READS IS OF BULK AT MOST 1048576: true; the input reads as it did. -/
def btreeNobodyUptoRow : OpenClaim := { program := "ytfhonfeopkhdeaa", sum := "ddb6e6906627bbde726d76599c1a6ecd091dd348bf8615b87d70f7f5f09a5b58", func := "slabvault/slabvaultlaw07.BtreeNobody", spec := "btreeNobody", inPlace := ["slices.overlaps[string]", "slices.overlaps[uint64]", "slices.overlaps[*slabvault/btree.node[string]]"], unfollowed := true, recurses := true, apart := false, narrowed := true }
def BtreeNobodyUptoSaid : Prop := btreeNobodyUptoRow.holds Try.pinned (OpenSpec.upto btreeNobodySpec)

/-- 'slabvaultlaw07.BtreeCoords', WHERE WHAT IT READS IS OF BULK AT MOST 1048576: true; the input reads as it did. -/
def btreeCoordsUptoRow : OpenClaim := { program := "ytfhonfeopkhdeaa", sum := "ddb6e6906627bbde726d76599c1a6ecd091dd348bf8615b87d70f7f5f09a5b58", func := "slabvault/slabvaultlaw07.BtreeCoords", spec := "btreeCoords", inPlace := ["slices.overlaps[string]", "slices.overlaps[uint64]", "slices.overlaps[*slabvault/btree.node[string]]", "slices.overlaps[[]int]", "slices.overlaps[*slabvault/btree.node[[]int]]"], unfollowed := true, recurses := true, apart := false, narrowed := true }
def BtreeCoordsUptoSaid : Prop := btreeCoordsUptoRow.holds Try.pinned (OpenSpec.upto btreeCoordsSpec)

end Rows
end Go.Proofs.Ytfhonfeopkhdeaa
