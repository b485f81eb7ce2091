/-
  No cell of these rows narrows 'for every input' (looked for: loops, veiled, ifaces, maps, wideKeys, modest, calm, conditions, laid).
  DERIVED. THE GIVEN ROWS OF THIS SEAT. 12 by the template 'for every input the law returns true; each argument reads behind the call as it read before'; 0 by the template 'total and deterministic' (their statements: YthbnhepmmiiikaaTotals.lean).
  GIVEN WITH THE SEED: the statements are not yours to turn. If you find one false, say at which input.
  Laid BY PROGRAM, IN A SANDBOX (cutbox-rows.mjs): the forced cells as the released guide's own fill.sh prints them over the translation fc679709b9bb74da… (all of the seat's roots in one cut). By AI agents, Wed Nov 11 2026. No macro, syntax, notation, axiom, sorry.
-/
import Derived.Test.YthbnhepmmiiikaaChecked
import GoSem.Claim
import GoSem.ClaimJoined
import GoSem.ClaimMapViews
import Derived.JoinedTies
import Derived.KernelRfl
namespace Go.Proofs.Ythbnhepmmiiikaa
/- THE CELL 'sum', in the pinned program and in every row, IS THE sha256 OF THE DUMP (.gsa) THAT YthbnhepmmiiikaaProg.lean LOADS. Nothing in Lean hashes anything: it is a label: what it is worth is what the hold of that sum in a sandbox is worth. -/
noncomputable def Try.pinned : Pinned := { name := "ythbnhepmmiiikaa", sum := "fc679709b9bb74da5b0547a90828626179c1390807019aaaeb4bbd02dc363ae7", checked := Try.checked }
namespace Rows
def none {H : Type} : Left H := { results := [], args := [] }

/-- 'slabvaultlaw14.ShuffleBytes': WHATEVER THE INPUT: true; the input reads as it did. -/
def shuffleBytesSpec : ChangeSpec := { name := "shuffleBytes", fn := fun _ => fun
  | [d1, d2] => { results := [.lit (.bool true)], args := [d1, d2] }
  | _ => none }
def shuffleBytesRow : OpenClaim := { program := "ythbnhepmmiiikaa", sum := "fc679709b9bb74da5b0547a90828626179c1390807019aaaeb4bbd02dc363ae7", func := "slabvault/slabvaultlaw14.ShuffleBytes", spec := "shuffleBytes", unfollowed := true, recurses := true, apart := false }
def ShuffleBytesSaid : Prop := shuffleBytesRow.holds Try.pinned (OpenSpec.ofChange shuffleBytesSpec)

/-- ITS FALSE NEIGHBOUR: 'it returns false'. Refute it at one input. -/
def shuffleBytesWrong : ChangeSpec := { name := "shuffleBytes", fn := fun _ => fun
  | [d1, d2] => { results := [.lit (.bool false)], args := [d1, d2] }
  | _ => none }
def ShuffleBytesWrongFalsely : Prop := shuffleBytesRow.holds Try.pinned (OpenSpec.ofChange shuffleBytesWrong)

/-- 'slabvaultlaw14.ShuffleSteps': WHATEVER THE INPUT: true; the input reads as it did. -/
def shuffleStepsSpec : ChangeSpec := { name := "shuffleSteps", fn := fun _ => fun
  | [d1, d2, d3, d4] => { results := [.lit (.bool true)], args := [d1, d2, d3, d4] }
  | _ => none }
def shuffleStepsRow : OpenClaim := { program := "ythbnhepmmiiikaa", sum := "fc679709b9bb74da5b0547a90828626179c1390807019aaaeb4bbd02dc363ae7", func := "slabvault/slabvaultlaw14.ShuffleSteps", spec := "shuffleSteps", unfollowed := true, recurses := true, apart := false }
def ShuffleStepsSaid : Prop := shuffleStepsRow.holds Try.pinned (OpenSpec.ofChange shuffleStepsSpec)

/-- ITS FALSE NEIGHBOUR: 'it returns false'. Refute it at one input. -/
def shuffleStepsWrong : ChangeSpec := { name := "shuffleSteps", fn := fun _ => fun
  | [d1, d2, d3, d4] => { results := [.lit (.bool false)], args := [d1, d2, d3, d4] }
  | _ => none }
def ShuffleStepsWrongFalsely : Prop := shuffleStepsRow.holds Try.pinned (OpenSpec.ofChange shuffleStepsWrong)

/-- 'slabvaultlaw14.ShuffleMixes': WHATEVER THE INPUT: true; the input reads as it did. -/
def shuffleMixesSpec : ChangeSpec := { name := "shuffleMixes", fn := fun _ => fun
  | [d1, d2] => { results := [.lit (.bool true)], args := [d1, d2] }
  | _ => none }
def shuffleMixesRow : OpenClaim := { program := "ythbnhepmmiiikaa", sum := "fc679709b9bb74da5b0547a90828626179c1390807019aaaeb4bbd02dc363ae7", func := "slabvault/slabvaultlaw14.ShuffleMixes", spec := "shuffleMixes", unfollowed := true, recurses := true, apart := false }
def ShuffleMixesSaid : Prop := shuffleMixesRow.holds Try.pinned (OpenSpec.ofChange shuffleMixesSpec)

/-- ITS FALSE NEIGHBOUR: 'it returns false'. Refute it at one input. -/
def shuffleMixesWrong : ChangeSpec := { name := "shuffleMixes", fn := fun _ => fun
  | [d1, d2] => { results := [.lit (.bool false)], args := [d1, d2] }
  | _ => none }
def ShuffleMixesWrongFalsely : Prop := shuffleMixesRow.holds Try.pinned (OpenSpec.ofChange shuffleMixesWrong)

/-- 'slabvaultlaw14.ShuffleDeltas': WHATEVER THE INPUT: true; the input reads as it did. -/
def shuffleDeltasSpec : ChangeSpec := { name := "shuffleDeltas", fn := fun _ => fun
  | [d1, d2] => { results := [.lit (.bool true)], args := [d1, d2] }
  | _ => none }
def shuffleDeltasRow : OpenClaim := { program := "ythbnhepmmiiikaa", sum := "fc679709b9bb74da5b0547a90828626179c1390807019aaaeb4bbd02dc363ae7", func := "slabvault/slabvaultlaw14.ShuffleDeltas", spec := "shuffleDeltas", unfollowed := true, recurses := true, apart := false }
def ShuffleDeltasSaid : Prop := shuffleDeltasRow.holds Try.pinned (OpenSpec.ofChange shuffleDeltasSpec)

/-- ITS FALSE NEIGHBOUR: 'it returns false'. Refute it at one input. -/
def shuffleDeltasWrong : ChangeSpec := { name := "shuffleDeltas", fn := fun _ => fun
  | [d1, d2] => { results := [.lit (.bool false)], args := [d1, d2] }
  | _ => none }
def ShuffleDeltasWrongFalsely : Prop := shuffleDeltasRow.holds Try.pinned (OpenSpec.ofChange shuffleDeltasWrong)

/-- 'slabvaultlaw14.ShuffleBack': WHATEVER THE INPUT: true; the input reads as it did. -/
def shuffleBackSpec : ChangeSpec := { name := "shuffleBack", fn := fun _ => fun
  | [d1, d2] => { results := [.lit (.bool true)], args := [d1, d2] }
  | _ => none }
def shuffleBackRow : OpenClaim := { program := "ythbnhepmmiiikaa", sum := "fc679709b9bb74da5b0547a90828626179c1390807019aaaeb4bbd02dc363ae7", func := "slabvault/slabvaultlaw14.ShuffleBack", spec := "shuffleBack", unfollowed := true, recurses := true, apart := false }
def ShuffleBackSaid : Prop := shuffleBackRow.holds Try.pinned (OpenSpec.ofChange shuffleBackSpec)

/-- ITS FALSE NEIGHBOUR: 'it returns false'. Refute it at one input. -/
def shuffleBackWrong : ChangeSpec := { name := "shuffleBack", fn := fun _ => fun
  | [d1, d2] => { results := [.lit (.bool false)], args := [d1, d2] }
  | _ => none }
def ShuffleBackWrongFalsely : Prop := shuffleBackRow.holds Try.pinned (OpenSpec.ofChange shuffleBackWrong)

/-- 'slabvaultlaw15.MatchPacks': WHATEVER THE INPUT: true; the input reads as it did. -/
def matchPacksSpec : ChangeSpec := { name := "matchPacks", fn := fun _ => fun
  | [d] => { results := [.lit (.bool true)], args := [d] }
  | _ => none }
def matchPacksRow : OpenClaim := { program := "ythbnhepmmiiikaa", sum := "fc679709b9bb74da5b0547a90828626179c1390807019aaaeb4bbd02dc363ae7", func := "slabvault/slabvaultlaw15.MatchPacks", spec := "matchPacks", inPlace := ["slices.overlaps[byte]"], unfollowed := true, recurses := true, apart := false }
def MatchPacksSaid : Prop := matchPacksRow.holds Try.pinned (OpenSpec.ofChange matchPacksSpec)

/-- ITS FALSE NEIGHBOUR: 'it returns false'. Refute it at one input. -/
def matchPacksWrong : ChangeSpec := { name := "matchPacks", fn := fun _ => fun
  | [d] => { results := [.lit (.bool false)], args := [d] }
  | _ => none }
def MatchPacksWrongFalsely : Prop := matchPacksRow.holds Try.pinned (OpenSpec.ofChange matchPacksWrong)

/-- 'slabvaultlaw15.MatchUnpacks': WHATEVER THE INPUT: true; the input reads as it did. -/
def matchUnpacksSpec : ChangeSpec := { name := "matchUnpacks", fn := fun _ => fun
  | [d1, d2] => { results := [.lit (.bool true)], args := [d1, d2] }
  | _ => none }
def matchUnpacksRow : OpenClaim := { program := "ythbnhepmmiiikaa", sum := "fc679709b9bb74da5b0547a90828626179c1390807019aaaeb4bbd02dc363ae7", func := "slabvault/slabvaultlaw15.MatchUnpacks", spec := "matchUnpacks", inPlace := ["slices.overlaps[byte]"], unfollowed := true, recurses := true, apart := false }
def MatchUnpacksSaid : Prop := matchUnpacksRow.holds Try.pinned (OpenSpec.ofChange matchUnpacksSpec)

/-- ITS FALSE NEIGHBOUR: 'it returns false'. Refute it at one input. -/
def matchUnpacksWrong : ChangeSpec := { name := "matchUnpacks", fn := fun _ => fun
  | [d1, d2] => { results := [.lit (.bool false)], args := [d1, d2] }
  | _ => none }
def MatchUnpacksWrongFalsely : Prop := matchUnpacksRow.holds Try.pinned (OpenSpec.ofChange matchUnpacksWrong)

/-- 'slabvaultlaw15.MatchBack': WHATEVER THE INPUT: true; the input reads as it did. -/
def matchBackSpec : ChangeSpec := { name := "matchBack", fn := fun _ => fun
  | [d] => { results := [.lit (.bool true)], args := [d] }
  | _ => none }
def matchBackRow : OpenClaim := { program := "ythbnhepmmiiikaa", sum := "fc679709b9bb74da5b0547a90828626179c1390807019aaaeb4bbd02dc363ae7", func := "slabvault/slabvaultlaw15.MatchBack", spec := "matchBack", inPlace := ["slices.overlaps[byte]"], unfollowed := true, recurses := true, apart := false }
def MatchBackSaid : Prop := matchBackRow.holds Try.pinned (OpenSpec.ofChange matchBackSpec)

/-- ITS FALSE NEIGHBOUR: 'it returns false'. Refute it at one input. -/
def matchBackWrong : ChangeSpec := { name := "matchBack", fn := fun _ => fun
  | [d] => { results := [.lit (.bool false)], args := [d] }
  | _ => none }
def MatchBackWrongFalsely : Prop := matchBackRow.holds Try.pinned (OpenSpec.ofChange matchBackWrong)

/-- 'slabvaultlaw15.MatchShort': WHATEVER THE INPUT: true; the input reads as it did. -/
def matchShortSpec : ChangeSpec := { name := "matchShort", fn := fun _ => fun
  | [d] => { results := [.lit (.bool true)], args := [d] }
  | _ => none }
def matchShortRow : OpenClaim := { program := "ythbnhepmmiiikaa", sum := "fc679709b9bb74da5b0547a90828626179c1390807019aaaeb4bbd02dc363ae7", func := "slabvault/slabvaultlaw15.MatchShort", spec := "matchShort", inPlace := ["slices.overlaps[byte]"], unfollowed := true, recurses := true, apart := false }
def MatchShortSaid : Prop := matchShortRow.holds Try.pinned (OpenSpec.ofChange matchShortSpec)

/-- ITS FALSE NEIGHBOUR: 'it returns false'. Refute it at one input. -/
def matchShortWrong : ChangeSpec := { name := "matchShort", fn := fun _ => fun
  | [d] => { results := [.lit (.bool false)], args := [d] }
  | _ => none }
def MatchShortWrongFalsely : Prop := matchShortRow.holds Try.pinned (OpenSpec.ofChange matchShortWrong)

/-- 'slabvaultlaw15.MatchAlike': WHATEVER THE INPUT: true; the input reads as it did. -/
def matchAlikeSpec : ChangeSpec := { name := "matchAlike", fn := fun _ => fun
  | [d1, d2] => { results := [.lit (.bool true)], args := [d1, d2] }
  | _ => none }
def matchAlikeRow : OpenClaim := { program := "ythbnhepmmiiikaa", sum := "fc679709b9bb74da5b0547a90828626179c1390807019aaaeb4bbd02dc363ae7", func := "slabvault/slabvaultlaw15.MatchAlike", spec := "matchAlike", inPlace := ["slices.overlaps[byte]"], unfollowed := true, recurses := true, apart := false }
def MatchAlikeSaid : Prop := matchAlikeRow.holds Try.pinned (OpenSpec.ofChange matchAlikeSpec)

/-- ITS FALSE NEIGHBOUR: 'it returns false'. Refute it at one input. -/
def matchAlikeWrong : ChangeSpec := { name := "matchAlike", fn := fun _ => fun
  | [d1, d2] => { results := [.lit (.bool false)], args := [d1, d2] }
  | _ => none }
def MatchAlikeWrongFalsely : Prop := matchAlikeRow.holds Try.pinned (OpenSpec.ofChange matchAlikeWrong)

/-- 'slabvaultlaw15.MatchTwice': WHATEVER THE INPUT: true; the input reads as it did. -/
def matchTwiceSpec : ChangeSpec := { name := "matchTwice", fn := fun _ => fun
  | [d] => { results := [.lit (.bool true)], args := [d] }
  | _ => none }
def matchTwiceRow : OpenClaim := { program := "ythbnhepmmiiikaa", sum := "fc679709b9bb74da5b0547a90828626179c1390807019aaaeb4bbd02dc363ae7", func := "slabvault/slabvaultlaw15.MatchTwice", spec := "matchTwice", inPlace := ["slices.overlaps[byte]"], unfollowed := true, recurses := true, apart := false }
def MatchTwiceSaid : Prop := matchTwiceRow.holds Try.pinned (OpenSpec.ofChange matchTwiceSpec)

/-- ITS FALSE NEIGHBOUR: 'it returns false'. Refute it at one input. -/
def matchTwiceWrong : ChangeSpec := { name := "matchTwice", fn := fun _ => fun
  | [d] => { results := [.lit (.bool false)], args := [d] }
  | _ => none }
def MatchTwiceWrongFalsely : Prop := matchTwiceRow.holds Try.pinned (OpenSpec.ofChange matchTwiceWrong)

/-- 'slabvaultlaw15.MatchMost': WHATEVER THE INPUT: true; the input reads as it did. -/
def matchMostSpec : ChangeSpec := { name := "matchMost", fn := fun _ => fun
  | [d1, d2] => { results := [.lit (.bool true)], args := [d1, d2] }
  | _ => none }
def matchMostRow : OpenClaim := { program := "ythbnhepmmiiikaa", sum := "fc679709b9bb74da5b0547a90828626179c1390807019aaaeb4bbd02dc363ae7", func := "slabvault/slabvaultlaw15.MatchMost", spec := "matchMost", inPlace := ["slices.overlaps[byte]"], unfollowed := true, recurses := true, apart := false }
def MatchMostSaid : Prop := matchMostRow.holds Try.pinned (OpenSpec.ofChange matchMostSpec)

/-- ITS FALSE NEIGHBOUR: 'it returns false'. Refute it at one input. -/
def matchMostWrong : ChangeSpec := { name := "matchMost", fn := fun _ => fun
  | [d1, d2] => { results := [.lit (.bool false)], args := [d1, d2] }
  | _ => none }
def MatchMostWrongFalsely : Prop := matchMostRow.holds Try.pinned (OpenSpec.ofChange matchMostWrong)

/- THE SECOND FORM. 'bulk': how many values and letters a reading holds, each counted each time it is reached (what is shared counts as often as it is met; a slice's spare places count too). A statement '..UptoSaid' is the law's where the arguments, and the package variables that the reading takes, are together of bulk at most 1048576: NARROWER than '..Said'. Prove '..Said' where nothing that the law and all that it calls make is longer than what came in: it says more and counts as full. Else prove '..UptoSaid'. A law counts once. -/
mutual
def uptoBulk {H : Type} : DataW H → Nat
  | .lit (.string bytes) => bytes.length + 1
  | .lit _ => 1
  | .nil => 1
  | .ptr d => uptoBulk d + 1
  | .slice elems spare => uptoBulkAll elems + uptoBulkAll spare + 1
  | .agg parts => uptoBulkAll parts + 1
  | .iface _ d => uptoBulk d + 1
  | .map entries => uptoBulkEntries entries + 1
  | .held _ => 1
def uptoBulkAll {H : Type} : List (DataW H) → Nat
  | [] => 0
  | d :: r => uptoBulk d + uptoBulkAll r
def uptoBulkEntries {H : Type} : List (Lit × DataW H) → Nat
  | [] => 0
  | x :: r => uptoBulkEntry x + uptoBulkEntries r
def uptoBulkEntry {H : Type} : Lit × DataW H → Nat
  | (.string bytes, d) => bytes.length + uptoBulk d + 1
  | (_, d) => uptoBulk d + 1
 end
def uptoSmall : (H : Type) → List (DataW H) → Bool := fun _ ds => decide (uptoBulkAll ds ≤ 1048576)
def OpenSpec.upto (s : _root_.Go.ChangeSpec) : _root_.Go.OpenSpec := { _root_.Go.OpenSpec.ofChange s with cond := some uptoSmall }

/-- 'slabvaultlaw14.ShuffleBytes', WHERE WHAT IT READS IS OF BULK AT MOST 1048576: true; the input reads as it did. -/
def shuffleBytesUptoRow : OpenClaim := { program := "ythbnhepmmiiikaa", sum := "fc679709b9bb74da5b0547a90828626179c1390807019aaaeb4bbd02dc363ae7", func := "slabvault/slabvaultlaw14.ShuffleBytes", spec := "shuffleBytes", unfollowed := true, recurses := true, apart := false, narrowed := true }
def ShuffleBytesUptoSaid : Prop := shuffleBytesUptoRow.holds Try.pinned (OpenSpec.upto shuffleBytesSpec)

/-- 'slabvaultlaw14.ShuffleSteps', WHERE WHAT IT READS IS OF BULK AT MOST 1048576: true; the input reads as it did. -/
def shuffleStepsUptoRow : OpenClaim := { program := "ythbnhepmmiiikaa", sum := "fc679709b9bb74da5b0547a90828626179c1390807019aaaeb4bbd02dc363ae7", func := "slabvault/slabvaultlaw14.ShuffleSteps", spec := "shuffleSteps", unfollowed := true, recurses := true, apart := false, narrowed := true }
def ShuffleStepsUptoSaid : Prop := shuffleStepsUptoRow.holds Try.pinned (OpenSpec.upto shuffleStepsSpec)

/-- 'slabvaultlaw14.ShuffleMixes', WHERE WHAT IT READS IS OF BULK AT MOST 1048576: true; the input reads as it did. -/
def shuffleMixesUptoRow : OpenClaim := { program := "ythbnhepmmiiikaa", sum := "fc679709b9bb74da5b0547a90828626179c1390807019aaaeb4bbd02dc363ae7", func := "slabvault/slabvaultlaw14.ShuffleMixes", spec := "shuffleMixes", unfollowed := true, recurses := true, apart := false, narrowed := true }
def ShuffleMixesUptoSaid : Prop := shuffleMixesUptoRow.holds Try.pinned (OpenSpec.upto shuffleMixesSpec)

/-- 'slabvaultlaw14.ShuffleDeltas', WHERE WHAT IT READS IS OF BULK AT MOST 1048576: true; the input reads as it did. -/
def shuffleDeltasUptoRow : OpenClaim := { program := "ythbnhepmmiiikaa", sum := "fc679709b9bb74da5b0547a90828626179c1390807019aaaeb4bbd02dc363ae7", func := "slabvault/slabvaultlaw14.ShuffleDeltas", spec := "shuffleDeltas", unfollowed := true, recurses := true, apart := false, narrowed := true }
def ShuffleDeltasUptoSaid : Prop := shuffleDeltasUptoRow.holds Try.pinned (OpenSpec.upto shuffleDeltasSpec)

/-- 'slabvaultlaw14.ShuffleBack', WHERE WHAT IT READS IS OF BULK AT MOST 1048576: true; the input reads as it did. -/
def shuffleBackUptoRow : OpenClaim := { program := "ythbnhepmmiiikaa", sum := "fc679709b9bb74da5b0547a90828626179c1390807019aaaeb4bbd02dc363ae7", func := "slabvault/slabvaultlaw14.ShuffleBack", spec := "shuffleBack", unfollowed := true, recurses := true, apart := false, narrowed := true }
def ShuffleBackUptoSaid : Prop := shuffleBackUptoRow.holds Try.pinned (OpenSpec.upto shuffleBackSpec)

/-- 'slabvaultlaw15.MatchPacks', WHERE WHAT IT READS IS OF BULK AT MOST 1048576: true; the input reads as it did. -/
def matchPacksUptoRow : OpenClaim := { program := "ythbnhepmmiiikaa", sum := "fc679709b9bb74da5b0547a90828626179c1390807019aaaeb4bbd02dc363ae7", func := "slabvault/slabvaultlaw15.MatchPacks", spec := "matchPacks", inPlace := ["slices.overlaps[byte]"], unfollowed := true, recurses := true, apart := false, narrowed := true }
def MatchPacksUptoSaid : Prop := matchPacksUptoRow.holds Try.pinned (OpenSpec.upto matchPacksSpec)

/-- 'slabvaultlaw15.MatchUnpacks', WHERE WHAT IT READS IS OF BULK AT MOST 1048576: true; the input reads as it did. -/
def matchUnpacksUptoRow : OpenClaim := { program := "ythbnhepmmiiikaa", sum := "fc679709b9bb74da5b0547a90828626179c1390807019aaaeb4bbd02dc363ae7", func := "slabvault/slabvaultlaw15.MatchUnpacks", spec := "matchUnpacks", inPlace := ["slices.overlaps[byte]"], unfollowed := true, recurses := true, apart := false, narrowed := true }
def MatchUnpacksUptoSaid : Prop := matchUnpacksUptoRow.holds Try.pinned (OpenSpec.upto matchUnpacksSpec)

/-- 'slabvaultlaw15.MatchBack', WHERE WHAT IT READS IS OF BULK AT MOST 1048576: true; the input reads as it did. -/
def matchBackUptoRow : OpenClaim := { program := "ythbnhepmmiiikaa", sum := "fc679709b9bb74da5b0547a90828626179c1390807019aaaeb4bbd02dc363ae7", func := "slabvault/slabvaultlaw15.MatchBack", spec := "matchBack", inPlace := ["slices.overlaps[byte]"], unfollowed := true, recurses := true, apart := false, narrowed := true }
def MatchBackUptoSaid : Prop := matchBackUptoRow.holds Try.pinned (OpenSpec.upto matchBackSpec)

/-- 'slabvaultlaw15.MatchShort', WHERE WHAT IT READS IS OF BULK AT MOST 1048576: true; the input reads as it did. -/
def matchShortUptoRow : OpenClaim := { program := "ythbnhepmmiiikaa", sum := "fc679709b9bb74da5b0547a90828626179c1390807019aaaeb4bbd02dc363ae7", func := "slabvault/slabvaultlaw15.MatchShort", spec := "matchShort", inPlace := ["slices.overlaps[byte]"], unfollowed := true, recurses := true, apart := false, narrowed := true }
def MatchShortUptoSaid : Prop := matchShortUptoRow.holds Try.pinned (OpenSpec.upto matchShortSpec)

/-- 'slabvaultlaw15.MatchAlike', WHERE WHAT IT READS IS OF BULK AT MOST 1048576: true; the input reads as it did. -/
def matchAlikeUptoRow : OpenClaim := { program := "ythbnhepmmiiikaa", sum := "fc679709b9bb74da5b0547a90828626179c1390807019aaaeb4bbd02dc363ae7", func := "slabvault/slabvaultlaw15.MatchAlike", spec := "matchAlike", inPlace := ["slices.overlaps[byte]"], unfollowed := true, recurses := true, apart := false, narrowed := true }
def MatchAlikeUptoSaid : Prop := matchAlikeUptoRow.holds Try.pinned (OpenSpec.upto matchAlikeSpec)

/-- 'slabvaultlaw15.MatchTwice', WHERE WHAT IT READS IS OF BULK AT MOST 1048576: true; the input reads as it did. -/
def matchTwiceUptoRow : OpenClaim := { program := "ythbnhepmmiiikaa", sum := "fc679709b9bb74da5b0547a90828626179c1390807019aaaeb4bbd02dc363ae7", func := "slabvault/slabvaultlaw15.MatchTwice", spec := "matchTwice", inPlace := ["slices.overlaps[byte]"], unfollowed := true, recurses := true, apart := false, narrowed := true }
def MatchTwiceUptoSaid : Prop := matchTwiceUptoRow.holds Try.pinned (OpenSpec.upto matchTwiceSpec)

/-- 'slabvaultlaw15.MatchMost', WHERE WHAT IT READS IS OF BULK AT MOST 1048576: true; the input reads as it did. -/
def matchMostUptoRow : OpenClaim := { program := "ythbnhepmmiiikaa", sum := "fc679709b9bb74da5b0547a90828626179c1390807019aaaeb4bbd02dc363ae7", func := "slabvault/slabvaultlaw15.MatchMost", spec := "matchMost", inPlace := ["slices.overlaps[byte]"], unfollowed := true, recurses := true, apart := false, narrowed := true }
def MatchMostUptoSaid : Prop := matchMostUptoRow.holds Try.pinned (OpenSpec.upto matchMostSpec)

end Rows
end Go.Proofs.Ythbnhepmmiiikaa
