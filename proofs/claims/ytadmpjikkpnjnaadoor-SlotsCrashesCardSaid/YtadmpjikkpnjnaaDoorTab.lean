/-
  The table of chapter 2's program, as the row's list gives it; a world for the witness. No premise.
-/
import Derived.Test.YtadmpjikkpnjnaaDoorCards
import Derived.Test.YtadmpjikkpnjnaaDoorTie
import Derived.WalkKit
import Derived.ProofKit
import Derived.OpenShut
import Derived.Deep.DeepHandedRow
import Derived.Lib.LaidTab
import Derived.Test.YtadmpjikkpnjnaaDoorChk1
namespace Go.Proofs.YtadmpjikkpnjnaaDoor
open Go.ChangeShapes Go.WideShapes Go.ChangeAt Go.RowKit

theorem gTab : Tryd.prog.globalNamed "slabvault/check.short" = some 0 := by kernel_rfl
theorem gTabType : (Tryd.prog.globals[0]?).map (·.type) = some 102 := by kernel_rfl
theorem cellsT : Tryd.prog.cellsOf 102 = 16 := by kernel_rfl
theorem cellsE : Tryd.prog.cellsOf 93 = 1 := by kernel_rfl
def shortI : List Int := [0, 498536548, 997073096, 651767980, 1994146192, 1802195444, 1303535960, 1342533948, 3988292384, 4027552580, 3604390888, 3412177804, 2607071920, 2262029012, 2685067896, 3183342108]
theorem shortI_N : ∀ i, i < 16 → shortI.getD i 0 = ((shortN.getD i 0 : Nat) : Int) := by decide +kernel
theorem tabAt_of {W : World} (h : laidMetH Tryd.prog [("slabvault/check.short", Rows.laid_slabvault_check_short)] W) : TabAt W := by
  have ht : Lib.TabIs Tryd.prog W "slabvault/check.short" .u32 shortI := Lib.tabIs_of_head (rest := []) gTab gTabType Tryd.underlying102 Tryd.underlying93 cellsE cellsT h
  have hc : ∀ i, i < 16 → W.cell? ⟨0, i, none⟩ = some (.int .u32 (shortN.getD i 0 : Nat)) := fun i hi => by
    rw [← shortI_N i hi]
    exact ht.cell gTab i hi
  refine ⟨?_, hc⟩
  rcases Nat.eq_zero_or_pos W.heap.size with h0 | h0
  · have h1 := hc 0 (by decide)
    unfold World.cell? at h1
    have h2 : W.heap[0]? = none := by rw [Array.getElem?_eq_none]; omega
    simp [h2] at h1
  · exact h0
noncomputable def laidWorld (os : Os) : World :=
  { World.holding Tryd.prog os ⟨#[], #[], []⟩ with heap := (World.holding Tryd.prog os ⟨#[], #[], []⟩).heap.modify 0 fun
      | .cells _ t frozen => .cells (shortI.map (Value.int .u32 ·)).toArray t frozen
      | o => o }
end Go.Proofs.YtadmpjikkpnjnaaDoor
