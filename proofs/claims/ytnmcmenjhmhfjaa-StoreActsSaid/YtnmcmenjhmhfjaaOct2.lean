/-
  octet.digits in Get; octet.Put, octet.Get. No premise.
-/
import Derived.Test.YtnmcmenjhmhfjaaOct1
import Derived.Test.YtnmcmenjhmhfjaaNum
namespace Go.Proofs.Ytnmcmenjhmhfjaa
open Go.RowKit Go.Proofs.YtnmcmenjhmhfjaaW.PrintWords

theorem add_block (a : Addr) (j : Nat) : (a.add j).block = a.block := by unfold Addr.add; split <;> rfl
theorem rd_rdI (l : List Int) (k : Nat) : rd l (k : Int) = rdI l k := by simp [rd, rdI]

end Go.Proofs.Ytnmcmenjhmhfjaa
