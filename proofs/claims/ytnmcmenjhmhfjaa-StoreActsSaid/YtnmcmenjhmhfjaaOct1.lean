/-
  octet.digits, with the two functions that are handed to it. No premise.
-/
import Derived.Test.YtnmcmenjhmhfjaaOct0
namespace Go.Proofs.Ytnmcmenjhmhfjaa
open Go.RowKit Go.Proofs.YtnmcmenjhmhfjaaW.PrintWords

def putk (cs : Array Value) (n width : Nat) (big : Bool) (u : Int) : Nat → Array Value
  | 0 => cs
  | k + 1 => (putk cs n width big u k).setIfInBounds (n + if big then width - 1 - k else k) (.int .u8 (u / 2 ^ (8 * k) % 256))
theorem putk_size (cs : Array Value) (n width : Nat) (big : Bool) (u : Int) (k : Nat) : (putk cs n width big u k).size = cs.size := by
  induction k with
  | zero => rfl
  | succ k ih => simp [putk, ih]

theorem set_grown (w : World) (g i : Nat) (u : Value) : w.grownBy (w.setCell ⟨g, i, none⟩ u) (some g) :=
  ⟨rfl, rfl, rfl, by simp [World.setCell], fun k _ hne => Below.heap_setCell _ _ _ _ (fun e => hne (by rw [e]))⟩

end Go.Proofs.Ytnmcmenjhmhfjaa
