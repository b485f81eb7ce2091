/-
  shuffle.Shuffle, shuffle.Unshuffle. No premise.
-/
import Derived.Test.YtadmpjikkpnjnaaDoorShP
namespace Go.Proofs.YtadmpjikkpnjnaaDoor
open Go.RowKit Go.Proofs.YtadmpjikkpnjnaaDoorW.PrintWords

theorem rd_cell {W : World} {ad : Addr} {l : List Int} (h : Rd W (some ad) l) (j : Nat) (hj : j < l.length) : W.cell? (ad.add j) = some (.int .u8 (rdI l j)) := by
  obtain ⟨ad', e, h⟩ := h.2.2 (by omega)
  injection e with e
  subst e
  exact h j hj
def mxE (width : Int) : Int := if 1 ≤ width ∧ width ≤ 8 then 0 else 2
def mxL (f : Nat → List Int → List Int) (width : Int) (l : List Int) : List Int := if 1 ≤ width ∧ width ≤ 8 then f width.toNat l else []
def MixPost (f : Nat → List Int → List Int) (w : World) (width : Int) (l : List Int) (e : Ending) (w' : World) : Prop :=
  ∃ v, e = .returned (.tuple #[v, .int .i64 (mxE width)]) ∧ Own w' w.heap.size v (mxL f width l) ∧ Below w.heap.size w w'

end Go.Proofs.YtadmpjikkpnjnaaDoor
