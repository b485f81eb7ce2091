/-
  An argument that is a row of filters, opened. No premise.
-/
import Derived.Test.YtdfpikimeihefaaFiK
import Derived.Deep.SlicePairs
import Derived.ChangeArms
namespace Go.Proofs.Ytdfpikimeihefaa
open Go.ChangeShapes Go.WideShapes Go.Deep Go.RowKit Go.Proofs.YtdfpikimeihefaaW.PrintWords

def flOf : Value → Int
  | .int _ n => n
  | _ => 0
theorem open_fls {H : Type} {enc : TypeId × Value → H} {W : World} {base : Nat} {spare : Nat → Bool} {held : Bool} {fuel : Nat} {x : DataW H × List MemPlace} {a : Option Addr} {len cap : Nat}
    (h : DataW.trod enc Try.prog W base spare held fuel 22 [.slice a len cap] = some x) : ∃ l : List Fl, len = l.length ∧ Fls W a l := by
  rcases open_slice_pairs Try.underlying22 Try.underlying43 (by kernel_rfl) rfl rfl (by kernel_rfl) (by kernel_rfl) h with ⟨hcs, _⟩ | ⟨b, n, c, m, f, V0, V1, D0, D1, P0, P1, hcs, _, hl, hm, hmm, _, hx⟩
  · simp at hcs
    obtain ⟨rfl, rfl, rfl⟩ := hcs
    exact ⟨[], rfl, by simp, fun h => absurd h (by simp)⟩
  · simp at hcs
    obtain ⟨rfl, rfl, rfl⟩ := hcs
    have hlm : len ≤ m := by rw [hmm]; split <;> omega
    refine ⟨(List.range len).map fun i => (flOf (V0 i), flOf (V1 i)), by simp, by simp only [List.length_map, List.length_range]; simp only [maxLen] at hm; omega, fun _ => ⟨b, rfl, fun i hi => ?_⟩⟩
    have hi2 : i < len := by simpa using hi
    obtain ⟨h0, h1, t0, t1⟩ := hx i (by omega)
    obtain ⟨n0, e0, _, _⟩ := DataW.trod_int Try.underlying41 t0
    obtain ⟨n1, e1, _, _⟩ := DataW.trod_int Try.underlying3 t1
    have e0' : V0 i = .int .i64 n0 := by simpa using e0
    have e1' : V1 i = .int .i64 n1 := by simpa using e1
    rw [List.getD_eq_getElem?_getD, List.getElem?_map, List.getElem?_range hi2]
    rw [h0, h1, e0', e1']
    simp [flOf, e0', e1']
end Go.Proofs.Ytdfpikimeihefaa
