/-
  Rows of bytes that came in ([][]byte): what is read of them. No premise.
-/
import Derived.Test.YtelphnkbaeglaaaOct5
namespace Go.Proofs.Ytelphnkbaeglaaa
open Go.RowKit Go.Proofs.YtelphnkbaeglaaaW.PrintWords

def rowAt (ls : List (List Int)) (r : Nat) : List Int := ls.getD r []
/-- The cells of an outer row, and what stands behind each. -/
def RowsAt (w : World) (A : Option Addr) (ls : List (List Int)) (ptr : Nat → Option Addr) (cp : Nat → Nat) : Prop :=
  0 < ls.length → ∃ a, A = some a ∧ ∀ r, r < ls.length → w.cell? (a.add r) = some (.slice (ptr r) (rowAt ls r).length (cp r)) ∧ Rd w (ptr r) (rowAt ls r) ∧ (rowAt ls r).length ≤ cp r ∧ Bts (rowAt ls r)
theorem RowsAt.below {w w' : World} {A : Option Addr} {ls : List (List Int)} {ptr : Nat → Option Addr} {cp : Nat → Nat} (h : RowsAt w A ls ptr cp) (hb : Below w.heap.size w w') : RowsAt w' A ls ptr cp := fun h0 => by
  obtain ⟨a, ha, hr⟩ := h h0
  refine ⟨a, ha, fun r hlt => ?_⟩
  obtain ⟨h1, h2, h3, h4⟩ := hr r hlt
  exact ⟨(hb.cell (World.block_lt_of_cell? w _ (by rw [h1]))).trans h1, h2.below hb, h3, h4⟩
theorem rowAt_take (ls : List (List Int)) (k : Nat) (h : k < ls.length) : (ls.take (k + 1)).flatten = (ls.take k).flatten ++ rowAt ls k := by
  rw [List.take_add_one, List.getElem?_eq_getElem h, List.flatten_append]
  simp [rowAt, h]
theorem flatten_take_le (ls : List (List Int)) (k : Nat) : (ls.take k).flatten.length ≤ ls.flatten.length := by
  conv => rhs; rw [← List.take_append_drop k ls]
  rw [List.flatten_append, List.length_append]
  omega
theorem rowAt_le (ls : List (List Int)) (k : Nat) (h : k < ls.length) : (ls.take k).flatten.length + (rowAt ls k).length ≤ ls.flatten.length := by
  have := flatten_take_le ls (k + 1)
  rw [rowAt_take ls k h, List.length_append] at this
  exact this
theorem flatten_bts {ls : List (List Int)} (h : ∀ r, r < ls.length → Bts (rowAt ls r)) : Bts ls.flatten := fun x hx => by
  obtain ⟨l, hl, hxl⟩ := List.mem_flatten.1 hx
  obtain ⟨i, hi, rfl⟩ := List.getElem_of_mem hl
  have := h i hi
  unfold rowAt at this
  rw [List.getD_eq_getElem?_getD, List.getElem?_eq_getElem hi] at this
  exact this x hxl
end Go.Proofs.Ytelphnkbaeglaaa
