/-
  A row that is filled with one byte, place by place. No program. No premise.
-/
import Derived.Test.YtdfpikimeihefaaShP
namespace Go.Proofs.Ytdfpikimeihefaa
open Go.RowKit Go.Proofs.YtdfpikimeihefaaW.PrintWords

def fl (n : Nat) (x : Int) (i : Nat) : List Int := preL (fun q => if q < i then x else 0) n
theorem fl_length (n : Nat) (x : Int) (i : Nat) : (fl n x i).length = n := preL_length _ _
theorem fl_zero (n : Nat) (x : Int) : fl n x 0 = List.replicate n 0 := by
  apply List.ext_getElem
  · simp [fl, preL]
  · intro i h1 h2
    simp [fl, preL]
theorem fl_all (n : Nat) (x : Int) : fl n x n = List.replicate n x := by
  apply List.ext_getElem
  · simp [fl, preL]
  · intro i h1 h2
    have : i < n := by simpa [fl, preL] using h1
    simp [fl, preL, this]
theorem fl_set (n : Nat) (x : Int) (i : Nat) (h : i < n) : (fl n x i).set i x = fl n x (i + 1) :=
  ext_rdI (by simp [fl_length]) fun j hj => by
    simp only [List.length_set, fl_length] at hj
    rw [rdI_set _ _ _ _ (by rw [fl_length]; exact h)]
    unfold fl
    rw [rdI_preL _ _ _ hj, rdI_preL _ _ _ hj]
    by_cases h1 : i = j
    · subst h1; rw [if_pos rfl, if_pos (by omega)]
    · rw [if_neg h1]
      by_cases h2 : j < i
      · rw [if_pos h2, if_pos (by omega)]
      · rw [if_neg h2, if_neg (by omega)]
theorem rep_bts (n : Nat) {x : Int} (h : 0 ≤ x ∧ x ≤ 255) : Bts (List.replicate n x) := fun y hy => by
  rw [(List.mem_replicate.1 hy).2]; exact h
end Go.Proofs.Ytdfpikimeihefaa
