/-
  A row whose bytes are raised by one, place by place; a row's store. No premise.
-/
import Derived.Test.YtadmpjikkpnjnaaDoorOct5
namespace Go.Proofs.YtadmpjikkpnjnaaDoor
open Go.RowKit Go.Proofs.YtadmpjikkpnjnaaDoorW.PrintWords

def addk (l : List Int) (k : Nat) : List Int := (List.range l.length).map fun q => if q < k then (rdI l q + 1) % 256 else rdI l q
theorem addk_length (l : List Int) (k : Nat) : (addk l k).length = l.length := by simp [addk]
theorem rdI_addk (l : List Int) (k q : Nat) (h : q < l.length) : rdI (addk l k) q = if q < k then (rdI l q + 1) % 256 else rdI l q := by
  rw [show rdI (addk l k) q = (addk l k).getD q 0 from rfl, List.getD_eq_getElem?_getD]
  unfold addk
  rw [List.getElem?_map, List.getElem?_range h]
  rfl
theorem addk_zero (l : List Int) : addk l 0 = l :=
  ext_rdI (addk_length l 0) fun i hi => by
    rw [addk_length] at hi
    rw [rdI_addk l 0 i hi, if_neg (by omega)]
theorem addk_succ (l : List Int) (k : Nat) (h : k < l.length) : (addk l k).set k ((rdI l k + 1) % 256) = addk l (k + 1) :=
  ext_rdI (by simp [addk_length]) fun i hi => by
    simp only [List.length_set, addk_length] at hi
    rw [rdI_set _ _ _ _ (by rw [addk_length]; exact h), rdI_addk l (k + 1) i hi, rdI_addk l k i hi]
    by_cases h1 : k = i
    · subst h1; rw [if_pos rfl, if_pos (by omega)]
    · rw [if_neg h1]
      by_cases h2 : i < k
      · rw [if_pos h2, if_pos (by omega)]
      · rw [if_neg h2, if_neg (by omega)]
end Go.Proofs.YtadmpjikkpnjnaaDoor
