/-
  octet.Get, octet.Signed, slices.Reverse, octet.Swap. No premise.
-/
import Derived.Test.YtnmcmenjhmhfjaaOct3
namespace Go.Proofs.Ytnmcmenjhmhfjaa
open Go.RowKit Go.Proofs.YtnmcmenjhmhfjaaW.PrintWords

theorem cut_mid (A : Option Addr) (l : List Int) (c m n : Nat) (h : m + n ≤ l.length) (hc : l.length ≤ c) :
    ∃ A' l', Hid (l' = (l.drop m).take n) ∧ l'.length = n ∧
      (∀ W : World, (Instr.slice 22 (.slice A l.length c) (some (.int .i64 (m : Int))) (some (.int .i64 ((m : Int) + (n : Int)))) none).run Try.prog W = .ok (.slice A' n (c - m)) W) ∧
      (∀ w, Rd w A l → Rd w A' l') ∧ n ≤ c - m := by
  obtain ⟨i0, hi, hz0, hz1, hz2⟩ := info_parts infoB
  obtain ⟨A', h1, h2, h3⟩ := print_mid_int (P := Try.prog) (k := .u8) 22 5 Try.underlying22 hi hz1 A c l (m : Int) ((m : Int) + (n : Int)) (by omega) (by omega) (by omega) hc
  have e : ((m : Int) + (n : Int)).toNat = m + n := by omega
  rw [e, Int.toNat_natCast] at h1 h2 h3
  have hl : ((l.take (m + n)).drop m).length = n := by simp; omega
  have hd : (l.take (m + n)).drop m = (l.drop m).take n := by rw [List.drop_take]; congr 1; omega
  rw [hl] at h1 h2 h3
  refine ⟨A', (l.drop m).take n, rfl, by rw [← hd]; exact hl, h1, fun w hr => ?_, h3⟩
  have := h2 w hr
  rw [hd] at this
  unfold Rd
  rw [show ((l.drop m).take n).length = n from by rw [← hd]; exact hl]
  exact this

def getE (l : List Int) (at_ width : Int) : Int := if 1 ≤ width ∧ width ≤ 8 ∧ 0 ≤ at_ ∧ at_ ≤ l.length then (if (l.length : Int) - at_ < width then 4 else 0) else 2
def getU (l : List Int) (at_ width : Int) (big : Bool) : Int :=
  if 1 ≤ width ∧ width ≤ 8 ∧ 0 ≤ at_ ∧ at_ + width ≤ l.length then getk ((l.drop at_.toNat).take width.toNat) width.toNat big width.toNat else 0
def GetPost (w : World) (l : List Int) (at_ width : Int) (big : Bool) (e : Ending) (w' : World) : Prop :=
  e = .returned (.tuple #[.int .u64 (getU l at_ width big), .int .i64 (getE l at_ width)]) ∧ Below w.heap.size w w'

theorem ret2' {k k' : IntKind} {x y a b : Int} (h1 : x = y) (h : a = b) : Ending.returned (.tuple #[.int k x, .int k' a]) = .returned (.tuple #[.int k y, .int k' b]) := by rw [h1, h]

theorem own_cell {w : World} {base g n cap : Nat} {xs : List Int} (h : Own w base (.slice (some ⟨g, 0, none⟩) n cap) xs) (i : Int) (h0 : 0 ≤ i) (h1 : i < xs.length) :
    w.cell? ⟨g, i.toNat, none⟩ = some (.int .u8 (rdI xs i.toNat)) ∧ w.frozen? ⟨g, i.toNat, none⟩ = false := by
  obtain ⟨_, rfl, _⟩ := own_open h
  have := own_at (k := .u8) (xs := xs) h i h0 h1
  simpa [rd, rdI] using this
theorem own_setc {w : World} {base g n cap : Nat} {xs : List Int} (h : Own w base (.slice (some ⟨g, 0, none⟩) n cap) xs) (i x : Int) :
    Own (w.setCell ⟨g, i.toNat, none⟩ (.int .u8 x)) base (.slice (some ⟨g, 0, none⟩) n cap) (xs.set i.toNat x) := by
  obtain ⟨_, rfl, _⟩ := own_open h
  have := (own_store (k := .u8) (xs := xs) h i x).1
  unfold Own
  rw [List.length_set]
  exact this

def revk (l : List Int) (k : Nat) : List Int := (List.range l.length).map fun q => if q < k ∨ l.length ≤ q + k then rdI l (l.length - 1 - q) else rdI l q
theorem revk_length (l : List Int) (k : Nat) : (revk l k).length = l.length := by simp [revk]
theorem rdI_some {l : List Int} {i : Nat} (h : i < l.length) : l[i]? = some (rdI l i) := by
  simp [rdI, List.getD_eq_getElem?_getD, List.getElem?_eq_getElem h]
theorem ext_rdI {a b : List Int} (h : a.length = b.length) (k : ∀ i, i < a.length → rdI a i = rdI b i) : a = b := by
  apply List.ext_getElem?
  intro i
  rcases Nat.lt_or_ge i a.length with hi | hi
  · rw [rdI_some hi, rdI_some (by omega), k i hi]
  · rw [List.getElem?_eq_none hi, List.getElem?_eq_none (by omega)]
theorem rdI_set (l : List Int) (i j : Nat) (x : Int) (h : i < l.length) : rdI (l.set i x) j = if i = j then x else rdI l j := by
  unfold rdI
  simp only [List.getD_eq_getElem?_getD, List.getElem?_set]
  split
  · rfl
  · rfl
theorem rdI_revk (l : List Int) (k q : Nat) (h : q < l.length) : rdI (revk l k) q = if q < k ∨ l.length ≤ q + k then rdI l (l.length - 1 - q) else rdI l q := by
  rw [show rdI (revk l k) q = (revk l k).getD q 0 from rfl, List.getD_eq_getElem?_getD]
  unfold revk
  rw [List.getElem?_map, List.getElem?_range h]
  rfl
theorem rdI_reverse (l : List Int) (q : Nat) (h : q < l.length) : rdI l.reverse q = rdI l (l.length - 1 - q) := by
  simp only [rdI, List.getD_eq_getElem?_getD, List.getElem?_reverse h]
theorem revk_zero (l : List Int) : revk l 0 = l :=
  ext_rdI (revk_length l 0) fun i hi => by
    rw [revk_length] at hi
    rw [rdI_revk l 0 i hi, if_neg (by omega)]
theorem revk_succ (l : List Int) (k : Nat) (h : 2 * k + 1 < l.length) : ((revk l k).set k (rdI (revk l k) (l.length - 1 - k))).set (l.length - 1 - k) (rdI (revk l k) k) = revk l (k + 1) :=
  ext_rdI (by simp [revk_length]) fun i hi => by
    simp only [List.length_set, revk_length] at hi
    rw [rdI_set _ _ _ _ (by simp [revk_length]; omega), rdI_set _ _ _ _ (by simp [revk_length]; omega), rdI_revk l (k + 1) i hi, rdI_revk l k i hi, rdI_revk l k k (by omega), rdI_revk l k _ (show l.length - 1 - k < l.length by omega)]
    by_cases h1 : l.length - 1 - k = i
    · rw [if_pos h1, if_neg (by omega), if_pos (by omega)]; congr 1; omega
    · rw [if_neg h1]
      by_cases h2 : k = i
      · rw [if_pos h2, if_neg (by omega), if_pos (by omega)]; congr 1; omega
      · rw [if_neg h2]
        by_cases h3 : i < k ∨ l.length ≤ i + k
        · rw [if_pos h3, if_pos (by omega)]
        · rw [if_neg h3, if_neg (by omega)]
theorem revk_end (l : List Int) (k : Nat) (h : l.length ≤ 2 * k + 1) : revk l k = l.reverse :=
  ext_rdI (by simp [revk_length]) fun i hi => by
    rw [revk_length] at hi
    rw [rdI_revk l k i hi, rdI_reverse l i hi]
    split
    · rfl
    · congr 1; omega

end Go.Proofs.Ytnmcmenjhmhfjaa
