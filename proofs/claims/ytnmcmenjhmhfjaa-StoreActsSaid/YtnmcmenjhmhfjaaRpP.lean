/-
  What raw writes lay, one behind the other, is the file. No program.
-/
import Derived.Test.YtnmcmenjhmhfjaaSR5
namespace Go.Proofs.Ytnmcmenjhmhfjaa
open Go.RowKit Go.Shelf Go.Proofs.YtnmcmenjhmhfjaaW.PrintWords

def rep (b : List Int) (rs : List (Int × List Int)) : List Int := rs.foldl (fun a r => layL a r.1.toNat r.2) b
theorem rep_snoc (b : List Int) (rs : List (Int × List Int)) (r : Int × List Int) : rep b (rs ++ [r]) = layL (rep b rs) r.1.toNat r.2 := by simp [rep]
structure Rp (b : List Int) (rs : List (Int × List Int)) (c : List Int) : Prop where
  eq : rep b rs = c
  each : ∀ i (hi : i < rs.length), 1 ≤ rs[i].2.length ∧ rs[i].2.length ≤ 16 ∧ 0 ≤ rs[i].1 ∧ rs[i].1 ≤ (rep b (rs.take i)).length ∧ rs[i].1 + rs[i].2.length ≤ 4194304
theorem Rp.nil (b : List Int) : Rp b [] b := ⟨rfl, fun i hi => absurd hi (by simp)⟩
theorem Rp.snoc {b : List Int} {rs : List (Int × List Int)} {c : List Int} (h : Rp b rs c) {a : Nat} {y : List Int} (h1 : 1 ≤ y.length) (h2 : y.length ≤ 16) (h3 : a ≤ c.length) (h4 : a + y.length ≤ 4194304) : Rp b (rs ++ [((a : Int), y)]) (layL c a y) := by
  refine ⟨by rw [rep_snoc, h.eq, Int.toNat_natCast], fun i hi => ?_⟩
  rw [List.length_append, List.length_singleton] at hi
  by_cases hlt : i < rs.length
  · rw [List.getElem_append_left hlt, List.take_append_of_le_length (by omega)]
    exact h.each i hlt
  · have e : i = rs.length := by omega
    subst e
    rw [List.getElem_append_right (Nat.le_refl _), List.take_left' rfl, h.eq]
    simp only [Nat.sub_self, List.getElem_cons_zero]
    exact ⟨h1, h2, by omega, by omega, by omega⟩
theorem Rp.pcs {b : List Int} {rs : List (Int × List Int)} {c : List Int} (h : Rp b rs c) {a : Nat} {x : List Int} (h3 : a ≤ c.length) (h4 : a + x.length ≤ 4194304) : ∀ k, k ≤ chN x.length 16 → Rp b (rs ++ pcs a x k) (layL c a (x.take (k * 16))) := by
  intro k
  induction k with
  | zero =>
    intro _
    rw [Nat.zero_mul, lay_none, show Go.Proofs.Ytnmcmenjhmhfjaa.pcs a x 0 = [] from rfl, List.append_nil]
    exact h
  | succ k ih =>
    intro hk
    have hlt : k * 16 < x.length := (chN_lt (by omega)).1 (by omega)
    have i1 := ih (by omega)
    have hlen : (x.take (k * 16)).length = k * 16 := by rw [List.length_take]; omega
    have e := layL_two c a (x.take (k * 16)) (pc x k) h3
    rw [hlen, take_pc] at e
    have hp : (pc x k).length = min 16 (x.length - k * 16) := by unfold pc; rw [List.length_take, List.length_drop]
    rw [pcs_succ, ← List.append_assoc, ← e]
    exact i1.snoc (by omega) (by omega) (by rw [layL_length _ _ _ h3, hlen]; omega) (by omega)
theorem Rp.wF {b : List Int} {F : FM} (h : Rp b F.raws F.b) (hok : FOk F) (a : Int) (x : List Int) : Rp b (wF F a x).raws (wF F a x).b := by
  unfold Go.Proofs.Ytnmcmenjhmhfjaa.wF
  split
  · exact h
  split
  · exact h
  · next h1 =>
    split
    · exact h
    · next h2 =>
      have hm := hok.most
      have hp := h.pcs (a := a.toNat) (x := x) (by omega) (by omega)
      unfold wrF
      split
      · next h3 => exact hp F.left.toNat (by omega)
      · exact hp _ (Nat.le_refl _)
theorem wF_raws (F : FM) (a : Int) (x : List Int) : (wF F a x).raws.length ≤ F.raws.length + chN x.length 16 := by
  unfold wF
  split
  · omega
  split
  · omega
  split
  · omega
  · exact wrF_raws _ _ _
theorem Rp.ctF {b : List Int} {F : FM} (h : Rp b F.raws F.b) (n : Int) : Rp b (ctF F n).raws (ctF F n).b := by
  unfold Go.Proofs.Ytnmcmenjhmhfjaa.ctF
  split
  · exact h
  · exact h
theorem ctF_raws (F : FM) (n : Int) : (ctF F n).raws = F.raws := by
  unfold ctF
  split <;> rfl
theorem rep_succ (b : List Int) (rs : List (Int × List Int)) (i : Nat) (hi : i < rs.length) : rep b (rs.take (i + 1)) = layL (rep b (rs.take i)) rs[i].1.toNat rs[i].2 := by
  rw [List.take_add_one, List.getElem?_eq_getElem hi]
  exact rep_snoc _ _ _
end Go.Proofs.Ytnmcmenjhmhfjaa
