/-
  Numbers that rise by one step, told by differences: plain lists. No program. No premise.
-/
import Derived.Test.YthbnhepmmiiikaaDel2
namespace Go.Proofs.Ythbnhepmmiiikaa
open Go.RowKit Go.Proofs.YthbnhepmmiiikaaW.PrintWords

def uS (first step : Int) (i : Nat) : Int := (first + (i : Int) * step) % 18446744073709551616
theorem uS_zero (first step : Int) (h0 : 0 ≤ first) (h1 : first < 18446744073709551616) : uS first step 0 = first := by
  unfold uS
  rw [show ((0 : Nat) : Int) = 0 from rfl, Int.zero_mul, Int.add_zero, Int.emod_eq_of_lt h0 h1]
theorem uS_succ (first step : Int) (i : Nat) : (uS first step i + step) % 18446744073709551616 = uS first step (i + 1) := by
  unfold uS
  rw [Int.emod_add_emod]
  congr 1
  rw [Int.natCast_add, Int.add_mul, Int.natCast_one, Int.one_mul, Int.add_assoc]
theorem rdI_dig (w : Nat) (u : Int) (r : Nat) (h : r < w) : rdI (dig w false u) r = u / 2 ^ (8 * r) % 256 := by
  unfold rdI dig
  rw [List.getD_eq_getElem?_getD, List.getElem?_map, List.getElem?_range h]
  rfl
theorem dig_take_succ (w : Nat) (u : Int) (d : Nat) (h : d < w) : (dig w false u).take (d + 1) = (dig w false u).take d ++ [u / 2 ^ (8 * d) % 256] := by
  rw [List.take_add_one, ← rdI_dig w u d h]
  rw [rdI_some (by rw [dig_length]; exact h)]
  rfl
theorem rdI_numL (w : Nat) (f : Nat → Int) (n i : Nat) (hw : 0 < w) (h : i < n * w) : rdI (numL w f n) i = f (i / w) / 2 ^ (8 * (i % w)) % 256 := by
  have hq : i / w < n := by rw [Nat.div_lt_iff_lt_mul hw]; exact h
  have hr : i % w < w := Nat.mod_lt _ hw
  obtain ⟨s, hs⟩ := numL_at w f n (i / w) hq
  have hi : i = i / w * w + i % w := by rw [Nat.mul_comm]; exact (Nat.div_add_mod i w).symm
  generalize i / w = q at *
  generalize i % w = r at *
  rw [hs, hi, rdI_append_ge _ _ _ (by rw [numL_length]; omega), numL_length, Nat.add_sub_cancel_left, rdI_append_lt _ _ _ (by rw [dig_length]; exact hr), rdI_dig w _ r hr]
def hS (first step : Int) (i : Nat) : Int := if i = 0 then first else step
theorem delta_steps (w : Nat) (h1 : 1 ≤ w) (h8 : w ≤ 8) (first step : Int) (n : Nat) : deltaL w (numL w (uS first step) n) = numL w (hS first step) n := by
  have hln : (numL w (uS first step) n).length / w = n := by rw [numL_length, Nat.mul_div_cancel _ h1]
  unfold deltaL
  rw [hln]
  have hd : (numL w (uS first step) n).drop (n * w) = [] := by rw [List.drop_eq_nil_iff, numL_length]; exact Nat.le_refl _
  rw [hd, List.append_nil]
  refine numL_cong fun i hi => ?_
  have hu : ∀ j, j < n → uN w (numL w (uS first step) n) j = uS first step j % 2 ^ (8 * w) := fun j hj => by
    have := uN_num w (uS first step) n [] j hj
    rw [List.append_nil] at this
    exact this
  have hdv : (2 : Int) ^ (8 * w) ∣ 18446744073709551616 := by
    have e : (18446744073709551616 : Int) = 2 ^ (8 * w) * 2 ^ (64 - 8 * w) := by
      rw [← Int.pow_add, show 8 * w + (64 - 8 * w) = 64 from by omega]
      decide +kernel
    rw [e]
    exact Int.dvd_mul_right _ _
  have hmm : ∀ y : Int, y % 18446744073709551616 % 2 ^ (8 * w) = y % 2 ^ (8 * w) := fun y => Int.emod_emod_of_dvd y hdv
  cases i with
  | zero =>
    have e : uN w (numL w (uS first step) n) 0 - lastU w (numL w (uS first step) n) 0 = (first + ((0 : Nat) : Int) * step) % 2 ^ (8 * w) := by
      rw [hu 0 hi]
      show uS first step 0 % _ - 0 = _
      rw [Int.sub_zero]
      exact hmm _
    rw [e, dig_mod w w (Nat.le_refl _)]
    unfold hS
    rw [if_pos rfl, show ((0 : Nat) : Int) = 0 from rfl, Int.zero_mul, Int.add_zero]
  | succ i =>
    have e : uN w (numL w (uS first step) n) (i + 1) - lastU w (numL w (uS first step) n) (i + 1) = (first + ((i + 1 : Nat) : Int) * step) % 2 ^ (8 * w) - (first + (i : Int) * step) % 2 ^ (8 * w) := by
      rw [hu (i + 1) hi]
      show _ - uN w (numL w (uS first step) n) i = _
      rw [hu i (by omega)]
      unfold uS
      rw [hmm, hmm]
    unfold hS
    rw [if_neg (by omega), e]
    refine dig_cong ?_
    rw [Int.natCast_add, Int.add_mul, Int.natCast_one, Int.one_mul, ← Int.add_assoc]
    generalize first + (i : Int) * step = a
    have a1 := emod_sub_self (a + step) (2 ^ (8 * w))
    have a2 := emod_sub_self a (2 ^ (8 * w))
    generalize (2 : Int) ^ (8 * w) = M at *
    have hd := Int.dvd_sub (Int.dvd_of_emod_eq_zero a1) (Int.dvd_of_emod_eq_zero a2)
    refine Int.emod_eq_zero_of_dvd ?_
    rw [show (a + step) % M - a % M - step = (a + step) % M - (a + step) - (a % M - a) from by omega]
    exact hd
end Go.Proofs.Ythbnhepmmiiikaa
