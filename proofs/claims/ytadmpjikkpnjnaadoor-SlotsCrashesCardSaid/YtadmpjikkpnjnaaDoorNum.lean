/-
  Plain facts on numbers and lists of bytes: no program, no memory. No premise.
-/
import Derived.WalkKit
namespace Go.Proofs.YtadmpjikkpnjnaaDoor
open Go.RowKit

/-- All are bytes. -/
def Bts (l : List Int) : Prop := ∀ x ∈ l, 0 ≤ x ∧ x ≤ 255
def rdI (l : List Int) (i : Nat) : Int := l.getD i 0
theorem Bts.at {l : List Int} (h : Bts l) (i : Nat) : 0 ≤ rdI l i ∧ rdI l i ≤ 255 := by
  unfold rdI
  rcases Nat.lt_or_ge i l.length with hi | hi
  · rw [List.getD_eq_getElem?_getD, List.getElem?_eq_getElem hi]
    exact h _ (List.getElem_mem hi)
  · rw [List.getD_eq_getElem?_getD, List.getElem?_eq_none hi]
    decide

/-- What the bytes of a number come to, the first k of them that are read. -/
def getk (l : List Int) (width : Nat) (big : Bool) : Nat → Int
  | 0 => 0
  | k + 1 => getk l width big k + rdI l (if big then width - 1 - k else k) * 2 ^ (8 * k)
theorem getk_range {l : List Int} (h : Bts l) (width : Nat) (big : Bool) (k : Nat) : 0 ≤ getk l width big k ∧ getk l width big k < 2 ^ (8 * k) := by
  induction k with
  | zero => simp [getk]
  | succ k ih =>
    have hx := h.at (if big then width - 1 - k else k)
    simp only [getk]
    generalize rdI l (if big then width - 1 - k else k) = x at hx ⊢
    have h1 : (2 : Int) ^ (8 * (k + 1)) = 2 ^ (8 * k) * 256 := by rw [Nat.mul_add, Int.pow_add]; rfl
    rw [h1]
    have h0 : 0 < (2 : Int) ^ (8 * k) := Int.pow_pos (by decide)
    generalize (2 : Int) ^ (8 * k) = p at *
    have h3 : 0 ≤ x * p := Int.mul_nonneg hx.1 (by omega)
    have h4 : x * p ≤ 255 * p := Int.mul_le_mul_of_nonneg_right hx.2 (by omega)
    omega

theorem or_place (a x : Int) (k : Nat) (hk : k < 8) (ha : 0 ≤ a) (ha2 : a < 2 ^ (8 * k)) (hx : 0 ≤ x) (hx2 : x ≤ 255) :
    bits .or .u64 a (IntKind.u64.wrap (x * 2 ^ (8 * k))) = a + x * 2 ^ (8 * k) := by
  obtain ⟨a, rfl⟩ := Int.eq_ofNat_of_zero_le ha
  obtain ⟨x, rfl⟩ := Int.eq_ofNat_of_zero_le hx
  have hp : (2 : Nat) ^ (8 * k) ≤ 2 ^ 56 := Nat.pow_le_pow_right (by decide) (by omega)
  have e : ((x : Int) * 2 ^ (8 * k)) = ((x * 2 ^ (8 * k) : Nat) : Int) := by norm_cast
  have ha3 : a < 2 ^ (8 * k) := by exact_mod_cast ha2
  have hx3 : x ≤ 255 := by omega
  have hm : x * 2 ^ (8 * k) ≤ 255 * 2 ^ 56 := Nat.mul_le_mul hx3 hp
  rw [e, IntKind.wrap_u64, show (((x * 2 ^ (8 * k) : Nat) : Int) % 18446744073709551616) = ((x * 2 ^ (8 * k) : Nat) : Int) from by omega]
  rw [u64_or_nat _ _ (by omega) (by omega)]
  have h := Nat.shiftLeft_add_eq_or_of_lt ha3 x
  rw [Nat.shiftLeft_eq] at h
  rw [Nat.or_comm, ← h]
  push_cast
  omega

/-- A number's bytes. -/
def dig (width : Nat) (big : Bool) (u : Int) : List Int := (List.range width).map fun i => u / 2 ^ (8 * (if big then width - 1 - i else i)) % 256
theorem dig_length (width : Nat) (big : Bool) (u : Int) : (dig width big u).length = width := by simp [dig]
theorem dig_bts (width : Nat) (big : Bool) (u : Int) : Bts (dig width big u) := by
  intro x hx
  simp only [dig, List.mem_map] at hx
  obtain ⟨i, _, rfl⟩ := hx
  generalize u / 2 ^ (8 * (if big then width - 1 - i else i)) = y
  omega
theorem div_step (u : Int) (k : Nat) : u / 2 ^ (8 * k) / 256 = u / 2 ^ (8 * (k + 1)) := by
  rw [Int.ediv_ediv_of_nonneg (Int.pow_nonneg (by decide)), Nat.mul_add, Int.pow_add]
  rfl
theorem dig_succ (k : Nat) (u : Int) : dig (k + 1) false u = dig k false u ++ [u / 2 ^ (8 * k) % 256] := by
  simp [dig, List.range_succ]
theorem dig_big (k : Nat) (u : Int) : dig k true u = (dig k false u).reverse := by
  apply List.ext_getElem
  · simp [dig]
  · intro i h1 h2
    simp [dig] at h1 ⊢
/-- The digits from the lowest on. -/
def dgt (l : List Int) (width : Nat) (big : Bool) (j : Nat) : Int := rdI l (if big then width - 1 - j else j)
/-- Horner: the first k digits from the highest on. -/
def hrn (l : List Int) (width : Nat) (big : Bool) : Nat → Int
  | 0 => 0
  | k + 1 => hrn l width big k * 256 + dgt l width big (width - 1 - k)
theorem hrn_getk (l : List Int) (width : Nat) (big : Bool) (k : Nat) (hk : k ≤ width) : getk l width big width = getk l width big (width - k) + hrn l width big k * 2 ^ (8 * (width - k)) := by
  induction k with
  | zero => simp [hrn]
  | succ k ih =>
    rw [ih (by omega)]
    obtain ⟨m, hm⟩ : ∃ m, width - k = m + 1 := ⟨width - k - 1, by omega⟩
    have h1 : width - (k + 1) = m := by omega
    have h2 : width - 1 - k = m := by omega
    rw [hm, h1, hrn, h2]
    simp only [getk]
    have h3 : (2 : Int) ^ (8 * (m + 1)) = 256 * 2 ^ (8 * m) := by rw [Nat.mul_add, Int.pow_add, Int.mul_comm]; rfl
    rw [h3, Int.add_mul, Int.mul_assoc]
    unfold dgt
    omega
theorem hrn_all (l : List Int) (width : Nat) (big : Bool) : hrn l width big width = getk l width big width := by
  have h := hrn_getk l width big width (Nat.le_refl _)
  rw [Nat.sub_self, show getk l width big 0 = 0 from rfl, Nat.mul_zero, Int.pow_zero] at h
  omega
theorem hrn_range {l : List Int} (h : Bts l) (width : Nat) (big : Bool) (k : Nat) : 0 ≤ hrn l width big k ∧ hrn l width big k < 2 ^ (8 * k) := by
  induction k with
  | zero => simp [hrn]
  | succ k ih =>
    have hx := h.at (if big then width - 1 - (width - 1 - k) else width - 1 - k)
    simp only [hrn, dgt]
    generalize rdI l (if big then width - 1 - (width - 1 - k) else width - 1 - k) = x at hx ⊢
    have h1 : (2 : Int) ^ (8 * (k + 1)) = 2 ^ (8 * k) * 256 := by rw [Nat.mul_add, Int.pow_add]; rfl
    rw [h1]
    omega
theorem pow_le56 (k : Nat) (hk : k ≤ 7) : (2 : Int) ^ (8 * k) ≤ 72057594037927936 := by
  have hp : (2 : Nat) ^ (8 * k) ≤ 2 ^ 56 := Nat.pow_le_pow_right (by decide) (by omega)
  have e : (2 : Int) ^ (8 * k) = ((2 ^ (8 * k) : Nat) : Int) := by norm_cast
  rw [e]
  have e2 : (2 : Nat) ^ 56 = 72057594037927936 := rfl
  omega

theorem dig_at (n : Nat) (big : Bool) (u : Int) (j : Nat) (h : j < n) : dgt (dig n big u) n big j = u / 2 ^ (8 * j) % 256 := by
  unfold dgt rdI dig
  rw [List.getD_eq_getElem?_getD, List.getElem?_map]
  cases big
  · simp [List.getElem?_range h]
  · simp only [if_true]
    rw [List.getElem?_range (by omega)]
    simp only [Option.map_some, Option.getD_some]
    rw [show n - 1 - (n - 1 - j) = j from by omega]
theorem mul_mod (u p : Int) (hp : 0 < p) : u % (p * 256) = u % p + u / p % 256 * p := by
  have e1 := Int.mul_ediv_add_emod u p
  have e2 := Int.mul_ediv_add_emod (u / p) 256
  have b1 := Int.emod_nonneg u (show p ≠ 0 by omega)
  have b2 := Int.emod_lt_of_pos u hp
  have b3 := Int.emod_nonneg (u / p) (show (256 : Int) ≠ 0 by decide)
  have b4 := Int.emod_lt_of_pos (u / p) (show (0 : Int) < 256 by decide)
  generalize u % p = r at *
  generalize u / p = q at *
  generalize q / 256 = a at *
  generalize q % 256 = b at *
  have e3 : u = (r + b * p) + (p * 256) * a := by
    rw [← e1, ← e2, Int.mul_add, ← Int.mul_assoc, Int.mul_comm b p]
    omega
  have h1 : b * p ≤ 255 * p := Int.mul_le_mul_of_nonneg_right (by omega) (by omega)
  have h2 : 0 ≤ b * p := Int.mul_nonneg b3 (by omega)
  rw [e3, Int.add_mul_emod_self_left, Int.emod_eq_of_lt (by omega) (by omega)]
theorem mod_step (u : Int) (k : Nat) : u % 2 ^ (8 * (k + 1)) = u % 2 ^ (8 * k) + u / 2 ^ (8 * k) % 256 * 2 ^ (8 * k) := by
  have h1 : (2 : Int) ^ (8 * (k + 1)) = 2 ^ (8 * k) * 256 := by rw [Nat.mul_add, Int.pow_add]; rfl
  rw [h1, mul_mod u _ (Int.pow_pos (by decide))]
theorem getk_dig (n : Nat) (big : Bool) (u : Int) (k : Nat) (hk : k ≤ n) : getk (dig n big u) n big k = u % 2 ^ (8 * k) := by
  induction k with
  | zero => simp [getk, Int.emod_one]
  | succ k ih =>
    rw [mod_step, ← ih (by omega), ← dig_at n big u k (by omega)]
    rfl
def fitsB (u width : Int) : Bool := width == 8 || u / 2 ^ (8 * width).toNat == 0
theorem fits_eq (u : Int) (n : Nat) (hn : n ≤ 8) (hu : 0 ≤ u) (hu2 : u < 18446744073709551616) : (u / 2 ^ (8 * n) == 0) = fitsB u n := by
  unfold fitsB
  rw [show (8 * (n : Int)).toNat = 8 * n from by omega]
  by_cases h : n = 8
  · subst h
    simp
    exact Int.ediv_eq_zero_of_lt hu (by simpa using hu2)
  · have : ((n : Int) == 8) = false := by simp; omega
    rw [this]
    rfl
theorem fits_lt (u : Int) (n : Nat) (hn : n ≤ 7) (h : fitsB u n = true) : u < 2 ^ (8 * n) := by
  unfold fitsB at h
  rw [show (8 * (n : Int)).toNat = 8 * n from by omega] at h
  have h8 : ((n : Int) == 8) = false := by simp; omega
  rw [h8] at h
  simp only [Bool.false_or, beq_iff_eq] at h
  have hp : (0 : Int) < 2 ^ (8 * n) := Int.pow_pos (by decide)
  have h1 := Int.lt_ediv_add_one_mul_self u hp
  rw [h] at h1
  simpa using h1
/-- The number with a sign, as the document says. -/
def sgnR (u width : Int) : Int := if 1 ≤ width ∧ width ≤ 8 ∧ fitsB u width = true then (if width = 8 then wrap64 u else if 2 ^ (8 * width - 1).toNat ≤ u then u - 2 ^ (8 * width).toNat else u) else 0
theorem sgnR_8 (u : Int) (h : fitsB u 8 = true) : sgnR u 8 = wrap64 u := by rw [sgnR, if_pos ⟨by decide, by decide, h⟩, if_pos rfl]
theorem sgnR_hi (u : Int) (n k : Nat) (h1 : 1 ≤ n) (hn : n ≤ 7) (h : fitsB u n = true) (hk : k + 1 = 8 * n) (hu : 2 ^ k ≤ u) : sgnR u n = u - 2 * 2 ^ k := by
  rw [sgnR, if_pos ⟨by omega, by omega, h⟩, if_neg (by omega), show (8 * (n : Int) - 1).toNat = k from by omega, if_pos hu, show (8 * (n : Int)).toNat = k + 1 from by omega, Int.pow_succ]
  omega
theorem sgnR_lo (u : Int) (n k : Nat) (h1 : 1 ≤ n) (hn : n ≤ 7) (h : fitsB u n = true) (hk : k + 1 = 8 * n) (hu : ¬ 2 ^ k ≤ u) : sgnR u n = u := by
  rw [sgnR, if_pos ⟨by omega, by omega, h⟩, if_neg (by omega), show (8 * (n : Int) - 1).toNat = k from by omega, if_neg hu]
theorem Bts.append {l m : List Int} (h : Bts l) (k : Bts m) : Bts (l ++ m) := by
  intro x hx
  rcases List.mem_append.1 hx with hx | hx
  · exact h x hx
  · exact k x hx
theorem Bts.take {l : List Int} (h : Bts l) (n : Nat) : Bts (l.take n) := fun x hx => h x (List.mem_of_mem_take hx)
theorem Bts.drop {l : List Int} (h : Bts l) (n : Nat) : Bts (l.drop n) := fun x hx => h x (List.mem_of_mem_drop hx)
theorem Bts.reverse {l : List Int} (h : Bts l) : Bts l.reverse := fun x hx => h x (List.mem_reverse.1 hx)
theorem Bts.nil : Bts [] := fun x hx => by cases hx
end Go.Proofs.YtadmpjikkpnjnaaDoor
