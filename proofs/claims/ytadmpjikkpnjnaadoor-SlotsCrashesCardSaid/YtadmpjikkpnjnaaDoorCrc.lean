/-
  The cyclic sum in plain numbers: bit by bit, by half bytes, by bytes. No program, no memory. No premise.
-/
import Derived.Test.YtadmpjikkpnjnaaDoorNum
namespace Go.Proofs.YtadmpjikkpnjnaaDoor
open Go.RowKit

/-- One bit of a register. -/
def sN (r : Nat) : Nat := if r % 2 = 1 then r / 2 ^^^ 3988292384 else r / 2
def itN : Nat → Nat → Nat
  | 0, r => r
  | k + 1, r => sN (itN k r)
def shortN : List Nat := [0, 498536548, 997073096, 651767980, 1994146192, 1802195444, 1303535960, 1342533948, 3988292384, 4027552580, 3604390888, 3412177804, 2607071920, 2262029012, 2685067896, 3183342108]
def nib (r : Nat) : Nat := r / 16 ^^^ shortN.getD (r % 16) 0

theorem sN_xor (a b : Nat) : sN (a ^^^ b) = sN a ^^^ sN b := by
  unfold sN
  by_cases ha : a % 2 = 1 <;> by_cases hb : b % 2 = 1
  · rw [if_neg (by rw [Nat.xor_mod_two_eq_one]; simp [ha, hb]), if_pos ha, if_pos hb, Nat.xor_div_two]
    rw [Nat.xor_assoc, Nat.xor_comm 3988292384, Nat.xor_assoc, Nat.xor_self, Nat.xor_zero]
  · rw [if_pos (by rw [Nat.xor_mod_two_eq_one]; simp [ha, hb]), if_pos ha, if_neg hb, Nat.xor_div_two]
    rw [Nat.xor_assoc, Nat.xor_assoc, Nat.xor_comm (b / 2)]
  · rw [if_pos (by rw [Nat.xor_mod_two_eq_one]; simp [ha, hb]), if_neg ha, if_pos hb, Nat.xor_div_two]
    rw [Nat.xor_assoc]
  · rw [if_neg (by rw [Nat.xor_mod_two_eq_one]; simp [ha, hb]), if_neg ha, if_neg hb, Nat.xor_div_two]
theorem sN_lt {r : Nat} (h : r < 4294967296) : sN r < 4294967296 := by
  unfold sN
  split
  · exact Nat.xor_lt_two_pow (n := 32) (by omega) (by omega)
  · omega
theorem xor_zero_eq {a b : Nat} (h : a ^^^ b = 0) : a = b := by
  have : a ^^^ b ^^^ b = b := by rw [h, Nat.zero_xor]
  rwa [Nat.xor_assoc, Nat.xor_self, Nat.xor_zero] at this
theorem sN_zero {r : Nat} (h : r < 4294967296) (h0 : sN r = 0) : r = 0 := by
  unfold sN at h0
  split at h0
  · have := xor_zero_eq h0
    omega
  · omega
theorem itN_xor (k a b : Nat) : itN k (a ^^^ b) = itN k a ^^^ itN k b := by
  induction k with
  | zero => rfl
  | succ k ih => simp only [itN]; rw [ih, sN_xor]
theorem itN_lt (k : Nat) {r : Nat} (h : r < 4294967296) : itN k r < 4294967296 := by
  induction k with
  | zero => exact h
  | succ k ih => exact sN_lt ih
theorem itN_zero (k : Nat) {r : Nat} (h : r < 4294967296) (h0 : itN k r = 0) : r = 0 := by
  induction k with
  | zero => exact h0
  | succ k ih => exact ih (sN_zero (itN_lt k h) h0)
theorem itN_nought (k : Nat) : itN k 0 = 0 := by
  induction k with
  | zero => rfl
  | succ k ih => simp only [itN, ih]; rfl
theorem itN_add (j k r : Nat) : itN (j + k) r = itN j (itN k r) := by
  induction j with
  | zero => simp [itN]
  | succ j ih => rw [Nat.succ_add]; simp only [itN]; rw [ih]
theorem itN_inj (k : Nat) {a b : Nat} (ha : a < 4294967296) (hb : b < 4294967296) (h : itN k a = itN k b) : a = b := by
  have h1 : itN k (a ^^^ b) = 0 := by rw [itN_xor, h, Nat.xor_self]
  exact xor_zero_eq (itN_zero k (Nat.xor_lt_two_pow (n := 32) ha hb) h1)
theorem sN_even (q : Nat) : sN (2 * q) = q := by
  unfold sN
  rw [if_neg (by omega)]
  omega
theorem it4_hi (q : Nat) : itN 4 (16 * q) = q := by
  simp only [itN]
  rw [show 16 * q = 2 * (8 * q) from by omega, sN_even, show 8 * q = 2 * (4 * q) from by omega, sN_even, show 4 * q = 2 * (2 * q) from by omega, sN_even, sN_even]
theorem it4_lo : ∀ m, m < 16 → itN 4 m = shortN.getD m 0 := by decide +kernel
theorem nib_eq (r : Nat) : nib r = itN 4 r := by
  have h : r = 16 * (r / 16) ^^^ r % 16 := by
    apply Nat.eq_of_testBit_eq
    intro i
    rw [Nat.testBit_xor, show 16 * (r / 16) = 2 ^ 4 * (r / 2 ^ 4) from rfl, show r % 16 = r % 2 ^ 4 from rfl, Nat.testBit_two_pow_mul, Nat.testBit_mod_two_pow, Nat.testBit_div_two_pow]
    by_cases h : i < 4
    · have h2 : ¬ 4 ≤ i := by omega
      simp [h, h2]
    · have h2 : 4 ≤ i := by omega
      simp [h, h2]
  unfold nib
  conv => rhs; rw [h]
  rw [itN_xor, it4_hi, it4_lo _ (by omega)]

/-- A byte. -/
def byt (r x : Nat) : Nat := itN 8 (r ^^^ x)
theorem nib_byt (r x : Nat) : nib (nib (r ^^^ x)) = byt r x := by
  rw [nib_eq, nib_eq, ← itN_add]
  rfl
theorem byt_lt {r x : Nat} (h : r < 4294967296) (hx : x < 256) : byt r x < 4294967296 := itN_lt 8 (Nat.xor_lt_two_pow (n := 32) h (by omega))

/-- The register behind bytes. -/
def reg (r : Nat) (l : List Int) : Nat := l.foldl (fun r x => byt r x.toNat) r
theorem reg_lt {l : List Int} (hb : Bts l) {r : Nat} (h : r < 4294967296) : reg r l < 4294967296 := by
  induction l generalizing r with
  | nil => exact h
  | cons x l ih =>
    have hx := hb x (List.mem_cons_self)
    exact ih (fun y hy => hb y (List.mem_cons_of_mem _ hy)) (byt_lt h (by omega))
theorem reg_append (r : Nat) (l m : List Int) : reg r (l ++ m) = reg (reg r l) m := by simp [reg]
theorem reg_take_succ (r : Nat) (l : List Int) (k : Nat) (h : k < l.length) : reg r (l.take (k + 1)) = byt (reg r (l.take k)) (rdI l k).toNat := by
  rw [List.take_add_one, List.getElem?_eq_getElem h, reg_append]
  simp [reg, rdI, h]

theorem xor_back (m a : Nat) : m ^^^ (m ^^^ a) = a := by rw [← Nat.xor_assoc, Nat.xor_self, Nat.zero_xor]
theorem two32 : (2 : Nat) ^ 32 = 4294967296 := by decide +kernel
def m32 : Nat := 4294967295
theorem m32_pow : m32 = 2 ^ 32 - 1 := by decide +kernel
/-- All bits turned. -/
def n32 (a : Nat) : Nat := 4294967295 - a
theorem n32_lt (a : Nat) : n32 a < 4294967296 := by unfold n32; omega
theorem n32_n32 {a : Nat} (h : a < 4294967296) : n32 (n32 a) = a := by unfold n32; omega
theorem ones_xor (n a : Nat) (h : a < 2 ^ n) : (2 ^ n - 1) ^^^ a = 2 ^ n - (a + 1) := by
  apply Nat.eq_of_testBit_eq
  intro i
  rw [Nat.testBit_two_pow_sub_succ h, Nat.testBit_xor, Nat.testBit_two_pow_sub_one]
  by_cases hi : i < n
  · simp [hi]
  · have : a.testBit i = false := Nat.testBit_lt_two_pow (Nat.lt_of_lt_of_le h (Nat.pow_le_pow_right (n := 2) (by decide) (show n ≤ i by omega)))
    simp [hi, this]
theorem n32_xor (a : Nat) (h : a < 4294967296) : n32 a = m32 ^^^ a := by
  have h1 := ones_xor 32 a (by rw [two32]; exact h)
  rw [← m32_pow, two32] at h1
  unfold n32
  rw [h1]
  omega
/-- The cyclic sum of what has one, with bytes behind it. -/
def moreS (c : Int) (l : List Int) : Int := ((n32 (reg (n32 c.toNat) l) : Nat) : Int)
theorem moreS_range (c : Int) (l : List Int) : 0 ≤ moreS c l ∧ moreS c l < 4294967296 := by
  unfold moreS
  have h1 := n32_lt (reg (n32 c.toNat) l)
  omega
end Go.Proofs.YtadmpjikkpnjnaaDoor
