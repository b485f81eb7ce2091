/-
  check.Fletcher; slabvaultref02.Fletcher. No premise.
-/
import Derived.Test.YtadmpjikkpnjnaaDoorOct3
import Derived.Test.YtadmpjikkpnjnaaDoorCrc
namespace Go.Proofs.YtadmpjikkpnjnaaDoor
open Go.RowKit Go.Proofs.YtadmpjikkpnjnaaDoorW.PrintWords

def flStep (p : Int × Int) (x : Int) : Int × Int := ((p.1 + x) % 65535, (p.2 + (p.1 + x) % 65535) % 65535)
def flP (l : List Int) : Int × Int := l.foldl flStep (0, 0)
theorem flP_take_succ (l : List Int) (k : Nat) (h : k < l.length) : flP (l.take (k + 1)) = flStep (flP (l.take k)) (rdI l k) := by
  rw [List.take_add_one, List.getElem?_eq_getElem h, flP, List.foldl_append]
  simp [flP, rdI, h]
theorem flStep_range (p : Int × Int) (x : Int) : (0 ≤ (flStep p x).1 ∧ (flStep p x).1 < 65535) ∧ (0 ≤ (flStep p x).2 ∧ (flStep p x).2 < 65535) := by
  unfold flStep
  refine ⟨⟨Int.emod_nonneg _ (by decide), Int.emod_lt_of_pos _ (by decide)⟩, ⟨Int.emod_nonneg _ (by decide), Int.emod_lt_of_pos _ (by decide)⟩⟩
theorem fl_fold_range (l : List Int) (p : Int × Int) (hp : (0 ≤ p.1 ∧ p.1 < 65535) ∧ (0 ≤ p.2 ∧ p.2 < 65535)) : (0 ≤ (l.foldl flStep p).1 ∧ (l.foldl flStep p).1 < 65535) ∧ (0 ≤ (l.foldl flStep p).2 ∧ (l.foldl flStep p).2 < 65535) := by
  induction l generalizing p with
  | nil => exact hp
  | cons x l ih => exact ih _ (flStep_range p x)
theorem flP_range (l : List Int) : (0 ≤ (flP l).1 ∧ (flP l).1 < 65535) ∧ (0 ≤ (flP l).2 ∧ (flP l).2 < 65535) := fl_fold_range l (0, 0) (by decide)
def fletS (l : List Int) : Int := (flP l).2 * 65536 + (flP l).1
theorem fletS_range (l : List Int) : 0 ≤ fletS l ∧ fletS l < 4294967296 := by
  have := flP_range l
  unfold fletS
  omega
theorem mul_or_lt (n a b : Nat) (h : b < 2 ^ n) : a * 2 ^ n ||| b = a * 2 ^ n + b := by
  rw [Nat.mul_comm, Nat.two_pow_add_eq_or_of_lt h]
theorem p16 : (2 : Nat) ^ 16 = 65536 := by decide +kernel
theorem u32_or_16 (a b : Int) (ha : 0 ≤ a) (ha2 : a < 65535) (hb : 0 ≤ b) (hb2 : b < 65535) : bits .or .u32 (a * 65536) b = a * 65536 + b := by
  obtain ⟨a, rfl⟩ := Int.eq_ofNat_of_zero_le ha
  obtain ⟨b, rfl⟩ := Int.eq_ofNat_of_zero_le hb
  have h := u32_or_nat (a * 65536) b (by omega) (by omega)
  rw [Int.natCast_mul] at h
  have h3 := mul_or_lt 16 a b (by rw [p16]; omega)
  rw [p16] at h3
  rw [h3, Int.natCast_add, Int.natCast_mul] at h
  exact h
theorem retU32 {k : IntKind} {a b : Int} (h : a = b) : Ending.returned (.int k a) = .returned (.int k b) := by rw [h]
/-- What a loop knows of Fletcher's two registers. -/
theorem fl_opaque (l : List Int) : ∃ L H : Nat → Int, L 0 = 0 ∧ H 0 = 0 ∧ (∀ k, k < l.length → L (k + 1) = (L k + rdI l k) % 65535 ∧ H (k + 1) = (H k + L (k + 1)) % 65535) ∧ (∀ k, (0 ≤ L k ∧ L k < 65535) ∧ (0 ≤ H k ∧ H k < 65535)) ∧ H l.length * 65536 + L l.length = fletS l := by
  refine ⟨fun k => (flP (l.take k)).1, fun k => (flP (l.take k)).2, rfl, rfl, fun k hk => ?_, fun k => flP_range _, ?_⟩
  · have h := flP_take_succ l k hk
    show (flP (l.take (k + 1))).1 = ((flP (l.take k)).1 + rdI l k) % 65535 ∧ (flP (l.take (k + 1))).2 = ((flP (l.take k)).2 + (flP (l.take (k + 1))).1) % 65535
    rw [h]
    exact ⟨rfl, rfl⟩
  · show (flP (l.take l.length)).2 * 65536 + (flP (l.take l.length)).1 = _
    rw [List.take_length]
    rfl

end Go.Proofs.YtadmpjikkpnjnaaDoor
