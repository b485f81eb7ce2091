/-
  What turned bits do to the cyclic sum's register: plain numbers. No program. No premise.
-/
import Derived.Test.YtelphnkbaeglaaaDoorChkP
namespace Go.Proofs.YtelphnkbaeglaaaDoor
open Go.RowKit Go.Proofs.YtelphnkbaeglaaaDoorW.PrintWords

theorem itN_pow (t : Nat) : itN t (2 ^ t) = 1 := by
  induction t with
  | zero => rfl
  | succ t ih =>
    have e : itN (t + 1) (2 ^ (t + 1)) = itN t (itN 1 (2 ^ (t + 1))) := itN_add t 1 _
    rw [e]
    have e2 : itN 1 (2 ^ (t + 1)) = 2 ^ t := by
      show sN (2 ^ (t + 1)) = 2 ^ t
      rw [Nat.pow_succ, Nat.mul_comm, sN_even]
    rw [e2, ih]
theorem itN_pow_le (n t : Nat) (h : t ≤ n) : itN n (2 ^ t) = itN (n - t) 1 := by
  have e : n = (n - t) + t := by omega
  conv => lhs; rw [e]
  rw [itN_add, itN_pow]
theorem byt_xor (r d x : Nat) : byt (r ^^^ d) x = byt r x ^^^ itN 8 d := by
  unfold byt
  rw [← itN_xor, Nat.xor_assoc, Nat.xor_comm d x, ← Nat.xor_assoc]
theorem reg_xor (l : List Int) (r d : Nat) : reg (r ^^^ d) l = reg r l ^^^ itN (8 * l.length) d := by
  induction l generalizing r d with
  | nil => rfl
  | cons x l ih =>
    have e1 : reg (r ^^^ d) (x :: l) = reg (byt (r ^^^ d) x.toNat) l := rfl
    have e2 : reg r (x :: l) = reg (byt r x.toNat) l := rfl
    rw [e1, e2, byt_xor, ih, List.length_cons, Nat.mul_add, itN_add]
/-- One bit that is turned. -/
theorem reg_flip (l : List Int) (q t : Nat) (hq : q < l.length) (ht : t < 8) (r : Nat) (y : Int) (hy : y.toNat = (rdI l q).toNat ^^^ 2 ^ t) :
    reg r (l.set q y) = reg r l ^^^ itN (8 * l.length - (8 * q + t)) 1 := by
  obtain ⟨e1, e2⟩ := set_split l q hq y
  rw [e2]
  conv => rhs; lhs; rw [e1]
  rw [reg_append, reg_append]
  generalize reg r (l.take q) = p
  have a1 : reg p (y :: l.drop (q + 1)) = reg (byt p y.toNat) (l.drop (q + 1)) := rfl
  have a2 : reg p (rdI l q :: l.drop (q + 1)) = reg (byt p (rdI l q).toNat) (l.drop (q + 1)) := rfl
  rw [a1, a2, hy]
  have b1 : byt p ((rdI l q).toNat ^^^ 2 ^ t) = byt p (rdI l q).toNat ^^^ itN 8 (2 ^ t) := by
    unfold byt
    rw [← itN_xor, Nat.xor_assoc]
  rw [b1, reg_xor, itN_pow_le 8 t (by omega), ← itN_add, List.length_drop]
  congr 2
  omega

theorem dig4_list (v : Nat) : dig 4 false (v : Int) = [((v % 256 : Nat) : Int), ((v / 256 % 256 : Nat) : Int), ((v / 65536 % 256 : Nat) : Int), ((v / 16777216 % 256 : Nat) : Int)] := by
  unfold dig
  simp [List.range_succ]
theorem byte_split (r v : Nat) : itN 8 (r ^^^ (v % 256)) = itN 8 (r ^^^ v) ^^^ (v / 256) := by
  have e : v = (2 ^ 8 * (v / 2 ^ 8)) ^^^ (v % 2 ^ 8) := by
    apply Nat.eq_of_testBit_eq
    intro i
    rw [Nat.testBit_xor, Nat.testBit_two_pow_mul, Nat.testBit_mod_two_pow, Nat.testBit_div_two_pow]
    by_cases h : i < 8
    · have h2 : ¬ 8 ≤ i := by omega
      simp [h, h2]
    · have h2 : 8 ≤ i := by omega
      simp [h, h2]
  have e3 : itN 8 (2 ^ 8 * (v / 2 ^ 8)) = v / 2 ^ 8 := by
    generalize v / 2 ^ 8 = q
    simp only [itN]
    rw [show 2 ^ 8 * q = 2 * (2 * (2 * (2 * (2 * (2 * (2 * (2 * q))))))) from by omega]
    simp only [sN_even]
  have e4 : r ^^^ v = (r ^^^ (v % 2 ^ 8)) ^^^ (2 ^ 8 * (v / 2 ^ 8)) := by
    conv => lhs; rw [e]
    rw [Nat.xor_comm (2 ^ 8 * (v / 2 ^ 8)), ← Nat.xor_assoc]
  rw [e4, itN_xor 8 (r ^^^ (v % 2 ^ 8)), e3, show (256 : Nat) = 2 ^ 8 from rfl, Nat.xor_assoc, Nat.xor_self, Nat.xor_zero]
theorem reg_dig4 (r v : Nat) (hv : v < 4294967296) : reg r (dig 4 false (v : Int)) = itN 32 (r ^^^ v) := by
  have step : ∀ (r v : Nat), byt r (v % 256) = itN 8 (r ^^^ v) ^^^ (v / 256) := byte_split
  rw [dig4_list]
  have e0 : reg r [((v % 256 : Nat) : Int), ((v / 256 % 256 : Nat) : Int), ((v / 65536 % 256 : Nat) : Int), ((v / 16777216 % 256 : Nat) : Int)] = byt (byt (byt (byt r (v % 256)) (v / 256 % 256)) (v / 65536 % 256)) (v / 16777216 % 256) := rfl
  rw [e0, step r v, step _ (v / 256)]
  rw [Nat.xor_assoc (itN 8 (r ^^^ v)), Nat.xor_self, Nat.xor_zero]
  rw [show v / 65536 = v / 256 / 256 from by omega, step _ (v / 256 / 256), Nat.xor_assoc (itN 8 (itN 8 (r ^^^ v))), Nat.xor_self, Nat.xor_zero]
  rw [show v / 16777216 = v / 256 / 256 / 256 from by omega, step _ (v / 256 / 256 / 256), Nat.xor_assoc (itN 8 (itN 8 (itN 8 (r ^^^ v)))), Nat.xor_self, Nat.xor_zero]
  rw [show v / 256 / 256 / 256 / 256 = 0 from by omega, Nat.xor_zero]
  rw [← itN_add, ← itN_add, ← itN_add]
/-- What the register comes to behind what was sealed. -/
def resN : Nat := itN 32 m32
theorem n32_zero_lt : n32 (0 : Int).toNat < 4294967296 := n32_lt _
theorem sealed_iff (s : List Int) (hs : Bts s) (h4 : ¬ s.length < 4) : sealL (s.take (s.length - 4)) = s ↔ reg (n32 (0 : Int).toNat) s = resN := by
  have hd : (s.drop (s.length - 4)).length = 4 := by rw [List.length_drop]; omega
  have hb2 : Bts (s.drop (s.length - 4)) := hs.drop _
  have e1 := dig_getk hb2 4 false hd
  have hgr : 0 ≤ getk (s.drop (s.length - 4)) 4 false 4 ∧ getk (s.drop (s.length - 4)) 4 false 4 < 4294967296 := getk_range hb2 4 false 4
  rw [← us_eq s hs h4]
  have ht := reg_lt (hs.take (s.length - 4)) n32_zero_lt
  have e2 : reg (n32 (0 : Int).toNat) s = reg (reg (n32 (0 : Int).toNat) (s.take (s.length - 4))) (s.drop (s.length - 4)) := by rw [← reg_append, List.take_append_drop]
  have e3 : moreS 0 (s.take (s.length - 4)) = ((n32 (reg (n32 (0 : Int).toNat) (s.take (s.length - 4))) : Nat) : Int) := rfl
  rw [e2, e3, ← e1]
  rw [e1]
  generalize getk (s.drop (s.length - 4)) 4 false 4 = u at *
  generalize reg (n32 (0 : Int).toNat) (s.take (s.length - 4)) = R at *
  obtain ⟨v, rfl⟩ := Int.eq_ofNat_of_zero_le hgr.1
  have hv : v < 4294967296 := by omega
  rw [← e1, reg_dig4 R v hv]
  unfold resN
  have hx : R ^^^ v < 4294967296 := by
    have := Nat.xor_lt_two_pow (n := 32) (x := R) (y := v) (by rw [two32]; exact ht) (by rw [two32]; exact hv)
    rwa [two32] at this
  have hm : m32 < 4294967296 := by decide +kernel
  constructor
  · intro h
    have h2 : v = n32 R := by exact_mod_cast h
    rw [h2, n32_xor R ht, Nat.xor_comm m32, xor_back]
  · intro h
    have h2 := itN_inj 32 hx hm h
    have h3 : v = n32 R := by
      rw [n32_xor R ht, ← h2, Nat.xor_comm, xor_back]
    rw [h3]

theorem bit_step (b i : Nat) : b % 2 ^ (i + 1) = if b / 2 ^ i % 2 = 1 then b % 2 ^ i ^^^ 2 ^ i else b % 2 ^ i := by
  have hb : b.testBit i = decide (b / 2 ^ i % 2 = 1) := Nat.testBit_eq_decide_div_mod_eq ..
  apply Nat.eq_of_testBit_eq
  intro j
  by_cases h : b / 2 ^ i % 2 = 1
  · rw [if_pos h, Nat.testBit_xor, Nat.testBit_mod_two_pow, Nat.testBit_mod_two_pow, Nat.testBit_two_pow]
    rw [h] at hb
    by_cases hj : j = i
    · subst hj
      simp [hb]
    · by_cases hj2 : j < i
      · simp [hj2, show j < i + 1 by omega, show ¬ i = j by omega]
      · simp [hj2, show ¬ j < i + 1 by omega, show ¬ i = j by omega]
  · rw [if_neg h, Nat.testBit_mod_two_pow, Nat.testBit_mod_two_pow]
    by_cases hj : j = i
    · subst hj
      simp [hb, h]
    · by_cases hj2 : j < i
      · simp [hj2, show j < i + 1 by omega]
      · simp [hj2, show ¬ j < i + 1 by omega]
/-- The bits that were turned so far, and what they make of the register. -/
theorem burst_step {s S : List Int} {N k i b : Nat} (hlen : S.length = s.length) (hN : N = 8 * s.length) (hki : k + i < N) (hr : reg (n32 (0 : Int).toNat) S = reg (n32 (0 : Int).toNat) s ^^^ itN (N - k) (b % 2 ^ i)) (hbit : b / 2 ^ i % 2 = 1)
    (y : Int) (hy : y.toNat = (rdI S ((k + i) / 8)).toNat ^^^ 2 ^ ((k + i) % 8)) :
    reg (n32 (0 : Int).toNat) (S.set ((k + i) / 8) y) = reg (n32 (0 : Int).toNat) s ^^^ itN (N - k) (b % 2 ^ (i + 1)) := by
  have h1 := reg_flip S ((k + i) / 8) ((k + i) % 8) (by omega) (by omega) (n32 (0 : Int).toNat) y hy
  rw [h1, hr, bit_step, if_pos hbit, itN_xor, itN_pow_le (N - k) i (by omega), Nat.xor_assoc]
  congr 3
  omega
theorem burst_end {s S : List Int} {N k m b : Nat} (hs : Bts s) (hS : Bts S) (h4 : 4 ≤ s.length) (hlen : S.length = s.length) (hm : m ≤ 32) (hse : sealL (s.take (s.length - 4)) = s)
    (hr : reg (n32 (0 : Int).toNat) S = reg (n32 (0 : Int).toNat) s ^^^ itN (N - k) (b % 2 ^ m)) (hne : b % 2 ^ m ≠ 0) : usE S = 5 ∧ usL S = [] := by
  have hE : usE S = 5 := by
    unfold usE
    rw [if_neg (by omega), if_neg]
    intro h
    have a1 := (sealed_iff S hS (by omega)).1 h
    have a2 := (sealed_iff s hs (by omega)).1 hse
    rw [hr, a2] at a1
    have a3 : itN (N - k) (b % 2 ^ m) = 0 := by
      have := congrArg (resN ^^^ ·) a1
      simp only [xor_back, Nat.xor_self] at this
      exact this
    have hb : b % 2 ^ m < 4294967296 := by
      have h1 : b % 2 ^ m < 2 ^ m := Nat.mod_lt _ (Nat.two_pow_pos m)
      have h2 : 2 ^ m ≤ 2 ^ 32 := Nat.pow_le_pow_right (by decide) hm
      rw [two32] at h2
      omega
    exact hne (itN_zero _ hb a3)
  refine ⟨hE, ?_⟩
  unfold usL
  rw [if_neg (by omega)]
theorem flip_byte {x : Int} (hx : 0 ≤ x ∧ x ≤ 255) {t : Nat} (ht : t < 8) : ∃ y : Int, bits .xor .u8 x ((2 : Int) ^ t % 256) = y ∧ (0 ≤ y ∧ y ≤ 255) ∧ y.toNat = x.toNat ^^^ 2 ^ t := by
  obtain ⟨x, rfl⟩ := Int.eq_ofNat_of_zero_le hx.1
  have h2 : 2 ^ t < 256 := by
    have : 2 ^ t ≤ 2 ^ 7 := Nat.pow_le_pow_right (by decide) (by omega)
    omega
  have e : (2 : Int) ^ t % 256 = ((2 ^ t : Nat) : Int) := by
    rw [show (2 : Int) ^ t = ((2 ^ t : Nat) : Int) from by rw [Int.natCast_pow]; rfl]
    generalize 2 ^ t = z at h2
    omega
  rw [e]
  refine ⟨((x ^^^ 2 ^ t : Nat) : Int), u8_xor_nat x (2 ^ t) (by omega) h2, ?_, ?_⟩
  · have := Nat.xor_lt_two_pow (n := 8) (x := x) (y := 2 ^ t) (by omega) (by omega)
    omega
  · rw [Int.toNat_natCast, Int.toNat_natCast]
theorem bit_ne (b j : Nat) (h : b / 2 ^ j % 2 = 1) : b % 2 ^ (j + 1) ≠ 0 := by
  intro h0
  have := Nat.mod_mul_right_div_self b (2 ^ j) 2
  rw [← Nat.pow_succ, h0, Nat.zero_div] at this
  omega
end Go.Proofs.YtelphnkbaeglaaaDoor
