/-
  Layer 4 in plain terms: a root's bytes, what bytes tell, which root stands. No program. No premise.
-/
import Derived.Test.YtadmpjikkpnjnaaDoorChkP
namespace Go.Proofs.YtadmpjikkpnjnaaDoor
open Go.RowKit Go.Proofs.YtadmpjikkpnjnaaDoorW.PrintWords

structure Rt where
  g : Int
  pl : Int
  sz : Int
deriving DecidableEq
def Rt.zero : Rt := ⟨0, 0, 0⟩
def Rt.v (r : Rt) : Value := .agg #[.int .u64 r.g, .int .i64 r.pl, .int .i64 r.sz]
def rtOk (r : Rt) : Prop := (0 ≤ r.pl ∧ r.pl ≤ 4194304) ∧ 0 ≤ r.sz ∧ r.sz ≤ 4194304
instance (r : Rt) : Decidable (rtOk r) := by unfold rtOk; infer_instance
/-- A generation within its kind. -/
def gOk (r : Rt) : Prop := 0 ≤ r.g ∧ r.g < 18446744073709551616
def rtX (r : Rt) : List Int := [83, 76, 65, 66] ++ (dig 8 false r.g ++ (dig 4 false 0 ++ (dig 4 false r.pl ++ (dig 4 false r.sz ++ dig 4 false 0))))
theorem rtX_length (r : Rt) : (rtX r).length = 28 := by simp [rtX, dig_length]
theorem rtX_bts (r : Rt) : Bts (rtX r) := by
  unfold rtX
  exact Bts.append (by unfold Bts; decide) ((dig_bts _ _ _).append ((dig_bts _ _ _).append ((dig_bts _ _ _).append ((dig_bts _ _ _).append (dig_bts _ _ _)))))
def byE (r : Rt) : Int := if rtOk r then 0 else 2
def byL (r : Rt) : List Int := if rtOk r then sealL (rtX r) else []
theorem byL_length {r : Rt} (h : rtOk r) : (byL r).length = 32 := by unfold byL; rw [if_pos h, sealL_length, rtX_length]
theorem byL_le (r : Rt) : (byL r).length ≤ 32 := by
  unfold byL
  split
  · rw [sealL_length, rtX_length]; exact Nat.le_refl _
  · simp
theorem byL_bts (r : Rt) : Bts (byL r) := by
  unfold byL
  split
  · exact sealL_bts (rtX_bts r)
  · exact Bts.nil
/-- What the first 32 bytes tell. -/
def ldR0 (l : List Int) : Rt := ⟨getk ((l.drop 4).take 8) 8 false 8, getk ((l.drop 16).take 4) 4 false 4, getk ((l.drop 20).take 4) 4 false 4⟩
def ldOk (l : List Int) : Prop := 32 ≤ l.length ∧ rtOk (ldR0 l) ∧ sealL (rtX (ldR0 l)) = l.take 32
instance (l : List Int) : Decidable (ldOk l) := by unfold ldOk; infer_instance
def ldE (l : List Int) : Int := if l.length < 32 then 4 else if ldOk l then 0 else 5
def ldR (l : List Int) : Rt := if ldOk l then ldR0 l else Rt.zero
theorem ldR0_take (l : List Int) : ldR0 (l.take 32) = ldR0 l := by
  unfold ldR0
  simp only [List.drop_take, List.take_take]
  rfl
theorem ldR0_range {l : List Int} (h : Bts l) : gOk (ldR0 l) ∧ (0 ≤ (ldR0 l).pl ∧ (ldR0 l).pl < 4294967296) ∧ 0 ≤ (ldR0 l).sz ∧ (ldR0 l).sz < 4294967296 := by
  have h1 := getk_range ((h.drop 4).take 8) 8 false 8
  have h2 := getk_range ((h.drop 16).take 4) 4 false 4
  have h3 := getk_range ((h.drop 20).take 4) 4 false 4
  rw [show (2 : Int) ^ (8 * 8) = 18446744073709551616 from by decide +kernel] at h1
  rw [show (2 : Int) ^ (8 * 4) = 4294967296 from by decide +kernel] at h2 h3
  exact ⟨h1, h2, h3⟩
theorem ldE_zero {l : List Int} : ldE l = 0 ↔ ldOk l := by
  unfold ldE
  constructor
  · intro h
    split at h
    · cases h
    · split at h
      · assumption
      · cases h
  · intro h
    rw [if_neg (by have := h.1; omega), if_pos h]
theorem seal_parts (r : Rt) (rest : List Int) : ((sealL (rtX r) ++ rest).drop 4).take 8 = dig 8 false r.g ∧ ((sealL (rtX r) ++ rest).drop 16).take 4 = dig 4 false r.pl ∧ ((sealL (rtX r) ++ rest).drop 20).take 4 = dig 4 false r.sz := by
  have h8 := dig_length 8 false r.g
  have h0 := dig_length 4 false 0
  have hp := dig_length 4 false r.pl
  have hs := dig_length 4 false r.sz
  unfold sealL rtX
  generalize dig 4 false (moreS 0 _) = m
  generalize dig 8 false r.g = a at *
  generalize dig 4 false 0 = z at *
  generalize dig 4 false r.pl = p at *
  generalize dig 4 false r.sz = s at *
  refine ⟨?_, ?_, ?_⟩
  · simp [List.drop_append, List.take_append, h8, h0, hp, hs, List.take_of_length_le]
  · simp [List.drop_append, List.take_append, h8, h0, hp, hs, List.take_of_length_le, List.drop_of_length_le]
  · simp [List.drop_append, List.take_append, h8, h0, hp, hs, List.take_of_length_le, List.drop_of_length_le]
theorem ldR0_of {r : Rt} (h : rtOk r) (hg : gOk r) (rest : List Int) : ldR0 (sealL (rtX r) ++ rest) = r := by
  obtain ⟨e1, e2, e3⟩ := seal_parts r rest
  unfold ldR0
  rw [e1, e2, e3, getk_dig 8 false _ 8 (by decide), getk_dig 4 false _ 4 (by decide), getk_dig 4 false _ 4 (by decide)]
  rw [show (2 : Int) ^ (8 * 8) = 18446744073709551616 from by decide +kernel, show (2 : Int) ^ (8 * 4) = 4294967296 from by decide +kernel]
  obtain ⟨g, p, s⟩ := r
  unfold rtOk at h
  unfold gOk at hg
  simp only at h hg ⊢
  rw [Int.emod_eq_of_lt hg.1 hg.2, Int.emod_eq_of_lt h.1.1 (by omega), Int.emod_eq_of_lt h.2.1 (by omega)]
theorem ldOk_of {r : Rt} (h : rtOk r) (hg : gOk r) (rest : List Int) : ldOk (sealL (rtX r) ++ rest) ∧ ldR (sealL (rtX r) ++ rest) = r := by
  have h0 := ldR0_of h hg rest
  have hk : ldOk (sealL (rtX r) ++ rest) := by
    refine ⟨?_, by rw [h0]; exact h, ?_⟩
    · rw [List.length_append, sealL_length, rtX_length]; omega
    · rw [h0]
      exact (List.take_left' (by rw [sealL_length, rtX_length])).symm
  refine ⟨hk, ?_⟩
  unfold ldR
  rw [if_pos hk, h0]
/-- What is told has the bytes of what it tells. -/
theorem ldOk_is {l : List Int} (h : ldOk l) : l.take 32 = byL (ldR l) ∧ rtOk (ldR l) := by
  unfold ldR
  rw [if_pos h]
  refine ⟨?_, h.2.1⟩
  unfold byL
  rw [if_pos h.2.1]
  exact h.2.2.symm
theorem split_seal {r : Rt} {x y : List Int} (hy : y.length = 4) (h : sealL (rtX r) = x ++ y) : rtX r = x ∧ dig 4 false (moreS 0 (rtX r)) = y := by
  unfold sealL at h
  have hl := congrArg List.length h
  rw [List.length_append, List.length_append, dig_length, hy, rtX_length] at hl
  exact List.append_inj h (by rw [rtX_length]; omega)
/-- One byte that is another one. -/
theorem ld_turned {r : Rt} (k : Nat) (hk : k < 32) (y : Int) (hy : 0 ≤ y ∧ y ≤ 255) (hne : y ≠ rdI (sealL (rtX r)) k) (rest : List Int) : ¬ ldOk ((sealL (rtX r)).set k y ++ rest) := by
  intro h
  have h3 := h.2.2
  have hl : ((sealL (rtX r)).set k y).length = 32 := by rw [List.length_set, sealL_length, rtX_length]
  rw [List.take_left' hl] at h3
  generalize ldR0 ((sealL (rtX r)).set k y ++ rest) = r' at h3
  rcases Nat.lt_or_ge k 28 with h1 | h1
  · rw [set_seal _ _ (by rw [rtX_length]; exact h1)] at h3
    obtain ⟨e1, e2⟩ := split_seal (dig_length _ _ _) h3
    rw [rdI_seal _ _ (by rw [rtX_length]; exact h1)] at hne
    have e3 := dig4_inj (moreS_range 0 _) (moreS_range 0 _) e2
    rw [e1] at e3
    exact crc_turned (rtX_bts r) k (by rw [rtX_length]; exact h1) y hy hne e3
  · have e0 : (sealL (rtX r)).set k y = rtX r ++ (dig 4 false (moreS 0 (rtX r))).set (k - 28) y := by
      unfold sealL
      rw [List.set_append_right _ _ (by rw [rtX_length]; exact h1), rtX_length]
    rw [e0] at h3
    obtain ⟨e1, e2⟩ := split_seal (by rw [List.length_set, dig_length]) h3
    rw [e1] at e2
    have h4 : (dig 4 false (moreS 0 (rtX r))).length = 4 := dig_length _ _ _
    have h5 : rdI ((dig 4 false (moreS 0 (rtX r))).set (k - 28) y) (k - 28) = rdI (dig 4 false (moreS 0 (rtX r))) (k - 28) := by rw [← e2]
    rw [rdI_set _ _ _ _ (by rw [h4]; omega), if_pos rfl] at h5
    apply hne
    rw [h5]
    unfold rdI sealL
    rw [List.getD_eq_getElem?_getD, List.getD_eq_getElem?_getD, List.getElem?_append_right (by rw [rtX_length]; exact h1), rtX_length]
/-- The root that a slot tells, if it is one of its own. -/
def slotOk (b : List Int) (k : Nat) : Prop := ldOk (b.drop (32 * k)) ∧ (ldR (b.drop (32 * k))).g % 2 = k
instance (b : List Int) (k : Nat) : Decidable (slotOk b k) := by unfold slotOk; infer_instance
def slotR (b : List Int) (k : Nat) : Rt := ldR (b.drop (32 * k))
def bsIs (b : List Int) : Bool := decide (slotOk b 0 ∨ slotOk b 1)
def bsR (b : List Int) : Rt := if slotOk b 0 then (if slotOk b 1 ∧ (slotR b 0).g < (slotR b 1).g then slotR b 1 else slotR b 0) else if slotOk b 1 then slotR b 1 else Rt.zero
end Go.Proofs.YtadmpjikkpnjnaaDoor
