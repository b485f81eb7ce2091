/-
  check.Fletcher; slabvaultref02.Fletcher. No premise.
-/
import Derived.Test.YtdfpikimeihefaaOct3
import Derived.Test.YtdfpikimeihefaaCrc
namespace Go.Proofs.Ytdfpikimeihefaa
open Go.RowKit Go.Proofs.YtdfpikimeihefaaW.PrintWords

def flStep (p : Int × Int) (x : Int) : Int × Int := ((p.1 + x) % 65535, (p.2 + (p.1 + x) % 65535) % 65535)
def flP (l : List Int) : Int × Int := l.foldl flStep (0, 0)
theorem flP_take_succ (l : List Int) (k : Nat) (h : k < l.length) : flP (l.take (k + 1)) = flStep (flP (l.take k)) (rdI l k) := by
  rw [List.take_add_one, List.getElem?_eq_getElem h, flP, List.foldl_append]
  simp [flP, rdI, h]
theorem flStep_range (p : Int × Int) (x : Int) : (0 ≤ (flStep p x).1 ∧ (flStep p x).1 < 65535) ∧ (0 ≤ (flStep p x).2 ∧ (flStep p x).2 < 65535) := by
  unfold flStep
  refine ⟨⟨Int.emod_nonneg _ (by decide), Int.emod_lt_of_pos _ (by decide)⟩, ⟨Int.emod_nonneg _ (by decide), Int.emod_lt_of_pos _ (by decide)⟩⟩
theorem fl_fold_range (l : List Int) (p : Int × Int) (hp : (0 ≤ p.1 ∧ p.1 < 65535) ∧ (0 ≤ p.2 ∧ p.2 < 65535)) : (0 ≤ (l.foldl flStep p).1 ∧ (l.foldl flStep p).1 < 65535) ∧ (0 ≤ (l.foldl flStep p).2 ∧ (l.foldl flStep p).2 < 65535) := by
  induction l generalizing p with
  | nil => exact hp
  | cons x l ih => exact ih _ (flStep_range p x)
theorem flP_range (l : List Int) : (0 ≤ (flP l).1 ∧ (flP l).1 < 65535) ∧ (0 ≤ (flP l).2 ∧ (flP l).2 < 65535) := fl_fold_range l (0, 0) (by decide)
def fletS (l : List Int) : Int := (flP l).2 * 65536 + (flP l).1
theorem fletS_range (l : List Int) : 0 ≤ fletS l ∧ fletS l < 4294967296 := by
  have := flP_range l
  unfold fletS
  omega
theorem mul_or_lt (n a b : Nat) (h : b < 2 ^ n) : a * 2 ^ n ||| b = a * 2 ^ n + b := by
  rw [Nat.mul_comm, Nat.two_pow_add_eq_or_of_lt h]
theorem p16 : (2 : Nat) ^ 16 = 65536 := by decide +kernel
theorem u32_or_16 (a b : Int) (ha : 0 ≤ a) (ha2 : a < 65535) (hb : 0 ≤ b) (hb2 : b < 65535) : bits .or .u32 (a * 65536) b = a * 65536 + b := by
  obtain ⟨a, rfl⟩ := Int.eq_ofNat_of_zero_le ha
  obtain ⟨b, rfl⟩ := Int.eq_ofNat_of_zero_le hb
  have h := u32_or_nat (a * 65536) b (by omega) (by omega)
  rw [Int.natCast_mul] at h
  have h3 := mul_or_lt 16 a b (by rw [p16]; omega)
  rw [p16] at h3
  rw [h3, Int.natCast_add, Int.natCast_mul] at h
  exact h
theorem retU32 {k : IntKind} {a b : Int} (h : a = b) : Ending.returned (.int k a) = .returned (.int k b) := by rw [h]
/-- What a loop knows of Fletcher's two registers. -/
theorem fl_opaque (l : List Int) : ∃ L H : Nat → Int, L 0 = 0 ∧ H 0 = 0 ∧ (∀ k, k < l.length → L (k + 1) = (L k + rdI l k) % 65535 ∧ H (k + 1) = (H k + L (k + 1)) % 65535) ∧ (∀ k, (0 ≤ L k ∧ L k < 65535) ∧ (0 ≤ H k ∧ H k < 65535)) ∧ H l.length * 65536 + L l.length = fletS l := by
  refine ⟨fun k => (flP (l.take k)).1, fun k => (flP (l.take k)).2, rfl, rfl, fun k hk => ?_, fun k => flP_range _, ?_⟩
  · have h := flP_take_succ l k hk
    show (flP (l.take (k + 1))).1 = ((flP (l.take k)).1 + rdI l k) % 65535 ∧ (flP (l.take (k + 1))).2 = ((flP (l.take k)).2 + (flP (l.take (k + 1))).1) % 65535
    rw [h]
    exact ⟨rfl, rfl⟩
  · show (flP (l.take l.length)).2 * 65536 + (flP (l.take l.length)).1 = _
    rw [List.take_length]
    rfl

set_option maxHeartbeats 800000 in
theorem fletcher_any (A : Option Addr) (c : Nat) (l : List Int) (w : World) (hr : Rd w A l) (hb : Bts l) (hl : l.length ≤ 150000000000000) :
    Calls Try.prog 58 #[.slice A l.length c] w fun e w' => e = .returned (.int .u32 (fletS l)) ∧ w = w' := by
  have HR := Lib.hid hr
  obtain ⟨L, H, hL0, hH0, hs, hrg, he⟩ := fl_opaque l
  have HBt := Lib.hid hb
  have HL0 := Lib.hid hL0
  have HH0 := Lib.hid hH0
  have HS := Lib.hid hs
  have HRG := Lib.hid hrg
  have HE := Lib.hid he
  clear hr hb hL0 hH0 hs hrg he
  go_enter Try.func58, Try.ntmps58
  go_wp2_with fail
  go_loop [3, 4, 9] (fun lo hi i => ∃ k : Nat, k ≤ l.length ∧ i = .int .i64 k ∧ lo = .int .u32 (L k) ∧ hi = .int .u32 (H k)) (fun _ _ i => l.length - (intOf i).toNat)
  case atStart => exact ⟨0, by omega, rfl, by rw [HL0.out], by rw [HH0.out]⟩
  case round =>
    obtain ⟨k, hk, rfl, rfl, rfl⟩ := hrel
    have hq := HRG.out k
    by_cases hlt : k < l.length
    · obtain ⟨ad, rfl, hcc⟩ := HR.out.2.2 (by omega)
      have hc1 := hcc k hlt
      have hx := HBt.out.at k
      have hstep := HS.out k hlt
      rw [show l.getD k 0 = rdI l k from rfl] at hc1
      generalize rdI l k = x at hc1 hx hstep
      have HST := Lib.hid hstep
      generalize hlo : L k = lo at hq
      generalize hhi : H k = hi at hq
      obtain ⟨⟨q1, q2⟩, q3, q4⟩ := hq
      have Hlo := Lib.hid hlo
      have Hhi := Lib.hid hhi
      clear hcc hstep hlo hhi
      go_wp2_with fail
      go_round
      case rel =>
        refine ⟨k + 1, by omega, by push_cast; rfl, ?_, ?_⟩
        · rw [HST.out.1, Hlo.out]
        · rw [HST.out.2, HST.out.1, Hlo.out, Hhi.out]
      case measure => simp [intOf]; omega
    · have hkl : k = l.length := by omega
      subst hkl
      have h0 := u32_or_16 _ _ hq.2.1 hq.2.2 hq.1.1 hq.1.2
      rw [HE.out] at h0
      go_wp2_with fail
      go_ret
      exact ⟨rfl, rfl⟩
set_option maxHeartbeats 800000 in
theorem refFletcher_any (A : Option Addr) (c : Nat) (l : List Int) (w : World) (hr : Rd w A l) (hb : Bts l) (hl : l.length ≤ 150000000000000) :
    Calls Try.prog 47 #[.slice A l.length c] w fun e w' => e = .returned (.int .u32 (fletS l)) ∧ w = w' := by
  have HR := Lib.hid hr
  obtain ⟨L, H, hL0, hH0, hs, hrg, he⟩ := fl_opaque l
  have HBt := Lib.hid hb
  have HL0 := Lib.hid hL0
  have HH0 := Lib.hid hH0
  have HS := Lib.hid hs
  have HRG := Lib.hid hrg
  have HE := Lib.hid he
  clear hr hb hL0 hH0 hs hrg he
  go_enter Try.func47, Try.ntmps47
  go_wp2_with fail
  go_loop [3, 4, 5] (fun lo hi i => ∃ k : Nat, k ≤ l.length ∧ i = .int .i64 k ∧ lo = .int .u32 (L k) ∧ hi = .int .u32 (H k)) (fun _ _ i => l.length - (intOf i).toNat)
  case atStart => exact ⟨0, by omega, rfl, by rw [HL0.out], by rw [HH0.out]⟩
  case round =>
    obtain ⟨k, hk, rfl, rfl, rfl⟩ := hrel
    have hq := HRG.out k
    by_cases hlt : k < l.length
    · obtain ⟨ad, rfl, hcc⟩ := HR.out.2.2 (by omega)
      have hc1 := hcc k hlt
      have hx := HBt.out.at k
      have hstep := HS.out k hlt
      rw [show l.getD k 0 = rdI l k from rfl] at hc1
      generalize rdI l k = x at hc1 hx hstep
      have HST := Lib.hid hstep
      generalize hlo : L k = lo at hq
      generalize hhi : H k = hi at hq
      obtain ⟨⟨q1, q2⟩, q3, q4⟩ := hq
      have Hlo := Lib.hid hlo
      have Hhi := Lib.hid hhi
      clear hcc hstep hlo hhi
      go_wp2_with fail
      go_round
      case rel =>
        refine ⟨k + 1, by omega, by push_cast; rfl, ?_, ?_⟩
        · rw [HST.out.1, Hlo.out]
        · rw [HST.out.2, HST.out.1, Hlo.out, Hhi.out]
      case measure => simp [intOf]; omega
    · have hkl : k = l.length := by omega
      subst hkl
      have h0 := HE.out
      obtain ⟨⟨q1, q2⟩, q3, q4⟩ := hq
      generalize L l.length = lo at *
      generalize H l.length = hi at *
      go_wp2_with fail
      go_ret
      exact ⟨rfl, rfl⟩
end Go.Proofs.Ytdfpikimeihefaa
