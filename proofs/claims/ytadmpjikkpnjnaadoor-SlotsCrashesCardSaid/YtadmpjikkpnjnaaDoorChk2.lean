/-
  slabvaultref02.More, Crc. No premise.
-/
import Derived.Test.YtadmpjikkpnjnaaDoorChk1
namespace Go.Proofs.YtadmpjikkpnjnaaDoor
open Go.RowKit Go.Proofs.YtadmpjikkpnjnaaDoorW.PrintWords

def bitStep (r b : Nat) : Nat := if r % 2 ^^^ b = 1 then r / 2 ^^^ 3988292384 else r / 2
def rb (r x k : Nat) : Nat := itN k (r ^^^ x) ^^^ (x / 2 ^ k)
theorem xor_mid (a b c : Nat) : a ^^^ b ^^^ c ^^^ b = a ^^^ c := by
  rw [Nat.xor_assoc a b c, Nat.xor_comm b c, ← Nat.xor_assoc a c b, Nat.xor_assoc, Nat.xor_self, Nat.xor_zero]
theorem sN_def (y : Nat) : sN y = if y % 2 = 1 then y / 2 ^^^ 3988292384 else y / 2 := rfl
theorem rb_succ (r x k : Nat) : rb r x (k + 1) = bitStep (rb r x k) (x / 2 ^ k % 2) := by
  have hy : itN k (r ^^^ x) = rb r x k ^^^ (x / 2 ^ k) := by
    unfold rb
    rw [Nat.xor_assoc, Nat.xor_self, Nat.xor_zero]
  have hd : x / 2 ^ (k + 1) = x / 2 ^ k / 2 := by rw [Nat.pow_succ, Nat.div_div_eq_div_mul]
  have e : rb r x (k + 1) = sN (itN k (r ^^^ x)) ^^^ (x / 2 ^ (k + 1)) := rfl
  rw [e, hy, hd]
  generalize rb r x k = q
  generalize x / 2 ^ k = y
  unfold bitStep
  rw [sN_def, Nat.xor_mod_two_pow (n := 1) |> fun h => (by simpa using h : (q ^^^ y) % 2 = q % 2 ^^^ y % 2), Nat.xor_div_two]
  generalize 3988292384 = p
  split
  · rw [xor_mid]
  · rw [Nat.xor_assoc, Nat.xor_self, Nat.xor_zero]
theorem rb_lt (r x k : Nat) (h : r < 4294967296) (hx : x < 256) : rb r x k < 4294967296 := by
  have h1 := itN_lt k (Nat.xor_lt_two_pow (n := 32) (x := r) (y := x) (by rw [two32]; exact h) (by rw [two32]; omega) |> fun h => (by rw [two32] at h; exact h))
  have h2 : x / 2 ^ k < 4294967296 := Nat.lt_of_le_of_lt (Nat.div_le_self _ _) (by omega)
  have h3 := Nat.xor_lt_two_pow (n := 32) (x := itN k (r ^^^ x)) (y := x / 2 ^ k) (by rw [two32]; exact h1) (by rw [two32]; exact h2)
  rw [two32] at h3
  exact h3
theorem rb_end (r x : Nat) (hx : x < 256) : rb r x 8 = byt r x := by
  unfold rb byt
  rw [show x / 2 ^ 8 = 0 from by omega, Nat.xor_zero]
theorem rb_zero (r x : Nat) : rb r x 0 = r := by
  show r ^^^ x ^^^ (x / 1) = r
  rw [Nat.div_one, Nat.xor_assoc, Nat.xor_self, Nat.xor_zero]
theorem rb_opaque (r x : Nat) (h : r < 4294967296) (hx : x < 256) : ∃ B : Nat → Nat, B 0 = r ∧ (∀ k, B (k + 1) = if B k % 2 ^^^ (x / 2 ^ k % 2) = 1 then B k / 2 ^^^ 3988292384 else B k / 2) ∧ (∀ k, B k < 4294967296) ∧ B 8 = nib (nib (r ^^^ x)) :=
  ⟨rb r x, rb_zero r x, rb_succ r x, fun k => rb_lt r x k h hx, by rw [nib_byt, rb_end r x hx]⟩

theorem u32_and_one (a : Nat) (h : a < 4294967296) : bits .and .u32 (a : Int) 1 = ((a % 2 : Nat) : Int) := by
  have h2 := u32_and_nat a 1 h (by decide +kernel)
  rw [show (1 : Nat) = 2 ^ 1 - 1 from rfl, Nat.and_two_pow_sub_one_eq_mod] at h2
  exact h2
set_option maxHeartbeats 800000 in
theorem refMore_any (A : Option Addr) (c : Nat) (l : List Int) (crc : Int) (w : World) (hr : Rd w A l) (hb : Bts l) (hl : l.length ≤ 150000000000000) (hc : 0 ≤ crc) (hc2 : crc < 4294967296) :
    Calls Tryd.prog 52 #[.int .u32 crc, .slice A l.length c] w fun e w' => e = .returned (.int .u32 (moreS crc l)) ∧ w = w' := by
  obtain ⟨cr, rfl⟩ := Int.eq_ofNat_of_zero_le hc
  have hcr : cr < 4294967296 := by omega
  have HR := Lib.hid hr
  obtain ⟨R, hR0, hRs, hRl, hRe⟩ := more_opaque l cr hcr hb
  have HBt := Lib.hid hb
  have HRe := Lib.hid hRe
  have HRs := Lib.hid hRs
  have HR0 := Lib.hid hR0
  have HRl := Lib.hid hRl
  clear hr hb hRe hRs hR0 hRl hc hc2
  go_enter Tryd.func52, Tryd.ntmps52
  go_wp2_with fail
  go_loop [5, 6] (fun r i => ∃ k : Nat, k ≤ l.length ∧ i = .int .i64 k ∧ r = .int .u32 (R k : Nat)) (fun _ i => l.length - (intOf i).toNat)
  case atStart =>
    refine ⟨0, by omega, rfl, ?_⟩
    rw [u32_not_nat cr hcr]
    have h0 := HR0.out
    rw [h0]
  case round =>
    obtain ⟨k, hk, rfl, rfl⟩ := hrel
    have hq := HRl.out k
    by_cases hlt : k < l.length
    · obtain ⟨ad, rfl, hcc⟩ := HR.out.2.2 (by omega)
      have hc1 := hcc k hlt
      have hx := HBt.out.at k
      have hstep := HRs.out k hlt
      rw [show l.getD k 0 = rdI l k from rfl] at hc1
      generalize rdI l k = x at hc1 hx hstep
      obtain ⟨x, rfl⟩ := Int.eq_ofNat_of_zero_le hx.1
      rw [Int.toNat_natCast] at hstep
      obtain ⟨B, hB0, hBs, hBl, hBe⟩ := rb_opaque (R k) x hq (by omega)
      have HB0 := Lib.hid hB0
      have HBs := Lib.hid hBs
      have HBl := Lib.hid hBl
      have HBe := Lib.hid (hBe.trans hstep.symm)
      clear hB0 hBs hBl hBe hcc hstep
      go_wp2_with fail
      go_loop [5, 7] (fun r i => ∃ j : Nat, j ≤ 8 ∧ i = .int .i64 j ∧ r = .int .u32 (B j : Nat)) (fun _ i => 8 - (intOf i).toNat)
      case atStart => exact ⟨0, by omega, rfl, by rw [HB0.out]⟩
      case round =>
        obtain ⟨j, hj, rfl, rfl⟩ := hrel
        by_cases hjl : j < 8
        · have hb1 := HBl.out j
          have hst := HBs.out j
          generalize hbj : B j = b at hb1 hst
          have h1 := u32_and_one b hb1
          have hy : x / 2 ^ j < 4294967296 := Nat.lt_of_le_of_lt (Nat.div_le_self _ _) (by omega)
          have h2 := u32_and_one (x / 2 ^ j) hy
          rw [show ((x / 2 ^ j : Nat) : Int) = (x : Int) / 2 ^ j from by rw [Int.natCast_ediv, Int.natCast_pow]; rfl] at h2
          have hb2 : b % 2 < 2 := Nat.mod_lt _ (by decide)
          have hy2 : x / 2 ^ j % 2 < 2 := Nat.mod_lt _ (by decide)
          generalize x / 2 ^ j % 2 = y2 at h2 hy2 hst
          generalize hb2e : b % 2 = b2 at h1 hb2 hst
          have h3 := u32_xor_nat b2 y2 (by omega) (by omega)
          have h4 := u32_xor_nat (b / 2) 3988292384 (by omega) (by decide +kernel)
          have ht2 : b2 ^^^ y2 < 2 := Nat.xor_lt_two_pow (n := 1) hb2 hy2
          generalize b / 2 ^^^ 3988292384 = q1 at h4 hst
          generalize b2 ^^^ y2 = t at h3 ht2 hst
          rw [Int.natCast_ediv] at h4
          by_cases ht : t = 1
          · subst ht
            rw [if_pos rfl] at hst
            have HST := Lib.hid hst
            clear hst
            have h4 : bits .xor .u32 ((b : Int) / 2) 3988292384 = (q1 : Int) := h4
            have h3 : bits .xor .u32 (b2 : Int) (y2 : Int) = 1 := h3
            go_wp2_with fail
            go_round
            case rel => exact ⟨j + 1, by omega, by push_cast; rfl, by rw [HST.out]⟩
            case measure => simp [intOf]; omega
          · have ht0 : t = 0 := by omega
            subst ht0
            rw [if_neg (by decide)] at hst
            have HST := Lib.hid hst
            clear hst h4
            have h3 : bits .xor .u32 (b2 : Int) (y2 : Int) = 0 := h3
            go_wp2_with fail
            go_round
            case rel => exact ⟨j + 1, by omega, by push_cast; rfl, by rw [HST.out, Int.natCast_ediv]; rfl⟩
            case measure => simp [intOf]; omega
        · have hj8 : j = 8 := by omega
          subst hj8
          go_wp2_with fail
          go_round
          case rel => exact ⟨k + 1, by omega, by push_cast; rfl, by rw [HBe.out]⟩
          case measure => simp [intOf]; omega
    · have hkl : k = l.length := by omega
      subst hkl
      have h0 := u32_not_nat _ hq
      rw [HRe.out] at h0
      go_wp2_with fail
      go_ret
      exact ⟨rfl, rfl⟩
theorem refCrc_any (A : Option Addr) (c : Nat) (l : List Int) (w : World) (hr : Rd w A l) (hb : Bts l) (hl : l.length ≤ 150000000000000) :
    Calls Tryd.prog 48 #[.slice A l.length c] w fun e w' => e = .returned (.int .u32 (moreS 0 l)) ∧ w = w' := by
  go_enter Tryd.func48, Tryd.ntmps48
  go_wp2_with fail
  refine (refMore_any A c l 0 w hr hb hl (by decide) (by decide)).mono ?_
  rintro e w1 ⟨rfl, rfl⟩
  clear hr hb
  go_wp2_with fail
  go_ret
  exact ⟨rfl, rfl⟩
end Go.Proofs.YtadmpjikkpnjnaaDoor
