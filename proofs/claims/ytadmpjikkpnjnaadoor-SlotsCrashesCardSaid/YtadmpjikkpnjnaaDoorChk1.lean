/-
  check.More, check.Crc; slabvaultref02.More, Crc. No premise.
-/
import Derived.Test.YtadmpjikkpnjnaaDoorOct3
import Derived.Test.YtadmpjikkpnjnaaDoorFle
namespace Go.Proofs.YtadmpjikkpnjnaaDoor
open Go.RowKit Go.Proofs.YtadmpjikkpnjnaaDoorW.PrintWords

/-- The table stands in variable 0. -/
def TabAt (w : World) : Prop := 0 < w.heap.size ∧ ∀ i, i < 16 → w.cell? ⟨0, i, none⟩ = some (.int .u32 (shortN.getD i 0 : Nat))
theorem TabAt.below {w w' : World} {B : Nat} (h : TabAt w) (hb : Below B w w') (hB : w.heap.size ≤ B) : TabAt w' :=
  ⟨by have := h.1; have := hb.size; omega, fun i hi => (hb.cell (p := ⟨0, i, none⟩) (by have := h.1; show 0 < B; omega)).trans (h.2 i hi)⟩

theorem shortN_lt : ∀ i, i < 16 → shortN.getD i 0 < 4294967296 := by decide +kernel
theorem u32_not_nat (a : Nat) (h : a < 4294967296) : bits .xor .u32 IntKind.u32.max (a : Int) = 4294967295 - (a : Int) := by
  have h1 := u32_xor_nat m32 a (by decide +kernel) h
  rw [show ((m32 : Nat) : Int) = IntKind.u32.max from by decide +kernel, ← n32_xor a h] at h1
  rw [h1]
  unfold n32
  omega
/-- What a loop knows of the register. -/
theorem more_opaque (l : List Int) (cr : Nat) (hcr : cr < 4294967296) (hb : Bts l) : ∃ R : Nat → Nat, ((R 0 : Nat) : Int) = 4294967295 - cr ∧ (∀ k, k < l.length → R (k + 1) = nib (nib (R k ^^^ (rdI l k).toNat))) ∧ (∀ k, R k < 4294967296) ∧ 4294967295 - ((R l.length : Nat) : Int) = moreS cr l := by
  have hl1 : ∀ k, reg (n32 cr) (l.take k) < 4294967296 := fun k => reg_lt (hb.take k) (n32_lt cr)
  refine ⟨fun k => reg (n32 cr) (l.take k), ?_, fun k hk => ?_, hl1, ?_⟩
  · show ((n32 cr : Nat) : Int) = _
    unfold n32
    omega
  · rw [nib_byt]
    exact reg_take_succ _ l k hk
  · unfold moreS
    have := hl1 l.length
    rw [List.take_length] at this
    show 4294967295 - ((reg (n32 cr) (l.take l.length) : Nat) : Int) = _
    rw [List.take_length]
    rw [show ((cr : Nat) : Int).toNat = cr from Int.toNat_natCast cr]
    generalize reg (n32 cr) l = q at this
    unfold n32
    omega
set_option maxHeartbeats 800000 in
theorem more_any (A : Option Addr) (c : Nat) (l : List Int) (crc : Int) (w : World) (hr : Rd w A l) (hb : Bts l) (hT : TabAt w) (hl : l.length ≤ 150000000000000) (hc : 0 ≤ crc) (hc2 : crc < 4294967296) :
    Calls Tryd.prog 51 #[.int .u32 crc, .slice A l.length c] w fun e w' => e = .returned (.int .u32 (moreS crc l)) ∧ w = w' := by
  obtain ⟨cr, rfl⟩ := Int.eq_ofNat_of_zero_le hc
  have hcr : cr < 4294967296 := by omega
  have HR := Lib.hid hr
  have HT := Lib.hid hT
  obtain ⟨R, hR0, hRs, hRl, hRe⟩ := more_opaque l cr hcr hb
  have HBt := Lib.hid hb
  have HRe := Lib.hid hRe
  have HRs := Lib.hid hRs
  have HR0 := Lib.hid hR0
  have HRl := Lib.hid hRl
  clear hr hT hb hRe hRs hR0 hRl hc hc2
  go_enter Tryd.func51, Tryd.ntmps51
  go_wp2_with fail
  go_loop [5, 12] (fun r i => ∃ k : Nat, k ≤ l.length ∧ i = .int .i64 k ∧ r = .int .u32 (R k : Nat)) (fun _ i => l.length - (intOf i).toNat)
  case atStart =>
    refine ⟨0, by omega, rfl, ?_⟩
    rw [u32_not_nat cr hcr]
    have h0 := HR0.out
    rw [h0]
  case round =>
    obtain ⟨k, hk, rfl, rfl⟩ := hrel
    have hq := HRl.out k
    by_cases hlt : k < l.length
    · obtain ⟨ad, rfl, hcc⟩ := HR.out.2.2 (by omega)
      have hc1 := hcc k hlt
      have hx := HBt.out.at k
      have hstep := HRs.out k hlt
      rw [show l.getD k 0 = rdI l k from rfl] at hc1
      generalize rdI l k = x at hc1 hx hstep
      generalize R k = q at hq hstep
      obtain ⟨x, rfl⟩ := Int.eq_ofNat_of_zero_le hx.1
      rw [Int.toNat_natCast] at hstep
      have h1 := u32_xor_nat q x hq (by omega)
      have hq1 : q ^^^ x < 4294967296 := Nat.xor_lt_two_pow (n := 32) hq (by omega)
      unfold nib at hstep
      generalize q ^^^ x = q1 at h1 hq1 hstep
      have h2 := u32_and_nat q1 15 hq1 (by omega)
      rw [show (15 : Nat) = 2 ^ 4 - 1 from rfl, Nat.and_two_pow_sub_one_eq_mod] at h2
      have hi1 : q1 % 2 ^ 4 < 16 := by omega
      have hT1 := HT.out.2 _ hi1
      have ht1 := shortN_lt _ hi1
      rw [show q1 % 16 = q1 % 2 ^ 4 from rfl] at hstep
      generalize q1 % 2 ^ 4 = i1 at h2 hi1 hT1 ht1 hstep
      generalize shortN.getD i1 0 = t1 at hT1 ht1 hstep
      have h3 := u32_xor_nat (q1 / 16) t1 (by omega) ht1
      have hq2 : q1 / 16 ^^^ t1 < 4294967296 := Nat.xor_lt_two_pow (n := 32) (by omega) (by omega)
      generalize q1 / 16 ^^^ t1 = q2 at h3 hq2 hstep
      have h4 := u32_and_nat q2 15 hq2 (by omega)
      rw [show (15 : Nat) = 2 ^ 4 - 1 from rfl, Nat.and_two_pow_sub_one_eq_mod] at h4
      have hi2 : q2 % 2 ^ 4 < 16 := by omega
      have hT2 := HT.out.2 _ hi2
      have ht2 := shortN_lt _ hi2
      rw [show q2 % 16 = q2 % 2 ^ 4 from rfl] at hstep
      generalize q2 % 2 ^ 4 = i2 at h4 hi2 hT2 ht2 hstep
      generalize shortN.getD i2 0 = t2 at hT2 ht2 hstep
      have h5 := u32_xor_nat (q2 / 16) t2 (by omega) ht2
      have HST := Lib.hid hstep
      clear hcc hstep
      push_cast at h2 h3 h4 h5
      go_wp2_with fail
      go_round
      case rel =>
        refine ⟨k + 1, by omega, by push_cast; rfl, ?_⟩
        rw [HST.out]
      case measure => simp [intOf]; omega
    · have hkl : k = l.length := by omega
      subst hkl
      have h0 := u32_not_nat _ hq
      rw [HRe.out] at h0
      go_wp2_with fail
      go_ret
      exact ⟨rfl, rfl⟩
theorem crc_any (A : Option Addr) (c : Nat) (l : List Int) (w : World) (hr : Rd w A l) (hb : Bts l) (hT : TabAt w) (hl : l.length ≤ 150000000000000) :
    Calls Tryd.prog 46 #[.slice A l.length c] w fun e w' => e = .returned (.int .u32 (moreS 0 l)) ∧ w = w' := by
  go_enter Tryd.func46, Tryd.ntmps46
  go_wp2_with fail
  refine (more_any A c l 0 w hr hb hT hl (by decide) (by decide)).mono ?_
  rintro e w1 ⟨rfl, rfl⟩
  have H : True := trivial
  clear hr hb hT
  go_wp2_with fail
  go_ret
  exact ⟨rfl, rfl⟩
end Go.Proofs.YtadmpjikkpnjnaaDoor
