/-
  ShuffleBack: the walk. No premise.
-/
import Derived.Test.YthbnhepmmiiikaaLawShA
namespace Go.Proofs.Ythbnhepmmiiikaa
open Go.RowKit Go.Proofs.YthbnhepmmiiikaaW.PrintWords

theorem mxL_in {f : Nat → List Int → List Int} (m : Nat) (hm : m < 8) (l : List Int) : mxL f (1 + (m : Int)) l = f (1 + m) l := by
  unfold mxL
  rw [if_pos (by omega), show (1 + (m : Int)).toNat = 1 + m from by omega]
set_option maxHeartbeats 1600000 in
theorem shuffleBack_walk (width : Int) (A : Option Addr) (c : Nat) (l : List Int) (w : World) (hww : (Lit.int .u64 width).wf = true) (hr : ReadsInt w .u8 A l.length l) (hw : ∀ x ∈ l, (Lit.int .u8 x).wf = true) (hc : l.length ≤ c) (hy : l.length * 1 ≤ 140737488351232) :
    Calls Try.prog 7 #[.int .u64 width, .slice A l.length c] w fun e w' => e = .returned (.bool true) ∧ Below w.heap.size w w' := by
  have hl : l.length + 8 ≤ 150000000000000 := by omega
  obtain ⟨h0, h1⟩ := wf_u64' hww
  have HR := Lib.hid (show Rd w A l from hr)
  have hbt := wf_bts' hw
  have HBt := Lib.hid hbt
  obtain ⟨m, hm1, hm8⟩ : ∃ m : Nat, width % 8 = (m : Int) ∧ m < 8 := ⟨(width % 8).toNat, by omega, by omega⟩
  have hm2 : width.tmod 8 = (m : Int) := by rw [Int.tmod_eq_emod_of_nonneg h0]; exact hm1
  have hE : mxE (1 + (m : Int)) = 0 := by unfold mxE; rw [if_pos (by omega)]
  have HE := Lib.hid hE
  obtain ⟨X1, hX1⟩ : ∃ X, X = mxL shufL (1 + (m : Int)) l := ⟨_, rfl⟩
  have hY1 : mxL unshL (1 + (m : Int)) X1 = l := by rw [hX1, mxL_in m hm8, mxL_in m hm8]; exact unsh_shuf (1 + m) l (by omega)
  have hB1 : Bts X1 := by rw [hX1, mxL_in m hm8]; exact shufL_bts hbt _
  have hL1 : X1.length + 8 ≤ 150000000000000 := by rw [hX1, mxL_in m hm8, shufL_length]; exact hl
  have HX1 := Lib.hid hX1
  have HY1 := Lib.hid hY1
  have HBX1 := Lib.hid hB1
  clear hX1 hY1 hB1
  obtain ⟨X2, hX2⟩ : ∃ X, X = mxL unshL (1 + (m : Int)) l := ⟨_, rfl⟩
  have hY2 : mxL shufL (1 + (m : Int)) X2 = l := by rw [hX2, mxL_in m hm8, mxL_in m hm8]; exact shuf_unsh (1 + m) l (by omega)
  have hB2 : Bts X2 := by rw [hX2, mxL_in m hm8]; exact unshL_bts hbt _
  have hL2 : X2.length + 8 ≤ 150000000000000 := by rw [hX2, mxL_in m hm8, unshL_length]; exact hl
  have HX2 := Lib.hid hX2
  have HY2 := Lib.hid hY2
  have HBX2 := Lib.hid hB2
  clear hX2 hY2 hB2
  obtain ⟨X3, hX3⟩ : ∃ X, X = mxL deltaL (1 + (m : Int)) l := ⟨_, rfl⟩
  have hY3 : mxL undelL (1 + (m : Int)) X3 = l := by rw [hX3, mxL_in m hm8, mxL_in m hm8]; exact undel_delta hbt (1 + m)
  have hB3 : Bts X3 := by rw [hX3, mxL_in m hm8]; exact deltaL_bts hbt _
  have hL3 : X3.length + 8 ≤ 150000000000000 := by rw [hX3, mxL_in m hm8, deltaL_length]; exact hl
  have HX3 := Lib.hid hX3
  have HY3 := Lib.hid hY3
  have HBX3 := Lib.hid hB3
  clear hX3 hY3 hB3
  obtain ⟨X4, hX4⟩ : ∃ X, X = mxL undelL (1 + (m : Int)) l := ⟨_, rfl⟩
  have hY4 : mxL deltaL (1 + (m : Int)) X4 = l := by rw [hX4, mxL_in m hm8, mxL_in m hm8]; exact delta_undel hbt (1 + m)
  have hB4 : Bts X4 := by rw [hX4, mxL_in m hm8]; exact undelL_bts hbt _
  have hL4 : X4.length + 8 ≤ 150000000000000 := by rw [hX4, mxL_in m hm8, undelL_length]; exact hl
  have HX4 := Lib.hid hX4
  have HY4 := Lib.hid hY4
  have HBX4 := Lib.hid hB4
  clear hX4 hY4 hB4
  clear hr hw hy hww hE hbt
  go_enter Try.func7, Try.ntmps7
  go_wp2_with fail
  have HB0 := Lib.hid (Below.refl w.heap.size w)
  refine (shuffle_any A c l (1 + (m : Int)) w (HR.out.below HB0.out) (by omega)).mono ?_
  rintro e w1 ⟨vx1, rfl, hx, hb⟩
  rw [← HX1.out] at hx
  rw [HE.out]
  obtain ⟨A1, c1, rfl, hrx⟩ := own_reads hx
  have hcx1 := own_le hx
  have HRX1 := Lib.hid (show Rd w1 A1 X1 from hrx)
  have HB1 := Lib.hid (HB0.out.trans (hb.mono HB0.out.size))
  clear hx hb hrx
  go_wp2_with fail
  refine (unshuffle_any A1 c1 X1 (1 + (m : Int)) w1 HRX1.out (by omega)).mono ?_
  rintro e w2 ⟨vy1, rfl, hx, hb⟩
  rw [HY1.out] at hx
  rw [HE.out]
  have HV1 := Lib.hid hx
  have HB2 := Lib.hid (HB1.out.trans (hb.mono HB1.out.size))
  clear hx hb
  go_wp2_with fail
  refine (unshuffle_any A c l (1 + (m : Int)) w2 (HR.out.below HB2.out) (by omega)).mono ?_
  rintro e w3 ⟨vx2, rfl, hx, hb⟩
  rw [← HX2.out] at hx
  rw [HE.out]
  obtain ⟨A2, c2, rfl, hrx⟩ := own_reads hx
  have hcx2 := own_le hx
  have HRX2 := Lib.hid (show Rd w3 A2 X2 from hrx)
  have HB3 := Lib.hid (HB2.out.trans (hb.mono HB2.out.size))
  have HV1 := Lib.hid (own_step HV1.out hb)
  clear hx hb hrx
  go_wp2_with fail
  refine (shuffle_any A2 c2 X2 (1 + (m : Int)) w3 HRX2.out (by omega)).mono ?_
  rintro e w4 ⟨vy2, rfl, hx, hb⟩
  rw [HY2.out] at hx
  rw [HE.out]
  have HV2 := Lib.hid hx
  have HB4 := Lib.hid (HB3.out.trans (hb.mono HB3.out.size))
  have HV1 := Lib.hid (own_step HV1.out hb)
  clear hx hb
  go_wp2_with fail
  refine (delta_any A c l (1 + (m : Int)) w4 (HR.out.below HB4.out) HBt.out hc (by omega)).mono ?_
  rintro e w5 ⟨vx3, rfl, hx, hb⟩
  rw [← HX3.out] at hx
  rw [HE.out]
  obtain ⟨A3, c3, rfl, hrx⟩ := own_reads hx
  have hcx3 := own_le hx
  have HRX3 := Lib.hid (show Rd w5 A3 X3 from hrx)
  have HB5 := Lib.hid (HB4.out.trans (hb.mono HB4.out.size))
  have HV1 := Lib.hid (own_step HV1.out hb)
  have HV2 := Lib.hid (own_step HV2.out hb)
  clear hx hb hrx
  go_wp2_with fail
  refine (undelta_any A3 c3 X3 (1 + (m : Int)) w5 HRX3.out HBX3.out hcx3 (by omega)).mono ?_
  rintro e w6 ⟨vy3, rfl, hx, hb⟩
  rw [HY3.out] at hx
  rw [HE.out]
  have HV3 := Lib.hid hx
  have HB6 := Lib.hid (HB5.out.trans (hb.mono HB5.out.size))
  have HV1 := Lib.hid (own_step HV1.out hb)
  have HV2 := Lib.hid (own_step HV2.out hb)
  clear hx hb
  go_wp2_with fail
  refine (undelta_any A c l (1 + (m : Int)) w6 (HR.out.below HB6.out) HBt.out hc (by omega)).mono ?_
  rintro e w7 ⟨vx4, rfl, hx, hb⟩
  rw [← HX4.out] at hx
  rw [HE.out]
  obtain ⟨A4, c4, rfl, hrx⟩ := own_reads hx
  have hcx4 := own_le hx
  have HRX4 := Lib.hid (show Rd w7 A4 X4 from hrx)
  have HB7 := Lib.hid (HB6.out.trans (hb.mono HB6.out.size))
  have HV1 := Lib.hid (own_step HV1.out hb)
  have HV2 := Lib.hid (own_step HV2.out hb)
  have HV3 := Lib.hid (own_step HV3.out hb)
  clear hx hb hrx
  go_wp2_with fail
  refine (delta_any A4 c4 X4 (1 + (m : Int)) w7 HRX4.out HBX4.out hcx4 (by omega)).mono ?_
  rintro e w8 ⟨vy4, rfl, hx, hb⟩
  rw [HY4.out] at hx
  rw [HE.out]
  have HV4 := Lib.hid hx
  have HB8 := Lib.hid (HB7.out.trans (hb.mono HB7.out.size))
  have HV1 := Lib.hid (own_step HV1.out hb)
  have HV2 := Lib.hid (own_step HV2.out hb)
  have HV3 := Lib.hid (own_step HV3.out hb)
  clear hx hb
  have hv1 := own_str HV1.out
  have hv2 := own_str HV2.out
  have hv3 := own_str HV3.out
  have hv4 := own_str HV4.out
  have hva : (convert 23 9 (.slice A l.length c)).run Try.prog w8 = .ok (.string (strOfNums l)) w8 := string_of_reads Try.underlying23 Try.underlying5 Try.underlying9 (show ReadsInt w8 .u8 A l.length l from HR.out.below HB8.out)
  have hz : (strOfNums l).size ≤ 9223372036854775807 := by rw [strOfNums_size]; omega
  go_wp2_with (go_at_call 16; refine (lives14 _).mono ?_; rintro e w10 ⟨rfl, hb10⟩)
  go_ret
  exact ⟨rfl, HB8.out.trans (hb10.mono HB8.out.size)⟩
end Go.Proofs.Ythbnhepmmiiikaa
