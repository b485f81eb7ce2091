/-
  The references of layer 1 (slabvaultref01), further. No premise.
-/
import Derived.Test.YtelphnkbaeglaaaRef1
namespace Go.Proofs.Ytelphnkbaeglaaa
open Go.RowKit Go.Proofs.YtelphnkbaeglaaaW.PrintWords

set_option maxHeartbeats 800000 in
theorem refDigits_any (n : Nat) (big : Bool) (u : Int) (w : World) (hn : n ≤ 8) (hu : 0 ≤ u) (hu2 : u < 18446744073709551616) :
    Calls Try.prog 30 #[.int .i64 n, .bool big, .int .u64 u] w fun e w' => ∃ v, e = .returned v ∧ Own w' w.heap.size v (dig n big u) ∧ Below w.heap.size w w' := by
  cases big
  all_goals
    go_enter Try.func30, Try.ntmps30
    go_wp2_with fail
    go_loopw [2, 7, 8] (fun u' v i wr => ∃ k : Nat, k ≤ n ∧ i = .int .i64 k ∧ u' = .int .u64 (u / 2 ^ (8 * k)) ∧ Hid (Own wr w.heap.size v (dig k false u)) ∧ Hid (Below w.heap.size w wr)) (fun _ _ i _ => n - (intOf i).toNat)
    case atStart => exact ⟨0, by omega, rfl, by simp, World.ownsRow_nil _ _ _ _, Below.refl _ _⟩
    case round =>
      obtain ⟨k, hk, rfl, rfl, HO, HB⟩ := hrel
      have h0 : 0 ≤ u / 2 ^ (8 * k) := Int.ediv_nonneg hu (Int.pow_nonneg (by decide))
      have h01 : u / 2 ^ (8 * k) < 18446744073709551616 := Int.lt_of_le_of_lt (Int.ediv_le_self _ hu) hu2
      by_cases hlt : k < n
      · have HY := Lib.hid (dig_succ k u)
        go_wp2_with (at_builtin; refine app1 w.heap.size rfl _ _ rfl u7 (dig k false u) (u / 2 ^ (8 * k) % 256) rfl rfl HO.out HB.out.size ?_ ?_)
        · rw [dig_length]; omega
        intro v1 w1 h1 h2
        have H1 := Lib.hid h1
        have H2 := Lib.hid (HB.out.grown h2 HB.out.size (fun k hk => own_base HO.out k hk))
        clear h1 h2
        go_wp2_with fail
        go_roundw
        case rel => exact ⟨k + 1, by omega, by go_num, by rw [div_step], by rw [HY.out]; exact H1.out, H2.out⟩
        case measure => simp [intOf]; omega
      · have hkn : k = n := by omega
        have HK := Lib.hid hkn
        clear hkn
        first
          | (go_wp2_with fail; go_ret; refine ⟨_, rfl, ?_, HB.out⟩; rw [← HK.out]; exact HO.out)
          | (obtain ⟨A', c', hv, hrd⟩ := own_reads HO.out
             have hrd' : Rd wr A' (dig k false u) := hrd
             have HRD := Lib.hid hrd'
             subst hv
             clear hrd hrd'
             go_wp2_with (go_at_call 21; refine (refSwap_any A' c' (dig k false u) _ HRD.out (by rw [dig_length]; omega)).mono ?_; rintro e w1 ⟨v, rfl, ho, hb⟩; have HO1 := Lib.hid ho; have HB1 := Lib.hid hb; clear ho hb)
             go_ret
             refine ⟨_, rfl, ?_, HB.out.trans (HB1.out.mono HB.out.size)⟩
             have h := own_weaken HO1.out HB.out.size
             rw [← dig_big, HK.out] at h
             exact h)

set_option maxHeartbeats 800000 in
theorem refPut_any (A : Option Addr) (c : Nat) (bs : List Int) (width : Int) (big : Bool) (u : Int) (w : World) (hr : Rd w A bs) (hl : bs.length + 8 ≤ 150000000000000) (hu : 0 ≤ u) (hu2 : u < 18446744073709551616) :
    Calls Try.prog 12 #[.slice A bs.length c, .int .i64 width, .bool big, .int .u64 u] w (PutPost w bs width big u) := by
  have HR := Lib.hid hr
  clear hr
  by_cases h1 : width < 1
  · go_enter Try.func12, Try.ntmps12
    go_wp2_with fail
    go_ret2
    refine ⟨.slice none 0 0, ret2 (by rw [putE, if_neg (by omega)]), ?_, Below.refl _ _⟩
    rw [putL, if_neg (by omega)]
    exact World.ownsRow_nil _ _ _ _
  by_cases h2 : 8 < width
  · go_enter Try.func12, Try.ntmps12
    go_wp2_with fail
    go_ret2
    refine ⟨.slice none 0 0, ret2 (by rw [putE, if_neg (by omega)]), ?_, Below.refl _ _⟩
    rw [putL, if_neg (by omega)]
    exact World.ownsRow_nil _ _ _ _
  obtain ⟨n, rfl⟩ := Int.eq_ofNat_of_zero_le (show 0 ≤ width by omega)
  have h1n : 1 ≤ n := by omega
  have h2n : n ≤ 8 := by omega
  clear h1 h2
  by_cases h3 : fitsB u n = true
  · have HO0 := Lib.hid (own_empty w w.heap.size (Nat.le_refl _))
    have HB0 := Lib.hid ((Below.refl w.heap.size w).alloc (Nat.le_refl _) (.cells #[] 5))
    go_enter Try.func12, Try.ntmps12
    go_wp2_with (first | (go_at_call 29; refine (refFits_any _ _ _ h2n hu hu2).mono ?_; rintro e w' ⟨rfl, rfl⟩) | ((with_reducible refine gate_builtin (b := .append) (xs := #[.tmp 20, .tmp 21]) rfl ?_); refine app w.heap.size rfl _ _ rfl (.slice (some ⟨w.heap.size, 0, none⟩) 0 0) [] bs A c rfl rfl HO0.out (HR.out.below HB0.out) (by simp) (by simp; omega) ?_; intro v1 w1 h1 h2; have H1 := Lib.hid h1; have H2 := Lib.hid (HB0.out.grown h2 (by simp) (by simp [Value.ownBlock])); clear h1 h2) | (go_at_call 30; refine (refDigits_any n big u _ h2n hu hu2).mono ?_; rintro e w2 ⟨v2, rfl, ho, hb⟩; obtain ⟨A', c', hv, hrd⟩ := own_reads ho; have hrd' : Rd w2 A' (dig n big u) := hrd; have HRD := Lib.hid hrd'; subst hv; have H3 := Lib.hid hb; clear hrd hrd' ho hb) | ((with_reducible refine gate_builtin (b := .append) (xs := #[.tmp 22, .tmp 26]) rfl ?_); refine app w.heap.size rfl _ _ rfl v1 ([] ++ bs) (dig n big u) A' c' rfl rfl (pw_own_below H1.out H3.out) HRD.out (by have := H2.out.size; have := H3.out.size; omega) (by rw [dig_length]; simp; omega) ?_; intro v3 w3 h4 h5; have H4 := Lib.hid h4; have H5 := Lib.hid ((H2.out.trans (H3.out.mono H2.out.size)).grown h5 (by have := H2.out.size; have := H3.out.size; omega) (fun k hk => own_base H1.out k hk)); clear h4 h5))
    go_ret2
    refine ⟨_, ret2 (by rw [putE, if_pos (by omega), if_pos h3]), ?_, H5.out⟩
    rw [putL, if_pos ⟨by omega, by omega, h3⟩]
    exact H4.out
  · have h3 := Bool.eq_false_iff.2 h3
    go_enter Try.func12, Try.ntmps12
    go_wp2_with (go_at_call 29; refine (refFits_any _ _ _ h2n hu hu2).mono ?_; rintro e w' ⟨rfl, rfl⟩)
    go_ret2
    refine ⟨.slice none 0 0, ret2 (by rw [putE, if_pos (by omega), h3]; rfl), ?_, Below.refl _ _⟩
    rw [putL, h3, if_neg (by simp)]
    exact World.ownsRow_nil _ _ _ _
end Go.Proofs.Ytelphnkbaeglaaa
