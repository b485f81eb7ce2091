/-
  The references of layer 1 (slabvaultref01), further. No premise.
-/
import Derived.Test.YtadmpjikkpnjnaaDoorRef1
namespace Go.Proofs.YtadmpjikkpnjnaaDoor
open Go.RowKit Go.Proofs.YtadmpjikkpnjnaaDoorW.PrintWords

set_option maxHeartbeats 800000 in
theorem refDigits_any (n : Nat) (big : Bool) (u : Int) (w : World) (hn : n ≤ 8) (hu : 0 ≤ u) (hu2 : u < 18446744073709551616) :
    Calls Tryd.prog 31 #[.int .i64 n, .bool big, .int .u64 u] w fun e w' => ∃ v, e = .returned v ∧ Own w' w.heap.size v (dig n big u) ∧ Below w.heap.size w w' := by
  cases big
  all_goals
    go_enter Tryd.func31, Tryd.ntmps31
    go_wp2_with fail
    go_loopw [2, 7, 8] (fun u' v i wr => ∃ k : Nat, k ≤ n ∧ i = .int .i64 k ∧ u' = .int .u64 (u / 2 ^ (8 * k)) ∧ Hid (Own wr w.heap.size v (dig k false u)) ∧ Hid (Below w.heap.size w wr)) (fun _ _ i _ => n - (intOf i).toNat)
    case atStart => exact ⟨0, by omega, rfl, by simp, World.ownsRow_nil _ _ _ _, Below.refl _ _⟩
    case round =>
      obtain ⟨k, hk, rfl, rfl, HO, HB⟩ := hrel
      have h0 : 0 ≤ u / 2 ^ (8 * k) := Int.ediv_nonneg hu (Int.pow_nonneg (by decide))
      have h01 : u / 2 ^ (8 * k) < 18446744073709551616 := Int.lt_of_le_of_lt (Int.ediv_le_self _ hu) hu2
      by_cases hlt : k < n
      · have HY := Lib.hid (dig_succ k u)
        go_wp2_with (at_builtin; refine app1 w.heap.size rfl _ _ rfl u7 (dig k false u) (u / 2 ^ (8 * k) % 256) rfl rfl HO.out HB.out.size ?_ ?_)
        · rw [dig_length]; omega
        intro v1 w1 h1 h2
        have H1 := Lib.hid h1
        have H2 := Lib.hid (HB.out.grown h2 HB.out.size (fun k hk => own_base HO.out k hk))
        clear h1 h2
        go_wp2_with fail
        go_roundw
        case rel => exact ⟨k + 1, by omega, by go_num, by rw [div_step], by rw [HY.out]; exact H1.out, H2.out⟩
        case measure => simp [intOf]; omega
      · have hkn : k = n := by omega
        have HK := Lib.hid hkn
        clear hkn
        first
          | (go_wp2_with fail; go_ret; refine ⟨_, rfl, ?_, HB.out⟩; rw [← HK.out]; exact HO.out)
          | (obtain ⟨A', c', hv, hrd⟩ := own_reads HO.out
             have hrd' : Rd wr A' (dig k false u) := hrd
             have HRD := Lib.hid hrd'
             subst hv
             clear hrd hrd'
             go_wp2_with (go_at_call 47; refine (refSwap_any A' c' (dig k false u) _ HRD.out (by rw [dig_length]; omega)).mono ?_; rintro e w1 ⟨v, rfl, ho, hb⟩; have HO1 := Lib.hid ho; have HB1 := Lib.hid hb; clear ho hb)
             go_ret
             refine ⟨_, rfl, ?_, HB.out.trans (HB1.out.mono HB.out.size)⟩
             have h := own_weaken HO1.out HB.out.size
             rw [← dig_big, HK.out] at h
             exact h)

end Go.Proofs.YtadmpjikkpnjnaaDoor
