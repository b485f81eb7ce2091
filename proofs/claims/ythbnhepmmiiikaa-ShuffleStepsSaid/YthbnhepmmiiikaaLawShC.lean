/-
  ShuffleSteps: the walk. No premise.
-/
import Derived.Test.YthbnhepmmiiikaaLawShA
import Derived.Test.YthbnhepmmiiikaaStP
namespace Go.Proofs.Ythbnhepmmiiikaa
open Go.RowKit Go.Proofs.YthbnhepmmiiikaaW.PrintWords

set_option maxHeartbeats 1600000 in
theorem shuffleSteps_walk (width first step n0 : Int) (w : World) (hww : (Lit.int .u64 width).wf = true) (hwf : (Lit.int .u64 first).wf = true) (hws : (Lit.int .u64 step).wf = true) (hwn : (Lit.int .u64 n0).wf = true) :
    Calls Try.prog 4 #[.int .u64 width, .int .u64 first, .int .u64 step, .int .u64 n0] w fun e w' => e = .returned (.bool true) ∧ Below w.heap.size w w' := by
  obtain ⟨h0, h1⟩ := wf_u64' hww
  obtain ⟨hf0, hf1⟩ := wf_u64' hwf
  obtain ⟨ht0, ht1⟩ := wf_u64' hws
  obtain ⟨hn0, hn1⟩ := wf_u64' hwn
  obtain ⟨m, hm1, hm8⟩ : ∃ m : Nat, width % 8 = (m : Int) ∧ m < 8 := ⟨(width % 8).toNat, by omega, by omega⟩
  have hm2 : width.tmod 8 = (m : Int) := by rw [Int.tmod_eq_emod_of_nonneg h0]; exact hm1
  obtain ⟨k, hk1, hk8⟩ : ∃ k : Nat, n0 % 40 = (k : Int) ∧ k < 40 := ⟨(n0 % 40).toNat, by omega, by omega⟩
  have hk2 : n0.tmod 40 = (k : Int) := by rw [Int.tmod_eq_emod_of_nonneg hn0]; exact hk1
  obtain ⟨wd, hwd⟩ : ∃ wd, wd = 1 + m := ⟨_, rfl⟩
  have hwdi : (1 : Int) + (m : Int) = (wd : Int) := by omega
  have hw1 : 1 ≤ wd := by omega
  have hw8 : wd ≤ 8 := by omega
  have hE : mxE (wd : Int) = 0 := by unfold mxE; rw [if_pos (by omega)]
  have hD : mxL deltaL (wd : Int) (numL wd (uS first step) k) = numL wd (hS first step) k := by
    unfold mxL
    rw [if_pos (by omega), Int.toNat_natCast, delta_steps wd hw1 hw8]
  have HE := Lib.hid hE
  have HD := Lib.hid hD
  have HWD := Lib.hid hwd
  clear hE hD hww hwf hws hwn hwd
  go_enter Try.func4, Try.ntmps4
  go_wp2_with fail
  go_loopw [11, 12, 13] (fun v u t wr => ∃ i : Nat, i ≤ k ∧ t = .int .i64 i ∧ u = .int .u64 (uS first step i) ∧ Hid (Own wr w.heap.size v (numL wd (uS first step) i)) ∧ Hid (Below w.heap.size w wr)) (fun _ _ t _ => k - (intOf t).toNat)
  case atStart => exact ⟨0, by omega, rfl, by rw [uS_zero first step hf0 hf1], World.ownsRow_nil _ _ _ _, Below.refl _ _⟩
  case round =>
    obtain ⟨i, hi, rfl, rfl, HO, HB⟩ := hrel
    by_cases hlt : i < k
    · have hur : 0 ≤ uS first step i ∧ uS first step i < 18446744073709551616 := ⟨Int.emod_nonneg _ (by decide), Int.emod_lt_of_pos _ (by decide)⟩
      have HUS := Lib.hid (uS_succ first step i)
      have HNU := Lib.hid (show numL wd (uS first step) (i + 1) = numL wd (uS first step) i ++ dig wd false (uS first step i) from rfl)
      have HLN := Lib.hid (numL_length wd (uS first step) i)
      have hil : i * wd ≤ 320 := by
        have : i * wd ≤ 40 * 8 := Nat.mul_le_mul (by omega) hw8
        omega
      generalize uS first step i = u at hur HUS HNU ⊢
      generalize numL wd (uS first step) i = cur at HO HNU HLN
      generalize i * wd = iw at HLN hil
      go_wp2_with fail
      go_loopw [11, 14] (fun v t wr => ∃ d : Nat, d ≤ wd ∧ t = .int .i64 d ∧ Hid (Own wr w.heap.size v (cur ++ (dig wd false u).take d)) ∧ Hid (Below w.heap.size w wr)) (fun _ t _ => wd - (intOf t).toNat)
      case atStart => exact ⟨0, by omega, rfl, by rw [List.take_zero, List.append_nil]; exact HO.out, HB.out⟩
      case round =>
        obtain ⟨d, hd, rfl, HOd, HBd⟩ := hrel
        by_cases hdl : d < wd
        · have hts := dig_take_succ wd u d hdl
          have hds : cur ++ (dig wd false u).take (d + 1) = (cur ++ (dig wd false u).take d) ++ [u / 2 ^ (8 * d) % 256] := by rw [hts, List.append_assoc]
          have hll : (cur ++ (dig wd false u).take d).length ≤ 400 := by rw [List.length_append, HLN.out, List.length_take, dig_length]; omega
          have HDS := Lib.hid hds
          have HLL := Lib.hid hll
          clear hts hds hll
          generalize cur ++ (dig wd false u).take d = cu at HOd HDS HLL
          go_wp2_with (at_builtin; refine app1 w.heap.size rfl _ _ rfl u11 cu (u / 2 ^ (8 * d) % 256) rfl rfl HOd.out HBd.out.size (by have := HLL.out; omega) ?_)
          intro v1 w1 h1 h2
          have H1 := Lib.hid h1
          have H2 := Lib.hid (HBd.out.grown h2 HBd.out.size (fun k hk => own_base HOd.out k hk))
          clear h1 h2
          go_wp2_with fail
          go_roundw
          case rel => exact ⟨d + 1, by omega, by push_cast; rfl, by rw [HDS.out]; exact H1.out, H2.out⟩
          case measure => simp [intOf]; omega
        · have hdw : d = wd := by omega
          subst hdw
          rw [List.take_of_length_le (by rw [dig_length]; exact Nat.le_refl _), ← HNU.out] at HOd
          have hus := HUS.out
          have huw : IntKind.u64.wrap (u + step) = uS first step (i + 1) := by rw [IntKind.wrap_u64]; exact hus
          clear hus
          go_wp2_with fail
          go_roundw
          case rel => exact ⟨i + 1, by omega, by push_cast; rfl, rfl, HOd.out, HBd.out⟩
          case measure => simp [intOf]; omega
    · have hik : i = k := by omega
      subst hik
      have hkl : i * wd ≤ 320 := by
        have : i * wd ≤ 40 * 8 := Nat.mul_le_mul (by omega) hw8
        omega
      have HBb := Lib.hid (numL_bts wd (uS first step) i)
      have hln := numL_length wd (uS first step) i
      have hln2 := numL_length wd (hS first step) i
      obtain ⟨A', c', rfl, hrd⟩ := own_reads HO.out
      have hcc := own_le HO.out
      have HRD := Lib.hid (show Rd _ A' (numL wd (uS first step) i) from hrd)
      have HRI := Lib.hid (fun j => rdI_numL wd (hS first step) i j hw1)
      have HL2 := Lib.hid hln2
      have HLN := Lib.hid hln
      clear hrd hln2
      rw [hln] at hcc ⊢
      generalize numL wd (uS first step) i = bb at HBb HRD HD HLN hln
      generalize numL wd (hS first step) i = xx at HRI HD HL2
      generalize i * wd = n at *
      go_wp2_with fail
      have hdel := delta_any A' c' bb (wd : Int) _ HRD.out HBb.out (by rw [HLN.out]; exact hcc) (by rw [HLN.out]; omega)
      rw [HLN.out] at hdel
      refine hdel.mono ?_
      rintro e w2 ⟨vx, rfl, ho2, hb2⟩
      rw [HE.out]
      rw [HD.out] at ho2
      obtain ⟨A2, c2, rfl, hr2⟩ := own_reads ho2
      have HR2 := Lib.hid (show Rd w2 A2 xx from hr2)
      have HB2 := Lib.hid (HB.out.trans (hb2.mono HB.out.size))
      rw [HL2.out]
      clear ho2 hb2 hr2 hdel hln hk1 hk2
      go_wp2_with fail
      go_loopw [17] (fun t wr3 => ∃ j : Nat, j ≤ n ∧ t = .int .i64 j ∧ Hid (Below w2.heap.size w2 wr3)) (fun t _ => n - (intOf t).toNat)
      case atStart => exact ⟨0, by omega, rfl, Below.refl _ _⟩
      case round =>
        obtain ⟨j, hj, rfl, HB3⟩ := hrel
        by_cases hjn : j < n
        · obtain ⟨ad, rfl, _⟩ := HR2.out.2.2 (by rw [HL2.out]; omega)
          have hcell := rd_cell (HR2.out.below HB3.out) j (by rw [HL2.out]; exact hjn)
          rw [HRI.out j hjn] at hcell
          have hr := Nat.mod_lt j (show 0 < wd by omega)
          have hm3 : (j : Int).tmod (wd : Int) = ((j % wd : Nat) : Int) := by rw [Int.tmod_eq_emod_of_nonneg (by omega)]; exact (Int.natCast_emod _ _).symm
          have hm4 : (j : Int) % (wd : Int) = ((j % wd : Nat) : Int) := (Int.natCast_emod _ _).symm
          have hwz : ¬ (wd : Int) = 0 := by omega
          by_cases hjw : j < wd
          · have hq : j / wd = 0 := Nat.div_eq_of_lt hjw
            rw [hq] at hcell
            rw [show hS first step 0 = first from rfl] at hcell
            generalize j % wd = r at hr hm3 hm4 hcell
            have hjwi : (j : Int) < (wd : Int) := by omega
            go_wp2_with fail
            go_quiet (fail)
            go_wp2_with fail
            go_roundw
            case rel => exact ⟨j + 1, by omega, by push_cast; rfl, pw_below_drewN HB3.out _⟩
            case measure => simp [intOf]; omega
          · have hq : ¬ j / wd = 0 := by
              intro h
              have := (Nat.div_eq_zero_iff).1 h
              omega
            have hS1 : hS first step (j / wd) = step := by unfold hS; rw [if_neg hq]
            rw [hS1] at hcell
            clear hS1 hq
            generalize j % wd = r at hr hm3 hm4 hcell
            have hjwi : ¬ (j : Int) < (wd : Int) := by omega
            go_wp2_with fail
            go_quiet (fail)
            go_wp2_with fail
            go_roundw
            case rel => exact ⟨j + 1, by omega, by push_cast; rfl, pw_below_drewN HB3.out _⟩
            case measure => simp [intOf]; omega
        · go_wp2_with (go_at_call 16; refine (lives14 _).mono ?_; rintro e w10 ⟨rfl, hb10⟩)
          go_ret
          have hb4 := HB2.out.trans (HB3.out.mono HB2.out.size)
          exact ⟨rfl, hb4.trans (hb10.mono hb4.size)⟩
end Go.Proofs.Ythbnhepmmiiikaa
