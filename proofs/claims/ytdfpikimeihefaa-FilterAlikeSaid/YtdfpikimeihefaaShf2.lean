/-
  slabvaultref14.Shuffle, slabvaultref14.Unshuffle. No premise.
-/
import Derived.Test.YtdfpikimeihefaaShf1
namespace Go.Proofs.Ytdfpikimeihefaa
open Go.RowKit Go.Proofs.YtdfpikimeihefaaW.PrintWords

theorem cut_suf (A : Option Addr) (l : List Int) (c : Nat) (lo : Int) (h1 : 0 ≤ lo) (h2 : lo ≤ l.length) (hc : l.length ≤ c) :
    ∃ A', (∀ W : World, (Instr.slice 28 (.slice A l.length c) (some (.int .i64 lo)) none none).run Try.prog W = .ok (.slice A' (l.drop lo.toNat).length (c - lo.toNat)) W) ∧
      (∀ w, Rd w A l → Rd w A' (l.drop lo.toNat)) ∧ (l.drop lo.toNat).length ≤ c - lo.toNat := by
  obtain ⟨i0, hi', hz0, hz1, hz2⟩ := info_parts infoB
  obtain ⟨A', g1, g2, g3⟩ := print_drop_of (P := Try.prog) (Value.int .u8) (0 : Int) 28 5 .i64 Try.underlying28 hi' hz1 A c l lo h1 h2 hc
  exact ⟨A', g1, g2, g3⟩

set_option maxHeartbeats 1600000 in
theorem refShuffle_any (A : Option Addr) (c : Nat) (l : List Int) (width : Int) (w : World) (hr : Rd w A l) (hc : l.length ≤ c) (hl : l.length ≤ 150000000000000) :
    Calls Try.prog 22 #[.int .i64 width, .slice A l.length c] w (MixPost shufL w width l) := by
  have HR := Lib.hid hr
  clear hr
  by_cases hw : 1 ≤ width ∧ width ≤ 8
  · obtain ⟨wd, rfl⟩ := Int.eq_ofNat_of_zero_le (show 0 ≤ width by omega)
    have hE : mxE (wd : Int) = 0 := by unfold mxE; rw [if_pos hw]
    have hL : mxL shufL (wd : Int) l = shufL wd l := by unfold mxL; rw [if_pos hw]; rfl
    obtain ⟨n, hn⟩ : ∃ n, n = l.length / wd := ⟨_, rfl⟩
    have hd1 : (l.length : Int).tdiv (wd : Int) = (n : Int) := by rw [Int.tdiv_eq_ediv_of_nonneg (by omega), hn]; exact (Int.natCast_ediv _ _).symm
    have hd2 : (l.length : Int) / (wd : Int) = (n : Int) := by rw [hn]; exact (Int.natCast_ediv _ _).symm
    have hwn : wd * n ≤ l.length := by rw [hn]; exact Nat.mul_div_le _ _
    have hnl : n ≤ l.length := by rw [hn]; exact Nat.div_le_self _ _
    have hw1 : 1 ≤ wd := by omega
    have hw8 : wd ≤ 8 := by omega
    have hw0 : ¬ (wd : Int) = 0 := by omega
    obtain ⟨wn, hwne⟩ : ∃ wn, wn = wd * n := ⟨_, rfl⟩
    have hwnl : wn ≤ l.length := by omega
    have hm3 : (n : Int) * (wd : Int) = (wn : Int) := by rw [hwne, Int.natCast_mul, Int.mul_comm]
    obtain ⟨A', hcut, hrd, hcc'⟩ := cut_suf A l c (wn : Int) (by omega) (by omega) hc
    rw [Int.toNat_natCast] at hcut hrd hcc'
    have hdl : (l.drop wn).length ≤ 150000000000000 := by rw [List.length_drop]; omega
    have hdl2 : wn + (l.drop wn).length ≤ 150000000000000 := by rw [List.length_drop]; omega
    have hL2 : mxL shufL (wd : Int) l = preL (shF wd n l) wn ++ l.drop wn := by rw [hL, hwne, hn]; rfl
    generalize l.drop wn = suf at hcut hrd hcc' hdl hdl2 hL2
    have HE := Lib.hid hE
    have HL := Lib.hid hL2
    have HWN := Lib.hid hwne
    have HRS := Lib.hid hrd
    clear hE hL hL2 hn hw hwne hrd
    go_enter Try.func22, Try.ntmps22
    go_wp2_with fail
    go_loopw [7, 8] (fun v t wr => ∃ k : Nat, k ≤ wd ∧ t = .int .i64 k ∧ Hid (Own wr w.heap.size v (preL (shF wd n l) (k * n))) ∧ Hid (Below w.heap.size w wr)) (fun _ t _ => wd - (intOf t).toNat)
    case atStart => exact ⟨0, by omega, rfl, by rw [Nat.zero_mul]; exact World.ownsRow_nil _ _ _ _, Below.refl _ _⟩
    case round =>
      obtain ⟨k, hk, rfl, HO, HB⟩ := hrel
      by_cases hkl : k < wd
      · obtain ⟨kn, hkn⟩ : ∃ kn, kn = k * n := ⟨_, rfl⟩
        rw [← hkn] at HO
        have HKN := Lib.hid hkn
        clear hkn
        go_wp2_with fail
        go_loopw [7, 9] (fun v t wr2 => ∃ i : Nat, i ≤ n ∧ t = .int .i64 i ∧ Hid (Own wr2 w.heap.size v (preL (shF wd n l) (kn + i))) ∧ Hid (Below w.heap.size w wr2)) (fun _ t _ => n - (intOf t).toNat)
        case atStart => exact ⟨0, by omega, rfl, HO.out, HB.out⟩
        case round =>
          obtain ⟨i, hi, rfl, HOi, HBi⟩ := hrel
          by_cases hil : i < n
          · obtain ⟨iw, hiw⟩ : ∃ iw, iw = i * wd := ⟨_, rfl⟩
            have hm1 : (i : Int) * (wd : Int) = (iw : Int) := by rw [hiw, Int.natCast_mul]
            have hp := place_in hil hkl
            have hq := rank_in hil hkl
            rw [← hiw, ← HWN.out] at hp
            rw [← HKN.out, ← HWN.out] at hq
            have hy : preL (shF wd n l) (kn + i + 1) = preL (shF wd n l) (kn + i) ++ [rdI l (iw + k)] := by
              rw [preL_succ]
              have : shF wd n l (kn + i) = rdI l (iw + k) := by unfold shF; rw [HKN.out, mod_of hil, div_of hil, hiw]
              rw [this]
            have HY := Lib.hid hy
            have HIW := Lib.hid hiw
            clear hy hiw
            obtain ⟨ad, rfl, hcc⟩ := HR.out.2.2 (by omega)
            have hcell := rd_cell (HR.out.below HBi.out) (iw + k) (by omega)
            have hpt : ((iw : Int) + (k : Int)).toNat = iw + k := by omega
            clear hcc
            generalize rdI l (iw + k) = y at hcell HY
            have hpl : (preL (shF wd n l) (kn + i)).length = kn + i := preL_length _ _
            have HPL := Lib.hid hpl
            clear hpl
            generalize preL (shF wd n l) (kn + i) = cur at HOi HY HPL
            go_wp2_with (at_builtin; refine app1 w.heap.size rfl _ _ rfl u7 cur y rfl rfl HOi.out HBi.out.size ?_ ?_)
            · rw [HPL.out]; omega
            intro v1 w1 h1 h2
            have H1 := Lib.hid h1
            have H2 := Lib.hid (HBi.out.grown h2 HBi.out.size (fun k hk => own_base HOi.out k hk))
            clear h1 h2
            go_wp2_with fail
            go_roundw
            case rel => exact ⟨i + 1, by omega, by push_cast; rfl, by rw [← Nat.add_assoc, HY.out]; exact H1.out, H2.out⟩
            case measure => simp [intOf]; omega
          · have hin : i = n := by omega
            subst hin
            have e : kn + i = (k + 1) * i := by rw [HKN.out, Nat.succ_mul]
            rw [e] at HOi
            go_wp2_with fail
            go_roundw
            case rel => exact ⟨k + 1, by omega, by push_cast; rfl, HOi.out, HBi.out⟩
            case measure => simp [intOf]; omega
      · have hkw : k = wd := by omega
        subst hkw
        rw [← HWN.out] at HO
        have hpl : (preL (shF k n l) wn).length = wn := preL_length _ _
        have HPL := Lib.hid hpl
        clear hpl
        generalize preL (shF k n l) wn = cur at HO HPL HL
        go_wp2_with ((with_reducible refine gate_builtin (b := .append) (xs := #[.tmp 41, .tmp 46]) rfl ?_); refine app w.heap.size rfl _ _ rfl u7 cur suf A' (c - wn) rfl rfl HO.out (HRS.out _ (HR.out.below HB.out)) HB.out.size (by rw [HPL.out]; omega) ?_)
        intro v1 w1 h1 h2
        have H1 := Lib.hid h1
        have H2 := Lib.hid (HB.out.grown h2 HB.out.size (fun k hk => own_base HO.out k hk))
        clear h1 h2
        go_wp2_with fail
        go_ret2
        refine ⟨_, pair_ret HE.out.symm, ?_, H2.out⟩
        rw [HL.out]
        exact H1.out
  · have hE : mxE width = 2 := by unfold mxE; rw [if_neg hw]
    have hL : mxL shufL width l = [] := by unfold mxL; rw [if_neg hw]
    have HE := Lib.hid hE
    have HL := Lib.hid hL
    clear hE hL
    have hww : width < 1 ∨ (¬ width < 1 ∧ 8 < width) := by omega
    clear hw
    rcases hww with h1 | ⟨h0, h1⟩
    all_goals
      go_enter Try.func22, Try.ntmps22
      go_wp2_with fail
      go_ret2
      refine ⟨.slice none 0 0, pair_ret HE.out.symm, ?_, Below.refl _ _⟩
      rw [HL.out]
      exact World.ownsRow_nil _ _ _ _
set_option maxHeartbeats 1600000 in
theorem refUnshuffle_any (A : Option Addr) (c : Nat) (l : List Int) (width : Int) (w : World) (hr : Rd w A l) (hc : l.length ≤ c) (hl : l.length ≤ 150000000000000) :
    Calls Try.prog 27 #[.int .i64 width, .slice A l.length c] w (MixPost unshL w width l) := by
  have HR := Lib.hid hr
  clear hr
  by_cases hw : 1 ≤ width ∧ width ≤ 8
  · obtain ⟨wd, rfl⟩ := Int.eq_ofNat_of_zero_le (show 0 ≤ width by omega)
    have hE : mxE (wd : Int) = 0 := by unfold mxE; rw [if_pos hw]
    have hL : mxL unshL (wd : Int) l = unshL wd l := by unfold mxL; rw [if_pos hw]; rfl
    obtain ⟨n, hn⟩ : ∃ n, n = l.length / wd := ⟨_, rfl⟩
    have hd1 : (l.length : Int).tdiv (wd : Int) = (n : Int) := by rw [Int.tdiv_eq_ediv_of_nonneg (by omega), hn]; exact (Int.natCast_ediv _ _).symm
    have hd2 : (l.length : Int) / (wd : Int) = (n : Int) := by rw [hn]; exact (Int.natCast_ediv _ _).symm
    have hwn : wd * n ≤ l.length := by rw [hn]; exact Nat.mul_div_le _ _
    have hnl : n ≤ l.length := by rw [hn]; exact Nat.div_le_self _ _
    have hw1 : 1 ≤ wd := by omega
    have hw8 : wd ≤ 8 := by omega
    have hw0 : ¬ (wd : Int) = 0 := by omega
    obtain ⟨wn, hwne⟩ : ∃ wn, wn = wd * n := ⟨_, rfl⟩
    have hwnl : wn ≤ l.length := by omega
    have hm3 : (n : Int) * (wd : Int) = (wn : Int) := by rw [hwne, Int.natCast_mul, Int.mul_comm]
    obtain ⟨A', hcut, hrd, hcc'⟩ := cut_suf A l c (wn : Int) (by omega) (by omega) hc
    rw [Int.toNat_natCast] at hcut hrd hcc'
    have hdl : (l.drop wn).length ≤ 150000000000000 := by rw [List.length_drop]; omega
    have hdl2 : wn + (l.drop wn).length ≤ 150000000000000 := by rw [List.length_drop]; omega
    have hL2 : mxL unshL (wd : Int) l = preL (unF wd n l) wn ++ l.drop wn := by rw [hL, hwne, hn]; rfl
    generalize l.drop wn = suf at hcut hrd hcc' hdl hdl2 hL2
    have HE := Lib.hid hE
    have HL := Lib.hid hL2
    have HWN := Lib.hid hwne
    have HRS := Lib.hid hrd
    clear hE hL hL2 hn hw hwne hrd
    go_enter Try.func27, Try.ntmps27
    go_wp2_with fail
    go_loopw [7, 8] (fun v t wr => ∃ k : Nat, k ≤ n ∧ t = .int .i64 k ∧ Hid (Own wr w.heap.size v (preL (unF wd n l) (k * wd))) ∧ Hid (Below w.heap.size w wr)) (fun _ t _ => n - (intOf t).toNat)
    case atStart => exact ⟨0, by omega, rfl, by rw [Nat.zero_mul]; exact World.ownsRow_nil _ _ _ _, Below.refl _ _⟩
    case round =>
      obtain ⟨k, hk, rfl, HO, HB⟩ := hrel
      by_cases hkl : k < n
      · obtain ⟨kn, hkn⟩ : ∃ kn, kn = k * wd := ⟨_, rfl⟩
        rw [← hkn] at HO
        have HKN := Lib.hid hkn
        clear hkn
        go_wp2_with fail
        go_loopw [7, 9] (fun v t wr2 => ∃ i : Nat, i ≤ wd ∧ t = .int .i64 i ∧ Hid (Own wr2 w.heap.size v (preL (unF wd n l) (kn + i))) ∧ Hid (Below w.heap.size w wr2)) (fun _ t _ => wd - (intOf t).toNat)
        case atStart => exact ⟨0, by omega, rfl, HO.out, HB.out⟩
        case round =>
          obtain ⟨i, hi, rfl, HOi, HBi⟩ := hrel
          by_cases hil : i < wd
          · obtain ⟨iw, hiw⟩ : ∃ iw, iw = i * n := ⟨_, rfl⟩
            have hm1 : (i : Int) * (n : Int) = (iw : Int) := by rw [hiw, Int.natCast_mul]
            have hp := rank_in hkl hil
            have hq := place_in hkl hil
            rw [← hiw, ← HWN.out] at hp
            rw [← HKN.out, ← HWN.out] at hq
            have hy : preL (unF wd n l) (kn + i + 1) = preL (unF wd n l) (kn + i) ++ [rdI l (iw + k)] := by
              rw [preL_succ]
              have : unF wd n l (kn + i) = rdI l (iw + k) := by unfold unF; rw [HKN.out, mod_of hil, div_of hil, hiw]
              rw [this]
            have HY := Lib.hid hy
            have HIW := Lib.hid hiw
            clear hy hiw
            obtain ⟨ad, rfl, hcc⟩ := HR.out.2.2 (by omega)
            have hcell := rd_cell (HR.out.below HBi.out) (iw + k) (by omega)
            have hpt : ((iw : Int) + (k : Int)).toNat = iw + k := by omega
            clear hcc
            generalize rdI l (iw + k) = y at hcell HY
            have hpl : (preL (unF wd n l) (kn + i)).length = kn + i := preL_length _ _
            have HPL := Lib.hid hpl
            clear hpl
            generalize preL (unF wd n l) (kn + i) = cur at HOi HY HPL
            go_wp2_with (at_builtin; refine app1 w.heap.size rfl _ _ rfl u7 cur y rfl rfl HOi.out HBi.out.size ?_ ?_)
            · rw [HPL.out]; omega
            intro v1 w1 h1 h2
            have H1 := Lib.hid h1
            have H2 := Lib.hid (HBi.out.grown h2 HBi.out.size (fun k hk => own_base HOi.out k hk))
            clear h1 h2
            go_wp2_with fail
            go_roundw
            case rel => exact ⟨i + 1, by omega, by push_cast; rfl, by rw [← Nat.add_assoc, HY.out]; exact H1.out, H2.out⟩
            case measure => simp [intOf]; omega
          · have hin : i = wd := by omega
            subst hin
            have e : kn + i = (k + 1) * i := by rw [HKN.out, Nat.succ_mul]
            rw [e] at HOi
            go_wp2_with fail
            go_roundw
            case rel => exact ⟨k + 1, by omega, by push_cast; rfl, HOi.out, HBi.out⟩
            case measure => simp [intOf]; omega
      · have hkw : k = n := by omega
        subst hkw
        rw [Nat.mul_comm, ← HWN.out] at HO
        have hpl : (preL (unF wd k l) wn).length = wn := preL_length _ _
        have HPL := Lib.hid hpl
        clear hpl
        generalize preL (unF wd k l) wn = cur at HO HPL HL
        go_wp2_with ((with_reducible refine gate_builtin (b := .append) (xs := #[.tmp 41, .tmp 46]) rfl ?_); refine app w.heap.size rfl _ _ rfl u7 cur suf A' (c - wn) rfl rfl HO.out (HRS.out _ (HR.out.below HB.out)) HB.out.size (by rw [HPL.out]; omega) ?_)
        intro v1 w1 h1 h2
        have H1 := Lib.hid h1
        have H2 := Lib.hid (HB.out.grown h2 HB.out.size (fun k hk => own_base HO.out k hk))
        clear h1 h2
        go_wp2_with fail
        go_ret2
        refine ⟨_, pair_ret HE.out.symm, ?_, H2.out⟩
        rw [HL.out]
        exact H1.out
  · have hE : mxE width = 2 := by unfold mxE; rw [if_neg hw]
    have hL : mxL unshL width l = [] := by unfold mxL; rw [if_neg hw]
    have HE := Lib.hid hE
    have HL := Lib.hid hL
    clear hE hL
    have hww : width < 1 ∨ (¬ width < 1 ∧ 8 < width) := by omega
    clear hw
    rcases hww with h1 | ⟨h0, h1⟩
    all_goals
      go_enter Try.func27, Try.ntmps27
      go_wp2_with fail
      go_ret2
      refine ⟨.slice none 0 0, pair_ret HE.out.symm, ?_, Below.refl _ _⟩
      rw [HL.out]
      exact World.ownsRow_nil _ _ _ _
end Go.Proofs.Ytdfpikimeihefaa
