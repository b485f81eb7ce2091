/-
  slabvaultref14.cut, Delta, Undelta. No premise.
-/
import Derived.Test.YtdfpikimeihefaaDel1
import Derived.Test.YtdfpikimeihefaaRef3
namespace Go.Proofs.Ytdfpikimeihefaa
open Go.RowKit Go.Proofs.YtdfpikimeihefaaW.PrintWords

set_option maxHeartbeats 400000 in
theorem cut_any (wd : Nat) (u : Int) (w : World) (hn : wd ≤ 8) (hu : 0 ≤ u) (hu2 : u < 18446744073709551616) :
    Calls Try.prog 44 #[.int .u64 u, .int .i64 wd] w fun e w' => ∃ v, e = .returned v ∧ Own w' w.heap.size v (dig wd false u) ∧ Below w.heap.size w w' := by
  go_enter Try.func44, Try.ntmps44
  go_wp2_with (go_at_call 46; refine (refDigits_any wd false u _ hn hu hu2).mono ?_; rintro e w1 ⟨v, rfl, ho, hb⟩)
  go_ret
  exact ⟨_, rfl, ho, hb⟩
set_option maxHeartbeats 1600000 in
theorem refDelta_any (A : Option Addr) (c : Nat) (l : List Int) (width : Int) (w : World) (hr : Rd w A l) (hb : Bts l) (hc : l.length ≤ c) (hl : l.length ≤ 150000000000000) :
    Calls Try.prog 23 #[.int .i64 width, .slice A l.length c] w (MixPost deltaL w width l) := by
  have HR := Lib.hid hr
  have HBt := Lib.hid hb
  clear hr hb
  by_cases hw : 1 ≤ width ∧ width ≤ 8
  · obtain ⟨wd, rfl⟩ := Int.eq_ofNat_of_zero_le (show 0 ≤ width by omega)
    have hE : mxE (wd : Int) = 0 := by unfold mxE; rw [if_pos hw]
    have hL : mxL deltaL (wd : Int) l = deltaL wd l := by unfold mxL; rw [if_pos hw]; rfl
    obtain ⟨n, hn⟩ : ∃ n, n = l.length / wd := ⟨_, rfl⟩
    have hd1 : (l.length : Int).tdiv (wd : Int) = (n : Int) := by rw [Int.tdiv_eq_ediv_of_nonneg (by omega), hn]; exact (Int.natCast_ediv _ _).symm
    have hd2 : (l.length : Int) / (wd : Int) = (n : Int) := by rw [hn]; exact (Int.natCast_ediv _ _).symm
    have hwn : n * wd ≤ l.length := by rw [hn]; exact Nat.div_mul_le_self _ _
    have hnl : n ≤ l.length := by rw [hn]; exact Nat.div_le_self _ _
    have hw1 : 1 ≤ wd := by omega
    have hw8 : wd ≤ 8 := by omega
    have hw0 : ¬ (wd : Int) = 0 := by omega
    obtain ⟨wn, hwne⟩ : ∃ wn, wn = n * wd := ⟨_, rfl⟩
    have hwnl : wn ≤ l.length := by omega
    have hm3 : (n : Int) * (wd : Int) = (wn : Int) := by rw [hwne, Int.natCast_mul]
    obtain ⟨A', hcut, hrd, hcc'⟩ := cut_suf A l c (wn : Int) (by omega) (by omega) hc
    rw [Int.toNat_natCast] at hcut hrd hcc'
    have hdl2 : wn + (l.drop wn).length ≤ 150000000000000 := by rw [List.length_drop]; omega
    have hL2 : mxL deltaL (wd : Int) l = numL wd (fD wd l) n ++ l.drop wn := by rw [hL, hwne, hn]; rfl
    generalize l.drop wn = suf at hcut hrd hcc' hdl2 hL2
    have HE := Lib.hid hE
    have HL := Lib.hid hL2
    have HRS := Lib.hid hrd
    have HWNE := Lib.hid hwne
    clear hE hL hL2 hn hw hrd hwne
    go_enter Try.func23, Try.ntmps23
    go_wp2_with fail
    go_loopw [7, 8, 9] (fun v s t wr => ∃ i : Nat, i ≤ n ∧ t = .int .i64 i ∧ s = .int .u64 (stD wd l i) ∧ Hid (Own wr w.heap.size v (numL wd (fD wd l) i)) ∧ Hid (Below w.heap.size w wr)) (fun _ _ t _ => n - (intOf t).toNat)
    case atStart => exact ⟨0, by omega, rfl, rfl, World.ownsRow_nil _ _ _ _, Below.refl _ _⟩
    case round =>
      obtain ⟨i, hi, rfl, rfl, HO, HB⟩ := hrel
      by_cases hlt : i < n
      · have hi1 : (i + 1) * wd ≤ n * wd := Nat.mul_le_mul_right _ hlt
        have hiwd : (i + 1) * wd = i * wd + wd := Nat.succ_mul i wd
        obtain ⟨hgu, hge⟩ := getU_num l wd i hw1 hw8 (by omega)
        have hiw2 : i * wd + wd ≤ l.length := by omega
        clear hi1 hiwd
        obtain ⟨iw, hiw⟩ : ∃ iw, iw = i * wd := ⟨_, rfl⟩
        have hm1 : (i : Int) * (wd : Int) = (iw : Int) := by rw [hiw, Int.natCast_mul]
        rw [← hiw] at hgu hge hiw2
        obtain ⟨u, hu⟩ : ∃ u, u = uN wd l i := ⟨_, rfl⟩
        rw [← hu] at hgu
        have hur : 0 ≤ u ∧ u < 18446744073709551616 := by
          have h1 := uN_range HBt.out wd i
          rw [← hu] at h1
          have h2 : (2 : Int) ^ (8 * wd) ≤ 18446744073709551616 := by
            have h3 : (2 : Nat) ^ (8 * wd) ≤ 2 ^ 64 := Nat.pow_le_pow_right (by decide) (by omega)
            have h4 : ((2 ^ (8 * wd) : Nat) : Int) ≤ ((2 ^ 64 : Nat) : Int) := by exact_mod_cast h3
            rw [Int.natCast_pow, show ((2 ^ 64 : Nat) : Int) = 18446744073709551616 from by decide +kernel] at h4
            exact h4
          omega
        obtain ⟨s, hs⟩ : ∃ s, s = stD wd l i := ⟨_, rfl⟩
        obtain ⟨s2, hs2⟩ : ∃ s2, s2 = stD wd l (i + 1) := ⟨_, rfl⟩
        obtain ⟨x, hx⟩ : ∃ x : Int, x = (u - s) % 18446744073709551616 := ⟨_, rfl⟩
        have hst : s2 = u := by rw [hs2, hu]; rfl
        have hfx : dig wd false (fD wd l i) = dig wd false x := by
          rw [hx, mod64_dig wd hw8, show fD wd l i = u - s from by rw [hu, hs]; rfl]
        have hxr : 0 ≤ x ∧ x < 18446744073709551616 := by rw [hx]; exact ⟨Int.emod_nonneg _ (by decide), Int.emod_lt_of_pos _ (by decide)⟩
        have hnum : numL wd (fD wd l) (i + 1) = numL wd (fD wd l) i ++ dig wd false x := by rw [numL, hfx]
        have hln : (numL wd (fD wd l) i).length = iw := by rw [numL_length, hiw]
        have hxw : IntKind.u64.wrap (u - s) = x := by rw [IntKind.wrap_u64]; exact hx.symm
        have hdl : (dig wd false x).length = wd := dig_length ..
        rw [← hs]
        have HGU := Lib.hid hgu
        have HGE := Lib.hid hge
        have HST := Lib.hid hst
        have HS2 := Lib.hid hs2
        have HNU := Lib.hid hnum
        have HLN := Lib.hid hln
        have HX := Lib.hid hx
        have HDL := Lib.hid hdl
        clear hgu hge hst hs2 hx hiw hfx hu hs hnum hln hdl
        generalize numL wd (fD wd l) i = cur at HO HNU HLN
        go_wp2_with fail
        refine (refGet_any A c l (iw : Int) (wd : Int) false _ (HR.out.below HB.out) HBt.out hl (by omega) (by omega)).mono ?_
        rintro e w2 ⟨rfl, rfl⟩
        rw [HGU.out, HGE.out]
        have hs0 := HB.out.size
        go_wp2_with fail
        refine (cut_any wd x _ hw8 hxr.1 hxr.2).mono ?_
        rintro e w3 ⟨v3, rfl, ho3, hb3⟩
        obtain ⟨A3, c3, rfl, hr3⟩ := own_reads ho3
        have HR3 := Lib.hid (show Rd w3 A3 (dig wd false x) from hr3)
        have HO3 := Lib.hid (own_step HO.out hb3)
        have HB3 := Lib.hid (HB.out.trans (hb3.mono hs0))
        clear ho3 hb3 hr3
        generalize dig wd false x = D at HR3 HNU HDL ⊢
        go_wp2_with ((with_reducible refine gate_builtin (b := .append) (xs := #[.tmp 36, .tmp 41]) rfl ?_); refine app w.heap.size rfl _ _ rfl u7 cur D A3 c3 rfl rfl HO3.out HR3.out HB3.out.size (by rw [HLN.out, HDL.out]; omega) ?_)
        intro v1 w4 h1 h2
        have H1 := Lib.hid h1
        have H2 := Lib.hid (HB3.out.grown h2 HB3.out.size (fun k hk => own_base HO.out k hk))
        clear h1 h2
        go_wp2_with fail
        go_roundw
        case rel => exact ⟨i + 1, by omega, by push_cast; rfl, by rw [← HS2.out, HST.out], by rw [HNU.out]; exact H1.out, H2.out⟩
        case measure => simp [intOf]; omega
      · have hin : i = n := by omega
        subst hin
        have hpl : (numL wd (fD wd l) i).length = wn := by rw [numL_length, HWNE.out]
        have HPL := Lib.hid hpl
        clear hpl
        generalize numL wd (fD wd l) i = cur at HO HPL HL
        go_wp2_with ((with_reducible refine gate_builtin (b := .append) (xs := #[.tmp 44, .tmp 49]) rfl ?_); refine app w.heap.size rfl _ _ rfl u7 cur suf A' (c - wn) rfl rfl HO.out (HRS.out _ (HR.out.below HB.out)) HB.out.size (by rw [HPL.out]; omega) ?_)
        intro v1 w1 h1 h2
        have H1 := Lib.hid h1
        have H2 := Lib.hid (HB.out.grown h2 HB.out.size (fun k hk => own_base HO.out k hk))
        clear h1 h2
        go_wp2_with fail
        go_ret2
        refine ⟨_, pair_ret HE.out.symm, ?_, H2.out⟩
        rw [HL.out]
        exact H1.out
  · have hE : mxE width = 2 := by unfold mxE; rw [if_neg hw]
    have hL : mxL deltaL width l = [] := by unfold mxL; rw [if_neg hw]
    have HE := Lib.hid hE
    have HL := Lib.hid hL
    clear hE hL
    have hww : width < 1 ∨ (¬ width < 1 ∧ 8 < width) := by omega
    clear hw
    rcases hww with h1 | ⟨h0, h1⟩
    all_goals
      go_enter Try.func23, Try.ntmps23
      go_wp2_with fail
      go_ret2
      refine ⟨.slice none 0 0, pair_ret HE.out.symm, ?_, Below.refl _ _⟩
      rw [HL.out]
      exact World.ownsRow_nil _ _ _ _
set_option maxHeartbeats 1600000 in
theorem refUndelta_any (A : Option Addr) (c : Nat) (l : List Int) (width : Int) (w : World) (hr : Rd w A l) (hb : Bts l) (hc : l.length ≤ c) (hl : l.length ≤ 150000000000000) :
    Calls Try.prog 28 #[.int .i64 width, .slice A l.length c] w (MixPost undelL w width l) := by
  have HR := Lib.hid hr
  have HBt := Lib.hid hb
  clear hr hb
  by_cases hw : 1 ≤ width ∧ width ≤ 8
  · obtain ⟨wd, rfl⟩ := Int.eq_ofNat_of_zero_le (show 0 ≤ width by omega)
    have hE : mxE (wd : Int) = 0 := by unfold mxE; rw [if_pos hw]
    have hL : mxL undelL (wd : Int) l = undelL wd l := by unfold mxL; rw [if_pos hw]; rfl
    obtain ⟨n, hn⟩ : ∃ n, n = l.length / wd := ⟨_, rfl⟩
    have hd1 : (l.length : Int).tdiv (wd : Int) = (n : Int) := by rw [Int.tdiv_eq_ediv_of_nonneg (by omega), hn]; exact (Int.natCast_ediv _ _).symm
    have hd2 : (l.length : Int) / (wd : Int) = (n : Int) := by rw [hn]; exact (Int.natCast_ediv _ _).symm
    have hwn : n * wd ≤ l.length := by rw [hn]; exact Nat.div_mul_le_self _ _
    have hnl : n ≤ l.length := by rw [hn]; exact Nat.div_le_self _ _
    have hw1 : 1 ≤ wd := by omega
    have hw8 : wd ≤ 8 := by omega
    have hw0 : ¬ (wd : Int) = 0 := by omega
    obtain ⟨wn, hwne⟩ : ∃ wn, wn = n * wd := ⟨_, rfl⟩
    have hwnl : wn ≤ l.length := by omega
    have hm3 : (n : Int) * (wd : Int) = (wn : Int) := by rw [hwne, Int.natCast_mul]
    obtain ⟨A', hcut, hrd, hcc'⟩ := cut_suf A l c (wn : Int) (by omega) (by omega) hc
    rw [Int.toNat_natCast] at hcut hrd hcc'
    have hdl2 : wn + (l.drop wn).length ≤ 150000000000000 := by rw [List.length_drop]; omega
    have hL2 : mxL undelL (wd : Int) l = numL wd (fU wd l) n ++ l.drop wn := by rw [hL, hwne, hn]; rfl
    generalize l.drop wn = suf at hcut hrd hcc' hdl2 hL2
    have HE := Lib.hid hE
    have HL := Lib.hid hL2
    have HRS := Lib.hid hrd
    have HWNE := Lib.hid hwne
    clear hE hL hL2 hn hw hrd hwne
    go_enter Try.func28, Try.ntmps28
    go_wp2_with fail
    go_loopw [7, 8, 9] (fun v s t wr => ∃ i : Nat, i ≤ n ∧ t = .int .i64 i ∧ s = .int .u64 (stU wd l i) ∧ Hid (Own wr w.heap.size v (numL wd (fU wd l) i)) ∧ Hid (Below w.heap.size w wr)) (fun _ _ t _ => n - (intOf t).toNat)
    case atStart => exact ⟨0, by omega, rfl, rfl, World.ownsRow_nil _ _ _ _, Below.refl _ _⟩
    case round =>
      obtain ⟨i, hi, rfl, rfl, HO, HB⟩ := hrel
      by_cases hlt : i < n
      · have hi1 : (i + 1) * wd ≤ n * wd := Nat.mul_le_mul_right _ hlt
        have hiwd : (i + 1) * wd = i * wd + wd := Nat.succ_mul i wd
        obtain ⟨hgu, hge⟩ := getU_num l wd i hw1 hw8 (by omega)
        have hiw2 : i * wd + wd ≤ l.length := by omega
        clear hi1 hiwd
        obtain ⟨iw, hiw⟩ : ∃ iw, iw = i * wd := ⟨_, rfl⟩
        have hm1 : (i : Int) * (wd : Int) = (iw : Int) := by rw [hiw, Int.natCast_mul]
        rw [← hiw] at hgu hge hiw2
        obtain ⟨u, hu⟩ : ∃ u, u = uN wd l i := ⟨_, rfl⟩
        rw [← hu] at hgu
        have hur : 0 ≤ u ∧ u < 18446744073709551616 := by
          have h1 := uN_range HBt.out wd i
          rw [← hu] at h1
          have h2 : (2 : Int) ^ (8 * wd) ≤ 18446744073709551616 := by
            have h3 : (2 : Nat) ^ (8 * wd) ≤ 2 ^ 64 := Nat.pow_le_pow_right (by decide) (by omega)
            have h4 : ((2 ^ (8 * wd) : Nat) : Int) ≤ ((2 ^ 64 : Nat) : Int) := by exact_mod_cast h3
            rw [Int.natCast_pow, show ((2 ^ 64 : Nat) : Int) = 18446744073709551616 from by decide +kernel] at h4
            exact h4
          omega
        obtain ⟨s, hs⟩ : ∃ s, s = stU wd l i := ⟨_, rfl⟩
        obtain ⟨s2, hs2⟩ : ∃ s2, s2 = stU wd l (i + 1) := ⟨_, rfl⟩
        obtain ⟨x, hx⟩ : ∃ x : Int, x = (s + u) % 18446744073709551616 := ⟨_, rfl⟩
        have hst : s2 = (s + u) % 18446744073709551616 := by rw [hs2, hs, hu]; exact (stU_succ wd l i).symm
        have hfx : dig wd false (fU wd l i) = dig wd false x := by
          rw [hx, mod64_dig wd hw8, ← mod64_dig wd hw8 (fU wd l i), ← mod64_dig wd hw8 (s + u), hs, hu, stU_succ, show stU wd l (i + 1) = fU wd l i % 18446744073709551616 from rfl]
        have hxr : 0 ≤ x ∧ x < 18446744073709551616 := by rw [hx]; exact ⟨Int.emod_nonneg _ (by decide), Int.emod_lt_of_pos _ (by decide)⟩
        have hnum : numL wd (fU wd l) (i + 1) = numL wd (fU wd l) i ++ dig wd false x := by rw [numL, hfx]
        have hln : (numL wd (fU wd l) i).length = iw := by rw [numL_length, hiw]
        have hxw : IntKind.u64.wrap (s + u) = x := by rw [IntKind.wrap_u64]; exact hx.symm
        have hdl : (dig wd false x).length = wd := dig_length ..
        rw [← hs]
        have HGU := Lib.hid hgu
        have HGE := Lib.hid hge
        have HST := Lib.hid hst
        have HS2 := Lib.hid hs2
        have HNU := Lib.hid hnum
        have HLN := Lib.hid hln
        have HX := Lib.hid hx
        have HDL := Lib.hid hdl
        clear hgu hge hst hs2 hx hiw hfx hu hs hnum hln hdl
        generalize numL wd (fU wd l) i = cur at HO HNU HLN
        go_wp2_with fail
        refine (refGet_any A c l (iw : Int) (wd : Int) false _ (HR.out.below HB.out) HBt.out hl (by omega) (by omega)).mono ?_
        rintro e w2 ⟨rfl, rfl⟩
        rw [HGU.out, HGE.out]
        have hs0 := HB.out.size
        go_wp2_with fail
        refine (cut_any wd x _ hw8 hxr.1 hxr.2).mono ?_
        rintro e w3 ⟨v3, rfl, ho3, hb3⟩
        obtain ⟨A3, c3, rfl, hr3⟩ := own_reads ho3
        have HR3 := Lib.hid (show Rd w3 A3 (dig wd false x) from hr3)
        have HO3 := Lib.hid (own_step HO.out hb3)
        have HB3 := Lib.hid (HB.out.trans (hb3.mono hs0))
        clear ho3 hb3 hr3
        generalize dig wd false x = D at HR3 HNU HDL ⊢
        go_wp2_with ((with_reducible refine gate_builtin (b := .append) (xs := #[.tmp 39, .tmp 42]) rfl ?_); refine app w.heap.size rfl _ _ rfl u7 cur D A3 c3 rfl rfl HO3.out HR3.out HB3.out.size (by rw [HLN.out, HDL.out]; omega) ?_)
        intro v1 w4 h1 h2
        have H1 := Lib.hid h1
        have H2 := Lib.hid (HB3.out.grown h2 HB3.out.size (fun k hk => own_base HO.out k hk))
        clear h1 h2
        go_wp2_with fail
        go_roundw
        case rel => exact ⟨i + 1, by omega, by push_cast; rfl, by rw [← HS2.out, HST.out, ← HX.out], by rw [HNU.out]; exact H1.out, H2.out⟩
        case measure => simp [intOf]; omega
      · have hin : i = n := by omega
        subst hin
        have hpl : (numL wd (fU wd l) i).length = wn := by rw [numL_length, HWNE.out]
        have HPL := Lib.hid hpl
        clear hpl
        generalize numL wd (fU wd l) i = cur at HO HPL HL
        go_wp2_with ((with_reducible refine gate_builtin (b := .append) (xs := #[.tmp 44, .tmp 49]) rfl ?_); refine app w.heap.size rfl _ _ rfl u7 cur suf A' (c - wn) rfl rfl HO.out (HRS.out _ (HR.out.below HB.out)) HB.out.size (by rw [HPL.out]; omega) ?_)
        intro v1 w1 h1 h2
        have H1 := Lib.hid h1
        have H2 := Lib.hid (HB.out.grown h2 HB.out.size (fun k hk => own_base HO.out k hk))
        clear h1 h2
        go_wp2_with fail
        go_ret2
        refine ⟨_, pair_ret HE.out.symm, ?_, H2.out⟩
        rw [HL.out]
        exact H1.out
  · have hE : mxE width = 2 := by unfold mxE; rw [if_neg hw]
    have hL : mxL undelL width l = [] := by unfold mxL; rw [if_neg hw]
    have HE := Lib.hid hE
    have HL := Lib.hid hL
    clear hE hL
    have hww : width < 1 ∨ (¬ width < 1 ∧ 8 < width) := by omega
    clear hw
    rcases hww with h1 | ⟨h0, h1⟩
    all_goals
      go_enter Try.func28, Try.ntmps28
      go_wp2_with fail
      go_ret2
      refine ⟨.slice none 0 0, pair_ret HE.out.symm, ?_, Below.refl _ _⟩
      rw [HL.out]
      exact World.ownsRow_nil _ _ _ _
end Go.Proofs.Ytdfpikimeihefaa
