/-
  FilterAlike: the walk. No premise.
-/
import Derived.Test.YtdfpikimeihefaaLawFiC
import Derived.Test.YtdfpikimeihefaaAlP
import Derived.Test.YtdfpikimeihefaaFillP
import Derived.Test.YtdfpikimeihefaaFlR
namespace Go.Proofs.Ytdfpikimeihefaa
open Go.RowKit Go.Proofs.YtdfpikimeihefaaW.PrintWords

set_option maxRecDepth 100000 in
set_option maxHeartbeats 3200000 in
theorem filterAlike_walk (F : Option Addr) (cf : Nat) (l : List Fl) (x n0 : Int) (w : World) (hrf : Fls w F l) (hwx : (Lit.int .u8 x).wf = true) (hwn : (Lit.int .u64 n0).wf = true) :
    Calls Try.prog 8 #[.slice F l.length cf, .int .u8 x, .int .u64 n0] w fun e w' => e = .returned (.bool true) ∧ Below w.heap.size w w' := by
  have HFL := Lib.hid hrf
  have hx := wf_u8' hwx
  have HXR := Lib.hid hx
  obtain ⟨hn0, hn1⟩ := wf_u64' hwn
  obtain ⟨k, hm1, hk⟩ : ∃ k : Nat, n0 % 4097 = (k : Int) ∧ k < 4097 := ⟨(n0 % 4097).toNat, by omega, by omega⟩
  have hm3 : n0.tmod 4097 = (k : Int) := by rw [Int.tmod_eq_emod_of_nonneg hn0]; exact hm1
  obtain ⟨kd, hkd⟩ : ∃ kd, kd = k / 64 := ⟨_, rfl⟩
  have hkd1 : (k : Int).tdiv 64 = (kd : Int) := by rw [Int.tdiv_eq_ediv_of_nonneg (by omega), hkd]; omega
  have hkd2 : (k : Int) / 64 = (kd : Int) := by rw [hkd]; omega
  have hkd3 : kd ≤ 200 := by omega
  have HKD := Lib.hid hkd
  have hmk := fun W => print_make (P := Try.prog) 28 5 .u8 1 Try.underlying28 infoB (by omega) k (by rw [Nat.mul_one]; clear hkd1 hkd2; omega) W
  have hll := hrf.1
  clear hrf hwx hwn hm1 hkd
  go_enter Try.func8, Try.ntmps8
  go_wp2_with fail
  go_loopw [8] (fun t wr => ∃ i : Nat, i ≤ l.length ∧ t = .int .i64 i ∧ Hid (Below w.heap.size w wr) ∧ Hid (∀ j, j < i → (l.getD j (0, 0)).1 ≠ 2 ∧ (l.getD j (0, 0)).1 ≠ 3)) (fun t _ => l.length + 1 - (intOf t).toNat)
  case atStart => exact ⟨0, Nat.zero_le _, rfl, Below.refl _ _, fun j hj => absurd hj (Nat.not_lt_zero _)⟩
  case round =>
    obtain ⟨i, hi, rfl, HB, HPRE⟩ := hrel
    rename_i wo
    by_cases hend : i = l.length
    · subst hend
      clear hmk
      go_wp2_with (go_at_call 12; refine (lives16 _).mono ?_; rintro e w5 ⟨rfl, hb5⟩)
      go_ret
      exact ⟨rfl, HB.out.trans (hb5.mono HB.out.size)⟩
    · have hend' : ((i : Int) == (l.length : Int)) = false := by rw [beq_eq_false_iff_ne]; clear hkd1 hkd2 hm3; omega
      have hlt : i < l.length := by clear hkd1 hkd2 hm3; omega
      obtain ⟨ad, rfl, hc⟩ := (HFL.out.below HB.out).2 (by clear hkd1 hkd2 hm3; omega)
      obtain ⟨hc0, hc1⟩ := hc i hlt
      obtain ⟨hc2, hc3⟩ := snd_cell hc1
      obtain ⟨f, hf⟩ : ∃ f, f = l.getD i (0, 0) := ⟨_, rfl⟩
      rw [← hf] at hc0 hc1 hc2 hc3
      have HFI := Lib.hid hf
      obtain ⟨kk, dd⟩ := f
      simp only at hc0 hc1 hc2 hc3
      clear hc hf
      by_cases h2 : kk = 2
      · subst h2
        clear hmk
        go_wp2_with (go_at_call 12; refine (lives16 _).mono ?_; rintro e w5 ⟨rfl, hb5⟩)
        go_ret
        exact ⟨rfl, HB.out.trans (hb5.mono HB.out.size)⟩
      · have h2' : (kk == 2) = false := by rw [beq_eq_false_iff_ne]; exact h2
        by_cases h3 : kk = 3
        · subst h3
          have HM := Lib.hid (fun hck => alike_short l i hlt (by rw [← HFI.out]) HPRE.out hck x k (by clear hkd1 hkd2 hm3; omega))
          have hz2 : ((3 : Int) == 2) = false := by decide
          clear HPRE HFI
          go_wp2_with fail
          clear hmk hc0 hc1 hc2 hc3
          obtain ⟨W0, hW0⟩ : ∃ W0, W0 = wr := ⟨_, rfl⟩
          have ho0 := own_made wr wr.heap.size 5 .u8 k (Nat.le_refl _) (by clear hkd1 hkd2 hm3; omega)
          obtain ⟨g2, hg2⟩ : ∃ g2, g2 = wr.heap.size := ⟨_, rfl⟩
          rw [← hg2] at ho0
          rw [← hg2]
          have hg2' : w.heap.size ≤ g2 := by have := HB.out.size; clear hkd1 hkd2 hm3; omega
          have HO0 := Lib.hid (show Own _ g2 (.slice (some ⟨g2, 0, none⟩) k k) (fl k x 0) by
            unfold Own
            rw [fl_length, fl_zero]
            exact ho0)
          have hba := HB.out.alloc HB.out.size (.cells (madeCells #[.int .u8 0] k) 5)
          have HBA := Lib.hid hba
          clear ho0 hg2 hba hW0 HB
          generalize wr.alloc (.cells (madeCells #[.int .u8 0] k) 5) = w3 at HO0 HBA ⊢
          go_loopw [10] (fun t wq => ∃ i : Nat, i ≤ k ∧ t = .int .i64 i ∧ Hid (Own wq g2 (.slice (some ⟨g2, 0, none⟩) k k) (fl k x i)) ∧ Hid (Below w.heap.size w wq)) (fun t _ => k - (intOf t).toNat)
          case atStart => exact ⟨0, Nat.zero_le _, rfl, HO0.out, HBA.out⟩
          case round =>
            obtain ⟨j, hj, rfl, HOj, HBj⟩ := hrel
            by_cases hjl : j < k
            · obtain ⟨ho1, hf1⟩ := own_cell HOj.out (j : Int) (by clear hkd1 hkd2 hm3; omega) (by rw [fl_length]; clear hkd1 hkd2 hm3; omega)
              rw [Int.toNat_natCast] at ho1 hf1
              have h9 := own_setc HOj.out (j : Int) x
              rw [Int.toNat_natCast, fl_set _ _ _ hjl] at h9
              have H9 := Lib.hid h9
              clear h9
              go_wp2_with fail
              go_roundw
              case rel => exact ⟨j + 1, by clear hkd1 hkd2 hm3; omega, by push_cast; rfl, H9.out, HBj.out.setCell (p := ⟨g2, j, none⟩) hg2' _⟩
              case measure => simp [intOf]; clear hkd1 hkd2 hm3; omega
            · have hjn : j = k := by clear hkd1 hkd2 hm3; omega
              have hof := HOj.out
              rw [hjn, fl_all] at hof
              obtain ⟨A3, c3, hv3, hr3⟩ := own_reads hof
              injection hv3 with e1 e2 e3
              subst e1
              have hrl : (List.replicate k x).length = k := List.length_replicate
              have HRS := Lib.hid (apply_any (some ad) cf l (some ⟨g2, 0, none⟩) k (List.replicate k x) wr (HFL.out.below HBj.out) hr3 (rep_bts k HXR.out) (by rw [hrl]; clear hkd1 hkd2 hm3; omega))
              rw [hrl] at HRS
              by_cases hck : fck l = 0
              · obtain ⟨y1, y2⟩ := HM.out hck
                have hae : apE l (List.replicate k x) = 0 := by
                  unfold apE
                  rw [if_neg (by rw [hck]; decide), if_neg (by rw [hrl]; clear hkd1 hkd2 hm3; omega)]
                have hal : apL l (List.replicate k x) = doA l (List.replicate k x) := by unfold apL; rw [if_neg (by rw [hae]; decide)]
                obtain ⟨X, hX⟩ : ∃ X, X = doA l (List.replicate k x) := ⟨_, rfl⟩
                rw [← hX] at y1 y2 hal
                rw [← HKD.out] at y2
                have HAE := Lib.hid hae
                have HAL := Lib.hid hal
                have HCK := Lib.hid hck
                clear hof hr3 e2 e3 hjn hae hal hX hck hrl HM HO0
                go_wp2_with fail
                refine HRS.out.mono ?_
                rintro e w4 ⟨vy, rfl, hoy, hby⟩
                rw [HAE.out]
                rw [HAL.out] at hoy
                obtain ⟨A4, c4, rfl, _, _, _⟩ := own_split hoy
                have HB4 := Lib.hid (HBj.out.trans (hby.mono HBj.out.size))
                clear hoy hby
                go_wp2_with (first | (go_at_call 10; refine (check_any (some ad) cf l w4 (HFL.out.below HB4.out)).mono ?_; rintro e w5 ⟨rfl, hb5⟩; rw [HCK.out]; have HB5 := Lib.hid (HB4.out.trans (hb5.mono HB4.out.size)); clear hb5) | (go_at_call 12; refine (lives16 _).mono ?_; rintro e w6 ⟨rfl, hb6⟩))
                go_ret
                exact ⟨rfl, HB5.out.trans (hb6.mono HB5.out.size)⟩
              · have hae : apE l (List.replicate k x) = fck l := by
                  unfold apE
                  rw [if_pos hck]
                have hal : apL l (List.replicate k x) = [] := by unfold apL; rw [if_pos (by rw [hae]; exact hck)]
                obtain ⟨ck, hcd⟩ : ∃ ck, ck = fck l := ⟨_, rfl⟩
                rw [← hcd] at hae hck
                have hckb : (ck == 0) = false := by rw [beq_eq_false_iff_ne]; exact hck
                have HAE := Lib.hid hae
                have HAL := Lib.hid hal
                have HCK := Lib.hid hcd
                clear hof hr3 e2 e3 hjn hae hal hcd hrl HM HO0
                go_wp2_with fail
                refine HRS.out.mono ?_
                rintro e w4 ⟨vy, rfl, hoy, hby⟩
                rw [HAE.out]
                rw [HAL.out] at hoy
                obtain ⟨A4, c4, rfl, _, _, _⟩ := own_split hoy
                have HB4 := Lib.hid (HBj.out.trans (hby.mono HBj.out.size))
                clear hoy hby
                go_wp2_with fail
                refine (check_any (some ad) cf l w4 (HFL.out.below HB4.out)).mono ?_
                rintro e w5 ⟨rfl, hb5⟩
                rw [← HCK.out]
                have HB5 := Lib.hid (HB4.out.trans (hb5.mono HB4.out.size))
                clear hb5
                go_wp2_with (first | (go_at_call 10; refine (check_any (some ad) cf l w5 (HFL.out.below HB5.out)).mono ?_; rintro e w6 ⟨rfl, hb6⟩; rw [← HCK.out]; have HB6 := Lib.hid (HB5.out.trans (hb6.mono HB5.out.size)); clear hb6) | (go_at_call 12; refine (lives16 _).mono ?_; rintro e w7 ⟨rfl, hb7⟩))
                go_ret
                exact ⟨rfl, HB6.out.trans (hb7.mono HB6.out.size)⟩
        · have h3' : (kk == 3) = false := by rw [beq_eq_false_iff_ne]; exact h3
          have HN := Lib.hid (show ∀ j, j < i + 1 → (l.getD j (0, 0)).1 ≠ 2 ∧ (l.getD j (0, 0)).1 ≠ 3 from fun j hj => by
            rcases Nat.lt_or_ge j i with h | h
            · exact HPRE.out j h
            · have : j = i := by clear hkd1 hkd2 hm3; omega
              subst this
              rw [← HFI.out]
              exact ⟨h2, h3⟩)
          clear hmk HFI HPRE
          go_wp2_with fail
          go_roundw
          case rel => exact ⟨i + 1, by clear hkd1 hkd2 hm3; omega, by push_cast; rfl, HB.out, HN.out⟩
          case measure => simp [intOf]; clear hkd1 hkd2 hm3; omega
end Go.Proofs.Ytdfpikimeihefaa
