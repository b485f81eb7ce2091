/-
  MatchBack, MatchAlike: the walks. No premise.
-/
import Derived.Test.YtenikeldjgpgmaaLawMaA
namespace Go.Proofs.Ytenikeldjgpgmaa
open Go.RowKit Go.Proofs.YtenikeldjgpgmaaW.PrintWords

set_option maxRecDepth 100000 in
set_option maxHeartbeats 3200000 in
theorem matchBack_walk (A : Option Addr) (c : Nat) (l : List Int) (w : World) (hr : ReadsInt w .u8 A l.length l) (hw : ∀ x ∈ l, (Lit.int .u8 x).wf = true) (hc : l.length ≤ c) (hy : l.length * 1 ≤ 140737488351232) :
    Calls Try.prog 5 #[.slice A l.length c] w fun e w' => e = .returned (.bool true) ∧ Below w.heap.size w w' := by
  have HR := Lib.hid (show Rd w A l from hr)
  have hbt := wf_bts' hw
  have HXB := Lib.hid (pkL_bts hbt)
  clear hr hw
  by_cases hbig : 65536 < l.length
  · obtain ⟨h1, h2⟩ := pk_big hbig
    have HE := Lib.hid h1
    have HX := Lib.hid h2
    clear h1 h2 hbt HXB
    go_enter Try.func5, Try.ntmps5
    go_wp2_with fail
    refine (pack_any A c l w HR.out hc (by omega)).mono ?_
    rintro e w1 ⟨v, rfl, ho, hb⟩
    rw [HE.out]
    rw [HX.out] at ho
    obtain ⟨A1, c1, rfl, _, _, _⟩ := own_split ho
    have HB1 := Lib.hid hb
    clear ho hb
    go_wp2_with (go_at_call 17; refine (lives15 _).mono ?_; rintro e w2 ⟨rfl, hb2⟩)
    go_ret
    exact ⟨rfl, HB1.out.trans (hb2.mono HB1.out.size)⟩
  have hsm : l.length ≤ 65536 := by omega
  obtain ⟨h1, h2, h3⟩ := pk_len l hsm
  have HE := Lib.hid h1
  have HU := Lib.hid (fun most h0 h1 => upk_pk l hsm most h0 h1)
  obtain ⟨X, hX⟩ : ∃ X, X = pkL l := ⟨_, rfl⟩
  rw [← hX] at h2 h3 HU HXB
  have HX := Lib.hid hX
  clear h1 hX
  by_cases hb10 : 10000 < l.length
  · go_enter Try.func5, Try.ntmps5
    go_wp2_with fail
    refine (pack_any A c l w HR.out hc (by omega)).mono ?_
    rintro e w1 ⟨v, rfl, ho, hb⟩
    rw [HE.out]
    rw [← HX.out] at ho
    obtain ⟨A1, c1, rfl, _, _, _⟩ := own_split ho
    have HB1 := Lib.hid hb
    clear ho hb
    go_wp2_with (go_at_call 17; refine (lives15 _).mono ?_; rintro e w2 ⟨rfl, hb2⟩)
    go_ret
    exact ⟨rfl, HB1.out.trans (hb2.mono HB1.out.size)⟩
  have HU1 := Lib.hid (show upk X (l.length : Int) = (l, 0) by rw [HU.out _ (by omega) (by omega), if_pos (by omega)])
  have hzl : (strOfNums l).size ≤ 9223372036854775807 := by rw [strOfNums_size]; omega
  by_cases hl0 : l = []
  · subst hl0
    have HU0 := Lib.hid (show upk X 0 = ([], 0) from HU1.out)
    have hcl : ∀ W, (convert 22 9 (.slice A 0 c)).run Try.prog W = .ok (.string (strOfNums [])) W := fun W =>
      string_of_reads Try.underlying22 Try.underlying5 Try.underlying9 (show ReadsInt W .u8 A 0 [] from ⟨rfl, by simp, fun h => absurd h (by omega)⟩)
    go_enter Try.func5, Try.ntmps5
    go_wp2_with fail
    refine (pack_any A c [] w HR.out hc (by simp)).mono ?_
    rintro e w1 ⟨v, rfl, ho, hb⟩
    rw [HE.out]
    rw [← HX.out] at ho
    obtain ⟨A1, c1, rfl, _, hr1, hc1⟩ := own_split ho
    have HR1 := Lib.hid hr1
    have HB1 := Lib.hid hb
    clear ho hb hr1
    go_wp2_with fail
    refine (unpack_any A1 c1 X 0 w1 HR1.out HXB.out hc1 (by omega)).mono ?_
    rintro e w2 ⟨v2, rfl, ho2, hb2⟩
    rw [HU0.out] at ho2 ⊢
    have hcy := own_str ho2
    have HB2 := Lib.hid (HB1.out.trans (hb2.mono HB1.out.size))
    clear ho2 hb2
    go_wp2_with (go_at_call 17; refine (lives15 _).mono ?_; rintro e w3 ⟨rfl, hb3⟩)
    go_ret
    exact ⟨rfl, HB2.out.trans (hb3.mono HB2.out.size)⟩
  have hlp : 0 < l.length := List.length_pos_iff.2 hl0
  have hlz : ((l.length : Int) == 0) = false := beq_eq_false_iff_ne.2 (by omega)
  have HU2 := Lib.hid (show upk X ((l.length : Int) - 1) = ([], 3) by rw [HU.out _ (by omega) (by omega), if_neg (by omega)])
  have HU3 := Lib.hid (show upk X 65536 = (l, 0) by rw [HU.out _ (by omega) (by omega), if_pos (by omega)])
  clear hl0 HU
  go_enter Try.func5, Try.ntmps5
  go_wp2_with fail
  refine (pack_any A c l w HR.out hc (by omega)).mono ?_
  rintro e w1 ⟨v, rfl, ho, hb⟩
  rw [HE.out]
  rw [← HX.out] at ho
  obtain ⟨A1, c1, rfl, _, hr1, hc1⟩ := own_split ho
  have HR1 := Lib.hid hr1
  have HB1 := Lib.hid hb
  clear ho hb hr1
  go_wp2_with fail
  refine (unpack_any A1 c1 X (l.length : Int) w1 HR1.out HXB.out hc1 (by omega)).mono ?_
  rintro e w2 ⟨v2, rfl, ho2, hb2⟩
  rw [HU1.out] at ho2 ⊢
  have hcy := own_str ho2
  have hcl := string_of_reads (P := Try.prog) (src := 22) (dst := 9) (c := c) Try.underlying22 Try.underlying5 Try.underlying9 (show ReadsInt w2 .u8 A l.length l from HR.out.below (HB1.out.trans (hb2.mono HB1.out.size)))
  have HB2 := Lib.hid (HB1.out.trans (hb2.mono HB1.out.size))
  have HB12 := Lib.hid hb2
  clear ho2 hb2
  go_wp2_with fail
  clear hcy hcl
  refine (unpack_any A1 c1 X ((l.length : Int) - 1) w2 (HR1.out.below HB12.out) HXB.out hc1 (by omega)).mono ?_
  rintro e w3 ⟨v3, rfl, ho3, hb3⟩
  rw [HU2.out] at ho3 ⊢
  obtain ⟨A3, c3, rfl, _, _, _⟩ := own_split ho3
  have HB3 := Lib.hid (HB2.out.trans (hb3.mono HB2.out.size))
  have HB13 := Lib.hid (HB12.out.trans (hb3.mono HB12.out.size))
  clear ho3 hb3
  go_wp2_with fail
  refine (unpack_any A1 c1 X 65536 w3 (HR1.out.below HB13.out) HXB.out hc1 (by omega)).mono ?_
  rintro e w4 ⟨v4, rfl, ho4, hb4⟩
  rw [HU3.out] at ho4 ⊢
  have hcy := own_str ho4
  have hcl := string_of_reads (P := Try.prog) (src := 22) (dst := 9) (c := c) Try.underlying22 Try.underlying5 Try.underlying9 (show ReadsInt w4 .u8 A l.length l from HR.out.below (HB3.out.trans (hb4.mono HB3.out.size)))
  have HB4 := Lib.hid (HB3.out.trans (hb4.mono HB3.out.size))
  clear ho4 hb4
  go_wp2_with (go_at_call 17; refine (lives15 _).mono ?_; rintro e w5 ⟨rfl, hb5⟩)
  go_ret
  exact ⟨rfl, HB4.out.trans (hb5.mono HB4.out.size)⟩

set_option maxRecDepth 100000 in
set_option maxHeartbeats 1600000 in
theorem matchAlike_walk (x n0 : Int) (w : World) (hwx : (Lit.int .u8 x).wf = true) (hwn : (Lit.int .u64 n0).wf = true) :
    Calls Try.prog 7 #[.int .u8 x, .int .u64 n0] w fun e w' => e = .returned (.bool true) ∧ Below w.heap.size w w' := by
  have hx := wf_u8' hwx
  obtain ⟨hn0, hn1⟩ := wf_u64' hwn
  obtain ⟨k, hm1, hk⟩ : ∃ k : Nat, n0 % 10000 = (k : Int) ∧ k < 10000 := ⟨(n0 % 10000).toNat, by omega, by omega⟩
  have hm3 : n0.tmod 10000 = (k : Int) := by rw [Int.tmod_eq_emod_of_nonneg hn0]; exact hm1
  have hrl : (List.replicate k x).length = k := List.length_replicate
  obtain ⟨h1, h2, _⟩ := pk_len (List.replicate k x) (by omega)
  have h3 := pk_le_tk (List.replicate k x) (by omega)
  have h4 := tkL_rep k x (by omega)
  have h5 : (pkL (List.replicate k x)).length ≤ k / 64 + 128 := by omega
  have HE := Lib.hid h1
  obtain ⟨X, hX⟩ : ∃ X, X = pkL (List.replicate k x) := ⟨_, rfl⟩
  rw [← hX] at h2 h5
  have HX := Lib.hid hX
  obtain ⟨kd, hkd⟩ : ∃ kd, kd = k / 64 := ⟨_, rfl⟩
  rw [← hkd] at h5
  have hkd1 : (k : Int).tdiv 64 = (kd : Int) := by rw [Int.tdiv_eq_ediv_of_nonneg (by omega), hkd]; omega
  have hkd2 : (k : Int) / 64 = (kd : Int) := by rw [hkd]; omega
  have hkd3 : kd ≤ 200 := by omega
  have hmk := fun W => print_make (P := Try.prog) 22 5 .u8 1 Try.underlying22 infoB (by omega) k (by rw [Nat.mul_one]; clear hkd1 hkd2; omega) W
  clear h1 h3 h4 hX hwx hwn hm1 hkd hrl
  go_enter Try.func7, Try.ntmps7
  go_wp2_with fail
  clear hmk
  have ho0 := own_made w w.heap.size 5 .u8 k (Nat.le_refl _) (by clear hkd1 hkd2 hm3; omega)
  obtain ⟨g2, hg2⟩ : ∃ g2, g2 = w.heap.size := ⟨_, rfl⟩
  rw [← hg2] at ho0
  rw [← hg2]
  have hg2' : w.heap.size ≤ g2 := by clear hkd1 hkd2 hm3; omega
  have HO0 := Lib.hid (show Own _ g2 (.slice (some ⟨g2, 0, none⟩) k k) (fl k x 0) by
    unfold Own
    rw [fl_length, fl_zero]
    exact ho0)
  have hba := (Below.refl w.heap.size w).alloc (Nat.le_refl _) (.cells (madeCells #[.int .u8 0] k) 5)
  have HBA := Lib.hid hba
  clear ho0 hg2 hba
  generalize w.alloc (.cells (madeCells #[.int .u8 0] k) 5) = w3 at HO0 HBA ⊢
  go_loopw [7] (fun t wq => ∃ i : Nat, i ≤ k ∧ t = .int .i64 i ∧ Hid (Own wq g2 (.slice (some ⟨g2, 0, none⟩) k k) (fl k x i)) ∧ Hid (Below w.heap.size w wq)) (fun t _ => k - (intOf t).toNat)
  case atStart => exact ⟨0, Nat.zero_le _, rfl, HO0.out, HBA.out⟩
  case round =>
    obtain ⟨j, hj, rfl, HOj, HBj⟩ := hrel
    by_cases hjl : j < k
    · obtain ⟨ho1, hf1⟩ := own_cell HOj.out (j : Int) (by clear hkd1 hkd2 hm3; omega) (by rw [fl_length]; clear hkd1 hkd2 hm3; omega)
      rw [Int.toNat_natCast] at ho1 hf1
      have h9 := own_setc HOj.out (j : Int) x
      rw [Int.toNat_natCast, fl_set _ _ _ hjl] at h9
      have H9 := Lib.hid h9
      clear h9
      go_wp2_with fail
      go_roundw
      case rel => exact ⟨j + 1, by omega, by push_cast; rfl, H9.out, HBj.out.setCell (p := ⟨g2, j, none⟩) hg2' _⟩
      case measure => simp [intOf]; omega
    · have hjn : j = k := by clear hkd1 hkd2 hm3; omega
      have hof := HOj.out
      rw [hjn, fl_all] at hof
      obtain ⟨A3, c3, hv3, hr3⟩ := own_reads hof
      injection hv3 with e1 e2 e3
      subst e1
      have HRS := Lib.hid (pack_any (some ⟨g2, 0, none⟩) k (List.replicate k x) wr hr3 (by rw [List.length_replicate]; exact Nat.le_refl _) (by rw [List.length_replicate]; clear hkd1 hkd2 hm3; omega))
      rw [List.length_replicate] at HRS
      clear hof hr3 e2 e3 hjn
      go_wp2_with fail
      refine HRS.out.mono ?_
      rintro e w4 ⟨vy, rfl, hoy, hby⟩
      rw [HE.out]
      rw [← HX.out] at hoy
      obtain ⟨A4, c4, rfl, _, _, _⟩ := own_split hoy
      have HB4 := Lib.hid (HBj.out.trans (hby.mono HBj.out.size))
      clear hoy hby
      go_wp2_with (go_at_call 17; refine (lives15 _).mono ?_; rintro e w5 ⟨rfl, hb5⟩)
      go_ret
      exact ⟨rfl, HB4.out.trans (hb5.mono HB4.out.size)⟩
end Go.Proofs.Ytenikeldjgpgmaa
